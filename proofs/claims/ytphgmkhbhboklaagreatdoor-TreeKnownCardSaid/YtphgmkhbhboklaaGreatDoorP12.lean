/- PARTS OF ONE PROOF, set in one file: RList, PathWakes, PathKnownL, TreeLaw, TreeKnL, NilT, NilU, RTexts, RfLaw, Conv, RowF. Each part tells its own conditions. -/
import Derived.RangeFuncNested
import Derived.RangeFuncBound
import Derived.Shelf.Bytes.SlEqualAll
import Derived.Lib.SlBytesConst
import Derived.Lib.SmallJoins
import Derived.Laws.IdiomCopy
import Derived.Lib.AppendZerosOnto
import Derived.Test.YtphgmkhbhboklaaGreatDoorP1
import Derived.Test.YtphgmkhbhboklaaGreatDoorP3
import Derived.Test.YtphgmkhbhboklaaGreatDoorP5
import Derived.Test.YtphgmkhbhboklaaGreatDoorP8
import Derived.Test.YtphgmkhbhboklaaGreatDoorP9
import Derived.Test.YtphgmkhbhboklaaGreatDoorP10
import Derived.Test.YtphgmkhbhboklaaGreatDoorP11
/- portolanref18's tree: List. -/
namespace Go.Proofs.YtphgmkhbhboklaaGreatDoor
open Go.RowKit
/-- parts of a slice of single cells -/
theorem RdV.take1 {w : World} {N : Nat → Prop} {a : Option Addr} {n cap : Nat} {vs : List Value} (h : RdV w N 1 (.slice a n cap) n vs) (i : Nat) (hi : i ≤ n) : RdV w N 1 (.slice a i cap) i (vs.take i) := by
  obtain ⟨hl, ⟨a0, cap0, he0, g1, g2, g3⟩, hc⟩ := h
  injection he0 with e1 e2 e3
  subst e1 e3
  have hl' : (vs.take i).length = i * 1 := by rw [List.length_take]; omega
  refine ⟨hl', ⟨a, cap, rfl, by omega, g2, g3⟩, fun b off m c he1 j u hj => ?_⟩
  injection he1 with e1 e2 e3
  subst e1 e3
  refine hc b off _ _ rfl j u ?_
  have hlt := (List.getElem?_eq_some_iff.1 hj).1
  rw [List.getElem?_take_of_lt (by omega)] at hj
  exact hj
theorem slice_from1 {P : Program} {T e : TypeId} {z : Value} {bytes : Nat} (hT : SlTy P T e z bytes) (a : Option Addr) (n cap i : Nat) (k : IntKind) (hi : i ≤ n) (_hn : n ≤ cap) :
    ∃ a', (∀ w, (Instr.slice T (.slice a n cap) (some (.int k (i : Int))) none none).run P w = .ok (.slice a' (n - i) (cap - i)) w) ∧
      (∀ w N vs, RdV w N 1 (.slice a n cap) n vs → RdV w N 1 (.slice a' (n - i) (cap - i)) (n - i) (vs.drop i)) := by
  obtain ⟨inf, h1, h2, h3, h4⟩ := hT.i
  have he : P.elem T = e := by simp [Program.elem, hT.u]
  have hs : ∀ w, (sizeOf e).run P w = .ok 1 w := fun w => by simp [sizeOf, typeInfo, h1, h3]
  refine ⟨if cap = i then a else a.map (·.add i), fun w => ?_, fun w N vs hr => ?_⟩
  · rw [run_slice_l w T a n cap (by rw [he]; exact hT.u) k (i : Int) (by omega) (by omega), he, hs]
    simp [Result.andThen, sliced]
  · obtain ⟨hl, ⟨a0, cap0, he0, g1, g2, g3⟩, hc⟩ := hr
    injection he0 with e1 e2 e3
    subst e1 e3
    refine ⟨by rw [List.length_drop]; omega, ⟨_, _, rfl, by omega, by omega, ?_⟩, fun b off m c he1 j u hj => ?_⟩
    · rcases g3 with h0 | ⟨b, off, rfl, hN⟩
      · exact .inl (by omega)
      · refine .inr ?_
        by_cases hci : cap = i
        · rw [if_pos hci]; exact ⟨b, off, rfl, hN⟩
        · rw [if_neg hci]; exact ⟨b, off + i, by simp [Addr.add_mid], hN⟩
    · injection he1 with e1 e2 e3
      have hlt := (List.getElem?_eq_some_iff.1 hj).1
      rw [List.length_drop] at hlt
      rw [if_neg (by omega)] at e1
      rcases g3 with h0 | ⟨b', off', rfl, hN⟩
      · omega
      · simp only [Option.map_some, Addr.add_mid, Option.some.injEq] at e1
        injection e1 with e1 e4 _
        subst e1 e4
        rw [Nat.add_assoc]
        refine hc b' off' _ _ rfl _ u ?_
        rw [List.getElem?_drop] at hj
        exact hj
theorem slTyS : SlTy Tryz.prog 54 9 (.string ⟨#[]⟩) 16 := SlTy.mk' Tryz.underlying54 (by kernel_rfl) rfl
theorem Hp.snd {M : Nat → Prop} {w wr : World} {A B : As} (h : Hp M w wr [A, B]) : Hp M w wr [B] :=
  ⟨h.c, fun C hC => h.p C (by have := List.mem_singleton.1 hC; subst this; simp), fun i j C D hi hj b h1 h2 => by
    have e1 : i = 0 := by have := (List.getElem?_eq_some_iff.1 hi).1; simp at this; exact this
    have e2 : j = 0 := by have := (List.getElem?_eq_some_iff.1 hj).1; simp at this; exact this
    omega⟩
/-- a text, put where it belongs -/
theorem ins_sorted {l : List Tx} {x : Tx} {k : Nat} (hs : l.Pairwise (· ≤ ·)) (h1 : ∀ j, (hj : j < k) → (hl : j < l.length) → l[j] < x) (h2 : ∀ hl : k < l.length, ¬ l[k] < x) : (l.take k ++ [x] ++ l.drop k).Pairwise (· ≤ ·) ∧ (l.take k ++ [x] ++ l.drop k).Perm (l ++ [x]) := by
  refine ⟨?_, ?_⟩
  · rw [List.pairwise_append, List.pairwise_append]
    refine ⟨⟨hs.sublist (List.take_sublist _ _), List.pairwise_singleton _ _, fun a ha b hb => ?_⟩, hs.sublist (List.drop_sublist _ _), fun a ha b hb => ?_⟩
    · obtain rfl := List.mem_singleton.1 hb
      obtain ⟨j, hj, rfl⟩ := List.mem_iff_getElem.1 ha
      rw [List.length_take] at hj
      rw [List.getElem_take]
      exact List.le_of_lt (h1 j (by omega) (by omega))
    · obtain ⟨j, hj, rfl⟩ := List.mem_iff_getElem.1 hb
      rw [List.length_drop] at hj
      rw [List.getElem_drop]
      rcases List.mem_append.1 ha with ha | ha
      · obtain ⟨i, hi, rfl⟩ := List.mem_iff_getElem.1 ha
        rw [List.length_take] at hi
        rw [List.getElem_take]
        exact (List.pairwise_iff_getElem.1 hs) i (k + j) (by omega) (by omega) (by omega)
      · obtain rfl := List.mem_singleton.1 ha
        have hk := h2 (by omega)
        rcases Nat.eq_zero_or_pos j with rfl | h0
        · exact List.not_lt.1 hk
        · exact List.le_trans (List.not_lt.1 hk) ((List.pairwise_iff_getElem.1 hs) k (k + j) (by omega) (by omega) (by omega))
  · have : (l.take k ++ [x] ++ l.drop k).Perm (l.take k ++ l.drop k ++ [x]) := by
      rw [List.append_assoc, List.append_assoc]
      exact List.Perm.append_left _ List.perm_append_comm
    rw [List.take_append_drop] at this
    exact this
theorem sorted_ext {l m : List Tx} (h : l.Perm m) (hs : l.Pairwise (· ≤ ·)) : l = m.mergeSort (fun x y => decide (x ≤ y)) := by
  have h2 : (m.mergeSort (fun x y => decide (x ≤ y))).Pairwise (fun a b => decide (a ≤ b) = true) := List.pairwise_mergeSort (fun a b c h1 h2 => by simp only [decide_eq_true_eq] at *; exact List.le_trans h1 h2) (fun a b => by
    simp only [Bool.or_eq_true, decide_eq_true_eq]
    rcases tx_tri a b with h | h | h
    · exact .inl (List.le_of_lt h)
    · exact .inl (h ▸ List.le_refl _)
    · exact .inr (List.le_of_lt h)) m
  refine List.Perm.eq_of_pairwise (le := fun a b : Tx => a ≤ b) (fun a b _ _ h1 h2 => List.le_antisymm h1 h2) hs (h2.imp (fun h => by simpa using h)) (h.trans (List.mergeSort_perm _ _).symm)
theorem namesT_take {L : List Mb} {dir : Tx} {k : Nat} (hk : k < L.length) : namesT dir (L.take (k + 1)) = if parentP L[k].1 == dir then namesT dir (L.take k) ++ [baseP L[k].1] else namesT dir (L.take k) := by
  unfold namesT
  rw [List.take_succ_eq_append_getElem hk, List.filter_append, List.map_append]
  cases h : parentP L[k].1 == dir with
  | false => rw [List.filter_cons_of_neg (by simpa using h)]; simp
  | true => rw [List.filter_cons_of_pos (by simpa using h)]; simp
set_option maxHeartbeats 4000000 in
set_option maxRecDepth 100000 in
theorem rlist_any (R : Nat) (N : Nat → Prop) (v : Value) (l : List Mv) (w : World) (h : RefIn w R N v l) (hR : R < w.heap.size) (hN : ∀ b, N b → b < w.heap.size) (dir : Tx) (hl : l.length ≤ 100000) :
    Calls Tryz.prog 52 #[.pointer (some ⟨R, 0, none⟩), .string ⟨dir.toArray⟩] w fun e w' => (∃ v', e = .returned (.tuple #[v', .int .i64 (listT (l.map (·.1)) dir).2]) ∧ w'.ownsRow w.heap.size 9 1 v' (listT (l.map (·.1)) dir).1.length ((listT (l.map (·.1)) dir).1.map encStr)) ∧ Below w.heap.size w w' := by
  have HG := Keep.keep (rget_any R N v l w h hR hN dir)
  have HLT : Keep (listT (l.map (·.1)) dir = if (getT (l.map (·.1)) dir).2 = false then ([], 6) else if (getT (l.map (·.1)) dir).1.kind ≠ 1 then ([], 31) else ((namesT dir (l.map (·.1))).mergeSort (fun x y => decide (x ≤ y)), 0)) := ⟨rfl⟩
  generalize listT (l.map (·.1)) dir = res at *
  generalize getT (l.map (·.1)) dir = gt at *
  obtain ⟨⟨kind, mode, uid, gid, time, attrs, data, link⟩, is⟩ := gt
  simp only at HG HLT
  have HON : Keep (∀ wx, Below w.heap.size w wx → RefIn wx R N v l) := ⟨fun wx hb => h.below hb hR hN⟩
  have HSM := Keep.keep h.sm
  obtain ⟨a, cap, hv, hcap, hmx, h3⟩ := h.mbs.rd.shape
  have H3 := Keep.keep h3
  unfold maxLen at hmx
  clear h h3 hN
  subst hv
  go_enter Tryz.func52, Tryz.ntmps52
  go_upto_region 1 with fail
  go_wp2_with fail
  refine HG.out.mono ?_
  rintro e w1 ⟨av, dv, rfl, hnd, hb1⟩
  obtain ⟨aa, la, ca, ad, ld, cd, rfl, rfl⟩ := hnd.shape
  unfold ndC strV
  dsimp only
  have HB1 := Keep.keep hb1
  have hle : w.heap.size ≤ w1.heap.size := hb1.size
  clear hnd hb1 HG
  go_upto_region 2 with fail
  refine wp_world (R := fun w2 => Below w.heap.size w w2 ∧ Row w2 w1.heap.size 30 #[.int .i64 kind, .int .u32 mode, .int .u32 uid, .int .u32 gid, .int .i64 time, .slice aa la ca, .slice ad ld cd, .string ⟨link.toArray⟩]) ⟨HB1.out.alloc hle _, Row.new _ _ _⟩ ?_
  intro w2 H2
  obtain ⟨b6, hb6⟩ : ∃ b6, w1.heap.size = b6 := ⟨_, rfl⟩
  rw [hb6] at H2 ⊢
  clear hb6 hle
  have c0 := H2.out.2.cell (i := 0) rfl
  cases is with
  | false =>
    have HRE : Keep (res = ([], 6)) := ⟨HLT.out⟩
    go_wp2_with fail
    go_ret2
    rw [HRE.out]
    exact ⟨⟨_, rfl, World.ownsRow_nil _ _ _ _⟩, H2.out.1⟩
  | true =>
    by_cases hk1 : kind = 1
    rotate_left
    · have HRE : Keep (res = ([], 31)) := ⟨by rw [HLT.out]; simp [hk1]⟩
      have hbne : (kind != 1) = true := by simpa using hk1
      clear hk1
      go_wp2_with fail
      go_ret2
      rw [HRE.out]
      exact ⟨⟨_, rfl, World.ownsRow_nil _ _ _ _⟩, H2.out.1⟩
    · have HRE : Keep (res = ((namesT dir (l.map (·.1))).mergeSort (fun x y => decide (x ≤ y)), 0)) := ⟨by rw [HLT.out]; simp [hk1]⟩
      have hbne : (kind != 1) = false := by simpa using hk1
      clear hk1 HLT
      go_wp2_with fail
      clear c0 hbne
      go_loopg [8, 9, 10, 11, 12] l.length (fun g u8 u9 _ _ _ wx => ∃ (k : Nat) (acc : List Tx), k + g = l.length ∧ u9 = .int .i64 (k : Int) ∧ acc.Perm (namesT dir ((l.map (·.1)).take k)) ∧ acc.Pairwise (· ≤ ·) ∧ acc.length ≤ k ∧ Hp NoM w wx [slA w.heap.size 9 1 u8 acc.length (acc.map encStr)])
      case atStart => exact ⟨0, [], by omega, rfl, by simp [namesT], List.Pairwise.nil, by simp, ((Hp.begin NoM w).call H2.out.1).nilS _ _ _⟩
      case round =>
        obtain ⟨k, acc, hkg, rfl, hpm, hps, hal, HP⟩ := hrel
        have HH := Keep.keep HP; have HPM := Keep.keep hpm; have HPS := Keep.keep hps
        obtain ⟨a3, c3, rfl, hc31, hc32, hc33⟩ := (ownsV_reads (HP.sl 0 rfl)).shape
        have HC33 := Keep.keep hc33
        unfold maxLen at hc32
        have hR2 := HON.out wr HP.below
        have c0 := hR2.row.cell (i := 0) rfl
        clear HP hpm hps H2 hc33
        cases gk with
        | zero =>
          obtain rfl : k = l.length := by omega
          have hd : decide ((l.length : Int) < (l.length : Int)) = false := decide_eq_false (by omega)
          have HE : Keep (acc = res.1) := ⟨by
            have h := HPM.out
            rw [List.take_of_length_le (by rw [List.length_map]; omega)] at h
            rw [HRE.out]
            exact sorted_ext h HPS.out⟩
          clear hR2
          go_wp2_with fail
          go_ret2
          refine ⟨⟨_, by (rw [HRE.out]) <;> rfl, ?_⟩, HH.out.below⟩
          rw [← HE.out]
          exact HH.out.sl 0 rfl
        | succ g =>
          have hk : k < l.length := by omega
          have hkm : k < (l.map (·.1)).length := by rw [List.length_map]; exact hk
          have hd : decide ((k : Int) < (l.length : Int)) = true := decide_eq_true (by omega)
          obtain ⟨b, off, rfl, hbl⟩ : ∃ b off, a = some ⟨b, off, none⟩ ∧ N b := by
            rcases H3.out with h | ⟨b, off, h, hb⟩
            · omega
            · exact ⟨b, off, h, hb⟩
          have hc := hR2.mbs.cell hk 0 (by omega) (u := strV l[k].1.1) rfl
          have hsp := (HSM.out _ (List.getElem_mem hk)).p
          have HNT := Keep.keep (namesT_take (dir := dir) hkm)
          rw [show (l.map (·.1))[k] = l[k].1 by simp] at HNT
          generalize l[k].1.1 = xp at *
          unfold strV at hc
          rw [Nat.add_zero] at hc
          have HPA := Keep.keep (fun wx => rparent_any xp (by omega) wx)
          have HBA := Keep.keep (fun wx => rbase_any xp (by omega) wx)
          generalize baseP xp = x at *
          clear hsp hR2
          have hne : (parentP xp != dir) = !(parentP xp == dir) := rfl
          obtain ⟨pe, hpe⟩ : ∃ b, (parentP xp == dir) = b := ⟨_, rfl⟩
          rw [hpe] at hne HNT
          generalize parentP xp = pp at *
          cases pe with
          | false =>
            have HN2 : Keep (namesT dir ((l.map (·.1)).take (k + 1)) = namesT dir ((l.map (·.1)).take k)) := ⟨HNT.out⟩
            go_wp2_with fail
            refine (HPA.out _).mono ?_
            rintro e w3 ⟨rfl, rfl⟩
            go_wp2_with fail
            go_roundg g
            case measure => omega
            case rel => exact ⟨k + 1, acc, by omega, by simp, by rw [HN2.out]; exact HPM.out, HPS.out, by omega, HH.out⟩
          | true =>
            have HN2 : Keep (namesT dir ((l.map (·.1)).take (k + 1)) = namesT dir ((l.map (·.1)).take k) ++ [x]) := ⟨HNT.out⟩
            go_wp2_with fail
            refine (HPA.out _).mono ?_
            rintro e w3 ⟨rfl, rfl⟩
            go_wp2_with fail
            refine (HBA.out _).mono ?_
            rintro e w3 ⟨rfl, rfl⟩
            clear hc c0 HPA HBA hne
            go_wp2_with fail
            obtain ⟨an, han⟩ : ∃ an, acc.length = an := ⟨_, rfl⟩
            have HAN := Keep.keep han
            rw [han] at hc31 hal HH ⊢
            clear han
            generalize wr = wo at *
            go_loopg [11] an (fun g u11 wx => ∃ i : Nat, i + g = an ∧ u11 = .int .i64 (i : Int) ∧ (∀ j, (hj : j < i) → (hl : j < acc.length) → acc[j] < x) ∧ wo = wx)
            case atStart => exact ⟨0, by omega, rfl, fun j hj => by omega, rfl⟩
            case round =>
              obtain ⟨i, hig, rfl, hno, rfl⟩ := hrel
              have HNO := Keep.keep hno
              clear hno
              have HRD := Keep.keep (ownsV_reads (HH.out.sl 0 rfl))
              by_cases hgo : ∃ h : i < acc.length, acc[i] < x
              · obtain ⟨hia, hlt⟩ := hgo
                have hi : i < an := by have := HAN.out; omega
                obtain ⟨gj, rfl⟩ : ∃ gj, gk = gj + 1 := ⟨gk - 1, by omega⟩
                have hdi : decide ((i : Int) < (an : Int)) = true := decide_eq_true (by omega)
                obtain ⟨bo, oo, rfl⟩ : ∃ bo oo, a3 = some ⟨bo, oo, none⟩ := by
                  rcases HC33.out with h | ⟨b, off, h, -⟩
                  · omega
                  · exact ⟨b, off, h⟩
                have hci := HRD.out.cell bo oo _ _ rfl i (encStr acc[i]) (by rw [List.getElem?_map, List.getElem?_eq_getElem hia]; rfl)
                unfold encStr at hci
                have hls := less_lt acc[i] x
                rw [decide_eq_true hlt] at hls
                have HST : Keep (∀ j, (hj : j < i + 1) → (hl : j < acc.length) → acc[j] < x) := ⟨fun j hj hl => by
                  rcases Nat.lt_succ_iff_lt_or_eq.1 hj with h | rfl
                  · exact HNO.out j h hl
                  · exact hlt⟩
                clear hlt
                generalize acc[i] = y at *
                go_wp2_with fail
                go_roundg gj
                case measure => omega
                case rel => exact ⟨i + 1, by omega, by simp, HST.out, rfl⟩
              · have HX := Keep.keep (ins_sorted (k := i) (x := x) HPS.out HNO.out (fun hl h => hgo ⟨hl, h⟩))
                have HSTOP : Keep (∀ hl : i < acc.length, Op.bytesLess acc[i] x = false) := ⟨fun hl => by
                  rw [less_lt]; exact decide_eq_false (fun h => hgo ⟨hl, h⟩)⟩
                have HC : Keep (∀ hl : i < acc.length, ∃ bo oo, a3 = some ⟨bo, oo, none⟩ ∧ wo.cell? ⟨bo, oo + i, none⟩ = some (.string ⟨acc[i].toArray⟩)) := ⟨fun hl => by
                  rcases HC33.out with h | ⟨b, off, rfl, -⟩
                  · have := HAN.out; omega
                  · exact ⟨b, off, rfl, HRD.out.cell b off _ _ rfl i (encStr acc[i]) (by rw [List.getElem?_map, List.getElem?_eq_getElem hl]; rfl)⟩⟩
                have hian : i ≤ an := by omega
                clear hgo HNO
                have HRD1 := Keep.keep (HRD.out.take1 i hian)
                have hsl1 := fun wx => slice_to slTyS a3 an c3 i .i64 (by omega) wx
                obtain ⟨a6, hsl2, hrd2⟩ := slice_from1 slTyS a3 an c3 i .i64 hian hc31
                have HRF := Keep.keep hrd2
                clear hrd2 HRD
                have HEND : Keep (∀ wy v5, Hp NoM w wy [slA w.heap.size 9 1 (.slice a3 an c3) an (acc.map encStr), slA w.heap.size 9 1 v5 (i + 1 + (an - i)) ((acc.map encStr).take i ++ [encStr x] ++ (acc.map encStr).drop i)] →
                    ∃ acc2 : List Tx, acc2.Perm (namesT dir ((l.map (·.1)).take (k + 1))) ∧ acc2.Pairwise (· ≤ ·) ∧ acc2.length ≤ k + 1 ∧ acc2.length = i + 1 + (an - i) ∧ Hp NoM w wy [slA w.heap.size 9 1 v5 acc2.length (acc2.map encStr)]) := ⟨fun wy v5 h5 => by
                  have hl2 : (acc.take i ++ [x] ++ acc.drop i).length = i + 1 + (an - i) := by
                    have := HAN.out
                    simp; omega
                  refine ⟨acc.take i ++ [x] ++ acc.drop i, ?_, HX.out.1, by rw [hl2]; omega, hl2, ?_⟩
                  · rw [HN2.out]
                    exact HX.out.2.trans (List.Perm.append_right _ HPM.out)
                  · rw [hl2]
                    have := h5.snd
                    simpa [List.map_take, List.map_drop] using this⟩
                have HH0 := Keep.keep (HH.out.nilS w.heap.size 9 1)
                by_cases hi : i < an
                focus
                  have hdi : decide ((i : Int) < (an : Int)) = true := decide_eq_true (by omega)
                  have hia : i < acc.length := by have := HAN.out; omega
                  obtain ⟨bo, oo, e3, hci⟩ := HC.out hia
                  have hls := HSTOP.out hia
                  generalize acc[i] = y at *
                  subst e3
                  clear HC HSTOP HX
                  go_wp2_with (with_reducible refine arm_stop ?_)
                  clear hci hls
                rotate_left
                focus
                  have hdi : decide ((i : Int) < (an : Int)) = false := decide_eq_false (by omega)
                  clear HC HSTOP HX
                  go_wp2_with (with_reducible refine arm_stop ?_)
                all_goals
                  refine Stopped.out ?_
                  have hlti : ((acc.map encStr).take i).length = i := by have := HAN.out; rw [List.length_take, List.length_map]; omega
                  refine arm_appendV slStr (m := i) (HH0.out.sl 1 rfl) HRD1.out (fun u hu => by
                    have := List.mem_of_mem_take hu
                    obtain ⟨y, -, rfl⟩ := List.mem_map.1 this; rfl) (by unfold maxLen; omega) (by omega) HH0.out.size rfl rfl ?_
                  intro v4 w4 ho hg hov _
                  rw [Nat.zero_add, List.nil_append] at ho
                  have H4 := Keep.keep (HH0.out.grow 1 rfl hg ho hov)
                  obtain ⟨a7, c7, rfl, -⟩ := (ownsV_reads ho).shape
                  clear ho hg hov hsl1 HRD1
                  simp only [Act.put, List.setIfInBounds_toArray, List.set_cons_succ, List.set_cons_zero]
                  go_wp2_with (with_reducible refine arm_stop ?_)
                  refine Stopped.out ?_
                  refine arm_appendV slStr ((H4.out.alloc _).sl 1 rfl) (RdV.new (N := fun _ => True) 9 [encStr x] 1 1 _ rfl rfl (by unfold maxLen; omega) trivial) (by simp [encStr, Value.oneCell']) (by unfold maxLen; omega) (by omega) (H4.out.alloc _).size rfl rfl ?_
                  intro v5 w5 ho hg hov _
                  have H5 := Keep.keep ((H4.out.alloc _).grow 1 rfl hg ho hov)
                  obtain ⟨a8, c8, rfl, -⟩ := (ownsV_reads ho).shape
                  clear ho hg hov H4
                  simp only [Act.put, List.setIfInBounds_toArray, List.set_cons_succ, List.set_cons_zero]
                  have HRD5 := Keep.keep (HRF.out _ _ _ (ownsV_reads (H5.out.sl 0 rfl)))
                  go_wp2_with (with_reducible refine arm_stop ?_)
                  refine Stopped.out ?_
                  refine arm_appendV slStr (m := an - i) (H5.out.sl 1 rfl) HRD5.out (fun u hu => by
                    have := List.mem_of_mem_drop hu
                    obtain ⟨y, -, rfl⟩ := List.mem_map.1 this; rfl) (by unfold maxLen; omega) (by omega) H5.out.size rfl rfl ?_
                  intro v6 w6 ho hg hov _
                  have H6 := Keep.keep (HEND.out _ _ (H5.out.grow 1 rfl hg ho hov))
                  obtain ⟨a9, c9, rfl, -⟩ := (ownsV_reads ho).shape
                  clear ho hg hov H5 HRD5 hsl2
                  simp only [Act.put, List.setIfInBounds_toArray, List.set_cons_succ, List.set_cons_zero]
                  obtain ⟨acc2, h1, h2, h3, h4, h5⟩ := H6.out
                  have HA1 := Keep.keep h1; have HA2 := Keep.keep h2; have HA5 := Keep.keep h5
                  clear h1 h2 h5 H6 HEND
                  go_wp2_with fail
                  go_roundg g
                  case measure => omega
                  case rel => exact ⟨k + 1, acc2, by omega, by simp, HA1.out, HA2.out, h3, HA5.out⟩
end Go.Proofs.YtphgmkhbhboklaaGreatDoor
/- portolanlaw11.wakes. -/
namespace Go.Proofs.YtphgmkhbhboklaaGreatDoor
open Go.RowKit
theorem wk_cl0 : cleanP [46, 47, 97, 47, 47, 98, 47, 46, 47, 99, 47] = ([97, 47, 98, 47, 99], 0) := by decide +kernel
theorem wk_cl1 : cleanP [47, 97] = ([], 30) := by decide +kernel
theorem wk_cl2 : cleanP [97, 47, 46, 46, 47, 98] = ([], 30) := by decide +kernel
theorem wk_cl3 : cleanP [46] = ([], 0) := by decide +kernel
theorem wk_cs0 : classP [97, 47, 46, 119, 104, 46, 98] = (2, [97, 47, 98]) := by decide +kernel
theorem wk_cs1 : classP [46, 119, 104, 46, 46, 119, 104, 46, 46, 111, 112, 113] = (3, []) := by decide +kernel
theorem wk_cs2 : classP [97, 47, 46, 119, 104, 46, 46, 120] = (2, [97, 47, 46, 120]) := by decide +kernel
theorem wk_cs3 : classP [46, 119, 104, 46, 46, 119, 104, 46, 120] = (0, []) := by decide +kernel
theorem wk_cs4 : classP [97, 47, 46, 119, 104, 46, 46, 119, 104, 46, 116, 111, 99] = (0, []) := by decide +kernel
theorem wk_ab : aboveP [97, 47, 98, 47, 99] = [[97], [97, 47, 98]] := by decide +kernel
end Go.Proofs.YtphgmkhbhboklaaGreatDoor
/- PathKnown: closed facts about long texts (kernel). -/
namespace Go.Proofs.YtphgmkhbhboklaaGreatDoor
def longT : List UInt8 := List.replicate 251 110
def deepT : List UInt8 := (List.replicate 253 [100, 47]).flatten ++ [100]
def wideT : List UInt8 := (List.replicate 16 (List.replicate 249 119 ++ [47])).flatten ++ List.replicate 80 119
theorem kn_c1 : classP ([97, 47, 46, 119, 104, 46] ++ longT) = (2, [97, 47] ++ longT) := by decide +kernel
theorem kn_c2 : (classP ([97, 47, 46, 119, 104, 46] ++ longT ++ [110])).1 = 0 := by decide +kernel
theorem kn_c3 : (classP [47, 46, 119, 104, 46, 46, 119, 104, 46, 46, 111, 112, 113]).1 = 0 := by decide +kernel
theorem kn_c4 : (classP []).1 = 0 := by decide +kernel
theorem kn_c5 : classP tableB = (4, []) := by decide +kernel
theorem kn_c6 : (classP [46, 119, 104, 46, 120, 47, 121]).1 = 0 := by decide +kernel
theorem kn_l1 : (cleanP (List.replicate 256 120)).2 = 3 := by decide +kernel
theorem kn_l2 : (cleanP [97, 0]).2 = 30 := by decide +kernel
theorem kn_l3 : (cleanP (List.replicate 256 [97, 47]).flatten).2 = 3 := by decide +kernel
theorem kn_l4 : (cleanP (List.replicate 255 [97, 47]).flatten).2 = 0 ∧ (cleanP (List.replicate 255 [97, 47]).flatten).1.length = 509 := by decide +kernel
theorem kn_l5 : cleanP [] = ([], 0) := by decide +kernel
theorem kn_m1 : mayP [] = true := by decide +kernel
theorem kn_m2 : mayP deepT = true := by decide +kernel
theorem kn_m3 : mayP (deepT ++ [47, 100]) = false := by decide +kernel
theorem kn_m4 : wideT.length = 4080 := by decide +kernel
theorem kn_m5 : mayP wideT = true := by decide +kernel
theorem kn_m6 : mayP (wideT ++ [119]) = false := by decide +kernel
theorem kn_m7 : mayP [97, 47, 47, 98] = false := by decide +kernel
theorem kn_m8 : mayP [97, 47] = false := by decide +kernel
theorem kn_j1 : joinP [[], [97], [], [98]] = [97, 47, 98] := by decide +kernel
theorem kn_p1 : parentP [97] = [] ∧ baseP [97, 47] = [] ∧ whiteoutP [] = [] ∧ opaqueP [] = markB := by decide +kernel
theorem kn_n : mayN longT = true ∧ mayN (longT ++ [110]) = false ∧ mayN [255] = true ∧ mayN [32] = true ∧ mayN [46, 119, 104, 46, 120] = false := by decide +kernel
end Go.Proofs.YtphgmkhbhboklaaGreatDoor
/- TREES, plainly: what stays so under calls; whose parent, what is under. -/
namespace Go.Proofs.YtphgmkhbhboklaaGreatDoor
theorem class_one {p : Tx} (h : (classP p).1 = 1) : mayP p = true ∧ p ≠ [] := by
  have h0 : p ≠ [] := by
    rintro rfl
    rw [kn_c4] at h; cases h
  by_cases ht : (p == tableB) = true
  · have : p = tableB := by simpa using ht
    subst this
    rw [kn_c5] at h; cases h
  · obtain ⟨init, base, _, hb, hc⟩ := split_parts h0
    rw [class_ref h0 (by simpa using ht) hb hc] at h
    unfold refC at h
    split at h
    · unfold refF at h
      split at h
      · cases h
      · rename_i hn
        unfold refT at h hn
        split at h
        · rename_i hm
          rw [if_pos hm] at hn
          exact ⟨by simpa using hn, h0⟩
        · split at h
          · cases h
          · split at h <;> cases h
    · cases h
theorem parent_lt {q : Tx} (h0 : q ≠ []) : (parentP q).length < q.length := by
  rcases path_cases q with ⟨_, _, hp, _⟩ | ⟨e, b, rfl, _, _, _, hp⟩
  · rw [hp]; exact List.length_pos_iff.2 h0
  · rw [hp]; simp
theorem under_len {d q : Tx} (h : underP d q = true) : d.length < q.length := by
  unfold underP at h
  by_cases hd : d = []
  · subst hd
    simp at h
    exact List.length_pos_iff.2 h
  · simp [hd] at h
    have := h.2.length_le
    simp at this; omega
theorem under_rec {q d : Tx} (hq : mayP q = true) (h0 : q ≠ []) : underP d q = (parentP q == d || underP d (parentP q)) := by
  rcases path_cases q with ⟨_, _, hp, hns⟩ | ⟨e, b, rfl, hb, _, _, hp⟩
  · rw [hp]
    by_cases hd : d = []
    · subst hd; rw [under_nil]; simp [h0]
    · have h1 : underP d q = false := by
        rw [Bool.eq_false_iff]; intro h
        unfold underP at h
        simp [hd] at h
        obtain ⟨r, hr⟩ := h.2
        exact hns 47 (by rw [← hr]; simp) rfl
      have h2 : underP d [] = false := rfl
      rw [h1, h2]
      simpa using hd
  · rw [hp]
    have he : e ≠ [] := may_dir hb hq
    by_cases hd : d = []
    · subst hd; rw [under_nil, under_nil]; simp [he]
    · have key : (d ++ [47] <+: e ++ 47 :: b) ↔ e = d ∨ d ++ [47] <+: e := by
        constructor
        · rintro ⟨r, hr⟩
          have hr : d ++ (47 :: r) = e ++ 47 :: b := by simpa using hr
          rcases List.append_eq_append_iff.1 hr with ⟨a, h1, h2⟩ | ⟨a, h1, h2⟩
          · cases a with
            | nil => exact .inl (by simpa using h1)
            | cons x t =>
              simp at h2
              obtain ⟨rfl, _⟩ := h2
              exact .inr ⟨t, by rw [h1]; simp⟩
          · cases a with
            | nil => exact .inl (by simpa using h1.symm)
            | cons x t =>
              simp at h2
              exact (hb 47 (by rw [h2.2]; simp) rfl).elim
        · rintro (rfl | ⟨r, hr⟩)
          · exact ⟨b, by simp⟩
          · exact ⟨r ++ 47 :: b, by rw [← hr]; simp⟩
      unfold underP
      rw [Bool.eq_iff_iff]
      simp [hd, he, key]
theorem under_parent {q : Tx} (hq : mayP q = true) (h0 : q ≠ []) : underP (parentP q) q = true := by rw [under_rec hq h0]; simp
theorem path_join {q : Tx} (hq : mayP q = true) (h0 : q ≠ []) : q = if parentP q = [] then baseP q else parentP q ++ 47 :: baseP q := by
  rcases path_cases q with ⟨_, hb, hp, _⟩ | ⟨e, b, rfl, hb, _, hb2, hp⟩
  · rw [hp, hb, if_pos rfl]
  · rw [hp, hb2, if_neg (may_dir hb hq)]
/-- WHAT STAYS SO of a tree -/
structure WellL (L : List Mb) : Prop where
  s : SM.Srt L
  m : ∀ x ∈ L, mayM x = true
  p : ∀ x ∈ L, dirT L (parentP x.1) = true
theorem mayM_path {x : Mb} (h : mayM x = true) : mayP x.1 = true ∧ x.1 ≠ [] := by
  unfold mayM at h
  simp only [Bool.and_eq_true, decide_eq_true_eq] at h
  exact class_one h.1
theorem WellL.path {L : List Mb} (h : WellL L) {x : Mb} (hx : x ∈ L) : mayP x.1 = true ∧ x.1 ≠ [] := mayM_path (h.m x hx)
theorem dirT_of {L : List Mb} {p : Tx} {n : Nd} (h : SM.look L p = some n) (hk : n.kind = 1) : dirT L p = true := by unfold dirT; rw [h]; simp [hk]
theorem dirT_iff {L : List Mb} {p : Tx} : dirT L p = true ↔ p = [] ∨ ∃ n, SM.look L p = some n ∧ n.kind = 1 := by
  unfold dirT
  cases h : SM.look L p with
  | none => simp
  | some n => simp
theorem WellL.nil : WellL [] := ⟨SM.Srt.nil, fun _ h => (List.not_mem_nil h).elim, fun _ h => (List.not_mem_nil h).elim⟩
theorem look_clear {L : List Mb} (h : SM.Srt L) (p q : Tx) : SM.look (clearT L p) q = if underP p q = true then none else SM.look L q := by
  unfold clearT
  rw [h.look_filter (fun k => !underP p k)]
  cases underP p q <;> simp
theorem put_well {L : List Mb} (h : WellL L) (m : Mb) : WellL (putT L m).2 := by
  unfold putT
  split
  · exact h
  · rename_i hm
    split
    · exact h
    · rename_i hd
      split
      · exact h
      · have hm : mayM m = true := by simpa using hm
        have hd : dirT L (parentP m.1) = true := by simpa using hd
        obtain ⟨hmp, hm0⟩ := mayM_path hm
        have hpl := parent_lt hm0
        by_cases hk : m.2.kind = 1
        · rw [if_pos hk]
          refine ⟨h.s.put m, fun x hx => ?_, fun x hx => ?_⟩
          · rcases SM.mem_put.1 hx with rfl | ⟨hx, _⟩
            · exact hm
            · exact h.m x hx
          · have key : ∀ q, dirT L q = true → dirT (SM.put L m) q = true := by
              intro q hq
              rcases dirT_iff.1 hq with rfl | ⟨n, hn, hnk⟩
              · rfl
              · rw [dirT_iff, h.s.look_put]
                split
                · exact .inr ⟨_, rfl, hk⟩
                · exact .inr ⟨n, hn, hnk⟩
            rcases SM.mem_put.1 hx with rfl | ⟨hx, _⟩
            · exact key _ hd
            · exact key _ (h.p x hx)
        · rw [if_neg hk]
          have hs : SM.Srt (clearT L m.1) := h.s.filter _
          have key : ∀ q, dirT L q = true → underP m.1 q = false → q ≠ m.1 → dirT (SM.put (clearT L m.1) m) q = true := by
            intro q hq hu hne
            rcases dirT_iff.1 hq with rfl | ⟨n, hn, hnk⟩
            · rfl
            · rw [dirT_iff, hs.look_put, if_neg hne, look_clear h.s, if_neg (by rw [hu]; decide)]
              exact .inr ⟨n, hn, hnk⟩
          refine ⟨hs.put m, fun x hx => ?_, fun x hx => ?_⟩
          · rcases SM.mem_put.1 hx with rfl | ⟨hx, _⟩
            · exact hm
            · exact h.m x (List.mem_filter.1 hx).1
          · rcases SM.mem_put.1 hx with rfl | ⟨hx, hne⟩
            · refine key _ hd ?_ (fun e => by rw [e] at hpl; omega)
              rw [Bool.eq_false_iff]; intro hu
              have := under_len hu; omega
            · obtain ⟨hx, hu⟩ := List.mem_filter.1 hx
              obtain ⟨hxp, hx0⟩ := h.path hx
              have hu : underP m.1 x.1 = false := by simpa using hu
              rw [under_rec hxp hx0] at hu
              simp only [Bool.or_eq_false_iff] at hu
              exact key _ (h.p x hx) hu.2 (by simpa using hu.1)
theorem remove_well {L : List Mb} (h : WellL L) (p : Tx) : WellL (removeT L p).2 := by
  unfold removeT
  split
  · exact h
  · rename_i n hn
    have hs : SM.Srt (clearT L p) := h.s.filter _
    have key : ∀ q, dirT L q = true → underP p q = false → q ≠ p → dirT ((clearT L p).filter (fun m => m.1 != p)) q = true := by
      intro q hq hu hne
      rcases dirT_iff.1 hq with rfl | ⟨n, hn, hnk⟩
      · rfl
      · rw [dirT_iff, hs.look_filter (fun k => k != p), if_pos (by simpa using hne), look_clear h.s, if_neg (by rw [hu]; decide)]
        exact .inr ⟨n, hn, hnk⟩
    refine ⟨hs.filter _, fun x hx => h.m x (List.mem_filter.1 (List.mem_filter.1 hx).1).1, fun x hx => ?_⟩
    obtain ⟨hx, hne⟩ := List.mem_filter.1 hx
    obtain ⟨hx, hu⟩ := List.mem_filter.1 hx
    obtain ⟨hxp, hx0⟩ := h.path hx
    have hu : underP p x.1 = false := by simpa using hu
    rw [under_rec hxp hx0] at hu
    simp only [Bool.or_eq_false_iff] at hu
    exact key _ (h.p x hx) hu.2 (by simpa using hu.1)
theorem step_well {L : List Mb} (h : WellL L) (a : Bool × Mb) : WellL (stepT L a) := by
  unfold stepT
  split
  · exact put_well h _
  · exact remove_well h _
theorem fold_well (l : List (Bool × Mb)) : ∀ L, WellL L → WellL (l.foldl stepT L) := by
  induction l with
  | nil => intro L h; exact h
  | cons a l ih => intro L h; exact ih _ (step_well h a)
theorem grown_well (l : List (Bool × Mb)) : WellL (grownL l) := fold_well _ _ WellL.nil
theorem step_len {L : List Mb} (h : WellL L) (a : Bool × Mb) : (stepT L a).length ≤ L.length + 1 := by
  unfold stepT
  split
  · exact put_len h.s _
  · exact Nat.le_succ_of_le (remove_len L _)
theorem fold_lenT (l : List (Bool × Mb)) : ∀ L, WellL L → (l.foldl stepT L).length ≤ L.length + l.length := by
  induction l with
  | nil => intro L _; simp
  | cons a l ih =>
    intro L h
    have h1 := ih _ (step_well h a)
    have h2 := step_len h a
    rw [List.foldl_cons, List.length_cons]; omega
theorem grown_len (l : List (Bool × Mb)) : (grownL l).length ≤ 40 := by
  have := fold_lenT (l.take 40) [] WellL.nil
  have h2 := List.length_take_le 40 l
  unfold grownL
  simp at this ⊢; omega
/-- A DIR'S LIST -/
def kids (d : Tx) (L : List Mb) : List Mb := L.filter (fun x => parentP x.1 == d)
theorem mem_kids {d : Tx} {L : List Mb} {x : Mb} : x ∈ kids d L ↔ x ∈ L ∧ parentP x.1 = d := by unfold kids; simp
theorem kids_join {L : List Mb} (h : WellL L) {d : Tx} {x : Mb} (hx : x ∈ kids d L) : x.1 = if d = [] then baseP x.1 else d ++ 47 :: baseP x.1 := by
  obtain ⟨h1, rfl⟩ := mem_kids.1 hx
  obtain ⟨hp, h0⟩ := h.path h1
  exact path_join hp h0
theorem app_lt : ∀ (a x y : Tx), (a ++ x < a ++ y) ↔ x < y
  | [], x, y => Iff.rfl
  | c :: a, x, y => by rw [List.cons_append, List.cons_append, List.cons_lt_cons_iff, ← app_lt a x y]; simp
theorem names_rise {L : List Mb} (h : WellL L) (d : Tx) : ((kids d L).map fun x => baseP x.1).Pairwise (· < ·) := by
  rw [List.pairwise_map]
  have hs : SM.Srt (kids d L) := h.s.filter _
  refine List.Pairwise.imp_of_mem ?_ hs
  intro a b ha hb hab
  rw [kids_join h ha, kids_join h hb] at hab
  by_cases hd : d = []
  · rw [if_pos hd, if_pos hd] at hab; exact hab
  · rw [if_neg hd, if_neg hd] at hab
    exact (app_lt [47] _ _).1 ((app_lt d _ _).1 hab)
theorem names_sorted {L : List Mb} (h : WellL L) (d : Tx) : (namesT d L).mergeSort (fun x y => decide (x ≤ y)) = (kids d L).map fun x => baseP x.1 := by
  refine List.mergeSort_of_pairwise ?_
  refine List.Pairwise.imp ?_ (names_rise h d)
  intro a b hab
  exact decide_eq_true (List.le_of_lt hab)
/-- how many of L a path has under it, it too -/
def manyU (L : List Mb) (p : Tx) : Nat := (underL p L).length
theorem kids_one {L : List Mb} (h : WellL L) {q : Mb} (hq : q ∈ L) : (kids (parentP q.1) L).countP (fun c => c.1 == q.1) = 1 := by
  rw [List.countP_eq_length_filter]
  have hs : SM.Srt (kids (parentP q.1) L) := h.s.filter _
  have hl : SM.look (kids (parentP q.1) L) q.1 = some q.2 := hs.look.2 (mem_kids.2 ⟨hq, rfl⟩)
  rw [hs.mid, hl]; rfl
theorem kids_hit {L : List Mb} (h : WellL L) (d : Tx) : ∀ (n : Nat) (q : Mb), q.1.length = n → q ∈ L → (kids d L).countP (fun c => hitU c.1 q) = if underP d q.1 = true then 1 else 0 := by
  intro n
  induction n using Nat.strongRecOn with
  | ind n ih =>
    intro q hn hq
    obtain ⟨hqp, hq0⟩ := h.path hq
    have hlt := parent_lt hq0
    by_cases hd : parentP q.1 = d
    · rw [under_rec hqp hq0, if_pos (by simp [hd])]
      rw [← kids_one h hq, hd]
      refine List.countP_congr (fun c hc => ?_)
      obtain ⟨hcL, hcd⟩ := mem_kids.1 hc
      obtain ⟨hcp, hc0⟩ := h.path hcL
      have hcl := parent_lt hc0
      rw [hcd] at hcl
      have hu : underP c.1 q.1 = false := by
        rw [under_rec hqp hq0, hd]
        simp only [Bool.or_eq_false_iff]
        refine ⟨by simpa using fun e : d = c.1 => by rw [e] at hcl; omega, ?_⟩
        rw [Bool.eq_false_iff]; intro hu
        have := under_len hu; omega
      unfold hitU
      rw [hu, Bool.or_false]
      simp only [beq_iff_eq]
      exact ⟨fun e => e.symm, fun e => e.symm⟩
    · have hstep : ∀ c ∈ kids d L, hitU c.1 q = (parentP q.1 == c.1 || underP c.1 (parentP q.1)) := by
        intro c hc
        obtain ⟨hcL, hcd⟩ := mem_kids.1 hc
        have : q.1 ≠ c.1 := fun e => hd (by rw [e]; exact hcd)
        unfold hitU
        rw [under_rec hqp hq0]
        simp [this]
      rw [List.countP_congr (q := fun c => (parentP q.1 == c.1 || underP c.1 (parentP q.1))) (fun c hc => by rw [hstep c hc])]
      rcases dirT_iff.1 (h.p q hq) with hr | ⟨nd, hl, _⟩
      · rw [hr]
        have h1 : underP d q.1 = false := by
          rw [under_rec hqp hq0, hr]
          simp only [Bool.or_eq_false_iff]
          exact ⟨by simpa using fun e : [] = d => hd (by rw [hr]; exact e), rfl⟩
        rw [h1, if_neg (by decide), List.countP_eq_zero]
        intro c hc
        obtain ⟨hcL, hcd⟩ := mem_kids.1 hc
        obtain ⟨_, hc0⟩ := h.path hcL
        have : underP c.1 [] = false := rfl
        rw [this]
        simpa using fun e : [] = c.1 => hc0 e.symm
      · have hm := SM.look_mem hl
        have := ih (parentP q.1).length (by omega) (parentP q.1, nd) rfl hm
        unfold hitU at this
        rw [this, under_rec hqp hq0]
        have : (parentP q.1 == d) = false := by simpa using hd
        rw [this, Bool.false_or]
theorem sum_countP {α β : Type} (f : α → β → Bool) (K : List α) : ∀ L : List β, (K.map fun c => (L.countP fun q => f c q)).sum = (L.map fun q => (K.countP fun c => f c q)).sum := by
  induction K with
  | nil =>
    intro L
    induction L with
    | nil => rfl
    | cons q L ih => simpa using ih
  | cons c K ih =>
    intro L
    rw [List.map_cons, List.sum_cons, ih]
    induction L with
    | nil => rfl
    | cons q L ihL => simp only [List.countP_cons, List.map_cons, List.sum_cons] at ihL ⊢; omega
theorem sum_ite {β : Type} (p : β → Bool) : ∀ L : List β, (L.map fun q => if p q = true then 1 else 0).sum = L.countP p
  | [] => rfl
  | q :: L => by
    rw [List.map_cons, List.sum_cons, sum_ite p L, List.countP_cons]; omega
theorem countP_or {β : Type} (a b : β → Bool) (hab : ∀ q, a q = true → b q = false) : ∀ L : List β, L.countP (fun q => a q || b q) = L.countP a + L.countP b
  | [] => rfl
  | q :: L => by
    have := hab q
    rw [List.countP_cons, List.countP_cons, List.countP_cons, countP_or a b hab L]
    cases h1 : a q <;> cases h2 : b q <;> simp_all <;> omega
/-- what is under a path, without it, is what is under all that its list tells -/
theorem many_kids {L : List Mb} (h : WellL L) (d : Tx) : ((kids d L).map fun c => manyU L c.1).sum = L.countP (fun q => underP d q.1) := by
  unfold manyU underL
  have e1 : ((kids d L).map fun c => (L.filter (hitU c.1)).length) = (kids d L).map fun c => (L.countP fun q => hitU c.1 q) := by
    refine List.map_congr_left (fun c _ => ?_)
    rw [List.countP_eq_length_filter]
  rw [e1, sum_countP (fun (c : Mb) (q : Mb) => hitU c.1 q)]
  have e2 : (L.map fun q => (kids d L).countP fun c => hitU c.1 q) = L.map fun q => if underP d q.1 = true then 1 else 0 := List.map_congr_left (fun q hq => kids_hit h d _ q rfl hq)
  rw [e2]
  exact sum_ite (fun q : Mb => underP d q.1) L
theorem many_root {L : List Mb} (h : WellL L) : manyU L [] = ((kids [] L).map fun c => manyU L c.1).sum := by
  rw [many_kids h, List.countP_eq_length_filter]
  unfold manyU underL
  congr 1
  refine List.filter_congr (fun q hq => ?_)
  unfold hitU
  rw [under_nil]
  have := (h.path hq).2
  simp [this]
theorem many_dir {L : List Mb} (h : WellL L) {x : Mb} (hx : x ∈ L) : manyU L x.1 = ((kids x.1 L).map fun c => manyU L c.1).sum + 1 := by
  rw [many_kids h]
  unfold manyU underL
  rw [← List.countP_eq_length_filter]
  have h1 : L.countP (fun q => q.1 == x.1) = 1 := by
    rw [List.countP_eq_length_filter]
    have hl : SM.look L x.1 = some x.2 := h.s.look.2 hx
    rw [h.s.mid, hl]; rfl
  have h2 := countP_or (fun q : Mb => q.1 == x.1) (fun q => underP x.1 q.1) (fun q hq => by
    have hq : q.1 = x.1 := by simpa using hq
    simp only [hq]
    exact under_self x.1) L
  unfold hitU
  rw [h2, h1]; omega
/-- nothing is under what is no Dir -/
theorem many_leaf {L : List Mb} (h : WellL L) {x : Mb} (hx : x ∈ L) (hk : x.2.kind ≠ 1) : manyU L x.1 = 1 := by
  rw [many_dir h hx]
  have : kids x.1 L = [] := by
    unfold kids
    rw [List.filter_eq_nil_iff]
    intro c hc
    have h0 := (h.path hx).2
    intro e
    have e : parentP c.1 = x.1 := by simpa using e
    have hd := h.p c hc
    rw [e, dirT_iff] at hd
    rcases hd with hd | ⟨n, hn, hnk⟩
    · exact h0 hd
    · rw [h.s.look.2 hx] at hn
      injection hn with hn
      rw [hn] at hk
      exact hk hnk
  rw [this]; rfl
end Go.Proofs.YtphgmkhbhboklaaGreatDoor
/- TreeKnown: plain facts. -/
namespace Go.Proofs.YtphgmkhbhboklaaGreatDoor
def fileX : Nd := ⟨2, 0, 0, 0, 0, [], [120], []⟩
def dir7 : Nd := ⟨1, 7, 0, 0, 0, [], [], []⟩
def five : List Mb := [([98], fileX), ([97, 47, 120, 47, 121], fileX), ([97, 45, 98], dirN), ([97, 47, 120], dirN), ([97], dirN)]
def L5 : List Mb := [([97], dirN), ([97, 45, 98], dirN), ([97, 47, 120], dirN), ([97, 47, 120, 47, 121], fileX), ([98], fileX)]
def L6 : List Mb := [([97], dir7), ([97, 45, 98], dirN), ([97, 47, 120], dirN), ([97, 47, 120, 47, 121], fileX), ([98], fileX)]
def L2' : List Mb := [([97, 45, 98], dirN), ([98], fileX)]
theorem kt1 : newT five = (0, some L5) := by kernel_rfl
theorem kt2 : newT [([97], dirN), ([97], dirN)] = (9, none) := by kernel_rfl
theorem kt3 : newT [([97], fileX), ([97, 47, 98], fileX)] = (33, none) := by kernel_rfl
theorem kt4 : newT [([], dirN)] = (1, none) := by kernel_rfl
theorem kt5 : newT [([97, 47, 46, 119, 104, 46, 98], fileX), ([97], dirN)] = (1, none) := by kernel_rfl
theorem list_of {L : List Mb} {d : Tx} {m : List Tx} (h1 : (getT L d).2 = true) (h2 : (getT L d).1.kind = 1) (h3 : namesT d L = m) (h4 : m.Pairwise (· ≤ ·)) : listT L d = (m, 0) := by
  unfold listT
  rw [h1, h2, h3, ← sorted_ext (List.Perm.refl m) h4]
  simp
theorem kt6 : listT L5 [] = ([[97], [97, 45, 98], [98]], 0) := list_of (by kernel_rfl) (by kernel_rfl) (by kernel_rfl) (by decide)
theorem kt7 : listT L5 [97, 47, 120] = ([[121]], 0) := list_of (by kernel_rfl) (by kernel_rfl) (by kernel_rfl) (by decide)
theorem kt8 : listT L5 [98] = ([], 31) := by
  have h1 : getT L5 [98] = (fileX, true) := by kernel_rfl
  unfold listT
  rw [h1]; rfl
theorem kt9 : listT L5 [97, 47, 121] = ([], 6) := by
  have h1 : getT L5 [97, 47, 121] = (nd0, false) := by kernel_rfl
  unfold listT
  rw [h1]; rfl
theorem kt10 : putT L5 ([98, 47, 99], fileX) = (33, L5) := by kernel_rfl
theorem kt11 : putT L5 ([113, 47, 99], fileX) = (33, L5) := by kernel_rfl
theorem kt12 : putT L5 ([46, 46, 47, 99], fileX) = (1, L5) := by kernel_rfl
theorem kt13 : putT L5 ([97], dir7) = (0, L6) := by kernel_rfl
theorem kt14 : (underL [97] L6).length = 3 := by kernel_rfl
theorem kt15 : removeT L6 [] = (6, L6) := by kernel_rfl
theorem kt16 : removeT L6 [97] = (0, L2') := by kernel_rfl
/-- the k-th of many -/
def nmK (k : Nat) : Tx := [UInt8.ofNat (97 + k / 26 / 26), UInt8.ofNat (97 + k / 26 % 26), UInt8.ofNat (97 + k % 26)]
def mkM (k : Nat) : Mb := (nmK k, dirN)
def manyM (n : Nat) : List Mb := (List.range n).map mkM
theorem three {P : Nat → Prop} (h : ∀ a, a < 7 → ∀ b, b < 26 → ∀ c, c < 26 → P (a * 676 + b * 26 + c)) : ∀ k, k < 4097 → P k := fun k hk => by
  have := h (k / 676) (by omega) (k / 26 % 26) (by omega) (k % 26) (by omega)
  rwa [show k / 676 * 676 + k / 26 % 26 * 26 + k % 26 = k by omega] at this
theorem many_may : ∀ k, k < 4097 → mayM (mkM k) = true := three (by decide +kernel)
theorem many_rise : ∀ k, k < 4096 → nmK k < nmK (k + 1) := fun k hk => three (P := fun k => nmK k < nmK (k + 1)) (by decide +kernel) k (by omega)
theorem many_par : ∀ k, k < 4097 → parentP (nmK k) = [] := three (by decide +kernel)
theorem many_succ (n : Nat) : manyM (n + 1) = manyM n ++ [mkM n] := by unfold manyM; rw [List.range_succ, List.map_append]; rfl
theorem many_len (n : Nat) : (manyM n).length = n := by simp [manyM]
theorem many_lt : ∀ n, n ≤ 4096 → ∀ k, k < n → nmK k < nmK n := by
  intro n
  induction n with
  | zero => intro _ k hk; omega
  | succ n ih =>
    intro hn k hk
    rcases Nat.lt_succ_iff_lt_or_eq.1 hk with h | rfl
    · exact tx_trans (ih (by omega) k h) (many_rise n (by omega))
    · exact many_rise k (by omega)
theorem many_key {n : Nat} {x : Mb} (h : x ∈ manyM n) : ∃ k, k < n ∧ x = mkM k := by
  obtain ⟨k, hk, rfl⟩ := List.mem_map.1 h
  exact ⟨k, List.mem_range.1 hk, rfl⟩
theorem put_last {L : List Mb} {m : Mb} (h : ∀ x ∈ L, x.1 < m.1) : SM.put L m = L ++ [m] := by
  have h1 : SM.lo L m.1 = L := List.filter_eq_self.2 (fun x hx => by simpa using h x hx)
  have h2 : SM.hi L m.1 = [] := List.filter_eq_nil_iff.2 (fun x hx => by simpa using tx_asymm (h x hx))
  unfold SM.put
  rw [h1, h2]
theorem many_grow : ∀ n, n ≤ 4097 → growT (manyM n) = manyM n := by
  intro n
  induction n with
  | zero => intro _; rfl
  | succ n ih =>
    intro hn
    rw [many_succ, growT_snoc, ih (by omega)]
    refine put_last (fun x hx => ?_)
    obtain ⟨k, hk, rfl⟩ := many_key hx
    exact many_lt n (by omega) k hk
theorem many_any {n : Nat} (hn : n ≤ 4097) : (manyM n).any (fun m => !mayM m) = false := by
  rw [List.any_eq_false]
  intro x hx
  obtain ⟨k, hk, rfl⟩ := many_key hx
  simp [many_may k (by omega)]
theorem manyk_dir {n : Nat} (hn : n ≤ 4097) (L : List Mb) : (manyM n).any (fun m => !dirT L (parentP m.1)) = false := by
  rw [List.any_eq_false]
  intro x hx
  obtain ⟨k, hk, rfl⟩ := many_key hx
  have : parentP (mkM k).1 = [] := many_par k (by omega)
  rw [this]
  simp [dirT]
theorem kt17 : newT (manyM 4097) = (42, none) := by
  unfold newT
  rw [many_any (Nat.le_refl _), many_grow _ (Nat.le_refl _), manyk_dir (Nat.le_refl _), many_len]
  simp
theorem kt18 : newT (manyM 4096) = (0, some (manyM 4096)) := by
  unfold newT
  rw [many_any (by omega), many_grow _ (by omega), manyk_dir (by omega), many_len]
  simp
theorem many_dir0 (L : List Mb) {k : Nat} (hk : k < 4097) : dirT L (parentP (mkM k).1) = true := by
  have : parentP (mkM k).1 = [] := many_par k hk
  rw [this]
  simp [dirT]
theorem kt19 : putT (manyM 4096) (mkM 4096) = (42, manyM 4096) := by
  have h1 : SM.look (manyM 4096) (mkM 4096).1 = none := SM.look_none.2 (fun x hx e => by
    obtain ⟨k, hk, rfl⟩ := many_key hx
    have := many_lt 4096 (Nat.le_refl _) k hk
    have e : nmK k = nmK 4096 := e
    rw [e] at this
    exact tx_irrefl _ this)
  unfold putT
  rw [many_may 4096 (by omega), many_dir0 _ (by omega), h1, many_len]
  simp
theorem kt20 : (putT (manyM 4096) (mkM 7)).1 = 0 := by
  have h1 : SM.look (manyM 4096) (mkM 7).1 ≠ none := fun h => SM.look_none.1 h (mkM 7) (List.mem_map.2 ⟨7, List.mem_range.2 (by omega), rfl⟩) rfl
  have h2 : (SM.look (manyM 4096) (mkM 7).1).isNone = false := by
    cases hl : SM.look (manyM 4096) (mkM 7).1 with
    | none => exact (h1 hl).elim
    | some v => rfl
  unfold putT
  rw [many_may 7 (by omega), many_dir0 _ (by omega), h2]
  simp
end Go.Proofs.YtphgmkhbhboklaaGreatDoor
/- A tree that is none: nil, or without a map. -/
namespace Go.Proofs.YtphgmkhbhboklaaGreatDoor
open Go.RowKit Go.Shelf
/-- a pointer to no tree -/
def IsNone (w : World) (pv : Value) : Prop := ∃ a, pv = .pointer a ∧ ∀ wx, Below w.heap.size w wx → Calls Tryz.prog 30 #[.pointer a] wx fun e w' => e = .returned (.bool true) ∧ wx = w'
theorem IsNone.on {w w' : World} {pv : Value} (h : IsNone w pv) (hb : Below w.heap.size w w') : IsNone w' pv := by
  obtain ⟨a, e, h⟩ := h
  exact ⟨a, e, fun wx hx => h wx (hb.trans (hx.mono hb.size))⟩
set_option maxHeartbeats 400000 in
set_option maxRecDepth 100000 in
theorem none_nil (w : World) : IsNone w (.pointer none) := ⟨none, rfl, fun wx _ => by
  go_enter Tryz.func30, Tryz.ntmps30
  go_wp2_with fail
  go_ret
  exact ⟨rfl, rfl⟩⟩
set_option maxHeartbeats 400000 in
set_option maxRecDepth 100000 in
theorem none_zero (T : Nat) (w : World) (hr : Row w T 65 #[.map none]) : IsNone w (.pointer (some ⟨T, 0, none⟩)) := ⟨some ⟨T, 0, none⟩, rfl, fun wx hb => by
  have c0 := (hr.below hb hr.lt).cell (i := 0) rfl
  have hm := mapNil'
  clear hr hb
  go_enter Tryz.func30, Tryz.ntmps30
  go_wp2_with fail
  go_ret
  exact ⟨rfl, rfl⟩⟩
set_option maxHeartbeats 1000000 in
set_option maxRecDepth 100000 in
theorem get_none (pv : Value) (p : Tx) (w : World) (h : IsNone w pv) :
    Calls Tryz.prog 11 #[pv, .string ⟨p.toArray⟩] w fun e w' => e = .returned (.tuple #[.agg (ndC nd0 nilV nilV), .bool false]) ∧ Below w.heap.size w w' := by
  obtain ⟨a, rfl, hn⟩ := h
  have HN := Keep.keep hn
  have HZ : Keep ((ndC nd0 nilV nilV).size = 8) := ⟨rfl⟩
  have HO0 : Keep ((ndC nd0 nilV nilV).all (·.oneCell') = true) := ⟨by simp [ndC, nilV, strV, Value.oneCell']⟩
  have hbn := buildN
  clear hn
  go_enter Tryz.func11, Tryz.ntmps11
  go_wp2_with fail
  refine calls_at (R := fun w1 => Hp NoM w w1 [rowA w.heap.size 30 (ndC nd0 nilV nilV)]) ((Hp.begin NoM w).newRow _ _) ?_
  intro w1 H1
  refine (HN.out w1 H1.out.below).mono ?_
  rintro e w2 ⟨rfl, rfl⟩
  have HRW := Keep.keep (H1.out.row 0 rfl)
  go_wp2_with (first | ((with_reducible refine arm_storeRow HRW.out aggN HZ.out HZ.out HO0.out ?_ ?_ ?_); (focus rfl); (focus rfl); simp only [Act.put]))
  have hch : Below w.heap.size w (w1.setRow w.heap.size (ndC nd0 nilV nilV)) := ((Chg.of_below (M := NoM) H1.out.below).setRow (.inl (Nat.le_refl _)) _).below (fun _ _ h => h)
  exact bodyPost_ret (results_row2 (p := 4) (q := 5) (ty := 30) rfl (HRW.out.setRow _) aggN HZ.out rfl rfl) rfl ⟨rfl, hch⟩
set_option maxHeartbeats 1000000 in
set_option maxRecDepth 100000 in
theorem list_none (pv : Value) (p : Tx) (w : World) (h : IsNone w pv) :
    Calls Tryz.prog 27 #[pv, .string ⟨p.toArray⟩] w fun e w' => e = .returned (.tuple #[.slice none 0 0, .int .i64 2]) ∧ Below w.heap.size w w' := by
  have HG := Keep.keep (get_none pv p w h)
  obtain ⟨a, rfl, hn⟩ := h
  have HN := Keep.keep hn
  clear hn
  go_enter Tryz.func27, Tryz.ntmps27
  go_upto_region 1 with fail
  go_wp2_with fail
  refine HG.out.mono ?_
  rintro e w1 ⟨rfl, hb1⟩
  have HB1 := Keep.keep hb1
  have hle : w.heap.size ≤ w1.heap.size := hb1.size
  clear hb1 HG
  unfold ndC nilV strV nd0
  dsimp only
  go_upto_region 2 with fail
  refine wp_world (R := fun w2 => Below w.heap.size w w2) (HB1.out.alloc hle _) ?_
  intro w2 H2
  generalize w1.heap.size = b6 at *
  go_wp2_with fail
  refine (HN.out w2 H2.out).mono ?_
  rintro e w3 ⟨rfl, rfl⟩
  go_wp2_with fail
  go_ret2
  exact ⟨rfl, H2.out⟩
set_option maxHeartbeats 1000000 in
set_option maxRecDepth 100000 in
theorem put_none (pv : Value) (m : Mb) (aa : Option Addr) (la ca : Nat) (ad : Option Addr) (ld cd : Nat) (w : World) (h : IsNone w pv) :
    Calls Tryz.prog 9 #[pv, .agg (mbC m (.slice aa la ca) (.slice ad ld cd))] w fun e w' => e = .returned (.int .i64 2) ∧ Below w.heap.size w w' := by
  obtain ⟨a, rfl, hn⟩ := h
  have HN := Keep.keep hn
  clear hn
  unfold mbC strV
  go_enter Tryz.func9, Tryz.ntmps9
  go_wp2_with fail
  refine calls_at (R := fun w1 => Below w.heap.size w w1) ((Below.refl _ _).alloc (Nat.le_refl _) _) ?_
  intro w1 H1
  refine (HN.out w1 H1.out).mono ?_
  rintro e w2 ⟨rfl, rfl⟩
  go_wp2_with fail
  go_ret
  exact ⟨rfl, H1.out⟩
set_option maxHeartbeats 1000000 in
set_option maxRecDepth 100000 in
theorem remove_none (pv : Value) (p : Tx) (w : World) (h : IsNone w pv) :
    Calls Tryz.prog 13 #[pv, .string ⟨p.toArray⟩] w fun e w' => e = .returned (.int .i64 2) ∧ Below w.heap.size w w' := by
  obtain ⟨a, rfl, hn⟩ := h
  have HN := Keep.keep (hn w (Below.refl _ _))
  clear hn
  go_enter Tryz.func13, Tryz.ntmps13
  go_wp2_with fail
  refine HN.out.mono ?_
  rintro e w2 ⟨rfl, rfl⟩
  go_wp2_with fail
  go_ret
  exact ⟨rfl, Below.refl _ _⟩
set_option maxHeartbeats 1000000 in
set_option maxRecDepth 100000 in
theorem len_none (pv : Value) (w : World) (h : IsNone w pv) :
    Calls Tryz.prog 15 #[pv] w fun e w' => e = .returned (.int .i64 0) ∧ Below w.heap.size w w' := by
  obtain ⟨a, rfl, hn⟩ := h
  have HN := Keep.keep (hn w (Below.refl _ _))
  clear hn
  go_enter Tryz.func15, Tryz.ntmps15
  go_wp2_with fail
  refine HN.out.mono ?_
  rintro e w2 ⟨rfl, rfl⟩
  go_wp2_with fail
  go_ret
  exact ⟨rfl, Below.refl _ _⟩
set_option maxHeartbeats 1000000 in
set_option maxRecDepth 100000 in
theorem copy_none (pv : Value) (w : World) (h : IsNone w pv) :
    Calls Tryz.prog 7 #[pv] w fun e w' => e = .returned (.pointer none) ∧ Below w.heap.size w w' := by
  obtain ⟨a, rfl, hn⟩ := h
  have HN := Keep.keep (hn w (Below.refl _ _))
  clear hn
  go_enter Tryz.func7, Tryz.ntmps7
  go_wp2_with fail
  refine HN.out.mono ?_
  rintro e w2 ⟨rfl, rfl⟩
  go_wp2_with fail
  go_ret
  exact ⟨rfl, Below.refl _ _⟩
set_option maxHeartbeats 1000000 in
set_option maxRecDepth 100000 in
theorem same_none (pv qv : Value) (w : World) (h : IsNone w pv) (k : IsNone w qv) :
    Calls Tryz.prog 10 #[pv, qv] w fun e w' => e = .returned (.bool true) ∧ Below w.heap.size w w' := by
  obtain ⟨a, rfl, hn⟩ := h
  obtain ⟨b, rfl, hm⟩ := k
  have HN := Keep.keep (hn w (Below.refl _ _))
  have HM := Keep.keep (hm w (Below.refl _ _))
  clear hn hm
  go_enter Tryz.func10, Tryz.ntmps10
  go_wp2_with fail
  refine HN.out.mono ?_
  rintro e w2 ⟨rfl, rfl⟩
  go_wp2_with fail
  refine HN.out.mono ?_
  rintro e w2 ⟨rfl, rfl⟩
  go_wp2_with fail
  refine HM.out.mono ?_
  rintro e w2 ⟨rfl, rfl⟩
  go_wp2_with fail
  go_ret
  exact ⟨rfl, Below.refl _ _⟩
set_option maxRecDepth 100000 in
set_option maxHeartbeats 4000000 in
theorem each1_none (M : Nat → Prop) (n₀ n : Nat) (hn : 6 ≤ n) (lo Bt : Nat) (J : List Mb → World → Prop) (W : World) (hBt : W.cell? ⟨Bt, 0, none⟩ = some (.pointer none)) (h0 : J [] W) :
    CallsIn Fence.wide n Tryz.prog 56 #[.func (.yield lo) #[] #[], .pointer (some ⟨Bt, 0, none⟩)] W fun e W' => (∃ v, e = .returned v) ∧ J [] W' ∧ KE M n₀ W W' := by
  have hn1 : 1 ≤ n := by omega
  obtain ⟨a, ha, hnn⟩ := none_nil W
  injection ha with ha
  subst ha
  have HNN := Keep.keep (hnn W (Below.refl _ _))
  have HJ := Keep.keep h0
  clear hnn h0
  have hf1 : Fence.wide.fn 30 := trivial
  refine callsIn_of_wp Tryz.func56 rfl trivial ?_ rfl
  simp only [Tryz.ntmps56, List.size_toArray, List.length_cons, List.length_nil, Nat.reduceAdd, Nat.reduceSub, Array.replicate_succ, Array.replicate_zero, List.push_toArray, List.append_toArray, List.nil_append, List.cons_append]
  gi_wp2_with (gi_at_call 30; refine (callsIn_wide.2 HNN.out).mono ?_; rintro e w' ⟨rfl, rfl⟩)
  refine bodyPost_ret (results_none rfl _ _ _) rfl ?_
  exact ⟨⟨_, rfl⟩, HJ.out, KE.refl _ _ _⟩
abbrev NoMb : Type := {x : Mb // x ∈ ([] : List Mb)}
theorem each_stops_none (M : Nat → Prop) (n : Nat) (hn : 6 ≤ n) (Bt n₀ : Nat) (f : Tx → Value × Value) (w : World) (hBt : w.cell? ⟨Bt, 0, none⟩ = some (.pointer none)) (hlt : Bt < n₀) (hn0 : n₀ ≤ w.heap.size) :
    SeqStopsK Fence.wide n Tryz.prog 56 #[.pointer (some ⟨Bt, 0, none⟩)] (fun x : NoMb => encM f x.1) (KE M n₀) (fun ys => ys = []) (fun _ => False) 0 w := fun lo J Jx W hW hJ _ hY h0 => by
  have hlt' : ∀ b, b < n₀ → W.heap[b]? = w.heap[b]? := fun b hb => hW.block b (Nat.lt_of_lt_of_le hb hn0)
  refine (each1_none M n₀ n hn lo Bt (fun pre W => ∃ q : List NoMb, q.map (·.1) = pre ∧ J q W) W (by rw [cell_loc (hlt' Bt hlt)]; exact hBt) ⟨[], rfl, h0⟩).mono ?_
  rintro e W2 ⟨hv, ⟨q, hq, hj⟩, -⟩
  have : q = [] := by cases q with
    | nil => rfl
    | cons x r => cases hq
  subst this
  exact ⟨hv, .inl ⟨[], rfl, hj⟩⟩
end Go.Proofs.YtphgmkhbhboklaaGreatDoor
/- tree.Under, tree.All of no tree. -/
namespace Go.Proofs.YtphgmkhbhboklaaGreatDoor
open Go.RowKit Go.Shelf
attribute [local go_sem] Oper.semAt_some
def noF : Tx → Value × Value := fun _ => (nilV, nilV)
set_option maxHeartbeats 4000000 in
set_option maxRecDepth 100000 in
theorem under_none_in (n : Nat) (hn : 12 ≤ n) (p : Tx) (w : World) :
    CallsIn Fence.wide n Tryz.prog 14 #[.pointer none, .string ⟨p.toArray⟩] w fun e w' => e = .returned (.slice none 0 0) ∧ Below w.heap.size w w' := by
  have hn1 : 1 ≤ n := by omega
  have hro : Fence.wide.round = none := rfl
  have hf0 : Fence.wide.fn 14 := trivial
  have hf1 : Fence.wide.fn 28 := trivial
  refine callsIn_of_wp_marks Tryz.func14 rfl hf0 ?_ hro
  simp only [Tryz.ntmps14, List.size_toArray, List.length_cons, List.length_nil, Nat.reduceAdd, Nat.reduceSub, Array.replicate_succ, Array.replicate_zero, List.push_toArray, List.append_toArray, List.nil_append, List.cons_append]
  gi_wp2_with (gi_at_call 28; refine (callsIn_wide.2 (each_any _ _)).mono ?_; rintro e w' ⟨rfl, rfl⟩)
  obtain ⟨b0, hb0⟩ : ∃ b0, w.heap.size = b0 := ⟨_, rfl⟩
  have bL := (Boxed.new (w.alloc (.cells #[.string ⟨p.toArray⟩] 9)) 33 (.slice none 0 0)).alloc (.cells #[.pointer none] 24)
  have bT := Boxed.new ((w.alloc (.cells #[.string ⟨p.toArray⟩] 9)).alloc (.cells #[.slice none 0 0] 33)) 24 (.pointer none)
  simp only [World.size_alloc] at bL bT
  have hB0 : Below w.heap.size w (((w.alloc (.cells #[.string ⟨p.toArray⟩] 9)).alloc (.cells #[.slice none 0 0] 33)).alloc (.cells #[.pointer none] 24)) :=
    (((Below.refl _ w).alloc (Nat.le_refl _) _).alloc (by simp) _).alloc (by simp; omega) _
  have hsz : (((w.alloc (.cells #[.string ⟨p.toArray⟩] 9)).alloc (.cells #[.slice none 0 0] 33)).alloc (.cells #[.pointer none] 24)).heap.size = w.heap.size + 3 := by simp
  obtain ⟨W0, hW0⟩ : ∃ W0, (((w.alloc (.cells #[.string ⟨p.toArray⟩] 9)).alloc (.cells #[.slice none 0 0] 33)).alloc (.cells #[.pointer none] 24)) = W0 := ⟨_, rfl⟩
  rw [hW0] at bL bT hB0 hsz ⊢
  clear hW0
  have hwb : b0 ≤ w.heap.size := by omega
  rw [hb0] at bL bT hB0 hsz ⊢
  refine wpIn_rangeFunc_ownH hro hn1 (gf := 56) (lb := #[.pointer (some ⟨b0 + 1 + 1, 0, none⟩)]) rfl trivial (enters_of Tryz.func56 (by kernel_rfl) rfl)
    (each_stops_none (fun b => b = b0 + 1) (n - 1) (by omega) (b0 + 1 + 1) (b0 + 3) noF W0 bT.cell (by omega) (by omega)) KE.trans (KE.b (by omega)) (Below.refl _ _) (fun _ => rfl)
    (fun _ W => Boxed W (b0 + 1) 33 (.slice none 0 0) ∧ Below b0 w W) (fun _ _ _ => False) ?_ (fun _ => ownFrom_pure _ (fun _ => False)) ⟨bL, hB0⟩
    (fun _ _ _ => True)
    (fun x a' _ X Y row hs hg hr => trivial)
    ?assign ?body ?done ?stop
  · intro pre W W' row h hg hr
    have hr' : ∀ r, row = some r → ∃ o : Obj, W.heap[r]? = some o ∧ o.isCells = false := fun r e => (hr r e).2
    exact ⟨(Own.from (boxed_own (b0 + 1) 33 (fun _ : Unit => .slice none 0 0)) _) () W W' row h.1 hg hr, (ownFrom_below (β := Unit) hwb (by omega)) () W W' row h.2 hg hr⟩
  case assign =>
    rintro lo pre ⟨x, hx⟩ W K hI hK
    exact (List.not_mem_nil hx).elim
  case body =>
    rintro lo pre ⟨x, hx⟩ a' W hl0 hr1 hI ha hlt
    exact (List.not_mem_nil hx).elim
  case done =>
    rintro D ys W hD hys ⟨hU, hbel⟩ hK
    have cB := hU.cell
    have fB := hU.frozen
    have HB := Keep.keep hbel
    clear hU hbel
    gi_wp2
    refine ⟨by simp, .inl ⟨_, _, rfl, run_takeDeferred hK, ?_⟩⟩
    refine ⟨.slice none 0 0, ?_, rfl, ?_⟩
    · simp [results, Tryz.f14, go_sem]
    · rw [hb0]
      exact HB.out.trans (belowK_b (w := w) (by omega) W D _ _ (by omega) hK rfl rfl)
  case stop =>
    rintro D c pre W hD hpre hF hK
    exact hF.elim
theorem under_none (p : Tx) (w : World) : Calls Tryz.prog 14 #[.pointer none, .string ⟨p.toArray⟩] w fun e w' => e = .returned (.slice none 0 0) ∧ Below w.heap.size w w' := callsIn_wide.1 (under_none_in 12 (Nat.le_refl _) p w)
set_option maxHeartbeats 400000 in
set_option maxRecDepth 100000 in
theorem all_none (w : World) : Calls Tryz.prog 16 #[.pointer none] w fun e w' => e = .returned (.slice none 0 0) ∧ Below w.heap.size w w' := by
  have HU := Keep.keep (under_none [] w)
  go_enter Tryz.func16, Tryz.ntmps16
  go_wp2_with fail
  refine HU.out.mono ?_
  rintro e w1 ⟨rfl, hb⟩
  have HB := Keep.keep hb
  clear hb
  go_wp2_with fail
  go_ret
  exact ⟨rfl, HB.out⟩
end Go.Proofs.YtphgmkhbhboklaaGreatDoor
/- portolanlaw18.texts: two rows of texts, side by side. -/
namespace Go.Proofs.YtphgmkhbhboklaaGreatDoor
open Go.RowKit
set_option maxHeartbeats 1000000 in
set_option maxRecDepth 100000 in
theorem texts_any (v1 v2 : Value) (l1 l2 : List Tx) (w : World) (h1 : RdV w (· < w.heap.size) 1 v1 l1.length (l1.map encStr)) (h2 : RdV w (· < w.heap.size) 1 v2 l2.length (l2.map encStr)) :
    Calls Tryz.prog 29 #[v1, v2] w fun e w' => e = .returned (.bool (decide (l1 = l2))) ∧ Below w.heap.size w w' := by
  obtain ⟨a1, c1, rfl, g1, m1, s1⟩ := h1.shape
  obtain ⟨a2, c2, rfl, g2, m2, s2⟩ := h2.shape
  have H1 := Keep.keep h1; have H2 := Keep.keep h2; have S1 := Keep.keep s1; have S2 := Keep.keep s2
  unfold maxLen at m1 m2
  clear h1 h2 s1 s2
  by_cases hl : l1.length = l2.length
  · have hne : ((l1.length : Int) != (l2.length : Int)) = false := by simp [hl]
    have HL := Keep.keep hl
    clear hl
    go_enter Tryz.func29, Tryz.ntmps29
    go_wp2_with fail
    go_loopg [5] l1.length (fun g u5 wx => ∃ k n : Nat, k + g = l1.length ∧ u5 = .int .i64 (k : Int) ∧ l1.take k = l2.take k ∧ wx = w.drewN n)
    case atStart => exact ⟨0, 0, by omega, rfl, rfl, rfl⟩
    case round =>
      obtain ⟨k, nd, hkg, rfl, heq, rfl⟩ := hrel
      have HT := Keep.keep heq
      clear heq
      cases gk with
      | zero =>
        obtain rfl : k = l1.length := by omega
        have HE : Keep (decide (l1 = l2) = true) := ⟨decide_eq_true (by
          have h := HT.out
          rw [List.take_length, List.take_of_length_le (by rw [← HL.out]; exact Nat.le_refl _)] at h
          exact h)⟩
        go_wp2_with fail
        go_ret
        exact ⟨by (rw [HE.out]) <;> rfl, below_drewN' (Below.refl _ _) _⟩
      | succ g =>
        have hk1 : k < l1.length := by omega
        have hk2 : k < l2.length := by have := HL.out; omega
        have hd : decide ((k : Int) < (l1.length : Int)) = true := decide_eq_true (by omega)
        obtain ⟨p1, o1, rfl⟩ : ∃ b off, a1 = some ⟨b, off, none⟩ := by
          rcases S1.out with h | ⟨b, off, h, -⟩
          · omega
          · exact ⟨b, off, h⟩
        obtain ⟨p2, o2, rfl⟩ : ∃ b off, a2 = some ⟨b, off, none⟩ := by
          rcases S2.out with h | ⟨b, off, h, -⟩
          · omega
          · exact ⟨b, off, h⟩
        have z1 := H1.out.cell p1 o1 _ _ rfl k (encStr l1[k]) (by rw [List.getElem?_map, List.getElem?_eq_getElem hk1]; rfl)
        have z2 := H2.out.cell p2 o2 _ _ rfl k (encStr l2[k]) (by rw [List.getElem?_map, List.getElem?_eq_getElem hk2]; rfl)
        unfold encStr at z1 z2
        have HST : Keep (l1[k] = l2[k] → l1.take (k + 1) = l2.take (k + 1)) := ⟨fun e => by rw [List.take_succ_eq_append_getElem hk1, List.take_succ_eq_append_getElem hk2, HT.out, e]⟩
        have HNE : Keep (l1[k] ≠ l2[k] → decide (l1 = l2) = false) := ⟨fun e => decide_eq_false (fun h => e (by simp only [h]))⟩
        generalize l1[k] = x at *
        generalize l2[k] = y at *
        by_cases e : x = y
        · have HE2 := Keep.keep (HST.out e)
          have hb : (x == y) = true := by simpa using e
          have hbn : (!(x == y)) = false := by simp [e]
          clear e HST HNE
          go_upto_region 6 with fail
          (refine wp_region_quiet_lit (by kernel_rfl) (by kernel_rfl) ?_); (repeat (first | (fail) | go_big_quiet_step (fail))); (refine wpQuiet_nil ?_); (intro _ hwq); (obtain ⟨nq, hwq⟩ := hwq); (subst hwq)
          go_wp2_with fail
          go_roundg g
          case measure => omega
          case rel => exact ⟨k + 1, nd + nq, by omega, by simp, HE2.out, rfl⟩
        · have HE2 := Keep.keep (HNE.out e)
          have hb : (x == y) = false := by simpa using e
          have hbn : (!(x == y)) = true := by simp [e]
          clear e HST HNE
          go_upto_region 6 with fail
          (refine wp_region_quiet_lit (by kernel_rfl) (by kernel_rfl) ?_); (repeat (first | (fail) | go_big_quiet_step (fail))); (refine wpQuiet_nil ?_); (intro _ hwq); (obtain ⟨nq, hwq⟩ := hwq); (subst hwq)
          go_wp2_with fail
          go_ret
          exact ⟨by (rw [HE2.out]) <;> rfl, below_drewN' (below_drewN' (Below.refl _ _) _) _⟩
  · have hne : ((l1.length : Int) != (l2.length : Int)) = true := by simp; omega
    have HE : Keep (decide (l1 = l2) = false) := ⟨decide_eq_false (fun h => hl (by rw [h]))⟩
    clear hl
    go_enter Tryz.func29, Tryz.ntmps29
    go_wp2_with fail
    go_ret
    exact ⟨by (rw [HE.out]) <;> rfl, Below.refl _ _⟩
end Go.Proofs.YtphgmkhbhboklaaGreatDoor
/- A RANGE OVER A FUNCTION IN A LAW: whose loop variable is a box of its own; quiet regions in its body; the memory as a list of assertions. -/
namespace Go.Proofs.YtphgmkhbhboklaaGreatDoor
open Go.RowKit
theorem Hp.grownBy {w X Y : World} {row : Option Nat} {ls : List As} (h : Hp NoM w X ls) (hg : X.grownBy Y row) (hr : ∀ r, row = some r → w.heap.size ≤ r ∧ ∀ A ∈ ls, ¬ A.blk r) : Hp NoM w Y ls := by
  refine ⟨⟨hg.os.trans h.c.os, hg.tape.trans h.c.tape, hg.output.trans h.c.output, Nat.le_trans h.c.size hg.size, fun k hk hm => ?_⟩, fun A hA => ?_, h.d⟩
  · have := h.c.size
    rw [hg.block k (by omega) (fun e => by have := (hr k e.symm).1; omega)]
    exact h.c.block k hk hm
  · have := h.p A hA
    exact ⟨A.loc X Y (fun b hb => hg.block b (this.2 b hb).2 (fun e => (hr b e.symm).2 A hA hb)) this.1, fun b hb => ⟨(this.2 b hb).1, Nat.lt_of_lt_of_le (this.2 b hb).2 hg.size⟩⟩
/-- what speaks of blocks below B alone abides -/
theorem hp_own {β : Type} {w : World} {B : Nat} (hw : w.heap.size ≤ B) (ls : β → List As) (hls : ∀ s, ∀ A ∈ ls s, ∀ b, A.blk b → b < B) : OwnFrom B (fun s W => Hp NoM w W (ls s)) :=
  fun s X Y row h hg hr => h.grownBy hg (fun r e => ⟨by have := (hr r e).1; omega, fun A hA hb => by have := hls s A hA r hb; have := (hr r e).1; omega⟩)
theorem wpIn_region_quiet_wide {r n id : Nat} {P : Program} {l : List Oper} {Q : Exit → Act → World → Prop} {a : Act} {w : World} (hm : P.follows .mixedOrders = true) (hd : noDefer l.toArray = true) (hq : ¬ LetsOut Q) (hB : Region.lexB .any l.toArray = true)
    (h : wpQuiet P l.toArray (fun w' => ∃ n, w' = w.drewN n) (fun a' => ∀ w', (∃ n, w' = w.drewN n) → Q .normal a' w') l a) : (Code.region id l.toArray true).wpIn (Fence.wide.inRound r) n P Q a w := by
  simp only [Region.lexB, Bool.and_eq_true] at hB
  refine wpIn_region_wide hm hd hq (wpAny_of_quiet (C := fun w' => ∃ n, w' = w.drewN n) (Q := fun a' => ∀ w', (∃ n, w' = w.drewN n) → Q .normal a' w') (fun _ w' hw' h => h w' hw') _ _ _ _ ⟨1, rfl⟩ ?_)
  have := wpAnyQ_lex (C := fun w' => ∃ n, w' = w.drewN n) (md := .any) hB.1 l 0 (Array.replicate l.toArray.size false) a (by simp) (by simpa using hB.2) h
  simpa using this
/-- THE LAW: the loop variable v is a new row of the type ty, told by p -/
theorem rangeFunc_row {n : Nat} {P : Program} {α : Type} {g : Operand} {p v : Tmp} {assign body : Code} {Q : Exit → Act → World → Prop} {a : Act} {w : World} (h1 : 1 ≤ n) {gf : Nat} {lb : Array Value} (hg : a.eval g = .func (.func gf) #[] lb) (eg : ∀ args w, (callFunc gf args).run P w = .ok (.enter gf args) w)
    {cs : α → Array Value} {Kp : World → World → Prop} {S Sp : List α → Prop} {N : Nat} (ty : TypeId) (hseq : SeqStopsK Fence.wide (n - 1) P gf lb (fun x => #[.agg (cs x)]) Kp S Sp N w)
    (hKt : ∀ {A B C : World}, Kp A B → Kp B C → Kp A C) (hKb : ∀ (W : World) (l : Nat) (o o' : Obj), w.heap.size ≤ l → W.heap[l]? = some o → o.isCells = false → o.isWalk = false → Kp W (W.putObj l o'))
    (I : List α → World → Prop) (Ix : Code → List α → World → Prop) (hI : OwnFrom w.heap.size I) (hIx : ∀ c, OwnFrom w.heap.size (Ix c)) (h0 : I [] w)
    (hassign : ∀ (l : Nat) (pre : List α) (x : α) (W : World) (K : Act → World → Prop), I pre W → (∀ a' W', KeepsFrom w.heap.size W W' → Kp W W' → I pre W' → (∃ Bx, (Row W' Bx ty (cs x) ∧ w.heap.size ≤ Bx) ∧ a' = { tmps := (a.tmps.setIfInBounds p (.agg (cs x))).setIfInBounds v (.pointer (some ⟨Bx, 0, none⟩)), defers := [] }) → K a' W') →
      assign.wpIn (Fence.wide.inRound l) (n - 1 - 1) P (Exit.then K (fun _ _ _ => False)) { tmps := a.tmps.setIfInBounds p (.agg (cs x)), defers := [] } W)
    (hbody : ∀ (l : Nat) (pre : List α) (x : α) (W : World) (Bx : Nat), w.heap.size ≤ l → (∃ r, W.heap[l]? = some (.loop r)) → I pre W → Row W Bx ty (cs x) → w.heap.size ≤ Bx → pre.length < N →
      body.wpIn (Fence.wide.inRound l) (n - 1 - 1) P (ownPostG w.heap.size Kp I Ix (pre ++ [x]) W) { tmps := (a.tmps.setIfInBounds p (.agg (cs x))).setIfInBounds v (.pointer (some ⟨Bx, 0, none⟩)), defers := [] } W)
    (hdone : ∀ (D : Nat) (xs : List α) (W : World), w.heap.size ≤ D → S xs → I xs W → W.heap[D]? = some (.deferred (some [])) → Q .normal { a with defers := { target := .collected D, args := #[] } :: a.defers } W)
    (hstop : ∀ (D : Nat) (c : Code) (pre : List α) (W : World), w.heap.size ≤ D → Sp pre → Ix c pre W → W.heap[D]? = some (.deferred (some [])) → c.wp P Q { a with defers := { target := .collected D, args := #[] } :: a.defers } W) :
    (Code.rangeFunc g #[p] assign body).wp P Q a w := by
  refine (wpIn_wide (n := n)).1 ?_
  refine wpIn_rangeFunc_ownH rfl h1 hg trivial eg hseq hKt hKb (Below.refl _ _) (fun _ => rfl) I Ix hI hIx h0
    (fun x a' W => ∃ Bx, (Row W Bx ty (cs x) ∧ w.heap.size ≤ Bx) ∧ a' = { tmps := (a.tmps.setIfInBounds p (.agg (cs x))).setIfInBounds v (.pointer (some ⟨Bx, 0, none⟩)), defers := [] })
    (fun x a' _ X Y row hs hg hr => by obtain ⟨Bx, ⟨e2, e3⟩, e4⟩ := hs; exact ⟨Bx, ⟨(grownBy_keeps_cells hg (fun r e => (hr r e).2) e2 rfl).trans e2, e3⟩, e4⟩)
    (fun l pre x W K hi hK => ?_) (fun l pre x a' W hl hr hi ha hN => ?_) hdone (fun D c pre W hD hs hx hk => wpIn_wide.2 (hstop D c pre W hD hs hx hk))
  · simpa using hassign l pre x W K hi hK
  · obtain ⟨Bx, ⟨h2, h3⟩, rfl⟩ := ha
    exact hbody l pre x W Bx hl hr hi h2 h3 hN
end Go.Proofs.YtphgmkhbhboklaaGreatDoor
/- string(b) of what reads as bytes; []byte of a text that is written out. -/
namespace Go.Proofs.YtphgmkhbhboklaaGreatDoor
open Go.RowKit
def ints (l : List UInt8) : List Int := l.map fun c => (c.toNat : Int)
theorem ints_length (l : List UInt8) : (ints l).length = l.length := by simp [ints]
theorem bytesOf_ints (l : List UInt8) : Lib.bytesOf (ints l) = l := by simp [Lib.bytesOf, ints, Function.comp_def]
theorem ints_cells (l : List UInt8) : (ints l).map (Value.int .u8) = bcells l := by simp [ints, bcells, Function.comp_def]
theorem Reads.bytesIn {w : World} {N : Nat → Prop} {p : Option Addr} {n c : Nat} {l : List UInt8} (h : Reads w N (.slice p n c) l) : n = l.length ∧ Lib.BytesIn w p n (ints l) := by
  obtain ⟨⟨a, cap, he, h1, h2, h3⟩, hc⟩ := h
  injection he with e1 e2 e3; subst e1 e2 e3
  refine ⟨rfl, fun hn => ?_⟩
  rcases h3 with h3 | ⟨b, off, rfl, _⟩
  · omega
  · refine ⟨b, off, rfl, fun i hi => ?_⟩
    rw [hc b off _ _ rfl i hi]
    simp [ints, List.getD_eq_getElem?_getD, hi]
theorem run_string_of {w : World} {N : Nat → Prop} {v : Value} {l : List UInt8} (h : Reads w N v l) : (convert 23 9 v).run Tryz.prog w = .ok (.string ⟨l.toArray⟩) w := by
  obtain ⟨a, cap, hu, _⟩ := h.shape
  subst hu
  have := Lib.BytesIn.convert h.bytesIn.2 (ints_length l) cap 23 5 9 Tryz.underlying23 Tryz.underlying5 Tryz.underlying9
  rw [this]
  rw [show strOfNums (ints l) = ⟨l.toArray⟩ by simp [strOfNums, ints, Function.comp_def]]
/-- []byte of a text that is written out: the row that the walk leaves -/
theorem Reads.lit {w : World} (e : TypeId) (c : Array Value) (l : List UInt8) (fr : Nat × Nat) (g n : Nat) (hg : g = w.heap.size) (hc : c = (bcells l).toArray) (hn : n = l.length) (hm : l.length ≤ maxLen) : Reads (w.alloc (.cells c e fr)) (fun b => b = w.heap.size) (.slice (some ⟨g, 0, none⟩) n n) l := by
  subst hg hc hn
  refine ⟨⟨_, _, rfl, Nat.le_refl _, hm, .inr ⟨_, _, rfl, rfl⟩⟩, fun b off m cap he j hj => ?_⟩
  injection he with e1 _ _; injection e1 with e1; injection e1 with e1 e2 _; subst e1 e2
  rw [World.cell?_alloc_mark, Nat.zero_add]
  simpa using bcells_get l j hj
/-- .. as a rule of the walk -/
theorem convB (w : World) (C : Array Value) (n c g : Nat) (hg : g = w.heap.size) : (convert 23 23 (.slice (some ⟨g, 0, none⟩) n c)).run Tryz.prog (w.alloc (.cells C 5)) = .ok (.slice (some ⟨g, 0, none⟩) n c) (w.alloc (.cells C 5 (C.size, C.size + 1))) :=
  Go.Joins.run_convert_bytes_const_at w 23 5 C n c g hg Tryz.underlying23 Tryz.underlying5
end Go.Proofs.YtphgmkhbhboklaaGreatDoor
/- A ROW OF WHICH NO CELL IS FROZEN, though it may bear a mark; []byte(s) as such a row; append(v, make([]byte, k)...) upon it. -/
namespace Go.Proofs.YtphgmkhbhboklaaGreatDoor
open Go.RowKit
/-- block b is a row, no cell of which is frozen -/
def RowF (w : World) (b : Nat) (e : TypeId) (c : Array Value) : Prop := ∃ fz : Nat × Nat, w.heap[b]? = some (.cells c e fz) ∧ c.size ≤ fz.1
theorem heap_alloc_newF (w : World) (o : Obj) : (w.alloc o).heap[w.heap.size]? = some o := heap_alloc_new w o
theorem RowF.cell {w : World} {b : Nat} {e : TypeId} {c : Array Value} (h : RowF w b e c) {i : Nat} {v : Value} (hv : c[i]? = some v) : w.cell? ⟨b, i, none⟩ = some v := by
  obtain ⟨fz, h, _⟩ := h
  simp [World.cell?, h, hv]
theorem RowF.frozen {w : World} {b : Nat} {e : TypeId} {c : Array Value} (h : RowF w b e c) {i : Nat} (hi : i < c.size) : w.frozen? ⟨b, i, none⟩ = false := by
  obtain ⟨fz, h, hz⟩ := h
  obtain ⟨lo, hi'⟩ := fz
  simp only [World.frozen?, h]
  simp only at hz
  simp; intro h; omega
theorem RowF.lt {w : World} {b : Nat} {e : TypeId} {c : Array Value} (h : RowF w b e c) : b < w.heap.size := by
  obtain ⟨fz, h, _⟩ := h
  exact (Array.getElem?_eq_some_iff.1 h).1
theorem RowF.set {w : World} {b : Nat} {e : TypeId} {c : Array Value} (h : RowF w b e c) (i : Nat) (v : Value) : RowF (w.setCell ⟨b, i, none⟩ v) b e (c.setIfInBounds i v) := by
  obtain ⟨fz, h, hz⟩ := h
  refine ⟨fz, ?_, by simpa using hz⟩
  rw [setCell_eq_setRow w b i c e fz v h]
  exact setRow_heap w b c _ e _ h
theorem RowF.chg {M : Nat → Prop} {w w' : World} {b B : Nat} {e : TypeId} {c : Array Value} (h : RowF w b e c) (hb : Chg M B w w') (hlt : b < B) (hm : ¬ M b) : RowF w' b e c := by
  unfold RowF; rw [hb.block b hlt hm]; exact h
/-- a text turned to bytes: a row of its own, hidden -/
theorem convF (l : List UInt8) (hl : l.length ≤ 100000000) : ∃ cf : World → Nat, ∃ rf : World → Array Value, ∃ mf : World → Nat × Nat,
    (∀ w, (convert 9 23 (.string ⟨l.toArray⟩)).run Tryz.prog w = .ok (.slice (some ⟨w.heap.size, 0, none⟩) l.length (cf w)) (w.drew.alloc (.cells (rf w) 5 (mf w)))) ∧
    (∀ w, (rf w).size ≤ (mf w).1 ∧ l.length ≤ cf w ∧ cf w ≤ maxLen ∧ ∃ pad, rf w = (bcells l ++ pad).toArray ∧ l.length + pad.length = cf w) := by
  have hsz : (⟨l.toArray⟩ : ByteArray).size = l.length := by simp [ByteArray.size]
  refine ⟨fun w => grownCap w l.length 0 5, fun w => bytesRow ⟨l.toArray⟩ (grownCap w l.length 0 5), fun w => ((bytesRow ⟨l.toArray⟩ (grownCap w l.length 0 5)).size, (bytesRow ⟨l.toArray⟩ (grownCap w l.length 0 5)).size + 1), fun w => ?_, fun w => ?_⟩
  · have := run_bytes_of_string (P := Tryz.prog) w 9 23 5 ⟨l.toArray⟩ Tryz.underlying9 Tryz.underlying23 Tryz.underlying5
    rw [hsz] at this
    exact this
  · have hg := grownCap_ge w l.length 0 5
    refine ⟨Nat.le_refl _, hg, grownCap_le_maxLen _ _ _ _ (by unfold maxLen; omega), (Array.replicate (grownCap w l.length 0 5 - l.length) (.int .u8 0)).toList, ?_, by simp; omega⟩
    apply Array.ext'
    simp [bytesRow, bcells, hsz]
/-- a row read -/
theorem RowF.reads {w : World} {g : Nat} {e : TypeId} {l : List UInt8} {pad : List Value} (h : RowF w g e (bcells l ++ pad).toArray) {N : Nat → Prop} (hN : N g) (cap : Nat) (h1 : l.length ≤ cap) (h2 : cap ≤ maxLen) : Reads w N (.slice (some ⟨g, 0, none⟩) l.length cap) l := by
  refine ⟨⟨_, cap, rfl, h1, h2, .inr ⟨_, _, rfl, hN⟩⟩, fun b off n c he j hj => ?_⟩
  injection he with e1 _ _; injection e1 with e1; injection e1 with e1 e2 _; subst e1 e2
  rw [Nat.zero_add]
  exact h.cell (by rw [List.getElem?_toArray, List.getElem?_append_left (by rw [bcells_length]; exact hj), bcells_get _ _ hj])
theorem chg_setCells (B b : Nat) (hb : B ≤ b) : ∀ (vs : List Value) (o : Nat) (w : World), Chg NoM B w (w.setCells b o vs)
  | [], _, w => .refl _ _ _
  | v :: r, o, w => (Chg.setCell (M := NoM) (.refl _ _ _) (.inl hb) v).trans (chg_setCells B b hb r (o + 1) _)
theorem zeroCells_one (z : Value) (k : Nat) : Builtin.zeroCells #[z] k = Array.replicate k z := by
  unfold Builtin.zeroCells
  apply Array.ext
  · simp
  · intro i h1 h2
    simp [Nat.mod_one]
theorem size_setCells (b : Nat) : ∀ (vs : List Value) (o : Nat) (w : World), (w.setCells b o vs).heap.size = w.heap.size
  | [], _, w => rfl
  | v :: r, o, w => by rw [World.setCells, size_setCells b r]; simp [World.setCell]
theorem run_appZ {P : Program} {w : World} {t tn ty e : TypeId} {kq kn : IntKind} {i : TypeInfo} (ht : P.underlying t = some (.slice e)) (htn : P.underlying tn = some (.int kn)) (hi : P.info? e = some i) (hz : i.zero = some (.int .u8 0)) (hs : i.size = 1) (hby : i.bytes = 1)
    {g cap k : Nat} {l : List UInt8} {pad : List Value} (hrow : RowF w g e (bcells l ++ pad).toArray) (hc : l.length + pad.length = cap) (hm : l.length + k ≤ 1000000) (hcm : cap ≤ maxLen) :
    ∃ v' w', (Builtin.append_ #[t, tn] ty #[.slice (some ⟨g, 0, none⟩) l.length cap, .int kq k]).run P w = .ok v' w' ∧ Reads w' (fun b => g ≤ b ∧ b < w'.heap.size) v' (l ++ List.replicate k 0) ∧ Below g w w' := by
  have hsize : (bcells l ++ pad).toArray.size = cap := by simp [bcells_length]; omega
  have hw : IntKind.i64.wrap (k : Int) = k := by rw [IntKind.wrap_i64]; omega
  have hneg : ¬ ((k : Int) < 0) := by omega
  have hlt := hrow.lt
  by_cases hfit : l.length + k ≤ cap
  · have hst := run_storeCells_cells (P := P) g l.length (List.replicate k (.int .u8 0)) 0 w
      (fun j hj => by
        have hj : j < k := by simpa using hj
        rw [hrow.cell (i := l.length + 0 + j) (Array.getElem?_eq_getElem (by omega))]; rfl)
      (fun j hj => by
        have hj : j < k := by simpa using hj
        exact hrow.frozen (by omega))
      (fun u hu => by rw [(List.mem_replicate.1 hu).2]; rfl)
    rw [Nat.add_zero] at hst
    have hch := chg_setCells g g (Nat.le_refl _) (List.replicate k (.int .u8 0)) l.length w
    have hsz := size_setCells g (List.replicate k (.int .u8 0)) l.length w
    refine ⟨.slice (some ⟨g, 0, none⟩) (l.length + k) cap, w.setCells g l.length (List.replicate k (.int .u8 0)), ?_, ?_, hch.below (fun _ _ h => h)⟩
    · have hadd : (⟨g, 0, none⟩ : Addr).add l.length = ⟨g, l.length, none⟩ := by rw [Addr.add_mid, Nat.zero_add]
      have h48 : ¬ (281474976710656 < (k : Int)) := by omega
      by_cases hk : k = 0
      · subst hk
        have hw0 : IntKind.i64.wrap 0 = 0 := by decide
        have hle : l.length ≤ cap := by omega
        simp [Builtin.append_, run_underlying ht, run_underlying htn, sizeOf, typeInfo, hi, hs, hby, asInt, asIntOf, hw0, hle, storeCells, World.setCells]
      · simp [Builtin.append_, run_underlying ht, run_underlying htn, sizeOf, typeInfo, zeroValue, hi, hz, hs, hby, asInt, asIntOf, hw, hneg, h48, hk, hfit, hadd, Value.cells, zeroCells_one, hst]
    · have hll : (l ++ List.replicate k (0 : UInt8)).length = l.length + k := by simp
      refine ⟨⟨_, cap, by rw [hll], by omega, hcm, .inr ⟨_, _, rfl, Nat.le_refl _, by omega⟩⟩, fun b off n c he j hj => ?_⟩
      injection he with e1 _ _; injection e1 with e1; injection e1 with e1 e2 _; subst e1 e2
      rw [Nat.zero_add]
      rw [hll] at hj
      by_cases hjl : j < l.length
      · rw [World.cell?_setCells_out _ _ _ _ _ (by simp; omega), List.getElem_append_left hjl]
        exact hrow.cell (by rw [List.getElem?_toArray, List.getElem?_append_left (by rw [bcells_length]; exact hjl), bcells_get _ _ hjl])
      · obtain ⟨m, rfl⟩ : ∃ m, j = l.length + m := ⟨j - l.length, by omega⟩
        have := World.cell?_setCells_in g (List.replicate k (Value.int .u8 0)) l.length w (fun i hi => by
          have hi : i < k := by simpa using hi
          rw [hrow.cell (i := l.length + i) (Array.getElem?_eq_getElem (by omega))]; rfl) m (by simp; omega)
        rw [this]
        simp
  · have hk : 0 < k := by omega
    have hold : (Builtin.firstCells i.size l.length (.slice (some ⟨g, 0, none⟩) l.length cap)).run P w.drew = .ok (bcells l).toArray w.drew := by
      rw [hs]
      have := run_loadCells_list (P := P) w.drew ⟨g, 0, none⟩ (bcells l) (fun j v hv => by
        rw [Addr.add_mid, Nat.zero_add]
        have hj : j < l.length := by
          have := (List.getElem?_eq_some_iff.1 hv).1
          rwa [bcells_length] at this
        show w.cell? _ = _
        exact hrow.cell (by rw [List.getElem?_toArray, List.getElem?_append_left (by rw [bcells_length]; exact hj), hv]))
      rw [bcells_length] at this
      simpa [Builtin.firstCells] using this
    have hgs := Lib.run_append_grow_zeros (P := P) w t tn ty e i (.int .u8 0) kq kn ht htn hi hz (some ⟨g, 0, none⟩) l.length cap (bcells l) hold k hk (by omega) (by omega) (by omega) (by rw [hby]; omega) (by
      rw [hby, Nat.mul_one]
      exact Nat.le_trans (nextslicecap_le (need := l.length + k) (old := cap) (by omega)) (by omega))
    have hge := grownCap_ge w (l.length + k) cap e
    have hle := grownCap_le_maxLen w (l.length + k) cap e (by unfold maxLen; omega)
    generalize grownCap w (l.length + k) cap e = nc at *
    refine ⟨_, _, hgs, ?_, ((Below.refl _ _).drew).alloc (by simp; omega) _⟩
    have hcell : (bcells l).toArray ++ Builtin.zeroCells (Value.int .u8 0).cells k ++ Builtin.zeroCells (Value.int .u8 0).cells (nc - (l.length + k)) = (bcells (l ++ List.replicate k 0) ++ List.replicate (nc - (l.length + k)) (Value.int .u8 0)).toArray := by
      simp only [Value.cells, zeroCells_one]
      apply Array.ext'
      simp [bcells]
    rw [hcell]
    have hll : (l ++ List.replicate k (0 : UInt8)).length = l.length + k := by simp
    refine ⟨⟨_, nc, by rw [hll], by omega, hle, .inr ⟨_, _, rfl, by omega, by simp⟩⟩, fun b off n c he j hj => ?_⟩
    injection he with e1 _ _; injection e1 with e1; injection e1 with e1 e2 _; subst e1 e2
    rw [Nat.zero_add]
    have hr : Row (w.drew.alloc (.cells (bcells (l ++ List.replicate k 0) ++ List.replicate (nc - (l.length + k)) (Value.int .u8 0)).toArray e)) w.heap.size e _ := Row.new w.drew e _
    exact hr.cell (by rw [List.getElem?_toArray, List.getElem?_append_left (by rw [bcells_length]; exact hj), bcells_get _ _ hj])
/-- ARM: append(v, make([]byte, k)...) -/
theorem arm_appZ {P : Program} {ops : Array Oper} {rest : List Oper} {a : Act} {w : World} {Q : Exit → Act → World → Prop} {t tn tp e : TypeId} {kq kn : IntKind} {i : TypeInfo} {dst : Option Tmp} {s x : Operand} {pos : String} {after : Array Edge} (ht : P.underlying t = some (.slice e)) (htn : P.underlying tn = some (.int kn)) (hi : P.info? e = some i) (hz : i.zero = some (.int .u8 0)) (hs : i.size = 1) (hby : i.bytes = 1)
    {g cap k : Nat} {l : List UInt8} {pad : List Value} (hrow : RowF w g e (bcells l ++ pad).toArray) (hc : l.length + pad.length = cap) (hm : l.length + k ≤ 1000000) (hcm : cap ≤ maxLen)
    (hv : a.eval s = .slice (some ⟨g, 0, none⟩) l.length cap) (hx : a.eval x = .int kq k)
    (h : ∀ v' w', Reads w' (fun b => g ≤ b ∧ b < w'.heap.size) v' (l ++ List.replicate k 0) → Below g w w' → wpList P ops Q rest (a.put dst v') w') :
    wpList P ops Q (⟨dst, .call ⟨.builtin .append, #[s, x], #[t, tn]⟩, tp, pos, after, none⟩ :: rest) a w := by
  obtain ⟨v', w', hrun, h1, h2⟩ := run_appZ (ty := tp) (kq := kq) ht htn hi hz hs hby hrow hc hm hcm
  refine wpList_plain rfl fun _ hK => ?_
  unfold Oper.wp execOp
  simp only [resolve, invoke, builtin, Sem.run_bind, Sem.run_pure, Result.andThen_ok, List.map_toArray, List.map_cons, List.map_nil, hv, hx, hrun]
  exact hK _ _ (h v' w' h1 h2)
end Go.Proofs.YtphgmkhbhboklaaGreatDoor
