/- PARTS OF ONE PROOF, set in one file: RList, RTexts, AttrEq, SpcF, Conv, Bytes, NodeSame, RefSame, Alike, AlikeO. Each part tells its own conditions. -/
import Derived.Shelf.Bytes.SlEqualAll
import Derived.Lib.SlBytesConst
import Derived.Lib.SmallJoins
import Derived.Test.YtphgmkhbhboklaaGreatDoorP1
import Derived.Test.YtphgmkhbhboklaaGreatDoorP2
import Derived.Test.YtphgmkhbhboklaaGreatDoorP4
import Derived.Test.YtphgmkhbhboklaaGreatDoorP6
import Derived.Test.YtphgmkhbhboklaaGreatDoorP7
import Derived.Test.YtphgmkhbhboklaaGreatDoorP8
import Derived.Test.YtphgmkhbhboklaaGreatDoorP10
/- portolanref18's tree: List. -/
namespace Go.Proofs.YtphgmkhbhboklaaGreatDoor
open Go.RowKit
/-- parts of a slice of single cells -/
theorem RdV.take1 {w : World} {N : Nat → Prop} {a : Option Addr} {n cap : Nat} {vs : List Value} (h : RdV w N 1 (.slice a n cap) n vs) (i : Nat) (hi : i ≤ n) : RdV w N 1 (.slice a i cap) i (vs.take i) := by
  obtain ⟨hl, ⟨a0, cap0, he0, g1, g2, g3⟩, hc⟩ := h
  injection he0 with e1 e2 e3
  subst e1 e3
  have hl' : (vs.take i).length = i * 1 := by rw [List.length_take]; omega
  refine ⟨hl', ⟨a, cap, rfl, by omega, g2, g3⟩, fun b off m c he1 j u hj => ?_⟩
  injection he1 with e1 e2 e3
  subst e1 e3
  refine hc b off _ _ rfl j u ?_
  have hlt := (List.getElem?_eq_some_iff.1 hj).1
  rw [List.getElem?_take_of_lt (by omega)] at hj
  exact hj
theorem slice_from1 {P : Program} {T e : TypeId} {z : Value} {bytes : Nat} (hT : SlTy P T e z bytes) (a : Option Addr) (n cap i : Nat) (k : IntKind) (hi : i ≤ n) (_hn : n ≤ cap) :
    ∃ a', (∀ w, (Instr.slice T (.slice a n cap) (some (.int k (i : Int))) none none).run P w = .ok (.slice a' (n - i) (cap - i)) w) ∧
      (∀ w N vs, RdV w N 1 (.slice a n cap) n vs → RdV w N 1 (.slice a' (n - i) (cap - i)) (n - i) (vs.drop i)) := by
  obtain ⟨inf, h1, h2, h3, h4⟩ := hT.i
  have he : P.elem T = e := by simp [Program.elem, hT.u]
  have hs : ∀ w, (sizeOf e).run P w = .ok 1 w := fun w => by simp [sizeOf, typeInfo, h1, h3]
  refine ⟨if cap = i then a else a.map (·.add i), fun w => ?_, fun w N vs hr => ?_⟩
  · rw [run_slice_l w T a n cap (by rw [he]; exact hT.u) k (i : Int) (by omega) (by omega), he, hs]
    simp [Result.andThen, sliced]
  · obtain ⟨hl, ⟨a0, cap0, he0, g1, g2, g3⟩, hc⟩ := hr
    injection he0 with e1 e2 e3
    subst e1 e3
    refine ⟨by rw [List.length_drop]; omega, ⟨_, _, rfl, by omega, by omega, ?_⟩, fun b off m c he1 j u hj => ?_⟩
    · rcases g3 with h0 | ⟨b, off, rfl, hN⟩
      · exact .inl (by omega)
      · refine .inr ?_
        by_cases hci : cap = i
        · rw [if_pos hci]; exact ⟨b, off, rfl, hN⟩
        · rw [if_neg hci]; exact ⟨b, off + i, by simp [Addr.add_mid], hN⟩
    · injection he1 with e1 e2 e3
      have hlt := (List.getElem?_eq_some_iff.1 hj).1
      rw [List.length_drop] at hlt
      rw [if_neg (by omega)] at e1
      rcases g3 with h0 | ⟨b', off', rfl, hN⟩
      · omega
      · simp only [Option.map_some, Addr.add_mid, Option.some.injEq] at e1
        injection e1 with e1 e4 _
        subst e1 e4
        rw [Nat.add_assoc]
        refine hc b' off' _ _ rfl _ u ?_
        rw [List.getElem?_drop] at hj
        exact hj
theorem slTyS : SlTy Tryz.prog 54 9 (.string ⟨#[]⟩) 16 := SlTy.mk' Tryz.underlying54 (by kernel_rfl) rfl
theorem Hp.snd {M : Nat → Prop} {w wr : World} {A B : As} (h : Hp M w wr [A, B]) : Hp M w wr [B] :=
  ⟨h.c, fun C hC => h.p C (by have := List.mem_singleton.1 hC; subst this; simp), fun i j C D hi hj b h1 h2 => by
    have e1 : i = 0 := by have := (List.getElem?_eq_some_iff.1 hi).1; simp at this; exact this
    have e2 : j = 0 := by have := (List.getElem?_eq_some_iff.1 hj).1; simp at this; exact this
    omega⟩
/-- a text, put where it belongs -/
theorem ins_sorted {l : List Tx} {x : Tx} {k : Nat} (hs : l.Pairwise (· ≤ ·)) (h1 : ∀ j, (hj : j < k) → (hl : j < l.length) → l[j] < x) (h2 : ∀ hl : k < l.length, ¬ l[k] < x) : (l.take k ++ [x] ++ l.drop k).Pairwise (· ≤ ·) ∧ (l.take k ++ [x] ++ l.drop k).Perm (l ++ [x]) := by
  refine ⟨?_, ?_⟩
  · rw [List.pairwise_append, List.pairwise_append]
    refine ⟨⟨hs.sublist (List.take_sublist _ _), List.pairwise_singleton _ _, fun a ha b hb => ?_⟩, hs.sublist (List.drop_sublist _ _), fun a ha b hb => ?_⟩
    · obtain rfl := List.mem_singleton.1 hb
      obtain ⟨j, hj, rfl⟩ := List.mem_iff_getElem.1 ha
      rw [List.length_take] at hj
      rw [List.getElem_take]
      exact List.le_of_lt (h1 j (by omega) (by omega))
    · obtain ⟨j, hj, rfl⟩ := List.mem_iff_getElem.1 hb
      rw [List.length_drop] at hj
      rw [List.getElem_drop]
      rcases List.mem_append.1 ha with ha | ha
      · obtain ⟨i, hi, rfl⟩ := List.mem_iff_getElem.1 ha
        rw [List.length_take] at hi
        rw [List.getElem_take]
        exact (List.pairwise_iff_getElem.1 hs) i (k + j) (by omega) (by omega) (by omega)
      · obtain rfl := List.mem_singleton.1 ha
        have hk := h2 (by omega)
        rcases Nat.eq_zero_or_pos j with rfl | h0
        · exact List.not_lt.1 hk
        · exact List.le_trans (List.not_lt.1 hk) ((List.pairwise_iff_getElem.1 hs) k (k + j) (by omega) (by omega) (by omega))
  · have : (l.take k ++ [x] ++ l.drop k).Perm (l.take k ++ l.drop k ++ [x]) := by
      rw [List.append_assoc, List.append_assoc]
      exact List.Perm.append_left _ List.perm_append_comm
    rw [List.take_append_drop] at this
    exact this
theorem sorted_ext {l m : List Tx} (h : l.Perm m) (hs : l.Pairwise (· ≤ ·)) : l = m.mergeSort (fun x y => decide (x ≤ y)) := by
  have h2 : (m.mergeSort (fun x y => decide (x ≤ y))).Pairwise (fun a b => decide (a ≤ b) = true) := List.pairwise_mergeSort (fun a b c h1 h2 => by simp only [decide_eq_true_eq] at *; exact List.le_trans h1 h2) (fun a b => by
    simp only [Bool.or_eq_true, decide_eq_true_eq]
    rcases tx_tri a b with h | h | h
    · exact .inl (List.le_of_lt h)
    · exact .inl (h ▸ List.le_refl _)
    · exact .inr (List.le_of_lt h)) m
  refine List.Perm.eq_of_pairwise (le := fun a b : Tx => a ≤ b) (fun a b _ _ h1 h2 => List.le_antisymm h1 h2) hs (h2.imp (fun h => by simpa using h)) (h.trans (List.mergeSort_perm _ _).symm)
theorem namesT_take {L : List Mb} {dir : Tx} {k : Nat} (hk : k < L.length) : namesT dir (L.take (k + 1)) = if parentP L[k].1 == dir then namesT dir (L.take k) ++ [baseP L[k].1] else namesT dir (L.take k) := by
  unfold namesT
  rw [List.take_succ_eq_append_getElem hk, List.filter_append, List.map_append]
  cases h : parentP L[k].1 == dir with
  | false => rw [List.filter_cons_of_neg (by simpa using h)]; simp
  | true => rw [List.filter_cons_of_pos (by simpa using h)]; simp
set_option maxHeartbeats 4000000 in
set_option maxRecDepth 100000 in
theorem rlist_any (R : Nat) (N : Nat → Prop) (v : Value) (l : List Mv) (w : World) (h : RefIn w R N v l) (hR : R < w.heap.size) (hN : ∀ b, N b → b < w.heap.size) (dir : Tx) (hl : l.length ≤ 100000) :
    Calls Tryz.prog 52 #[.pointer (some ⟨R, 0, none⟩), .string ⟨dir.toArray⟩] w fun e w' => (∃ v', e = .returned (.tuple #[v', .int .i64 (listT (l.map (·.1)) dir).2]) ∧ w'.ownsRow w.heap.size 9 1 v' (listT (l.map (·.1)) dir).1.length ((listT (l.map (·.1)) dir).1.map encStr)) ∧ Below w.heap.size w w' := by
  have HG := Keep.keep (rget_any R N v l w h hR hN dir)
  have HLT : Keep (listT (l.map (·.1)) dir = if (getT (l.map (·.1)) dir).2 = false then ([], 6) else if (getT (l.map (·.1)) dir).1.kind ≠ 1 then ([], 31) else ((namesT dir (l.map (·.1))).mergeSort (fun x y => decide (x ≤ y)), 0)) := ⟨rfl⟩
  generalize listT (l.map (·.1)) dir = res at *
  generalize getT (l.map (·.1)) dir = gt at *
  obtain ⟨⟨kind, mode, uid, gid, time, attrs, data, link⟩, is⟩ := gt
  simp only at HG HLT
  have HON : Keep (∀ wx, Below w.heap.size w wx → RefIn wx R N v l) := ⟨fun wx hb => h.below hb hR hN⟩
  have HSM := Keep.keep h.sm
  obtain ⟨a, cap, hv, hcap, hmx, h3⟩ := h.mbs.rd.shape
  have H3 := Keep.keep h3
  unfold maxLen at hmx
  clear h h3 hN
  subst hv
  go_enter Tryz.func52, Tryz.ntmps52
  go_upto_region 1 with fail
  go_wp2_with fail
  refine HG.out.mono ?_
  rintro e w1 ⟨av, dv, rfl, hnd, hb1⟩
  obtain ⟨aa, la, ca, ad, ld, cd, rfl, rfl⟩ := hnd.shape
  unfold ndC strV
  dsimp only
  have HB1 := Keep.keep hb1
  have hle : w.heap.size ≤ w1.heap.size := hb1.size
  clear hnd hb1 HG
  go_upto_region 2 with fail
  refine wp_world (R := fun w2 => Below w.heap.size w w2 ∧ Row w2 w1.heap.size 30 #[.int .i64 kind, .int .u32 mode, .int .u32 uid, .int .u32 gid, .int .i64 time, .slice aa la ca, .slice ad ld cd, .string ⟨link.toArray⟩]) ⟨HB1.out.alloc hle _, Row.new _ _ _⟩ ?_
  intro w2 H2
  obtain ⟨b6, hb6⟩ : ∃ b6, w1.heap.size = b6 := ⟨_, rfl⟩
  rw [hb6] at H2 ⊢
  clear hb6 hle
  have c0 := H2.out.2.cell (i := 0) rfl
  cases is with
  | false =>
    have HRE : Keep (res = ([], 6)) := ⟨HLT.out⟩
    go_wp2_with fail
    go_ret2
    rw [HRE.out]
    exact ⟨⟨_, rfl, World.ownsRow_nil _ _ _ _⟩, H2.out.1⟩
  | true =>
    by_cases hk1 : kind = 1
    rotate_left
    · have HRE : Keep (res = ([], 31)) := ⟨by rw [HLT.out]; simp [hk1]⟩
      have hbne : (kind != 1) = true := by simpa using hk1
      clear hk1
      go_wp2_with fail
      go_ret2
      rw [HRE.out]
      exact ⟨⟨_, rfl, World.ownsRow_nil _ _ _ _⟩, H2.out.1⟩
    · have HRE : Keep (res = ((namesT dir (l.map (·.1))).mergeSort (fun x y => decide (x ≤ y)), 0)) := ⟨by rw [HLT.out]; simp [hk1]⟩
      have hbne : (kind != 1) = false := by simpa using hk1
      clear hk1 HLT
      go_wp2_with fail
      clear c0 hbne
      go_loopg [8, 9, 10, 11, 12] l.length (fun g u8 u9 _ _ _ wx => ∃ (k : Nat) (acc : List Tx), k + g = l.length ∧ u9 = .int .i64 (k : Int) ∧ acc.Perm (namesT dir ((l.map (·.1)).take k)) ∧ acc.Pairwise (· ≤ ·) ∧ acc.length ≤ k ∧ Hp NoM w wx [slA w.heap.size 9 1 u8 acc.length (acc.map encStr)])
      case atStart => exact ⟨0, [], by omega, rfl, by simp [namesT], List.Pairwise.nil, by simp, ((Hp.begin NoM w).call H2.out.1).nilS _ _ _⟩
      case round =>
        obtain ⟨k, acc, hkg, rfl, hpm, hps, hal, HP⟩ := hrel
        have HH := Keep.keep HP; have HPM := Keep.keep hpm; have HPS := Keep.keep hps
        obtain ⟨a3, c3, rfl, hc31, hc32, hc33⟩ := (ownsV_reads (HP.sl 0 rfl)).shape
        have HC33 := Keep.keep hc33
        unfold maxLen at hc32
        have hR2 := HON.out wr HP.below
        have c0 := hR2.row.cell (i := 0) rfl
        clear HP hpm hps H2 hc33
        cases gk with
        | zero =>
          obtain rfl : k = l.length := by omega
          have hd : decide ((l.length : Int) < (l.length : Int)) = false := decide_eq_false (by omega)
          have HE : Keep (acc = res.1) := ⟨by
            have h := HPM.out
            rw [List.take_of_length_le (by rw [List.length_map]; omega)] at h
            rw [HRE.out]
            exact sorted_ext h HPS.out⟩
          clear hR2
          go_wp2_with fail
          go_ret2
          refine ⟨⟨_, by (rw [HRE.out]) <;> rfl, ?_⟩, HH.out.below⟩
          rw [← HE.out]
          exact HH.out.sl 0 rfl
        | succ g =>
          have hk : k < l.length := by omega
          have hkm : k < (l.map (·.1)).length := by rw [List.length_map]; exact hk
          have hd : decide ((k : Int) < (l.length : Int)) = true := decide_eq_true (by omega)
          obtain ⟨b, off, rfl, hbl⟩ : ∃ b off, a = some ⟨b, off, none⟩ ∧ N b := by
            rcases H3.out with h | ⟨b, off, h, hb⟩
            · omega
            · exact ⟨b, off, h, hb⟩
          have hc := hR2.mbs.cell hk 0 (by omega) (u := strV l[k].1.1) rfl
          have hsp := (HSM.out _ (List.getElem_mem hk)).p
          have HNT := Keep.keep (namesT_take (dir := dir) hkm)
          rw [show (l.map (·.1))[k] = l[k].1 by simp] at HNT
          generalize l[k].1.1 = xp at *
          unfold strV at hc
          rw [Nat.add_zero] at hc
          have HPA := Keep.keep (fun wx => rparent_any xp (by omega) wx)
          have HBA := Keep.keep (fun wx => rbase_any xp (by omega) wx)
          generalize baseP xp = x at *
          clear hsp hR2
          have hne : (parentP xp != dir) = !(parentP xp == dir) := rfl
          obtain ⟨pe, hpe⟩ : ∃ b, (parentP xp == dir) = b := ⟨_, rfl⟩
          rw [hpe] at hne HNT
          generalize parentP xp = pp at *
          cases pe with
          | false =>
            have HN2 : Keep (namesT dir ((l.map (·.1)).take (k + 1)) = namesT dir ((l.map (·.1)).take k)) := ⟨HNT.out⟩
            go_wp2_with fail
            refine (HPA.out _).mono ?_
            rintro e w3 ⟨rfl, rfl⟩
            go_wp2_with fail
            go_roundg g
            case measure => omega
            case rel => exact ⟨k + 1, acc, by omega, by simp, by rw [HN2.out]; exact HPM.out, HPS.out, by omega, HH.out⟩
          | true =>
            have HN2 : Keep (namesT dir ((l.map (·.1)).take (k + 1)) = namesT dir ((l.map (·.1)).take k) ++ [x]) := ⟨HNT.out⟩
            go_wp2_with fail
            refine (HPA.out _).mono ?_
            rintro e w3 ⟨rfl, rfl⟩
            go_wp2_with fail
            refine (HBA.out _).mono ?_
            rintro e w3 ⟨rfl, rfl⟩
            clear hc c0 HPA HBA hne
            go_wp2_with fail
            obtain ⟨an, han⟩ : ∃ an, acc.length = an := ⟨_, rfl⟩
            have HAN := Keep.keep han
            rw [han] at hc31 hal HH ⊢
            clear han
            generalize wr = wo at *
            go_loopg [11] an (fun g u11 wx => ∃ i : Nat, i + g = an ∧ u11 = .int .i64 (i : Int) ∧ (∀ j, (hj : j < i) → (hl : j < acc.length) → acc[j] < x) ∧ wo = wx)
            case atStart => exact ⟨0, by omega, rfl, fun j hj => by omega, rfl⟩
            case round =>
              obtain ⟨i, hig, rfl, hno, rfl⟩ := hrel
              have HNO := Keep.keep hno
              clear hno
              have HRD := Keep.keep (ownsV_reads (HH.out.sl 0 rfl))
              by_cases hgo : ∃ h : i < acc.length, acc[i] < x
              · obtain ⟨hia, hlt⟩ := hgo
                have hi : i < an := by have := HAN.out; omega
                obtain ⟨gj, rfl⟩ : ∃ gj, gk = gj + 1 := ⟨gk - 1, by omega⟩
                have hdi : decide ((i : Int) < (an : Int)) = true := decide_eq_true (by omega)
                obtain ⟨bo, oo, rfl⟩ : ∃ bo oo, a3 = some ⟨bo, oo, none⟩ := by
                  rcases HC33.out with h | ⟨b, off, h, -⟩
                  · omega
                  · exact ⟨b, off, h⟩
                have hci := HRD.out.cell bo oo _ _ rfl i (encStr acc[i]) (by rw [List.getElem?_map, List.getElem?_eq_getElem hia]; rfl)
                unfold encStr at hci
                have hls := less_lt acc[i] x
                rw [decide_eq_true hlt] at hls
                have HST : Keep (∀ j, (hj : j < i + 1) → (hl : j < acc.length) → acc[j] < x) := ⟨fun j hj hl => by
                  rcases Nat.lt_succ_iff_lt_or_eq.1 hj with h | rfl
                  · exact HNO.out j h hl
                  · exact hlt⟩
                clear hlt
                generalize acc[i] = y at *
                go_wp2_with fail
                go_roundg gj
                case measure => omega
                case rel => exact ⟨i + 1, by omega, by simp, HST.out, rfl⟩
              · have HX := Keep.keep (ins_sorted (k := i) (x := x) HPS.out HNO.out (fun hl h => hgo ⟨hl, h⟩))
                have HSTOP : Keep (∀ hl : i < acc.length, Op.bytesLess acc[i] x = false) := ⟨fun hl => by
                  rw [less_lt]; exact decide_eq_false (fun h => hgo ⟨hl, h⟩)⟩
                have HC : Keep (∀ hl : i < acc.length, ∃ bo oo, a3 = some ⟨bo, oo, none⟩ ∧ wo.cell? ⟨bo, oo + i, none⟩ = some (.string ⟨acc[i].toArray⟩)) := ⟨fun hl => by
                  rcases HC33.out with h | ⟨b, off, rfl, -⟩
                  · have := HAN.out; omega
                  · exact ⟨b, off, rfl, HRD.out.cell b off _ _ rfl i (encStr acc[i]) (by rw [List.getElem?_map, List.getElem?_eq_getElem hl]; rfl)⟩⟩
                have hian : i ≤ an := by omega
                clear hgo HNO
                have HRD1 := Keep.keep (HRD.out.take1 i hian)
                have hsl1 := fun wx => slice_to slTyS a3 an c3 i .i64 (by omega) wx
                obtain ⟨a6, hsl2, hrd2⟩ := slice_from1 slTyS a3 an c3 i .i64 hian hc31
                have HRF := Keep.keep hrd2
                clear hrd2 HRD
                have HEND : Keep (∀ wy v5, Hp NoM w wy [slA w.heap.size 9 1 (.slice a3 an c3) an (acc.map encStr), slA w.heap.size 9 1 v5 (i + 1 + (an - i)) ((acc.map encStr).take i ++ [encStr x] ++ (acc.map encStr).drop i)] →
                    ∃ acc2 : List Tx, acc2.Perm (namesT dir ((l.map (·.1)).take (k + 1))) ∧ acc2.Pairwise (· ≤ ·) ∧ acc2.length ≤ k + 1 ∧ acc2.length = i + 1 + (an - i) ∧ Hp NoM w wy [slA w.heap.size 9 1 v5 acc2.length (acc2.map encStr)]) := ⟨fun wy v5 h5 => by
                  have hl2 : (acc.take i ++ [x] ++ acc.drop i).length = i + 1 + (an - i) := by
                    have := HAN.out
                    simp; omega
                  refine ⟨acc.take i ++ [x] ++ acc.drop i, ?_, HX.out.1, by rw [hl2]; omega, hl2, ?_⟩
                  · rw [HN2.out]
                    exact HX.out.2.trans (List.Perm.append_right _ HPM.out)
                  · rw [hl2]
                    have := h5.snd
                    simpa [List.map_take, List.map_drop] using this⟩
                have HH0 := Keep.keep (HH.out.nilS w.heap.size 9 1)
                by_cases hi : i < an
                focus
                  have hdi : decide ((i : Int) < (an : Int)) = true := decide_eq_true (by omega)
                  have hia : i < acc.length := by have := HAN.out; omega
                  obtain ⟨bo, oo, e3, hci⟩ := HC.out hia
                  have hls := HSTOP.out hia
                  generalize acc[i] = y at *
                  subst e3
                  clear HC HSTOP HX
                  go_wp2_with (with_reducible refine arm_stop ?_)
                  clear hci hls
                rotate_left
                focus
                  have hdi : decide ((i : Int) < (an : Int)) = false := decide_eq_false (by omega)
                  clear HC HSTOP HX
                  go_wp2_with (with_reducible refine arm_stop ?_)
                all_goals
                  refine Stopped.out ?_
                  have hlti : ((acc.map encStr).take i).length = i := by have := HAN.out; rw [List.length_take, List.length_map]; omega
                  refine arm_appendV slStr (m := i) (HH0.out.sl 1 rfl) HRD1.out (fun u hu => by
                    have := List.mem_of_mem_take hu
                    obtain ⟨y, -, rfl⟩ := List.mem_map.1 this; rfl) (by unfold maxLen; omega) (by omega) HH0.out.size rfl rfl ?_
                  intro v4 w4 ho hg hov _
                  rw [Nat.zero_add, List.nil_append] at ho
                  have H4 := Keep.keep (HH0.out.grow 1 rfl hg ho hov)
                  obtain ⟨a7, c7, rfl, -⟩ := (ownsV_reads ho).shape
                  clear ho hg hov hsl1 HRD1
                  simp only [Act.put, List.setIfInBounds_toArray, List.set_cons_succ, List.set_cons_zero]
                  go_wp2_with (with_reducible refine arm_stop ?_)
                  refine Stopped.out ?_
                  refine arm_appendV slStr ((H4.out.alloc _).sl 1 rfl) (RdV.new (N := fun _ => True) 9 [encStr x] 1 1 _ rfl rfl (by unfold maxLen; omega) trivial) (by simp [encStr, Value.oneCell']) (by unfold maxLen; omega) (by omega) (H4.out.alloc _).size rfl rfl ?_
                  intro v5 w5 ho hg hov _
                  have H5 := Keep.keep ((H4.out.alloc _).grow 1 rfl hg ho hov)
                  obtain ⟨a8, c8, rfl, -⟩ := (ownsV_reads ho).shape
                  clear ho hg hov H4
                  simp only [Act.put, List.setIfInBounds_toArray, List.set_cons_succ, List.set_cons_zero]
                  have HRD5 := Keep.keep (HRF.out _ _ _ (ownsV_reads (H5.out.sl 0 rfl)))
                  go_wp2_with (with_reducible refine arm_stop ?_)
                  refine Stopped.out ?_
                  refine arm_appendV slStr (m := an - i) (H5.out.sl 1 rfl) HRD5.out (fun u hu => by
                    have := List.mem_of_mem_drop hu
                    obtain ⟨y, -, rfl⟩ := List.mem_map.1 this; rfl) (by unfold maxLen; omega) (by omega) H5.out.size rfl rfl ?_
                  intro v6 w6 ho hg hov _
                  have H6 := Keep.keep (HEND.out _ _ (H5.out.grow 1 rfl hg ho hov))
                  obtain ⟨a9, c9, rfl, -⟩ := (ownsV_reads ho).shape
                  clear ho hg hov H5 HRD5 hsl2
                  simp only [Act.put, List.setIfInBounds_toArray, List.set_cons_succ, List.set_cons_zero]
                  obtain ⟨acc2, h1, h2, h3, h4, h5⟩ := H6.out
                  have HA1 := Keep.keep h1; have HA2 := Keep.keep h2; have HA5 := Keep.keep h5
                  clear h1 h2 h5 H6 HEND
                  go_wp2_with fail
                  go_roundg g
                  case measure => omega
                  case rel => exact ⟨k + 1, acc2, by omega, by simp, HA1.out, HA2.out, h3, HA5.out⟩
end Go.Proofs.YtphgmkhbhboklaaGreatDoor
/- portolanlaw18.texts: two rows of texts, side by side. -/
namespace Go.Proofs.YtphgmkhbhboklaaGreatDoor
open Go.RowKit
set_option maxHeartbeats 1000000 in
set_option maxRecDepth 100000 in
theorem texts_any (v1 v2 : Value) (l1 l2 : List Tx) (w : World) (h1 : RdV w (· < w.heap.size) 1 v1 l1.length (l1.map encStr)) (h2 : RdV w (· < w.heap.size) 1 v2 l2.length (l2.map encStr)) :
    Calls Tryz.prog 29 #[v1, v2] w fun e w' => e = .returned (.bool (decide (l1 = l2))) ∧ Below w.heap.size w w' := by
  obtain ⟨a1, c1, rfl, g1, m1, s1⟩ := h1.shape
  obtain ⟨a2, c2, rfl, g2, m2, s2⟩ := h2.shape
  have H1 := Keep.keep h1; have H2 := Keep.keep h2; have S1 := Keep.keep s1; have S2 := Keep.keep s2
  unfold maxLen at m1 m2
  clear h1 h2 s1 s2
  by_cases hl : l1.length = l2.length
  · have hne : ((l1.length : Int) != (l2.length : Int)) = false := by simp [hl]
    have HL := Keep.keep hl
    clear hl
    go_enter Tryz.func29, Tryz.ntmps29
    go_wp2_with fail
    go_loopg [5] l1.length (fun g u5 wx => ∃ k n : Nat, k + g = l1.length ∧ u5 = .int .i64 (k : Int) ∧ l1.take k = l2.take k ∧ wx = w.drewN n)
    case atStart => exact ⟨0, 0, by omega, rfl, rfl, rfl⟩
    case round =>
      obtain ⟨k, nd, hkg, rfl, heq, rfl⟩ := hrel
      have HT := Keep.keep heq
      clear heq
      cases gk with
      | zero =>
        obtain rfl : k = l1.length := by omega
        have HE : Keep (decide (l1 = l2) = true) := ⟨decide_eq_true (by
          have h := HT.out
          rw [List.take_length, List.take_of_length_le (by rw [← HL.out]; exact Nat.le_refl _)] at h
          exact h)⟩
        go_wp2_with fail
        go_ret
        exact ⟨by (rw [HE.out]) <;> rfl, below_drewN' (Below.refl _ _) _⟩
      | succ g =>
        have hk1 : k < l1.length := by omega
        have hk2 : k < l2.length := by have := HL.out; omega
        have hd : decide ((k : Int) < (l1.length : Int)) = true := decide_eq_true (by omega)
        obtain ⟨p1, o1, rfl⟩ : ∃ b off, a1 = some ⟨b, off, none⟩ := by
          rcases S1.out with h | ⟨b, off, h, -⟩
          · omega
          · exact ⟨b, off, h⟩
        obtain ⟨p2, o2, rfl⟩ : ∃ b off, a2 = some ⟨b, off, none⟩ := by
          rcases S2.out with h | ⟨b, off, h, -⟩
          · omega
          · exact ⟨b, off, h⟩
        have z1 := H1.out.cell p1 o1 _ _ rfl k (encStr l1[k]) (by rw [List.getElem?_map, List.getElem?_eq_getElem hk1]; rfl)
        have z2 := H2.out.cell p2 o2 _ _ rfl k (encStr l2[k]) (by rw [List.getElem?_map, List.getElem?_eq_getElem hk2]; rfl)
        unfold encStr at z1 z2
        have HST : Keep (l1[k] = l2[k] → l1.take (k + 1) = l2.take (k + 1)) := ⟨fun e => by rw [List.take_succ_eq_append_getElem hk1, List.take_succ_eq_append_getElem hk2, HT.out, e]⟩
        have HNE : Keep (l1[k] ≠ l2[k] → decide (l1 = l2) = false) := ⟨fun e => decide_eq_false (fun h => e (by simp only [h]))⟩
        generalize l1[k] = x at *
        generalize l2[k] = y at *
        by_cases e : x = y
        · have HE2 := Keep.keep (HST.out e)
          have hb : (x == y) = true := by simpa using e
          have hbn : (!(x == y)) = false := by simp [e]
          clear e HST HNE
          go_upto_region 6 with fail
          (refine wp_region_quiet_lit (by kernel_rfl) (by kernel_rfl) ?_); (repeat (first | (fail) | go_big_quiet_step (fail))); (refine wpQuiet_nil ?_); (intro _ hwq); (obtain ⟨nq, hwq⟩ := hwq); (subst hwq)
          go_wp2_with fail
          go_roundg g
          case measure => omega
          case rel => exact ⟨k + 1, nd + nq, by omega, by simp, HE2.out, rfl⟩
        · have HE2 := Keep.keep (HNE.out e)
          have hb : (x == y) = false := by simpa using e
          have hbn : (!(x == y)) = true := by simp [e]
          clear e HST HNE
          go_upto_region 6 with fail
          (refine wp_region_quiet_lit (by kernel_rfl) (by kernel_rfl) ?_); (repeat (first | (fail) | go_big_quiet_step (fail))); (refine wpQuiet_nil ?_); (intro _ hwq); (obtain ⟨nq, hwq⟩ := hwq); (subst hwq)
          go_wp2_with fail
          go_ret
          exact ⟨by (rw [HE2.out]) <;> rfl, below_drewN' (below_drewN' (Below.refl _ _) _) _⟩
  · have hne : ((l1.length : Int) != (l2.length : Int)) = true := by simp; omega
    have HE : Keep (decide (l1 = l2) = false) := ⟨decide_eq_false (fun h => hl (by rw [h]))⟩
    clear hl
    go_enter Tryz.func29, Tryz.ntmps29
    go_wp2_with fail
    go_ret
    exact ⟨by (rw [HE.out]) <;> rfl, Below.refl _ _⟩
end Go.Proofs.YtphgmkhbhboklaaGreatDoor
/- slices.Equal OVER ATTRIBUTES; two attributes set side by side. -/
namespace Go.Proofs.YtphgmkhbhboklaaGreatDoor
open Go.RowKit
set_option maxRecDepth 100000 in
theorem neq_attr (x y : R2) (w : World) : (binOp .neq 85 (.agg #[.string ⟨x.1.toArray⟩, .string ⟨x.2.toArray⟩]) (.agg #[.string ⟨y.1.toArray⟩, .string ⟨y.2.toArray⟩])).run Tryz.prog w = .ok (.bool (!decide (x = y))) w := by
  obtain ⟨k, v⟩ := x
  obtain ⟨l, u⟩ := y
  have h := run_equalIn_struct (P := Tryz.prog) w 9999 85 #[.string ⟨k.toArray⟩, .string ⟨v.toArray⟩] #[.string ⟨l.toArray⟩, .string ⟨u.toArray⟩] (by kernel_rfl) (by kernel_rfl)
  have p0 := run_part_one (P := Tryz.prog) (e := 9) Tryz.underlying9 rfl #[.string ⟨k.toArray⟩, .string ⟨v.toArray⟩] 0 (.string ⟨k.toArray⟩) rfl
  have p1 := run_part_one (P := Tryz.prog) (e := 9) Tryz.underlying9 rfl #[.string ⟨k.toArray⟩, .string ⟨v.toArray⟩] 1 (.string ⟨v.toArray⟩) rfl
  have q0 := run_part_one (P := Tryz.prog) (e := 9) Tryz.underlying9 rfl #[.string ⟨l.toArray⟩, .string ⟨u.toArray⟩] 0 (.string ⟨l.toArray⟩) rfl
  have q1 := run_part_one (P := Tryz.prog) (e := 9) Tryz.underlying9 rfl #[.string ⟨l.toArray⟩, .string ⟨u.toArray⟩] 1 (.string ⟨u.toArray⟩) rfl
  simp only [Program.fieldsOf, Tryz.underlying85] at h
  rw [run_neq_struct]
  have e2 : ∀ (l m : List UInt8) (d : Nat) (w : World), (Op.equalIn (d + 1) 9 (.string ⟨l.toArray⟩) (.string ⟨m.toArray⟩)).run Tryz.prog w = .ok (l == m) w := fun l m d w => by
    rw [run_equalIn_string w d 9 _ _ Tryz.underlying9]
    congr 1
    rw [Bool.eq_iff_iff]
    simp
  have h2 : (Op.equalIn 10000 85 (.agg #[.string ⟨k.toArray⟩, .string ⟨v.toArray⟩]) (.agg #[.string ⟨l.toArray⟩, .string ⟨u.toArray⟩])).run Tryz.prog w = .ok (decide ((k, v) = (l, u))) w := by
    refine h.trans ?_
    by_cases e1 : k = l
    · by_cases e3 : v = u
      · subst e1 e3; simp [Op.eqFields, p0, p1, e2]
      · subst e1; simp [Op.eqFields, p0, p1, q0, q1, e2, e3]
    · simp [Op.eqFields, p0, q0, e2, e1]
  rw [h2]; rfl
set_option maxHeartbeats 1000000 in
set_option maxRecDepth 100000 in
theorem aequal_any (v1 v2 : Value) (l1 l2 : List R2) (w : World) (h1 : RdV w (· < w.heap.size) 2 v1 l1.length (rcells l1)) (h2 : RdV w (· < w.heap.size) 2 v2 l2.length (rcells l2)) :
    Calls Tryz.prog 65 #[v1, v2] w fun e w' => e = .returned (.bool (decide (l1 = l2))) ∧ Below w.heap.size w w' := by
  obtain ⟨a1, c1, rfl, hc1, hm1, g1⟩ := h1.shape
  obtain ⟨a2, c2, rfl, hc2, hm2, g2⟩ := h2.shape
  unfold maxLen at hm1 hm2
  have H1 := Keep.keep h1; have H2 := Keep.keep h2; have G1 := Keep.keep g1; have G2 := Keep.keep g2
  clear h1 h2 g1 g2
  by_cases hl : l1.length = l2.length
  · have HL := Keep.keep hl
    rw [← hl] at H2 hc2 ⊢
    clear hl
    obtain ⟨n, hn⟩ : ∃ n, l1.length = n := ⟨_, rfl⟩
    have HN := Keep.keep hn
    rw [hn] at H1 H2 hc1 hc2 HL ⊢
    clear hn
    go_enter Tryz.func65, Tryz.ntmps65
    go_wp2_with fail
    go_loopg [5, 13] n (fun g _ u13 wx => ∃ (k : Nat), k + g = n ∧ u13 = .int .i64 (k : Int) ∧ l1.take k = l2.take k ∧ Below w.heap.size w wx)
    case atStart => exact ⟨0, by omega, rfl, rfl, Below.refl _ _⟩
    case round =>
      obtain ⟨k, hkg, rfl, heq, hb⟩ := hrel
      have HEQ := Keep.keep heq; have HB := Keep.keep hb
      clear heq hb
      cases gk with
      | zero =>
        obtain rfl : k = n := by omega
        have HF : Keep (decide (l1 = l2) = true) := ⟨by
          have h := HEQ.out
          rw [List.take_of_length_le (by rw [HN.out]; exact Nat.le_refl _), List.take_of_length_le (by rw [← HL.out]; exact Nat.le_refl _)] at h
          exact decide_eq_true h⟩
        go_wp2_with fail
        go_ret
        exact ⟨by rw [HF.out]; rfl, HB.out⟩
      | succ g =>
        have hk : k < n := by omega
        have hk1 : k < l1.length := by rw [HN.out]; exact hk
        have hk2 : k < l2.length := by rw [← HL.out]; exact hk
        have hd : decide ((k : Int) < (n : Int)) = true := decide_eq_true (by omega)
        obtain ⟨b1, o1, rfl, hb1⟩ : ∃ b off, a1 = some ⟨b, off, none⟩ ∧ b < w.heap.size := by
          rcases G1.out with h | ⟨b, off, h, hb⟩
          · omega
          · exact ⟨b, off, h, hb⟩
        obtain ⟨b2, o2, rfl, hb2⟩ : ∃ b off, a2 = some ⟨b, off, none⟩ ∧ b < w.heap.size := by
          rcases G2.out with h | ⟨b, off, h, hb⟩
          · omega
          · exact ⟨b, off, h, hb⟩
        have hr1 := H1.out.below HB.out (fun b hb => hb)
        have hr2 := H2.out.below HB.out (fun b hb => hb)
        obtain ⟨s1, s2⟩ := rcells_get l1 k hk1
        obtain ⟨t1, t2⟩ := rcells_get l2 k hk2
        have x1 := hr1.cell b1 o1 _ _ rfl _ _ s1
        have x2 := hr1.cell b1 o1 _ _ rfl _ _ s2
        have y1 := hr2.cell b2 o2 _ _ rfl _ _ t1
        have y2 := hr2.cell b2 o2 _ _ rfl _ _ t2
        rw [← Nat.add_assoc] at x2 y2
        have HST : Keep (l1[k] = l2[k] → l1.take (k + 1) = l2.take (k + 1)) := ⟨fun e => by rw [List.take_succ_eq_append_getElem hk1, List.take_succ_eq_append_getElem hk2, HEQ.out, e]⟩
        have HNE : Keep (l1[k] ≠ l2[k] → decide (l1 = l2) = false) := ⟨fun e => decide_eq_false (fun h => e (by simp only [h]))⟩
        clear hr1 hr2 s1 s2 t1 t2
        generalize l1[k] = p at *
        generalize l2[k] = q at *
        have hneq := neq_attr p q
        unfold strV at x1 x2 y1 y2
        obtain ⟨pk, pv⟩ := p
        obtain ⟨qk, qv⟩ := q
        dsimp only at x1 x2 y1 y2 hneq
        by_cases e : ((pk, pv) : R2) = (qk, qv)
        · have HE := Keep.keep (HST.out e)
          rw [decide_eq_true e] at hneq
          clear e HST HNE
          go_upto_region 6 with fail
          (refine wp_region_quiet_lit (by kernel_rfl) (by kernel_rfl) ?_); (repeat (first | (fail) | go_big_quiet_step (fail))); (refine wpQuiet_nil ?_); (intro _ hwq); (obtain ⟨nq, hwq⟩ := hwq); (subst hwq)
          go_wp2_with fail
          go_roundg g
          case measure => omega
          case rel => exact ⟨k + 1, by omega, by simp, HE.out, below_drewN' HB.out _⟩
        · have HE := Keep.keep (HNE.out e)
          rw [decide_eq_false e] at hneq
          clear e HST HNE
          go_upto_region 6 with fail
          (refine wp_region_quiet_lit (by kernel_rfl) (by kernel_rfl) ?_); (repeat (first | (fail) | go_big_quiet_step (fail))); (refine wpQuiet_nil ?_); (intro _ hwq); (obtain ⟨nq, hwq⟩ := hwq); (subst hwq)
          go_wp2_with fail
          go_ret
          exact ⟨by rw [HE.out]; rfl, below_drewN' HB.out _⟩
  · have HE : Keep (decide (l1 = l2) = false) := ⟨decide_eq_false (fun e => hl (by rw [e]))⟩
    have hd : ((l1.length : Int) != (l2.length : Int)) = true := by simp; omega
    clear hl
    go_enter Tryz.func65, Tryz.ntmps65
    go_wp2_with fail
    go_ret
    exact ⟨by rw [HE.out]; rfl, Below.refl _ _⟩
end Go.Proofs.YtphgmkhbhboklaaGreatDoor
/- A REGION THAT DRAWS ITS ORDER, one fact an operation, each of all slots and of the memory; stores into boxes that the region itself makes. -/
namespace Go.Proofs.YtphgmkhbhboklaaGreatDoor
open Go.RowKit
theorem wp_region_spcF {P : Program} {ops : Array Oper} {id : Nat} {Q : Exit → Act → World → Prop} {a : Act} {w : World} (D : List (Option Nat)) (C : (Nat → Value) → World → Prop) (T : Nat → (Nat → Value) → World → Prop) (hm : P.follows .mixedOrders = true)
    (hD : ops.toList.map (·.dst) = D) (hB : inOrderB ops = true) (h0 : C (slot a) w.drew)
    (hs : ∀ i, i < ops.size → ∀ a1 w1, Fr a (D.filterMap (·)) a1 → C (slot a1) w1 → (∀ j, Region.waitsFor .any ops i j = true → T j (slot a1) w1) →
      wpOp P ops Q i (fun a2 w2 => ∃ v, a2 = a1.put (D.getD i none) v ∧ C (slot a2) w2 ∧ T i (slot a2) w2 ∧ ∀ j, j ≠ i → Region.waitsFor .any ops j i = false → T j (slot a1) w1 → T j (slot a2) w2) a1 w1)
    (he : ∀ a1 w1, a1 = (D.filterMap (·)).foldl (fun b d => b.put (some d) (slot a1 d)) a → C (slot a1) w1 → (∀ j, j < ops.size → T j (slot a1) w1) → Q .normal a1 w1) : (Code.region id ops true).wp P Q a w := by
  have hlen : D.length = ops.size := by rw [← hD]; simp
  have hget : ∀ i, i < ops.size → D.getD i none ∈ D := fun i hi => by
    rw [List.getD_eq_getElem?_getD, List.getElem?_eq_getElem (by omega)]
    exact List.getElem_mem _
  refine wp_region_fr (D.filterMap (·)) (fun done s w1 => C s w1 ∧ ∀ j, j < ops.size → done.getD j false = true → T j s w1) hm ⟨h0, fun j hj hd => ?_⟩ ?_ ?_
  · simp [Array.getD_eq_getD_getElem?, hj] at hd
  · intro done a1 w1 hF hI hz hcl i hi
    have hlt := ready_lt hi
    refine wpOp_mono ?_ (hs i hlt a1 w1 hF hI.1 (fun j hj => ?_))
    · rintro a2 w2 ⟨v, rfl, hC2, hT, hst⟩
      have hFr : Fr a (D.filterMap (·)) (a1.put (D.getD i none) v) := by
        cases hd : D.getD i none with
        | none => exact hF
        | some d =>
          refine hF.put d ?_ v
          rw [List.mem_filterMap]
          exact ⟨some d, hd ▸ hget i hlt, rfl⟩
      refine ⟨hFr, hC2, fun j hj hd => ?_⟩
      by_cases e : i = j
      · subst e; exact hT
      · have hd' := (getD_set_iff hd).resolve_left e
        refine hst j (Ne.symm e) ?_ (hI.2 j hj hd')
        rw [Bool.eq_false_iff]
        intro hw
        obtain ⟨ed, he1, he2, he3⟩ := waits_of (Array.getElem?_eq_getElem hj) hw
        have := hcl j _ (Array.getElem?_eq_getElem hj) hd' ed he1 he2
        rw [he3] at this
        have hr := (ready_at hi (Array.getElem?_eq_getElem hlt)).1
        rw [getD_both hr] at this; cases this
    · obtain ⟨e, he1, he2, he3⟩ := waits_of (Array.getElem?_eq_getElem hlt) hj
      have hdn := (ready_at hi (Array.getElem?_eq_getElem hlt)).2 e he1 he2
      rw [he3] at hdn
      have hjlt : j < ops.size := by
        rcases Nat.lt_or_ge j done.size with h | h
        · omega
        · simp [Array.getD_eq_getD_getElem?, Array.getElem?_eq_none h] at hdn
      exact hI.2 j hjlt hdn
  · intro done a1 w1 ha hI hz hr
    exact he a1 w1 ha hI.1 (fun j hj => hI.2 j hj (all_done hB hz hr j hj))
section
variable {P : Program} {ops : Array Oper} {Q : Exit → Act → World → Prop} {C : (Nat → Value) → World → Prop} {T : Nat → (Nat → Value) → World → Prop} {i d : Nat} {a1 : Act} {w1 w2 : World} {op : Op} {tp : TypeId} {pos : String} {af : Array Edge} {g : Option (Nat × Bool)} {v : Value}
theorem spcF_val (hi : ops[i]? = some ⟨some d, op, tp, pos, af, g⟩) (hg : Region.wanted (⟨some d, op, tp, pos, af, g⟩ : Oper) (yielded ops a1.tmps) = true)
    (hr : (execOp a1.eval (⟨some d, op, tp, pos, af, g⟩ : Oper)).run P w1 = .ok (.value v) w2) (hd : d < a1.tmps.size)
    (h : ∀ s : Nat → Value, s d = v → (∀ j, j ≠ d → s j = slot a1 j) → C s w2 ∧ T i s w2 ∧ ∀ j, j ≠ i → Region.waitsFor .any ops j i = false → T j (slot a1) w1 → T j s w2) :
    wpOp P ops Q i (fun a2 w2 => ∃ v, a2 = a1.put (some d) v ∧ C (slot a2) w2 ∧ T i (slot a2) w2 ∧ ∀ j, j ≠ i → Region.waitsFor .any ops j i = false → T j (slot a1) w1 → T j (slot a2) w2) a1 w1 := by
  unfold wpOp
  rw [hi]
  simp only
  rw [if_pos hg]
  refine .inl ?_
  unfold Oper.wp
  rw [hr]
  exact ⟨v, rfl, h _ (slot_put_same _ _ _ hd) (fun j hj => slot_put_ne _ _ _ _ (Ne.symm hj))⟩
theorem spcF_skip (hi : ops[i]? = some ⟨none, op, tp, pos, af, g⟩) (hg : Region.wanted (⟨none, op, tp, pos, af, g⟩ : Oper) (yielded ops a1.tmps) = true)
    (hr : (execOp a1.eval (⟨none, op, tp, pos, af, g⟩ : Oper)).run P w1 = .ok .skip w2)
    (h : C (slot a1) w2 ∧ T i (slot a1) w2 ∧ ∀ j, j ≠ i → Region.waitsFor .any ops j i = false → T j (slot a1) w1 → T j (slot a1) w2) :
    wpOp P ops Q i (fun a2 w2 => ∃ v, a2 = a1.put none v ∧ C (slot a2) w2 ∧ T i (slot a2) w2 ∧ ∀ j, j ≠ i → Region.waitsFor .any ops j i = false → T j (slot a1) w1 → T j (slot a2) w2) a1 w1 := by
  unfold wpOp
  rw [hi]
  simp only
  rw [if_pos hg]
  refine .inl ?_
  unfold Oper.wp
  rw [hr]
  exact ⟨undef, rfl, h⟩
end
end Go.Proofs.YtphgmkhbhboklaaGreatDoor
/- string(b) of what reads as bytes; []byte of a text that is written out. -/
namespace Go.Proofs.YtphgmkhbhboklaaGreatDoor
open Go.RowKit
def ints (l : List UInt8) : List Int := l.map fun c => (c.toNat : Int)
theorem ints_length (l : List UInt8) : (ints l).length = l.length := by simp [ints]
theorem bytesOf_ints (l : List UInt8) : Lib.bytesOf (ints l) = l := by simp [Lib.bytesOf, ints, Function.comp_def]
theorem ints_cells (l : List UInt8) : (ints l).map (Value.int .u8) = bcells l := by simp [ints, bcells, Function.comp_def]
theorem Reads.bytesIn {w : World} {N : Nat → Prop} {p : Option Addr} {n c : Nat} {l : List UInt8} (h : Reads w N (.slice p n c) l) : n = l.length ∧ Lib.BytesIn w p n (ints l) := by
  obtain ⟨⟨a, cap, he, h1, h2, h3⟩, hc⟩ := h
  injection he with e1 e2 e3; subst e1 e2 e3
  refine ⟨rfl, fun hn => ?_⟩
  rcases h3 with h3 | ⟨b, off, rfl, _⟩
  · omega
  · refine ⟨b, off, rfl, fun i hi => ?_⟩
    rw [hc b off _ _ rfl i hi]
    simp [ints, List.getD_eq_getElem?_getD, hi]
theorem run_string_of {w : World} {N : Nat → Prop} {v : Value} {l : List UInt8} (h : Reads w N v l) : (convert 23 9 v).run Tryz.prog w = .ok (.string ⟨l.toArray⟩) w := by
  obtain ⟨a, cap, hu, _⟩ := h.shape
  subst hu
  have := Lib.BytesIn.convert h.bytesIn.2 (ints_length l) cap 23 5 9 Tryz.underlying23 Tryz.underlying5 Tryz.underlying9
  rw [this]
  rw [show strOfNums (ints l) = ⟨l.toArray⟩ by simp [strOfNums, ints, Function.comp_def]]
/-- []byte of a text that is written out: the row that the walk leaves -/
theorem Reads.lit {w : World} (e : TypeId) (c : Array Value) (l : List UInt8) (fr : Nat × Nat) (g n : Nat) (hg : g = w.heap.size) (hc : c = (bcells l).toArray) (hn : n = l.length) (hm : l.length ≤ maxLen) : Reads (w.alloc (.cells c e fr)) (fun b => b = w.heap.size) (.slice (some ⟨g, 0, none⟩) n n) l := by
  subst hg hc hn
  refine ⟨⟨_, _, rfl, Nat.le_refl _, hm, .inr ⟨_, _, rfl, rfl⟩⟩, fun b off m cap he j hj => ?_⟩
  injection he with e1 _ _; injection e1 with e1; injection e1 with e1 e2 _; subst e1 e2
  rw [World.cell?_alloc_mark, Nat.zero_add]
  simpa using bcells_get l j hj
/-- .. as a rule of the walk -/
theorem convB (w : World) (C : Array Value) (n c g : Nat) (hg : g = w.heap.size) : (convert 23 23 (.slice (some ⟨g, 0, none⟩) n c)).run Tryz.prog (w.alloc (.cells C 5)) = .ok (.slice (some ⟨g, 0, none⟩) n c) (w.alloc (.cells C 5 (C.size, C.size + 1))) :=
  Go.Joins.run_convert_bytes_const_at w 23 5 C n c g hg Tryz.underlying23 Tryz.underlying5
end Go.Proofs.YtphgmkhbhboklaaGreatDoor
/- bytes.Clone, bytes.Equal, string(b): on what reads as bytes. -/
namespace Go.Proofs.YtphgmkhbhboklaaGreatDoor
open Go.RowKit
theorem equal_any (v1 v2 : Value) (l1 l2 : List UInt8) (N1 N2 : Nat → Prop) (w : World) (h1 : Reads w N1 v1 l1) (h2 : Reads w N2 v2 l2) :
    Calls Tryz.prog 64 #[v1, v2] w fun e w' => e = .returned (.bool (l1 == l2)) ∧ w = w' := by
  obtain ⟨a, cap, hu, _⟩ := h1.shape
  obtain ⟨a2, cap2, hu2, _⟩ := h2.shape
  subst hu hu2
  refine (Tryz.bytes_Equal_all a a2 _ _ _ _ (ints l1) (ints l2) w (ints_length _) (ints_length _) h1.bytesIn.2 h2.bytesIn.2).mono ?_
  rintro e w' ⟨rfl, rfl⟩
  exact ⟨by rw [bytesOf_ints, bytesOf_ints], rfl⟩
end Go.Proofs.YtphgmkhbhboklaaGreatDoor
/- tar.Same: two Members are the same. -/
namespace Go.Proofs.YtphgmkhbhboklaaGreatDoor
open Go.RowKit
/-- the box at slot d: a new row -/
def Bx (n d : Nat) (c : Array Value) (s : Nat → Value) (w : World) : Prop := ∃ b, s d = .pointer (some ⟨b, 0, none⟩) ∧ n ≤ b ∧ Row w b 30 c
def Bx8 (n d : Nat) (s : Nat → Value) (w : World) : Prop := ∃ c, Bx n d c s w ∧ c.size = 8
def twT (n b2 b3 : Nat) (A B : Array Value) : Nat → (Nat → Value) → World → Prop
  | 0, s, _ => s 7 = .pointer (some ⟨b2, 1, none⟩)
  | 1, s, _ => s 8 = .agg A
  | 2, s, _ => s 9 = .pointer (some ⟨b3, 1, none⟩)
  | 3, s, _ => s 10 = .agg B
  | 4, s, w => Bx8 n 5 s w
  | 5, s, w => Bx8 n 6 s w
  | 6, s, w => Bx n 5 A s w
  | 7, s, w => Bx n 6 B s w
  | _, _, _ => True
theorem Bx.keep {n d : Nat} {c : Array Value} {s s' : Nat → Value} {w w' : World} (h : Bx n d c s w) (hs : s' d = s d) (hb : ∀ b, s d = .pointer (some ⟨b, 0, none⟩) → w'.heap[b]? = w.heap[b]?) : Bx n d c s' w' := by
  obtain ⟨b, h1, h2, h3⟩ := h
  exact ⟨b, hs.trans h1, h2, (hb b h1).trans h3⟩
theorem Bx8.keep {n d : Nat} {s s' : Nat → Value} {w w' : World} (h : Bx8 n d s w) (hs : s' d = s d) (hb : ∀ b, s d = .pointer (some ⟨b, 0, none⟩) → w'.heap[b]? = w.heap[b]?) : Bx8 n d s' w' := by
  obtain ⟨c, h1, h2⟩ := h
  exact ⟨c, h1.keep hs hb, h2⟩
theorem Bx.lt {n d : Nat} {c : Array Value} {s : Nat → Value} {w : World} (h : Bx n d c s w) {b : Nat} (hb : s d = .pointer (some ⟨b, 0, none⟩)) : b < w.heap.size := by
  obtain ⟨b', h1, _, h3⟩ := h
  rw [h1] at hb; cases hb
  exact Row.lt h3
theorem Bx8.lt {n d : Nat} {s : Nat → Value} {w : World} (h : Bx8 n d s w) {b : Nat} (hb : s d = .pointer (some ⟨b, 0, none⟩)) : b < w.heap.size := by
  obtain ⟨c, h1, _⟩ := h
  exact h1.lt hb
/-- what holds throughout: two boxes lie apart -/
structure twC (n : Nat) (w : World) (s : Nat → Value) (wx : World) : Prop where
  b : Below w.heap.size w wx
  p : ∀ b, s 5 = .pointer (some ⟨b, 0, none⟩) → n ≤ b ∧ b < wx.heap.size
  q : ∀ b, s 6 = .pointer (some ⟨b, 0, none⟩) → n ≤ b ∧ b < wx.heap.size
  a : ∀ b b', s 5 = .pointer (some ⟨b, 0, none⟩) → s 6 = .pointer (some ⟨b', 0, none⟩) → b ≠ b'
/-- a quiet operation of slot d, or one that makes a new row -/
theorem twT_keep {n b2 b3 : Nat} {A B : Array Value} {s s' : Nat → Value} {w w' : World} (d : Nat) (hs : ∀ j, j ≠ d → s' j = s j) (hw : ∀ b, b < w.heap.size → w'.heap[b]? = w.heap[b]?) (j : Nat) (hj : (j = 0 → d ≠ 7) ∧ (j = 1 → d ≠ 8) ∧ (j = 2 → d ≠ 9) ∧ (j = 3 → d ≠ 10) ∧ (j = 4 ∨ j = 6 → d ≠ 5) ∧ (j = 5 ∨ j = 7 → d ≠ 6)) (h : twT n b2 b3 A B j s w) : twT n b2 b3 A B j s' w' := by
  obtain ⟨j0, j1, j2, j3, j4, j5⟩ := hj
  rcases (by omega : j = 0 ∨ j = 1 ∨ j = 2 ∨ j = 3 ∨ j = 4 ∨ j = 5 ∨ j = 6 ∨ j = 7 ∨ 8 ≤ j) with rfl | rfl | rfl | rfl | rfl | rfl | rfl | rfl | h8
  · exact (hs 7 (Ne.symm (j0 rfl))).trans h
  · exact (hs 8 (Ne.symm (j1 rfl))).trans h
  · exact (hs 9 (Ne.symm (j2 rfl))).trans h
  · exact (hs 10 (Ne.symm (j3 rfl))).trans h
  · have h : Bx8 n 5 s w := h
    exact h.keep (hs 5 (Ne.symm (j4 (.inl rfl)))) (fun b hb => hw b (h.lt hb))
  · have h : Bx8 n 6 s w := h
    exact h.keep (hs 6 (Ne.symm (j5 (.inl rfl)))) (fun b hb => hw b (h.lt hb))
  · have h : Bx n 5 A s w := h
    exact h.keep (hs 5 (Ne.symm (j4 (.inr rfl)))) (fun b hb => hw b (h.lt hb))
  · have h : Bx n 6 B s w := h
    exact h.keep (hs 6 (Ne.symm (j5 (.inr rfl)))) (fun b hb => hw b (h.lt hb))
  · obtain ⟨i, rfl⟩ : ∃ i, j = i + 8 := ⟨j - 8, by omega⟩
    trivial
/-- the first box is written -/
theorem twT_store5 {n b2 b3 b : Nat} {A B c : Array Value} {w0 : World} {s : Nat → Value} {w : World} (hC : twC n w0 s w) (h5 : s 5 = .pointer (some ⟨b, 0, none⟩)) (hrow : Row w b 30 c) (hA : A.size = 8) (j : Nat) (h : twT n b2 b3 A B j s w) : twT n b2 b3 A B j s (w.setRow b A) := by
  have hoth : ∀ k, k ≠ b → (w.setRow b A).heap[k]? = w.heap[k]? := fun k hk => Go.setRow_other w b k A hk
  have h6 : ∀ b', s 6 = .pointer (some ⟨b', 0, none⟩) → (w.setRow b A).heap[b']? = w.heap[b']? := fun b' h' => hoth b' (Ne.symm (hC.a b b' h5 h'))
  rcases (by omega : j = 0 ∨ j = 1 ∨ j = 2 ∨ j = 3 ∨ j = 4 ∨ j = 5 ∨ j = 6 ∨ j = 7 ∨ 8 ≤ j) with rfl | rfl | rfl | rfl | rfl | rfl | rfl | rfl | h8
  · exact h
  · exact h
  · exact h
  · exact h
  · exact ⟨A, ⟨b, h5, (hC.p b h5).1, hrow.setRow A⟩, hA⟩
  · have h : Bx8 n 6 s w := h
    exact h.keep rfl h6
  · exact ⟨b, h5, (hC.p b h5).1, hrow.setRow A⟩
  · have h : Bx n 6 B s w := h
    exact h.keep rfl h6
  · obtain ⟨i, rfl⟩ : ∃ i, j = i + 8 := ⟨j - 8, by omega⟩
    trivial
/-- the second box is written -/
theorem twT_store6 {n b2 b3 b : Nat} {A B c : Array Value} {w0 : World} {s : Nat → Value} {w : World} (hC : twC n w0 s w) (h5 : s 6 = .pointer (some ⟨b, 0, none⟩)) (hrow : Row w b 30 c) (hB : B.size = 8) (j : Nat) (h : twT n b2 b3 A B j s w) : twT n b2 b3 A B j s (w.setRow b B) := by
  have hoth : ∀ k, k ≠ b → (w.setRow b B).heap[k]? = w.heap[k]? := fun k hk => Go.setRow_other w b k B hk
  have h6 : ∀ b', s 5 = .pointer (some ⟨b', 0, none⟩) → (w.setRow b B).heap[b']? = w.heap[b']? := fun b' h' => hoth b' (hC.a b' b h' h5)
  rcases (by omega : j = 0 ∨ j = 1 ∨ j = 2 ∨ j = 3 ∨ j = 4 ∨ j = 5 ∨ j = 6 ∨ j = 7 ∨ 8 ≤ j) with rfl | rfl | rfl | rfl | rfl | rfl | rfl | rfl | h8
  · exact h
  · exact h
  · exact h
  · exact h
  · have h : Bx8 n 5 s w := h
    exact h.keep rfl h6
  · exact ⟨B, ⟨b, h5, (hC.q b h5).1, hrow.setRow B⟩, hB⟩
  · have h : Bx n 5 A s w := h
    exact h.keep rfl h6
  · exact ⟨b, h5, (hC.q b h5).1, hrow.setRow B⟩
  · obtain ⟨i, rfl⟩ : ∃ i, j = i + 8 := ⟨j - 8, by omega⟩
    trivial
/-- a bool is handed back, which tells whether P -/
def SaysB (P : Prop) (e : Ending) : Prop := ∃ r : Bool, e = .returned (.bool r) ∧ (r = true ↔ P)
theorem mb_eq {a b : Mb} : a = b ↔ a.1 = b.1 ∧ a.2.kind = b.2.kind ∧ a.2.mode = b.2.mode ∧ a.2.uid = b.2.uid ∧ a.2.gid = b.2.gid ∧ a.2.time = b.2.time ∧ a.2.link = b.2.link ∧ a.2.data = b.2.data ∧ a.2.attrs = b.2.attrs := by
  obtain ⟨p, ⟨k, m, u, g, t, at_, d, l⟩⟩ := a
  obtain ⟨p', ⟨k', m', u', g', t', at', d', l'⟩⟩ := b
  simp only [Prod.mk.injEq, Nd.mk.injEq]
  constructor
  · rintro ⟨h1, h2, h3, h4, h5, h6, h7, h8, h9⟩; exact ⟨h1, h2, h3, h4, h5, h6, h9, h8, h7⟩
  · rintro ⟨h1, h2, h3, h4, h5, h6, h7, h8, h9⟩; exact ⟨h1, h2, h3, h4, h5, h6, h9, h8, h7⟩
set_option maxHeartbeats 4000000 in
set_option maxRecDepth 100000 in
theorem same_tar (a b : Mb) (av dv bv ev : Value) (w : World) (ha : NdR w (· < w.heap.size) a.2 av dv) (hb : NdR w (· < w.heap.size) b.2 bv ev) :
    Calls Tryz.prog 36 #[.agg (mbC a av dv), .agg (mbC b bv ev)] w fun e w' => SaysB (a = b) e ∧ Below w.heap.size w w' := by
  obtain ⟨aa, la, ca, ad, ld, cd, e1, e2⟩ := ha.shape
  obtain ⟨ba, lb, cb, bd, le, ce, e3, e4⟩ := hb.shape
  subst e1 e2 e3 e4
  have HA := Keep.keep ha; have HB := Keep.keep hb
  have HEQ := Keep.keep (mb_eq (a := a) (b := b))
  clear ha hb
  obtain ⟨ap, ⟨kind, mode, uid, gid, time, attrs, data, link⟩⟩ := a
  obtain ⟨bp, ⟨kind2, mode2, uid2, gid2, time2, attrs2, data2, link2⟩⟩ := b
  unfold mbC strV
  dsimp only at HEQ HA HB ⊢
  obtain ⟨PEQ, hP⟩ : ∃ P : Prop, (((ap, ⟨kind, mode, uid, gid, time, attrs, data, link⟩) : Mb) = (bp, ⟨kind2, mode2, uid2, gid2, time2, attrs2, data2, link2⟩)) = P := ⟨_, rfl⟩
  rw [hP] at HEQ ⊢
  clear hP
  go_enter Tryz.func36, Tryz.ntmps36
  go_upto_region 1 with fail
  refine wp_world (R := fun w1 => Hp NoM w w1 [rowA w.heap.size 32 #[.string ⟨ap.toArray⟩, .int .i64 kind, .int .u32 mode, .int .u32 uid, .int .u32 gid, .int .i64 time, .slice aa la ca, .slice ad ld cd, .string ⟨link.toArray⟩], rowA (w.heap.size + 1) 32 #[.string ⟨bp.toArray⟩, .int .i64 kind2, .int .u32 mode2, .int .u32 uid2, .int .u32 gid2, .int .i64 time2, .slice ba lb cb, .slice bd le ce, .string ⟨link2.toArray⟩]]) ?_ ?_
  · exact ((Hp.begin NoM w).newRow _ _).newRow' _ _ _ _ (by simp) rfl
  intro w1 H1
  obtain ⟨b2, hb2⟩ : ∃ b2, w.heap.size = b2 := ⟨_, rfl⟩
  have HB2 := Keep.keep hb2
  have hsz1 := (H1.out.row 1 rfl).lt
  rw [hb2] at H1 hsz1 ⊢
  clear hb2
  obtain ⟨A, hA⟩ : ∃ A : Array Value, #[.int .i64 kind, .int .u32 mode, .int .u32 uid, .int .u32 gid, .int .i64 time, .slice aa la ca, .slice ad ld cd, .string ⟨link.toArray⟩] = A := ⟨_, rfl⟩
  obtain ⟨C, hC⟩ : ∃ C : Array Value, #[.int .i64 kind2, .int .u32 mode2, .int .u32 uid2, .int .u32 gid2, .int .i64 time2, .slice ba lb cb, .slice bd le ce, .string ⟨link2.toArray⟩] = C := ⟨_, rfl⟩
  refine wp_region_spcF [some 7, some 8, some 9, some 10, some 5, some 6, none, none] (twC w1.heap.size w1) (twT w1.heap.size b2 (b2 + 1) A C) (by kernel_rfl) rfl (by kernel_rfl) ?_ ?_ ?_
  · exact ⟨(Below.refl _ _).drew, fun b h => (by cases h), fun b h => (by cases h), fun b b' h => (by cases h)⟩
  · intro k hk a1 w2 hF hCC hT
    have s2 : a1.eval (.tmp 2) = .pointer (some ⟨b2, 0, none⟩) := (hF.same 2 (by decide)).trans rfl
    have s3 : a1.eval (.tmp 3) = .pointer (some ⟨b2 + 1, 0, none⟩) := (hF.same 3 (by decide)).trans rfl
    have hsz : a1.tmps.size = 72 := hF.size
    have HP := H1.out.call hCC.b
    have hb12 := HP.size
    have hk : k < 8 := hk
    have hoC : C.all (·.oneCell') = true := by rw [← hC]; simp [Value.oneCell']
    have hoA : A.all (·.oneCell') = true := by rw [← hA]; simp [Value.oneCell']
    have hzA : A.size = 8 := by rw [← hA]; rfl
    have hzC : C.size = 8 := by rw [← hC]; rfl
    have hcq : ∀ d, d ≠ 5 → d ≠ 6 → ∀ s : Nat → Value, (∀ j, j ≠ d → s j = slot a1 j) → twC w1.heap.size w1 s w2 := fun d h5 h6 s hs => ⟨hCC.b, fun b h => hCC.p b (by rw [← hs 5 (Ne.symm h5)]; exact h), fun b h => hCC.q b (by rw [← hs 6 (Ne.symm h6)]; exact h), fun b b' h h' => hCC.a b b' (by rw [← hs 5 (Ne.symm h5)]; exact h) (by rw [← hs 6 (Ne.symm h6)]; exact h')⟩
    rcases (by omega : k = 0 ∨ k = 1 ∨ k = 2 ∨ k = 3 ∨ k = 4 ∨ k = 5 ∨ k = 6 ∨ k = 7) with rfl | rfl | rfl | rfl | rfl | rfl | rfl | rfl
    · refine spcF_val (d := 7) rfl (wanted_none rfl) (run_fieldAddr (m := 7) Tryz.underlying32 rfl (by kernel_rfl) s2) (by omega) (fun s hd hs => ⟨hcq 7 (by decide) (by decide) s hs, hd, fun j hj _ h => twT_keep 7 hs (fun _ _ => rfl) j (by omega) h⟩)
    · have hx : a1.eval (.tmp 7) = .pointer (some ⟨b2, 1, none⟩) := hT 0 (by kernel_rfl)
      have HL := Keep.keep (HP)
      exact spcF_val (d := 8) rfl (wanted_none rfl) (run_loadNd (m := (ap, ⟨kind, mode, uid, gid, time, attrs, data, link⟩)) (HL.out.row 0 rfl) hx) (by omega) (fun s hd hs => ⟨hcq 8 (by decide) (by decide) s hs, hd.trans (by rw [← hA]; rfl), fun j hj _ h => twT_keep 8 hs (fun _ _ => rfl) j (by omega) h⟩)
    · exact spcF_val (d := 9) rfl (wanted_none rfl) (run_fieldAddr (m := 7) Tryz.underlying32 rfl (by kernel_rfl) s3) (by omega) (fun s hd hs => ⟨hcq 9 (by decide) (by decide) s hs, hd, fun j hj _ h => twT_keep 9 hs (fun _ _ => rfl) j (by omega) h⟩)
    · have hx : a1.eval (.tmp 9) = .pointer (some ⟨b2 + 1, 1, none⟩) := hT 2 (by kernel_rfl)
      have HL := Keep.keep (HP)
      exact spcF_val (d := 10) rfl (wanted_none rfl) (run_loadNd (m := (bp, ⟨kind2, mode2, uid2, gid2, time2, attrs2, data2, link2⟩)) (HL.out.row 1 rfl) hx) (by omega) (fun s hd hs => ⟨hcq 10 (by decide) (by decide) s hs, hd.trans (by rw [← hC]; rfl), fun j hj _ h => twT_keep 10 hs (fun _ _ => rfl) j (by omega) h⟩)
    · have hws := hCC.b.size
      refine spcF_val (d := 5) (v := .pointer (some ⟨w2.heap.size, 0, none⟩)) (w2 := w2.alloc (.cells zeroNd 30)) rfl (wanted_none rfl) (by simp [execOp, run_newN]) (by omega) (fun s hd hs => ⟨⟨hCC.b.alloc hCC.b.size _, fun b h => ?_, fun b h => ?_, fun b b' h h' => ?_⟩, ⟨zeroNd, ⟨w2.heap.size, hd, hws, Row.new _ _ _⟩, rfl⟩, fun j hj hw h => twT_keep 5 hs (fun b hb => Below.heap_alloc w2 _ b hb) j ?_ h⟩)
      · rw [hd] at h; cases h; simp; omega
      · rw [hs 6 (by decide)] at h
        have := hCC.q b h
        simp; omega
      · rw [hd] at h; cases h
        rw [hs 6 (by decide)] at h'
        have := (hCC.q b' h').2
        omega
      · have h6 : j ≠ 6 := by rintro rfl; exact Bool.false_ne_true (hw.symm.trans (by kernel_rfl))
        omega
    · have hws := hCC.b.size
      refine spcF_val (d := 6) (v := .pointer (some ⟨w2.heap.size, 0, none⟩)) (w2 := w2.alloc (.cells zeroNd 30)) rfl (wanted_none rfl) (by simp [execOp, run_newN]) (by omega) (fun s hd hs => ⟨⟨hCC.b.alloc hCC.b.size _, fun b h => ?_, fun b h => ?_, fun b b' h h' => ?_⟩, ⟨zeroNd, ⟨w2.heap.size, hd, hws, Row.new _ _ _⟩, rfl⟩, fun j hj hw h => ?_⟩)
      · rw [hs 5 (by decide)] at h
        have := hCC.p b h
        simp; omega
      · rw [hd] at h; cases h; simp; omega
      · rw [hd] at h'; cases h'
        rw [hs 5 (by decide)] at h
        have := (hCC.p b h).2
        omega
      · have h7 : j ≠ 7 := by rintro rfl; exact Bool.false_ne_true (hw.symm.trans (by kernel_rfl))
        exact twT_keep 6 hs (fun b hb => Below.heap_alloc w2 _ b hb) j (by omega) h
    · obtain ⟨c, ⟨b, h5, hnb, hrow⟩, hc8⟩ : Bx8 w1.heap.size 5 (slot a1) w2 := hT 4 (by kernel_rfl)
      have h8 : a1.eval (.tmp 8) = .agg A := hT 1 (by kernel_rfl)
      have hx : a1.eval (.tmp 5) = .pointer (some ⟨b, 0, none⟩) := h5
      have hst := hrow.storeAt (P := Tryz.prog) 30 A (by rw [hzA]; exact aggN.i) (by rw [hzA, hc8]) hoA
      refine spcF_skip (w2 := w2.setRow b A) rfl (wanted_none rfl) (by unfold execOp; simp only [hx, h8, Sem.run_bind, Sem.run_pure, Result.andThen_ok, hst]) ⟨⟨(Chg.setRow (M := NoM) (.of_below hCC.b) (.inl hnb) A).below (fun _ _ h => h), fun b' h => ?_, fun b' h => ?_, hCC.a⟩, ⟨b, h5, hnb, hrow.setRow A⟩, fun j hj hw h => twT_store5 hCC h5 hrow hzA j h⟩
      · have := hCC.p b' h; exact ⟨this.1, by have := (Chg.setRow (M := fun x => x = b) (.refl _ 0 w2) (.inr rfl) A).size; omega⟩
      · have := hCC.q b' h; exact ⟨this.1, by have := (Chg.setRow (M := fun x => x = b) (.refl _ 0 w2) (.inr rfl) A).size; omega⟩
    · obtain ⟨c, ⟨b, h5, hnb, hrow⟩, hc8⟩ : Bx8 w1.heap.size 6 (slot a1) w2 := hT 5 (by kernel_rfl)
      have h8 : a1.eval (.tmp 10) = .agg C := hT 3 (by kernel_rfl)
      have hx : a1.eval (.tmp 6) = .pointer (some ⟨b, 0, none⟩) := h5
      have hst := hrow.storeAt (P := Tryz.prog) 30 C (by rw [hzC]; exact aggN.i) (by rw [hzC, hc8]) hoC
      refine spcF_skip (w2 := w2.setRow b C) rfl (wanted_none rfl) (by unfold execOp; simp only [hx, h8, Sem.run_bind, Sem.run_pure, Result.andThen_ok, hst]) ⟨⟨(Chg.setRow (M := NoM) (.of_below hCC.b) (.inl hnb) C).below (fun _ _ h => h), fun b' h => ?_, fun b' h => ?_, hCC.a⟩, ⟨b, h5, hnb, hrow.setRow C⟩, fun j hj hw h => twT_store6 hCC h5 hrow hzC j h⟩
      · have := hCC.p b' h; exact ⟨this.1, by have := (Chg.setRow (M := fun x => x = b) (.refl _ 0 w2) (.inr rfl) C).size; omega⟩
      · have := hCC.q b' h; exact ⟨this.1, by have := (Chg.setRow (M := fun x => x = b) (.refl _ 0 w2) (.inr rfl) C).size; omega⟩
  · intro a1 w2 ha hCC hT
    have t7 : slot a1 7 = .pointer (some ⟨b2, 1, none⟩) := hT 0 (by decide)
    have t8 : slot a1 8 = .agg A := hT 1 (by decide)
    have t9 : slot a1 9 = .pointer (some ⟨b2 + 1, 1, none⟩) := hT 2 (by decide)
    have t10 : slot a1 10 = .agg C := hT 3 (by decide)
    obtain ⟨b5, t5, _, r5⟩ : Bx w1.heap.size 5 A (slot a1) w2 := hT 6 (by decide)
    obtain ⟨b6, t6, _, r6⟩ : Bx w1.heap.size 6 C (slot a1) w2 := hT 7 (by decide)
    have H2 := H1.out.call hCC.b
    have m20 := (H2.row 0 rfl).cell (i := 0) rfl
    have m30 := (H2.row 1 rfl).cell (i := 0) rfl
    have HA2 := Keep.keep (HA.out.below H2.below (fun b hb => hb))
    have HB3 := Keep.keep (HB.out.below H2.below (fun b hb => hb))
    have HBL := Keep.keep H2.below
    rw [← hA] at r5
    rw [← hC] at r6
    have x0 := r5.cell (i := 0) rfl
    have x1 := r5.cell (i := 1) rfl
    have x2 := r5.cell (i := 2) rfl
    have x3 := r5.cell (i := 3) rfl
    have x4 := r5.cell (i := 4) rfl
    have x5 := r5.cell (i := 5) rfl
    have x6 := r5.cell (i := 6) rfl
    have x7 := r5.cell (i := 7) rfl
    have y0 := r6.cell (i := 0) rfl
    have y1 := r6.cell (i := 1) rfl
    have y2 := r6.cell (i := 2) rfl
    have y3 := r6.cell (i := 3) rfl
    have y4 := r6.cell (i := 4) rfl
    have y5 := r6.cell (i := 5) rfl
    have y6 := r6.cell (i := 6) rfl
    have y7 := r6.cell (i := 7) rfl
    simp only [List.filterMap_cons, List.filterMap_nil, List.foldl_cons, List.foldl_nil, t5, t6, t7, t8, t9, t10] at ha
    clear hT t5 t6 t7 t8 t9 t10 r5 r6 hCC H2 hA hC
    subst ha
    simp only [Act.put, List.setIfInBounds_toArray, List.set_cons_succ, List.set_cons_zero]
    go_wp2_with fail
    rotate_left
    all_goals try (
      go_ret
      refine ⟨⟨false, rfl, ⟨fun h => (by cases h), fun h => ?_⟩⟩, HBL.out⟩
      obtain ⟨e1, e2, e3, e4, e5, e6, e7, e8, e9⟩ := HEQ.out.1 h
      contradiction)
    have HE : Keep (ap = bp ∧ kind = kind2 ∧ mode = mode2 ∧ uid = uid2 ∧ gid = gid2 ∧ time = time2 ∧ link = link2) := ⟨⟨by assumption, by assumption, by assumption, by assumption, by assumption, by assumption, by assumption⟩⟩
    have hle := HBL.out.size
    refine (equal_any _ _ _ _ _ _ w2 HA2.out.dt HB3.out.dt).mono ?_
    rintro e w3 ⟨rfl, rfl⟩
    by_cases hdt : data = data2
    · have HD := Keep.keep hdt
      have hbd : (data == data2) = true := by simpa using hdt
      rw [hbd]
      clear hdt hbd
      go_wp2_with fail
      refine (aequal_any _ _ _ _ w2 (HA2.out.at_.mono (fun b hb => Nat.lt_of_lt_of_le hb hle)) (HB3.out.at_.mono (fun b hb => Nat.lt_of_lt_of_le hb hle))).mono ?_
      rintro e w4 ⟨rfl, hb4⟩
      have HB4 := Keep.keep (HBL.out.trans (hb4.mono hle))
      have HR : Keep (decide (attrs = attrs2) = true ↔ PEQ) := ⟨by
        rw [decide_eq_true_eq, HEQ.out]
        exact ⟨fun h => ⟨HE.out.1, HE.out.2.1, HE.out.2.2.1, HE.out.2.2.2.1, HE.out.2.2.2.2.1, HE.out.2.2.2.2.2.1, HE.out.2.2.2.2.2.2, HD.out, h⟩, fun h => h.2.2.2.2.2.2.2.2⟩⟩
      clear hb4
      generalize decide (attrs = attrs2) = rb at *
      go_wp2_with fail
      go_ret
      exact ⟨⟨rb, rfl, HR.out⟩, HB4.out⟩
    · have hbd : (data == data2) = false := by simpa using hdt
      have HD := Keep.keep hdt
      rw [hbd]
      clear hdt hbd
      go_wp2_with fail
      go_ret
      exact ⟨⟨false, rfl, ⟨fun h => (by cases h), fun h => (HD.out (HEQ.out.1 h).2.2.2.2.2.2.2.1).elim⟩⟩, HBL.out⟩
end Go.Proofs.YtphgmkhbhboklaaGreatDoor
/- portolanref12.Same; portolanlaw12.Alike: Members set side by side. -/
namespace Go.Proofs.YtphgmkhbhboklaaGreatDoor
open Go.RowKit
set_option maxHeartbeats 4000000 in
set_option maxRecDepth 100000 in
theorem same_ref (a b : Mb) (av dv bv ev : Value) (w : World) (ha : NdR w (· < w.heap.size) a.2 av dv) (hb : NdR w (· < w.heap.size) b.2 bv ev) :
    Calls Tryz.prog 37 #[.agg (mbC a av dv), .agg (mbC b bv ev)] w fun e w' => SaysB (a = b) e ∧ Below w.heap.size w w' := by
  obtain ⟨aa, la, ca, ad, ld, cd, e1, e2⟩ := ha.shape
  obtain ⟨ba, lb, cb, bd, le, ce, e3, e4⟩ := hb.shape
  subst e1 e2 e3 e4
  obtain ⟨rfl, -, -⟩ := ha.at_.lens
  obtain ⟨rfl, -, -⟩ := hb.at_.lens
  have hma := ha.at_.lens.2
  have hmb := hb.at_.lens.2
  unfold maxLen at hma hmb
  have HA := Keep.keep ha; have HB := Keep.keep hb
  have HEQ := Keep.keep (mb_eq (a := a) (b := b))
  clear ha hb
  obtain ⟨ap, ⟨kind, mode, uid, gid, time, attrs, data, link⟩⟩ := a
  obtain ⟨bp, ⟨kind2, mode2, uid2, gid2, time2, attrs2, data2, link2⟩⟩ := b
  unfold mbC strV
  dsimp only at HEQ HA HB hma hmb ⊢
  obtain ⟨PEQ, hP⟩ : ∃ P : Prop, (((ap, ⟨kind, mode, uid, gid, time, attrs, data, link⟩) : Mb) = (bp, ⟨kind2, mode2, uid2, gid2, time2, attrs2, data2, link2⟩)) = P := ⟨_, rfl⟩
  rw [hP] at HEQ ⊢
  clear hP
  go_enter Tryz.func37, Tryz.ntmps37
  go_upto_region 3 with fail
  refine wp_world (R := fun w1 => Hp NoM w w1 [rowA w.heap.size 32 #[.string ⟨ap.toArray⟩, .int .i64 kind, .int .u32 mode, .int .u32 uid, .int .u32 gid, .int .i64 time, .slice aa attrs.length ca, .slice ad ld cd, .string ⟨link.toArray⟩], rowA (w.heap.size + 1) 32 #[.string ⟨bp.toArray⟩, .int .i64 kind2, .int .u32 mode2, .int .u32 uid2, .int .u32 gid2, .int .i64 time2, .slice ba attrs2.length cb, .slice bd le ce, .string ⟨link2.toArray⟩], rowA (w.heap.size + 1 + 1) 30 #[.int .i64 kind, .int .u32 mode, .int .u32 uid, .int .u32 gid, .int .i64 time, .slice aa attrs.length ca, .slice ad ld cd, .string ⟨link.toArray⟩], rowA (w.heap.size + 1 + 1 + 1) 30 #[.int .i64 kind2, .int .u32 mode2, .int .u32 uid2, .int .u32 gid2, .int .i64 time2, .slice ba attrs2.length cb, .slice bd le ce, .string ⟨link2.toArray⟩]]) ?_ ?_
  · exact ((((Hp.begin NoM w).newRow _ _).newRow' _ _ _ _ (by simp) rfl).newRow' _ _ _ _ (by simp) rfl).newRow' _ _ _ _ (by simp) rfl
  intro w1 H1
  obtain ⟨b2, hb2⟩ : ∃ b2, w.heap.size = b2 := ⟨_, rfl⟩
  have HB2 := Keep.keep hb2
  have m20 := (H1.out.row 0 rfl).cell (i := 0) rfl
  have m30 := (H1.out.row 1 rfl).cell (i := 0) rfl
  have HA2 := Keep.keep (HA.out.below H1.out.below (fun b hb => hb))
  have HB3 := Keep.keep (HB.out.below H1.out.below (fun b hb => hb))
  have HBL := Keep.keep H1.out.below
  have r5 := H1.out.row 2 rfl
  have r6 := H1.out.row 3 rfl
  have x0 := r5.cell (i := 0) rfl
  have x1 := r5.cell (i := 1) rfl
  have x2 := r5.cell (i := 2) rfl
  have x3 := r5.cell (i := 3) rfl
  have x4 := r5.cell (i := 4) rfl
  have x5 := r5.cell (i := 5) rfl
  have x6 := r5.cell (i := 6) rfl
  have x7 := r5.cell (i := 7) rfl
  have y0 := r6.cell (i := 0) rfl
  have y1 := r6.cell (i := 1) rfl
  have y2 := r6.cell (i := 2) rfl
  have y3 := r6.cell (i := 3) rfl
  have y4 := r6.cell (i := 4) rfl
  have y5 := r6.cell (i := 5) rfl
  have y6 := r6.cell (i := 6) rfl
  have y7 := r6.cell (i := 7) rfl
  rw [hb2] at m20 m30 x0 x1 x2 x3 x4 x5 x6 x7 y0 y1 y2 y3 y4 y5 y6 y7 ⊢
  have hwl : w.heap.size ≤ w1.heap.size := H1.out.size
  have hc1 := run_string_of HA2.out.dt
  have hc2 := run_string_of HB3.out.dt
  clear r5 r6 hb2 H1
  go_upto_region 5 with fail
  all_goals try (
    go_ret
    refine ⟨⟨false, rfl, ⟨fun h => (by cases h), fun h => ?_⟩⟩, HBL.out⟩
    obtain ⟨e1, e2, e3, e4, e5, e6, e7, e8, e9⟩ := HEQ.out.1 h
    first
      | contradiction
      | (simp_all; done))
  have HE : Keep (ap = bp ∧ kind = kind2 ∧ mode = mode2 ∧ uid = uid2 ∧ gid = gid2 ∧ time = time2 ∧ link = link2) := ⟨⟨by assumption, by assumption, by assumption, by assumption, by assumption, by assumption, by simpa using (show (!link == link2) = false by assumption)⟩⟩
  by_cases hdt : data = data2
  · have HD := Keep.keep hdt
    have hbd : (data == data2) = true := by simpa using hdt
    clear hdt
    by_cases hal : attrs.length = attrs2.length
    · have hne : ((attrs.length : Int) == (attrs2.length : Int)) = true := by rw [hal]; exact beq_self_eq_true _
      have HL := Keep.keep hal
      clear hal
      go_wp2_with fail
      go_loopg [7] attrs.length (fun g u7 wx => ∃ (k n : Nat), k + g = attrs.length ∧ u7 = .int .i64 (k : Int) ∧ attrs.take k = attrs2.take k ∧ wx = w1.drewN n)
      case atStart => exact ⟨0, 0, by omega, rfl, rfl, rfl⟩
      case round =>
        obtain ⟨k, nd, hkg, rfl, heq, rfl⟩ := hrel
        have HT := Keep.keep heq
        clear heq
        cases gk with
        | zero =>
          obtain rfl : k = attrs.length := by omega
          have HF : Keep (PEQ) := ⟨HEQ.out.2 ⟨HE.out.1, HE.out.2.1, HE.out.2.2.1, HE.out.2.2.2.1, HE.out.2.2.2.2.1, HE.out.2.2.2.2.2.1, HE.out.2.2.2.2.2.2, HD.out, by
            have h := HT.out
            rw [List.take_length, List.take_of_length_le (by rw [← HL.out]; exact Nat.le_refl _)] at h
            exact h⟩⟩
          go_wp2_with fail
          go_ret
          exact ⟨⟨true, rfl, ⟨fun _ => HF.out, fun _ => rfl⟩⟩, below_drewN' HBL.out _⟩
        | succ g =>
          have hk1 : k < attrs.length := by omega
          have hk2 : k < attrs2.length := by have := HL.out; omega
          have hd : decide ((k : Int) < (attrs.length : Int)) = true := decide_eq_true (by omega)
          obtain ⟨p1, o1, rfl⟩ : ∃ b off, aa = some ⟨b, off, none⟩ := by
            obtain ⟨b, off, cap, h, -⟩ := HA2.out.at_.has (by dsimp only; omega)
            injection h with h; exact ⟨b, off, h⟩
          obtain ⟨p2, o2, rfl⟩ : ∃ b off, ba = some ⟨b, off, none⟩ := by
            obtain ⟨b, off, cap, h, -⟩ := HB3.out.at_.has (by dsimp only; omega)
            injection h with h; exact ⟨b, off, h⟩
          obtain ⟨s1, s2⟩ := rcells_get attrs k hk1
          obtain ⟨t1, t2⟩ := rcells_get attrs2 k hk2
          have z1 := HA2.out.at_.cell p1 o1 _ _ rfl _ _ s1
          have z2 := HA2.out.at_.cell p1 o1 _ _ rfl _ _ s2
          have v1 := HB3.out.at_.cell p2 o2 _ _ rfl _ _ t1
          have v2 := HB3.out.at_.cell p2 o2 _ _ rfl _ _ t2
          rw [← Nat.add_assoc] at z2 v2
          have HST : Keep (attrs[k] = attrs2[k] → attrs.take (k + 1) = attrs2.take (k + 1)) := ⟨fun e => by rw [List.take_succ_eq_append_getElem hk1, List.take_succ_eq_append_getElem hk2, HT.out, e]⟩
          have HNE : Keep (attrs[k] ≠ attrs2[k] → ¬ PEQ) := ⟨fun e h => e (by simp only [(HEQ.out.1 h).2.2.2.2.2.2.2.2])⟩
          clear s1 s2 t1 t2
          generalize attrs[k] = p at *
          generalize attrs2[k] = q at *
          have hneq := neq_attr p q
          unfold strV at z1 z2 v1 v2
          obtain ⟨pk, pv⟩ := p
          obtain ⟨qk, qv⟩ := q
          dsimp only at z1 z2 v1 v2 hneq
          by_cases e : ((pk, pv) : R2) = (qk, qv)
          · have HE2 := Keep.keep (HST.out e)
            rw [decide_eq_true e] at hneq
            clear e HST HNE
            go_upto_region 10 with fail
            (refine wp_region_quiet_lit (by kernel_rfl) (by kernel_rfl) ?_); (repeat (first | (fail) | go_big_quiet_step (fail))); (refine wpQuiet_nil ?_); (intro _ hwq); (obtain ⟨nq, hwq⟩ := hwq); (subst hwq)
            go_wp2_with fail
            go_roundg g
            case measure => omega
            case rel => exact ⟨k + 1, nd + nq, by omega, by simp, HE2.out, rfl⟩
          · have HE2 := Keep.keep (HNE.out e)
            rw [decide_eq_false e] at hneq
            clear e HST HNE
            go_upto_region 10 with fail
            (refine wp_region_quiet_lit (by kernel_rfl) (by kernel_rfl) ?_); (repeat (first | (fail) | go_big_quiet_step (fail))); (refine wpQuiet_nil ?_); (intro _ hwq); (obtain ⟨nq, hwq⟩ := hwq); (subst hwq)
            go_wp2_with fail
            go_ret
            exact ⟨⟨false, rfl, ⟨fun h => (by cases h), fun h => (HE2.out h).elim⟩⟩, below_drewN' (below_drewN' HBL.out _) _⟩
    · have hne : ((attrs.length : Int) == (attrs2.length : Int)) = false := by simp; omega
      have HL := Keep.keep hal
      clear hal
      go_wp2_with fail
      go_ret
      exact ⟨⟨false, rfl, ⟨fun h => (by cases h), fun h => (HL.out (by rw [(HEQ.out.1 h).2.2.2.2.2.2.2.2])).elim⟩⟩, HBL.out⟩
  · have HD := Keep.keep hdt
    have hbd : (data == data2) = false := by simpa using hdt
    clear hdt
    go_wp2_with fail
    go_ret
    exact ⟨⟨false, rfl, ⟨fun h => (by cases h), fun h => (HD.out (HEQ.out.1 h).2.2.2.2.2.2.2.1).elim⟩⟩, HBL.out⟩
end Go.Proofs.YtphgmkhbhboklaaGreatDoor
/- portolanlaw12.Alike: rows of Members set side by side. -/
namespace Go.Proofs.YtphgmkhbhboklaaGreatDoor
open Go.RowKit
theorem SaysB.det {P : Prop} {e : Ending} (h : SaysB P e) {r : Bool} (hr : r = true ↔ P) : e = .returned (.bool r) := by
  obtain ⟨r', rfl, h'⟩ := h
  have : r' = r := by rw [Bool.eq_iff_iff, h', hr]
  rw [this]
theorem bool_of (P : Prop) : ∃ r : Bool, r = true ↔ P := by
  by_cases h : P
  · exact ⟨true, fun _ => h, fun _ => rfl⟩
  · exact ⟨false, fun e => (by cases e), fun e => (h e).elim⟩
set_option maxHeartbeats 2000000 in
set_option maxRecDepth 100000 in
theorem alike_any (v1 v2 : Value) (l1 l2 : List Mv) (w : World) (h1 : Mbs w (· < w.heap.size) (· < w.heap.size) v1 l1) (h2 : Mbs w (· < w.heap.size) (· < w.heap.size) v2 l2) :
    Calls Tryz.prog 12 #[v1, v2] w fun e w' => SaysB (l1.map (·.1) = l2.map (·.1)) e ∧ Below w.heap.size w w' := by
  obtain ⟨a1, c1, rfl, hc1, hm1, g1⟩ := h1.rd.shape
  obtain ⟨a2, c2, rfl, hc2, hm2, g2⟩ := h2.rd.shape
  unfold maxLen at hm1 hm2
  have H1 := Keep.keep h1; have H2 := Keep.keep h2; have G1 := Keep.keep g1; have G2 := Keep.keep g2
  clear h1 h2 g1 g2
  obtain ⟨P, hP⟩ : ∃ P : Prop, (l1.map (·.1) = l2.map (·.1)) = P := ⟨_, rfl⟩
  have HP : Keep (P ↔ l1.map (·.1) = l2.map (·.1)) := ⟨by rw [hP]⟩
  rw [hP]
  clear hP
  by_cases hl : l1.length = l2.length
  · have HL := Keep.keep hl
    have hne : ((l1.length : Int) == (l2.length : Int)) = true := by rw [hl]; exact beq_self_eq_true _
    clear hl
    go_enter Tryz.func12, Tryz.ntmps12
    go_wp2_with fail
    go_loopg [5] l1.length (fun g u5 wx => ∃ (k : Nat), k + g = l1.length ∧ u5 = .int .i64 (k : Int) ∧ (l1.map (·.1)).take k = (l2.map (·.1)).take k ∧ Below w.heap.size w wx)
    case atStart => exact ⟨0, by omega, rfl, rfl, Below.refl _ _⟩
    case round =>
      obtain ⟨k, hkg, rfl, heq, hb⟩ := hrel
      have HEQ := Keep.keep heq; have HB := Keep.keep hb
      clear heq hb
      cases gk with
      | zero =>
        obtain rfl : k = l1.length := by omega
        have HF : Keep P := ⟨HP.out.2 (by
          have h := HEQ.out
          rw [List.take_of_length_le (by rw [List.length_map]; exact Nat.le_refl _), List.take_of_length_le (by rw [List.length_map, ← HL.out]; exact Nat.le_refl _)] at h
          exact h)⟩
        go_wp2_with fail
        go_ret
        exact ⟨⟨true, rfl, ⟨fun _ => HF.out, fun _ => rfl⟩⟩, HB.out⟩
      | succ g =>
        have hk1 : k < l1.length := by omega
        have hk2 : k < l2.length := by have := HL.out; omega
        have hd : decide ((k : Int) < (l1.length : Int)) = true := decide_eq_true (by omega)
        obtain ⟨b1, o1, rfl, hb1⟩ : ∃ b off, a1 = some ⟨b, off, none⟩ ∧ b < w.heap.size := by
          rcases G1.out with h | ⟨b, off, h, hb⟩
          · omega
          · exact ⟨b, off, h, hb⟩
        obtain ⟨b2, o2, rfl, hb2⟩ : ∃ b off, a2 = some ⟨b, off, none⟩ ∧ b < w.heap.size := by
          rcases G2.out with h | ⟨b, off, h, hb⟩
          · omega
          · exact ⟨b, off, h, hb⟩
        obtain ⟨r, hr⟩ := bool_of (l1[k].1 = l2[k].1)
        have HX1 : Keep (∀ wx, Below wr.heap.size wr wx → ∀ (j : Nat) (u : Value), (mcell l1[k]).toList[j]? = some u → wx.cell? ⟨b1, o1 + k * 9 + j, none⟩ = some u) := ⟨fun wx hx j u hj => by
          have hjl := (List.getElem?_eq_some_iff.1 hj).1
          rw [mcell_len] at hjl
          exact (H1.out.below (HB.out.trans (hx.mono HB.out.size)) (fun b hb => hb) (fun b hb => hb)).cell hk1 j hjl (by simpa using hj)⟩
        have HX2 : Keep (∀ wx, Below wr.heap.size wr wx → ∀ (j : Nat) (u : Value), (mcell l2[k]).toList[j]? = some u → wx.cell? ⟨b2, o2 + k * 9 + j, none⟩ = some u) := ⟨fun wx hx j u hj => by
          have hjl := (List.getElem?_eq_some_iff.1 hj).1
          rw [mcell_len] at hjl
          exact (H2.out.below (HB.out.trans (hx.mono HB.out.size)) (fun b hb => hb) (fun b hb => hb)).cell hk2 j hjl (by simpa using hj)⟩
        have HS : Keep (∀ wx, Below wr.heap.size wr wx → Calls Tryz.prog 37 #[.agg (mcell l1[k]).toList.toArray, .agg (mcell l2[k]).toList.toArray] wx fun e w' => e = .returned (.bool r) ∧ Below wx.heap.size wx w') := ⟨fun wx hx => by
          have hbx := HB.out.trans (hx.mono HB.out.size)
          have hsx := hbx.size
          simp only [Array.toArray_toList]
          refine (same_ref _ _ _ _ _ _ wx ((H1.out.nd _ (List.getElem_mem hk1)).below hbx (fun b hb => hb) |>.mono (fun b hb => Nat.lt_of_lt_of_le hb hsx)) ((H2.out.nd _ (List.getElem_mem hk2)).below hbx (fun b hb => hb) |>.mono (fun b hb => Nat.lt_of_lt_of_le hb hsx))).mono ?_
          rintro e w' ⟨he, hb⟩
          exact ⟨he.det hr, hb⟩⟩
        have HST : Keep (r = true → (l1.map (·.1)).take (k + 1) = (l2.map (·.1)).take (k + 1)) := ⟨fun e => by
          rw [List.take_succ_eq_append_getElem (by simpa using hk1), List.take_succ_eq_append_getElem (by simpa using hk2), HEQ.out]
          simp [hr.1 e]⟩
        have HNE : Keep (r = false → ¬ P) := ⟨fun e h => by
          have h := HP.out.1 h
          have : (l1.map (·.1))[k]'(by simpa using hk1) = (l2.map (·.1))[k]'(by simpa using hk2) := by simp only [h]
          simp only [List.getElem_map] at this
          rw [hr.2 this] at e; cases e⟩
        have hs1 : (Tryz.prog.info? 32).map (·.size) = some (mcell l1[k]).toList.length := by rw [mcell_len]; exact aggM.i
        have hs2 : (Tryz.prog.info? 32).map (·.size) = some (mcell l2[k]).toList.length := by rw [mcell_len]; exact aggM.i
        generalize (mcell l1[k]).toList = x1 at *
        generalize (mcell l2[k]).toList = x2 at *
        have HS1 := Keep.keep hs1; have HS2 := Keep.keep hs2
        clear hr hs1 hs2
        go_upto_region 6 with fail
        refine wp_region_cls (fun w' => Below wr.heap.size wr w') (by kernel_rfl) (by kernel_rfl) (Below.refl _ _).drew ?_
        repeat (first
          | ((with_reducible refine cls_call (f := 37) ?_ (Go.Proofs.enters_of Tryz.func37 (by kernel_rfl) rfl) ?_ (fun w1 hw1 => (HS.out w1 hw1).mono (fun e w2 he => ⟨he.1, hw1.trans (he.2.mono hw1.size)⟩)) ?_); (focus rfl); (focus (first | exact Array.map_empty | (simp only [List.map_toArray, List.map_cons, List.map_nil]; rfl))); simp only [Act.put, List.setIfInBounds_toArray, List.set_cons_succ, List.set_cons_zero])
          | ((with_reducible refine cls_agg ?_ HX1.out Tryz.underlying32 rfl HS1.out ?_ ?_); (focus rfl); (focus rfl); simp only [Act.put, List.setIfInBounds_toArray, List.set_cons_succ, List.set_cons_zero])
          | ((with_reducible refine cls_agg ?_ HX2.out Tryz.underlying32 rfl HS2.out ?_ ?_); (focus rfl); (focus rfl); simp only [Act.put, List.setIfInBounds_toArray, List.set_cons_succ, List.set_cons_zero])
          | (first | go_big_quiet_step (fail) | (go_big_quiet_want; go_big_quiet_op; (refine ⟨_, fun _ _ => rfl, ?_⟩); go_big_quiet_on)))
        (refine wpQuiet_nil ?_); intro w6 hw6
        have HB6 := Keep.keep (HB.out.trans (hw6.mono HB.out.size))
        clear hw6
        cases r with
        | true =>
          have HE := Keep.keep (HST.out rfl)
          go_wp2_with fail
          go_roundg g
          case measure => omega
          case rel => exact ⟨k + 1, by omega, by simp, HE.out, HB6.out⟩
        | false =>
          have HE := Keep.keep (HNE.out rfl)
          go_wp2_with fail
          go_ret
          exact ⟨⟨false, rfl, ⟨fun h => (by cases h), fun h => (HE.out h).elim⟩⟩, HB6.out⟩
  · have hne : ((l1.length : Int) == (l2.length : Int)) = false := by simp; omega
    have HL := Keep.keep hl
    clear hl
    go_enter Tryz.func12, Tryz.ntmps12
    go_wp2_with fail
    go_ret
    exact ⟨⟨false, rfl, ⟨fun h => (by cases h), fun h => (HL.out (by have := congrArg List.length (HP.out.1 h); simpa using this)).elim⟩⟩, Below.refl _ _⟩
end Go.Proofs.YtphgmkhbhboklaaGreatDoor
/- portolanlaw12.Alike of one Member each. -/
namespace Go.Proofs.YtphgmkhbhboklaaGreatDoor
open Go.RowKit
theorem alike_one (w : World) (k : Int) (mo : Int) (u : Int) (g : Int) (t : Int) (at_ : List (Tx × Tx)) (da : Tx) (li : Tx) (a7 : Option Addr) (l7 c7 : Nat) (d7 : Option Addr) (n7 e7 : Nat) (a8 : Option Addr) (l8 c8 : Nat) (a9 : Option Addr) (l9 c9 : Nat) (h1 : NdR w (· < w.heap.size) ⟨k, mo, u, g, t, at_, da, li⟩ (.slice a7 l7 c7) (.slice d7 n7 e7)) (h2 : NdR w (· < w.heap.size) ⟨k, mo, u, g, t, at_, da, li⟩ (.slice a8 l8 c8) (.slice a9 l9 c9)) :
    Calls Tryz.prog 12 #[.slice (some ⟨w.heap.size, 0, none⟩) 1 1, .slice (some ⟨w.heap.size + 1, 0, none⟩) 1 1] ((w.alloc (.cells #[.string ⟨#[]⟩, .int .i64 k, .int .u32 mo, .int .u32 u, .int .u32 g, .int .i64 t, .slice a7 l7 c7, .slice d7 n7 e7, .string ⟨li.toArray⟩] 32)).alloc (.cells #[.string ⟨#[]⟩, .int .i64 k, .int .u32 mo, .int .u32 u, .int .u32 g, .int .i64 t, .slice a8 l8 c8, .slice a9 l9 c9, .string ⟨li.toArray⟩] 32)) fun e w' => e = .returned (.bool true) ∧ Below w.heap.size w w' := by
  obtain ⟨wa, hwa⟩ : ∃ wa, w.alloc (.cells #[.string ⟨#[]⟩, .int .i64 k, .int .u32 mo, .int .u32 u, .int .u32 g, .int .i64 t, .slice a7 l7 c7, .slice d7 n7 e7, .string ⟨li.toArray⟩] 32) = wa := ⟨_, rfl⟩
  have hba : Below w.heap.size w wa := hwa ▸ (Below.refl _ w).alloc (Nat.le_refl _) _
  have hsa : wa.heap.size = w.heap.size + 1 := by rw [← hwa]; simp
  have r1 : RdV wa (· < wa.heap.size) 9 (.slice (some ⟨w.heap.size, 0, none⟩) 1 1) 1 [.string ⟨#[]⟩, .int .i64 k, .int .u32 mo, .int .u32 u, .int .u32 g, .int .i64 t, .slice a7 l7 c7, .slice d7 n7 e7, .string ⟨li.toArray⟩] := by
    rw [← hwa]
    exact RdV.new 32 _ 9 1 _ rfl rfl (by unfold maxLen; omega) (by simp)
  rw [hwa]
  obtain ⟨wb, hwb⟩ : ∃ wb, wa.alloc (.cells #[.string ⟨#[]⟩, .int .i64 k, .int .u32 mo, .int .u32 u, .int .u32 g, .int .i64 t, .slice a8 l8 c8, .slice a9 l9 c9, .string ⟨li.toArray⟩] 32) = wb := ⟨_, rfl⟩
  have hbb : Below wa.heap.size wa wb := hwb ▸ (Below.refl _ wa).alloc (Nat.le_refl _) _
  have hsb : wb.heap.size = wa.heap.size + 1 := by rw [← hwb]; simp
  have r2 : RdV wb (· < wb.heap.size) 9 (.slice (some ⟨w.heap.size + 1, 0, none⟩) 1 1) 1 [.string ⟨#[]⟩, .int .i64 k, .int .u32 mo, .int .u32 u, .int .u32 g, .int .i64 t, .slice a8 l8 c8, .slice a9 l9 c9, .string ⟨li.toArray⟩] := by
    rw [← hwb]
    exact RdV.new 32 _ 9 1 _ hsa.symm rfl (by unfold maxLen; omega) (by simp; omega)
  rw [hwb]
  have hbw : Below w.heap.size w wb := hba.trans (hbb.mono (by omega))
  have m1 : Mbs wb (· < wb.heap.size) (· < wb.heap.size) (.slice (some ⟨w.heap.size, 0, none⟩) 1 1) [(([], ⟨k, mo, u, g, t, at_, da, li⟩), .slice a7 l7 c7, .slice d7 n7 e7)] :=
    ⟨(r1.loc (fun b hb => hbb.block b hb)).mono (fun b hb => by omega), fun x hx => by
      obtain rfl : x = (([], ⟨k, mo, u, g, t, at_, da, li⟩), .slice a7 l7 c7, .slice d7 n7 e7) := by simpa using hx
      exact (h1.below hbw (fun b hb => hb)).mono (fun b hb => by omega)⟩
  have m2 : Mbs wb (· < wb.heap.size) (· < wb.heap.size) (.slice (some ⟨w.heap.size + 1, 0, none⟩) 1 1) [(([], ⟨k, mo, u, g, t, at_, da, li⟩), .slice a8 l8 c8, .slice a9 l9 c9)] :=
    ⟨r2, fun x hx => by
      obtain rfl : x = (([], ⟨k, mo, u, g, t, at_, da, li⟩), .slice a8 l8 c8, .slice a9 l9 c9) := by simpa using hx
      exact (h2.below hbw (fun b hb => hb)).mono (fun b hb => by omega)⟩
  refine (alike_any _ _ _ _ wb m1 m2).mono ?_
  rintro e w' ⟨⟨r, rfl, hr⟩, hb⟩
  obtain rfl : r = true := hr.2 rfl
  exact ⟨rfl, hbw.trans (hb.mono (by omega))⟩
end Go.Proofs.YtphgmkhbhboklaaGreatDoor
