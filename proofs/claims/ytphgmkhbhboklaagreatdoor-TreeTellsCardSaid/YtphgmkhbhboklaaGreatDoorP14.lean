/- PARTS OF ONE PROOF, set in one file: TreeTells, Nest, Ok, NodeOpen, TreeLaid, OpenS. Each part tells its own conditions. -/
import Derived.Deep.CutRange
import Derived.Deep.Slices
import Derived.Deep.SlicePairs
import Derived.Lib.LaidU8
import Derived.LaidHandle
import Derived.LaidSub
import Derived.PinnedBridge
import Derived.Deep.DeepWitnessRowRef
import Derived.SliceStrings
import Derived.Test.YtphgmkhbhboklaaGreatDoorP1
import Derived.Test.YtphgmkhbhboklaaGreatDoorP2
import Derived.Test.YtphgmkhbhboklaaGreatDoorP3
import Derived.Test.YtphgmkhbhboklaaGreatDoorP4
import Derived.Test.YtphgmkhbhboklaaGreatDoorP7
import Derived.Test.YtphgmkhbhboklaaGreatDoorP11
import Derived.Test.YtphgmkhbhboklaaGreatDoorP12
import Derived.Test.YtphgmkhbhboklaaGreatDoorP13
/- TreeTells: a tree under any calls tells what the document's tells. -/
namespace Go.Proofs.YtphgmkhbhboklaaGreatDoor
open Go.RowKit
/-- what is said of the operations of `if t.Put(m) != w.Put(m)` -/
def ttP (T R : Nat) (y : Array Value) (c : Int) : Nat → Value → Prop
  | 0, v => v = .pointer (some ⟨T, 0, none⟩)
  | 1, v => v = .agg y
  | 2, v => v = .int .i64 c
  | 3, v => v = .pointer (some ⟨R, 0, none⟩)
  | 4, v => v = .agg y
  | 5, v => v = .int .i64 c
  | _, v => v = .bool false
def ttR (T R b13 : Nat) (p : Tx) (c : Int) : Nat → Value → Prop
  | 0, v => v = .pointer (some ⟨T, 0, none⟩)
  | 1, v => v = .pointer (some ⟨b13, 0, none⟩)
  | 2, v => v = .string ⟨p.toArray⟩
  | 3, v => v = .int .i64 c
  | 4, v => v = .pointer (some ⟨R, 0, none⟩)
  | 5, v => v = .pointer (some ⟨b13, 0, none⟩)
  | 6, v => v = .string ⟨p.toArray⟩
  | 7, v => v = .int .i64 c
  | _, v => v = .bool false
theorem run_neqInt {P : Program} {ρ : Operand → Value} {d : Option Tmp} {x y : Operand} {t t1 : TypeId} {pos : String} {af : Array Edge} {g : Option (Nat × Bool)} {w : World} {c : Int} (hx : ρ x = .int .i64 c) (hy : ρ y = .int .i64 c) : (execOp ρ (⟨d, .binOp .neq 3 x y t1, t, pos, af, g⟩ : Oper)).run P w = .ok (.value (.bool false)) w := by
  simp [go_sem, execOp, hx, hy]
set_option maxHeartbeats 8000000 in
set_option maxRecDepth 100000 in
theorem tells_law (B : Nat) (v0 : Value) (l0 : List Mv) (v1 : Value) (l1 : List Av) (v2 : Value) (ps : List Tx) (w : World) (hT : Tabs B w) (h0 : Mbs w (· < w.heap.size) (· < w.heap.size) v0 l0) (k0 : ∀ x ∈ l0, Kb x.1) (h1 : ActsR w (· < w.heap.size) (· < w.heap.size) v1 l1) (k1 : ∀ x ∈ l1, Kb x.2.1) (h2 : RdV w (· < w.heap.size) 1 v2 ps.length (ps.map encStr)) :
    Calls Tryz.prog 4 #[v0, v1, v2] w fun e w' => e = .returned (.bool true) ∧ Below w.heap.size w w' := by
  obtain ⟨a0, cp0, rfl, -⟩ := h0.rd.shape
  obtain ⟨a1, cp1, rfl, hc1, hm1, hsh1⟩ := h1.rd.shape
  obtain ⟨a2, cp2, rfl, hc2, hm2, hsh2⟩ := h2.shape
  have HT := Keep.keep hT; have H0 := Keep.keep h0; have H1 := Keep.keep h1; have H2 := Keep.keep h2
  have K0 := Keep.keep k0; have K1 := Keep.keep k1; have HSH1 := Keep.keep hsh1; have HSH2 := Keep.keep hsh2
  unfold maxLen at hm1 hm2
  clear hT h0 h1 h2 k0 k1 hsh1 hsh2
  obtain ⟨n1, hn1⟩ : ∃ n, l1.length = n := ⟨_, rfl⟩
  obtain ⟨n2, hn2⟩ : ∃ n, ps.length = n := ⟨_, rfl⟩
  have HN1 := Keep.keep hn1; have HN2 := Keep.keep hn2
  have HNA : Keep (∀ x ∈ l1, NdR w (· < w.heap.size) x.2.1.2 x.2.2.1 x.2.2.2) := ⟨H1.out.nd⟩
  have H1 := Keep.keep H1.out.rd
  rw [hn1] at hc1 H1 ⊢
  rw [hn2] at hc2 H2 ⊢
  clear hn1 hn2
  go_enter Tryz.func4, Tryz.ntmps4
  go_wp2_with fail
  refine (few18_any _ l0 w H0.out).mono ?_
  rintro e w1 ⟨v', rfl, ⟨l, el, ho, hn⟩, hb1⟩
  have HB1 := Keep.keep hb1
  have hs1 := hb1.size
  have hmb : Mbs w1 (· < w1.heap.size) (· < w1.heap.size) v' l := ⟨(ownsV_reads ho).mono (fun b hb => hb.2.1), fun x hx => (hn x hx).mono (fun b hb => hb.1.2)⟩
  have hsm : ∀ x ∈ l, Sm x.1 := fun x hx => by
    have h : x.1 ∈ few18 (l0.map (·.1)) := by rw [← el]; exact List.mem_map.2 ⟨x, hx, rfl⟩
    unfold few18 at h
    obtain ⟨y, hy, e⟩ := List.mem_map.1 h
    obtain ⟨z, hz, rfl⟩ := List.mem_map.1 (List.mem_of_mem_take hy)
    rw [← e]
    exact (K0.out z hz).cut
  have hll : l.length ≤ 40 := by
    have h := congrArg List.length el
    unfold few18 at h
    rw [List.length_map, List.length_map, List.length_take] at h
    omega
  have HM := Keep.keep hmb; have HSM := Keep.keep hsm
  obtain ⟨a, cap, rfl, hcap, hmx, hsh⟩ := hmb.rd.shape
  have HSH := Keep.keep hsh
  unfold maxLen at hmx
  clear ho hn hb1 hmb hsm hsh el H0 K0
  have HNW := Keep.keep (new_tree _ l B w1 (HT.out.on (HB1.out.mono HT.out.b)) HM.out HSM.out (by omega))
  have HRW : Keep (∀ wx, Below w1.heap.size w1 wx → Calls Tryz.prog 21 #[.slice a l.length cap] wx fun e w' => (∃ pv, e = .returned (.tuple #[pv, .int .i64 (newT (l.map (·.1))).1]) ∧ RNewIs wx w' (· < w1.heap.size) pv (newT (l.map (·.1))).2) ∧ Below wx.heap.size wx w') := ⟨fun wx hb => rnew_any (· < w1.heap.size) _ l wx (fun b hb' => Nat.lt_of_lt_of_le hb' hb.size) (HM.out.below hb (fun b hb => hb) (fun b hb => hb)) HSM.out (by omega)⟩
  have HNL : Keep (∀ L, (newT (l.map (·.1))).2 = some L → L.length ≤ 40) := ⟨fun L hL => by
    unfold newT at hL
    split at hL
    · cases hL
    · split at hL
      · cases hL
      · split at hL
        · cases hL
        · split at hL
          · cases hL
          · injection hL with hL
            have := growT_len (l.map (·.1))
            rw [List.length_map] at this
            rw [← hL]; omega⟩
  generalize newT (l.map (·.1)) = nt at *
  obtain ⟨c, o⟩ := nt
  dsimp only at HNW HRW HNL
  obtain ⟨nl, hnl⟩ : ∃ n, l.length = n := ⟨_, rfl⟩
  have HNN := Keep.keep hnl
  rw [hnl] at hll hcap HM HNW HRW ⊢
  clear hnl
  have hcc : (c != c) = false := by simp
  go_wp2_with fail
  refine HNW.out.mono ?_
  rintro e w2 ⟨⟨pv, rfl, hnw⟩, hb2⟩
  have HNI := Keep.keep hnw
  have HB2 := Keep.keep hb2
  clear hnw hb2 HNW
  go_wp2_with fail
  refine (HRW.out w2 HB2.out).mono ?_
  rintro e w3 ⟨⟨rv, rfl, hrn⟩, hb3⟩
  have HRI := Keep.keep hrn
  have HB3 := Keep.keep hb3
  have hs2 := HB2.out.size
  have hs3 := hb3.size
  have HBW3 : Keep (Below w.heap.size w w3) := ⟨HB1.out.trans ((HB2.out.trans (hb3.mono hs2)).mono hs1)⟩
  -- what stands there, if a tree stands there
  have HST : Keep (∀ L, o = some L → ∃ T R, pv = .pointer (some ⟨T, 0, none⟩) ∧ rv = .pointer (some ⟨R, 0, none⟩) ∧ TWs w w3 T R L L (fun _ => False)) := ⟨fun L hL => by
    subst hL
    obtain ⟨T, mb, Bk, f, rfl, ht, g1, g2, g3⟩ := HNI.out
    obtain ⟨R, N, vr, lr, rfl, hr, he, k1, k2, k3⟩ := HRI.out
    have hTl := ht.row.lt
    have hml := ht.map.lt
    refine ⟨T, R, rfl, rfl, ⟨mb, Bk, N, f, vr, lr, ht.loc (fun b hb => HB3.out.block b ?_), hr, he, ⟨by omega, by omega⟩, fun b hb => by have := (g3 b hb).2; omega, fun b hb => ?_, ⟨by omega, by omega, fun e => by have := (g3 R e).2; omega, fun e => ?_⟩, k2, fun b hb => hb.elim⟩, HBW3.out⟩
    · rcases hb with rfl | rfl | h
      · exact hTl
      · exact hml
      · exact (g3 b h).2
    · rcases k3 b hb with h | h
      · have h : b < w1.heap.size := h
        omega
      · exact h.2
    · rcases k3 mb e with h | h
      · have h : mb < w1.heap.size := h
        omega
      · have := h.1; omega⟩
  have HNO : Keep (o = none → pv = .pointer none ∧ rv = .pointer none) := ⟨fun h => by subst h; exact ⟨HNI.out, HRI.out⟩⟩
  clear hrn hb3 HRW HNI HRI
  go_upto_region 4 with fail
  go_cut [37] from 28 to 37 (fun u37 wc => u37 = .bool false ∧ wc = w3)
  case first =>
    cases o with
    | none =>
      obtain ⟨rfl, rfl⟩ := HNO.out rfl
      go_wp2_with fail
      go_meet
      case rel => exact ⟨rfl, rfl⟩
    | some L =>
      obtain ⟨T, R, rfl, rfl, -⟩ := HST.out L rfl
      go_wp2_with fail
      go_meet
      case rel => exact ⟨rfl, rfl⟩
  case rest =>
    obtain ⟨rfl, hwc⟩ := hcut
    have hwc2 := hwc.symm
    clear hwc
    subst hwc2
    have HM3 : Keep (∀ wx, Below w3.heap.size w3 wx → Mbs wx (· < w1.heap.size) (· < w1.heap.size) (.slice a nl cap) l) := ⟨fun wx hb => HM.out.below (HB2.out.trans ((HB3.out.trans (hb.mono hs3)).mono hs2)) (fun b hb => hb) (fun b hb => hb)⟩
    go_wp2_with fail
    go_loopg [11] nl (fun g u11 wx => ∃ k : Nat, k + g = nl ∧ u11 = .int .i64 (k : Int) ∧ Below w3.heap.size w3 wx)
    case atStart => exact ⟨0, by omega, rfl, Below.refl _ _⟩
    case round =>
      obtain ⟨k, hkg, rfl, hb⟩ := hrel
      have HB := Keep.keep hb
      have hsr := hb.size
      clear hb
      by_cases hk : k < nl
      · obtain ⟨g, rfl⟩ : ∃ g, gk = g + 1 := ⟨gk - 1, by omega⟩
        have hd : decide ((k : Int) < (nl : Int)) = true := decide_eq_true (by omega)
        have hkl : k < l.length := by rw [HNN.out]; exact hk
        obtain ⟨b, off, rfl, hbl⟩ : ∃ b off, a = some ⟨b, off, none⟩ ∧ b < w1.heap.size := by
          rcases HSH.out with h | ⟨b, off, h, hb⟩
          · omega
          · exact ⟨b, off, h, hb⟩
        have HX : Keep (∀ wx, Below wr.heap.size wr wx → ∀ (j : Nat) (u : Value), (mcell l[k]).toList[j]? = some u → wx.cell? ⟨b, off + k * 9 + j, none⟩ = some u) := ⟨fun wx hx j u hj => by
          have hjl := (List.getElem?_eq_some_iff.1 hj).1
          rw [mcell_len] at hjl
          exact (HM3.out wx (HB.out.trans (hx.mono hsr))).cell hkl j hjl (by simpa using hj)⟩
        have HMY : Keep (∀ wx, Below wr.heap.size wr wx → Calls Tryz.prog 17 #[.agg (mcell l[k]).toList.toArray] wx fun e w' => e = .returned (.bool (mayM l[k].1)) ∧ Below wx.heap.size wx w') := ⟨fun wx hx => by
          have hbx := HB.out.trans (hx.mono hsr)
          have ht := HT.out.on ((HBW3.out.trans (hbx.mono HBW3.out.size)).mono HT.out.b)
          simp only [Array.toArray_toList]
          exact tmay_any l[k].1 l[k].2.1 l[k].2.2 (HSM.out _ (List.getElem_mem hkl)) B wx ht.b ht.m ht.c ht.t (((HM3.out wx hbx).nd _ (List.getElem_mem hkl)).mono (fun b hb => by have := hbx.size; omega))⟩
        have HRY : Keep (∀ wx, Below wr.heap.size wr wx → Calls Tryz.prog 22 #[.agg (mcell l[k]).toList.toArray] wx fun e w' => e = .returned (.bool (mayM l[k].1)) ∧ Below wx.heap.size wx w') := ⟨fun wx hx => by
          have hbx := HB.out.trans (hx.mono hsr)
          simp only [Array.toArray_toList]
          exact rmay18_any l[k].1 l[k].2.1 l[k].2.2 (HSM.out _ (List.getElem_mem hkl)) wx (((HM3.out wx hbx).nd _ (List.getElem_mem hkl)).mono (fun b hb => by have := hbx.size; omega))⟩
        have hs1 : (Tryz.prog.info? 32).map (·.size) = some (mcell l[k]).toList.length := by rw [mcell_len]; exact aggM.i
        generalize (mcell l[k]).toList = x at *
        generalize mayM l[k].1 = my at *
        have HS1 := Keep.keep hs1
        have hmm : (my != my) = false := by simp
        clear hs1
        go_upto_region 9 with fail
        refine wp_region_cls (fun w' => Below wr.heap.size wr w') (by kernel_rfl) (by kernel_rfl) (Below.refl _ _).drew ?_
        repeat (first
          | ((with_reducible refine cls_call (f := 17) ?_ (Go.Proofs.enters_of Tryz.func17 (by kernel_rfl) rfl) ?_ (fun w1 hw1 => (HMY.out w1 hw1).mono (fun e w2 he => ⟨he.1, hw1.trans (he.2.mono hw1.size)⟩)) ?_); (focus rfl); (focus (first | exact Array.map_empty | (simp only [List.map_toArray, List.map_cons, List.map_nil]; rfl))); simp only [Act.put, List.setIfInBounds_toArray, List.set_cons_succ, List.set_cons_zero])
          | ((with_reducible refine cls_call (f := 22) ?_ (Go.Proofs.enters_of Tryz.func22 (by kernel_rfl) rfl) ?_ (fun w1 hw1 => (HRY.out w1 hw1).mono (fun e w2 he => ⟨he.1, hw1.trans (he.2.mono hw1.size)⟩)) ?_); (focus rfl); (focus (first | exact Array.map_empty | (simp only [List.map_toArray, List.map_cons, List.map_nil]; rfl))); simp only [Act.put, List.setIfInBounds_toArray, List.set_cons_succ, List.set_cons_zero])
          | ((with_reducible refine cls_agg ?_ HX.out Tryz.underlying32 rfl HS1.out ?_ ?_); (focus rfl); (focus rfl); simp only [Act.put, List.setIfInBounds_toArray, List.set_cons_succ, List.set_cons_zero])
          | (first | go_big_quiet_step (fail) | (go_big_quiet_want; go_big_quiet_op; (refine ⟨_, fun _ _ => rfl, ?_⟩); go_big_quiet_on)))
        (refine wpQuiet_nil ?_); intro w6 hw6
        have HB6 := Keep.keep (HB.out.trans (hw6.mono hsr))
        clear hw6
        go_wp2_with fail
        go_roundg g
        case measure => omega
        case rel => exact ⟨k + 1, by omega, by simp, HB6.out⟩
      · obtain rfl : k = nl := by omega
        have hd : decide ((k : Int) < (k : Int)) = false := decide_eq_false (by omega)
        have HBWr : Keep (Below w.heap.size w wr) := ⟨HBW3.out.trans (HB.out.mono HBW3.out.size)⟩
        have HSTr : Keep (∀ L, o = some L → ∃ T R, pv = .pointer (some ⟨T, 0, none⟩) ∧ rv = .pointer (some ⟨R, 0, none⟩) ∧ TWs w wr T R L L (fun _ => False)) := ⟨fun L hL => by
          obtain ⟨T, R, h1, h2, h3⟩ := HST.out L hL
          exact ⟨T, R, h1, h2, h3.on HB.out⟩⟩
        clear HST HM3 HM HSM HSH hkg
        go_upto_region 11 with fail
        go_cut [56] from 55 to 56 (fun u56 wc => u56 = .bool o.isNone ∧ wc = wr)
        case first =>
          cases o with
          | none =>
            obtain ⟨rfl, rfl⟩ := HNO.out rfl
            go_wp2_with fail
            go_meet
            case rel => exact ⟨rfl, rfl⟩
          | some L =>
            obtain ⟨T, R, rfl, rfl, -⟩ := HSTr.out L rfl
            go_wp2_with fail
            go_meet
            case rel => exact ⟨rfl, rfl⟩
        case rest =>
          obtain ⟨rfl, hwc⟩ := hcut
          have hwc2 := hwc.symm
          clear hwc
          subst hwc2
          go_upto_if 56 with fail
          go_cut [7, 8, 9] from 57 to 70 (fun u7 _ u9 wc => ∃ T R L, u7 = .pointer (some ⟨T, 0, none⟩) ∧ u9 = .pointer (some ⟨R, 0, none⟩) ∧ TWs w wc T R L L (fun _ => False) ∧ L.length ≤ 40)
          case first =>
            cases o with
            | none =>
              obtain ⟨rfl, rfl⟩ := HNO.out rfl
              simp only [Option.isNone_none]
              have hnn : newT (([] : List Mv).map (·.1)) = (0, some []) := rfl
              have HNW2 := new_tree (.slice none 0 0) [] B wr (HT.out.on (HBWr.out.mono HT.out.b)) ⟨RdV.ofNil, fun x hx => (List.not_mem_nil hx).elim⟩ (fun x hx => (List.not_mem_nil hx).elim) (by simp)
              rw [hnn] at HNW2
              have HNW3 := Keep.keep HNW2
              clear HNW2 HNO HSTr
              go_wp2_with fail
              refine HNW3.out.mono ?_
              rintro e w4 ⟨⟨pv, rfl, T, mb, Bk, f, rfl, ht, g1, g2, g3⟩, hb4⟩
              have HT4 := Keep.keep ht; have HG3 := Keep.keep g3
              have hs4 := hb4.size
              have HB4 := Keep.keep (HBWr.out.trans (hb4.mono HBWr.out.size))
              have hsw := HBWr.out.size
              have HRW2 := rnew_any (fun _ => False) (.slice none 0 0) [] w4 (fun b hb => hb.elim) ⟨RdV.ofNil, fun x hx => (List.not_mem_nil hx).elim⟩ (fun x hx => (List.not_mem_nil hx).elim) (by simp)
              rw [hnn] at HRW2
              have HRW3 := Keep.keep HRW2
              clear HRW2 hnn ht g3 hb4 HNW3
              go_wp2_with fail
              refine HRW3.out.mono ?_
              rintro e w5 ⟨⟨rv, rfl, R, N, vr, lr, rfl, hr, he, k1, k2, k3⟩, hb5⟩
              have HTW5 : Keep (TWs w w5 T R [] [] (fun _ => False)) := ⟨by
                have hTl := HT4.out.row.lt
                have hml := HT4.out.map.lt
                have hs5 := hb5.size
                refine ⟨⟨mb, Bk, N, f, vr, lr, HT4.out.loc (fun b hb => hb5.block b ?_), hr, he, ⟨by omega, by omega⟩, fun b hb => by have := (HG3.out b hb).2; omega, fun b hb => ?_, ⟨by omega, by omega, fun e => by have := (HG3.out R e).2; omega, fun e => ?_⟩, k2, fun b hb => hb.elim⟩, HB4.out.trans (hb5.mono HB4.out.size)⟩
                · rcases hb with rfl | rfl | h
                  · exact hTl
                  · exact hml
                  · exact (HG3.out b h).2
                · rcases k3 b hb with h | h
                  · exact h.elim
                  · exact h.2
                · rcases k3 mb e with h | h
                  · exact h.elim
                  · have := h.1; omega⟩
              clear hr he k3 hb5 HRW3
              go_wp2_with fail
              go_meet
              case rel => exact ⟨T, R, [], rfl, rfl, HTW5.out, by simp⟩
            | some L =>
              obtain ⟨T, R, rfl, rfl, h⟩ := HSTr.out L rfl
              have H := Keep.keep h
              clear h
              simp only [Option.isNone_some]
              go_wp2_with fail
              go_meet
              case rel => exact ⟨T, R, L, rfl, rfl, H.out, HNL.out L rfl⟩
          case rest =>
            obtain ⟨T, R, L, rfl, rfl, htw, hL⟩ := hcut
            have HTW0 := Keep.keep htw
            clear htw HSTr HNO HNL HBWr HB hsr hs2 hs3 hmx
            go_wp2_with fail
            go_loopg [7, 12, 13, 14] (min n1 40) (fun g u7 u12 _ _ wx => ∃ (i T : Nat) (L : List Mb), i + g = min n1 40 ∧ u7 = .pointer (some ⟨T, 0, none⟩) ∧ u12 = .int .i64 (i : Int) ∧ TWs w wx T R L L (fun _ => False) ∧ L.length ≤ 40 + i)
            case atStart => exact ⟨0, T, L, by omega, rfl, rfl, HTW0.out, by omega⟩
            case round =>
              clear HTW0 hL T L
              obtain ⟨i, T, L, hig, rfl, rfl, htw, hL⟩ := hrel
              have HTW := Keep.keep htw
              clear htw
              cases gk with
              | zero =>
                have hL1 : L.length ≤ 1000 := by omega
                by_cases hk : i < n1
                focus
                  have hd1 : decide ((i : Int) < (n1 : Int)) = true := decide_eq_true (by omega)
                  have hd2 : decide ((i : Int) < 40) = false := decide_eq_false (by omega)
                  go_wp2_with fail
                rotate_left
                focus
                  have hd1 : decide ((i : Int) < (n1 : Int)) = false := decide_eq_false (by omega)
                  go_wp2_with fail
                all_goals
                  go_loopg [15] (min n2 10) (fun g u15 wx => ∃ q : Nat, q + g = min n2 10 ∧ u15 = .int .i64 (q : Int) ∧ TWs w wx T R L L (fun _ => False))
                  case atStart => exact ⟨0, by omega, rfl, HTW.out⟩
                  case round =>
                    obtain ⟨q, hqg, rfl, htw⟩ := hrel
                    have HTQ := Keep.keep htw
                    clear htw HTW
                    cases gk with
                    | zero =>
                      by_cases hq : q < n2
                      focus
                        have hd3 : decide ((q : Int) < (n2 : Int)) = true := decide_eq_true (by omega)
                        have hd4 : decide ((q : Int) < 10) = false := decide_eq_false (by omega)
                        go_wp2_with fail
                      rotate_left
                      focus
                        have hd3 : decide ((q : Int) < (n2 : Int)) = false := decide_eq_false (by omega)
                        go_wp2_with fail
                      all_goals
                        refine (asked_tw HTQ.out hL1 [] (by simp)).mono ?_
                        rintro e w8 ⟨rfl, hb8⟩
                        have HB8 := Keep.keep (HTQ.out.bel.trans (hb8.mono HTQ.out.bel.size))
                        clear hb8
                        go_wp2_with fail
                        refine (tells_any B _ (HT.out.on (HB8.out.mono HT.out.b))).mono ?_
                        rintro e w9 ⟨rfl, hb9⟩
                        have HB9 := Keep.keep (HB8.out.trans (hb9.mono HB8.out.size))
                        clear hb9
                        go_wp2_with fail
                        go_ret
                        exact ⟨rfl, HB9.out⟩
                    | succ g =>
                      have hd3 : decide ((q : Int) < (n2 : Int)) = true := decide_eq_true (by omega)
                      have hd4 : decide ((q : Int) < 10) = true := decide_eq_true (by omega)
                      have hql : q < ps.length := by rw [HN2.out]; omega
                      obtain ⟨b, off, rfl, hbl⟩ : ∃ b off, a2 = some ⟨b, off, none⟩ ∧ b < w.heap.size := by
                        rcases HSH2.out with h | ⟨b, off, h, hb⟩
                        · omega
                        · exact ⟨b, off, h, hb⟩
                      have HCL : Keep (∀ wx, Below wr.heap.size wr wx → wx.cell? ⟨b, off + q, none⟩ = some (.string ⟨ps[q].toArray⟩)) := ⟨fun wx hb => (H2.out.below (HTQ.out.bel.trans (hb.mono HTQ.out.bel.size)) (fun b hb => hb)).cell b off _ _ rfl q (encStr ps[q]) (by rw [List.getElem?_map, List.getElem?_eq_getElem hql]; rfl)⟩
                      generalize ps[q] = p at *
                      obtain ⟨pk, hpk⟩ : ∃ k, min p.length 300 = k := ⟨_, rfl⟩
                      have hmn : min (p.length : Int) 300 = (pk : Int) := by omega
                      have hsl := run_slice_to (P := Tryz.prog) Tryz.underlying9 p .i64 pk (by omega)
                      have HASK : Keep (∀ wx, Below wr.heap.size wr wx → Calls Tryz.prog 26 #[.pointer (some ⟨T, 0, none⟩), .pointer (some ⟨R, 0, none⟩), .string ⟨(p.take pk).toArray⟩] wx fun e w' => e = .returned (.bool true) ∧ Below wx.heap.size wx w') := ⟨fun wx hb => asked_tw (HTQ.out.on hb) hL1 _ (by rw [List.length_take]; omega)⟩
                      clear hpk
                      generalize p.take pk = pt at *
                      go_upto_region 37 with fail
                      refine wp_region_cls (fun w' => Below wr.heap.size wr w') (by kernel_rfl) (by kernel_rfl) (Below.refl _ _).drew ?_
                      repeat (first
                        | ((with_reducible refine cls_call (f := 26) ?_ (Go.Proofs.enters_of Tryz.func26 (by kernel_rfl) rfl) ?_ (fun w1 hw1 => (HASK.out w1 hw1).mono (fun e w2 he => ⟨he.1, hw1.trans (he.2.mono hw1.size)⟩)) ?_); (focus rfl); (focus (first | exact Array.map_empty | (simp only [List.map_toArray, List.map_cons, List.map_nil]; rfl))); simp only [Act.put, List.setIfInBounds_toArray, List.set_cons_succ, List.set_cons_zero])
                        | ((with_reducible refine cls_cell ?_ HCL.out (run_isAgg_plain Tryz.underlying9 rfl) ?_ ?_); (focus rfl); (focus rfl); simp only [Act.put, List.setIfInBounds_toArray, List.set_cons_succ, List.set_cons_zero])
                        | (first | go_big_quiet_step (fail) | (go_big_quiet_want; go_big_quiet_op; (refine ⟨_, fun _ _ => rfl, ?_⟩); go_big_quiet_on)))
                      (refine wpQuiet_nil ?_); intro w6 hw6
                      have HT6 := Keep.keep (HTQ.out.on hw6)
                      clear hw6
                      go_wp2_with fail
                      go_roundg g
                      case measure => omega
                      case rel => exact ⟨q + 1, by omega, by simp, HT6.out⟩
              | succ g =>
                have hi1 : i < n1 := by omega
                have hi40 : i < 40 := by omega
                have hd1 : decide ((i : Int) < (n1 : Int)) = true := decide_eq_true (by omega)
                have hd2 : decide ((i : Int) < 40) = true := decide_eq_true (by omega)
                have hil : i < l1.length := by rw [HN1.out]; exact hi1
                obtain ⟨b, off, rfl, hbl⟩ : ∃ b off, a1 = some ⟨b, off, none⟩ ∧ b < w.heap.size := by
                  rcases HSH1.out with h | ⟨b, off, h, hb⟩
                  · omega
                  · exact ⟨b, off, h, hb⟩
                have HAX : Keep (∀ wx, Below w.heap.size w wx → ActsR wx (· < w.heap.size) (· < w.heap.size) (.slice (some ⟨b, off, none⟩) n1 cp1) l1) := ⟨fun wx h => ⟨by have := H1.out.below h (fun b hb => hb); rw [HN1.out]; exact this, fun x hx => (HNA.out x hx).below h (fun b hb => hb)⟩⟩
                have hsw : w.heap.size ≤ wr.heap.size := HTW.out.bel.size
                have hax := HAX.out wr HTW.out.bel
                have hld := hax.load hil
                have hkb := K1.out _ (List.getElem_mem hil)
                have hndx := hax.nd _ (List.getElem_mem hil)
                have HPU : Keep (∀ wx, Below w.heap.size w wx → wx.cell? ⟨b, off + i * 10, none⟩ = some (.bool l1[i].1)) := ⟨fun wx h => (HAX.out wx h).puts hil⟩
                clear hax
                generalize l1[i] = x at *
                obtain ⟨pu, ⟨⟨xp, ⟨kind, mode, uid, gid, time, attrs, data, link⟩⟩, av, dv⟩⟩ := x
                obtain ⟨aa, la, ca, ad, ld, cd, e1, e2⟩ := hndx.shape
                dsimp only at hndx e1 e2 hkb HPU
                subst e1 e2
                have HX := Keep.keep hndx; have HKB := Keep.keep hkb
                unfold mcell mbC strV at hld
                dsimp only at hld
                clear hndx hkb
                have HMB : Keep (Mbs (wr.alloc (.cells #[.string ⟨xp.toArray⟩, .int .i64 kind, .int .u32 mode, .int .u32 uid, .int .u32 gid, .int .i64 time, .slice aa la ca, .slice ad ld cd, .string ⟨link.toArray⟩] 32)) (· < (wr.alloc (.cells #[.string ⟨xp.toArray⟩, .int .i64 kind, .int .u32 mode, .int .u32 uid, .int .u32 gid, .int .i64 time, .slice aa la ca, .slice ad ld cd, .string ⟨link.toArray⟩] 32)).heap.size) (· < (wr.alloc (.cells #[.string ⟨xp.toArray⟩, .int .i64 kind, .int .u32 mode, .int .u32 uid, .int .u32 gid, .int .i64 time, .slice aa la ca, .slice ad ld cd, .string ⟨link.toArray⟩] 32)).heap.size) (.slice (some ⟨wr.heap.size, 0, none⟩) 1 1) [((xp, ⟨kind, mode, uid, gid, time, attrs, data, link⟩), .slice aa la ca, .slice ad ld cd)]) := ⟨
                  ⟨RdV.new 32 [.string ⟨xp.toArray⟩, .int .i64 kind, .int .u32 mode, .int .u32 uid, .int .u32 gid, .int .i64 time, .slice aa la ca, .slice ad ld cd, .string ⟨link.toArray⟩] 9 1 _ rfl rfl (by unfold maxLen; omega) (by simp), fun x hx => by
                    obtain rfl : x = ((xp, ⟨kind, mode, uid, gid, time, attrs, data, link⟩), .slice aa la ca, .slice ad ld cd) := by simpa using hx
                    exact (HX.out.below ((Below.refl _ wr).alloc (Nat.le_refl _) _) (fun b hb => by omega)).mono (fun b hb => by simp; omega)⟩⟩
                go_wp2_with ((with_reducible refine arm_loadM hld ?_ ?_); (focus rfl); simp only [Act.put, List.setIfInBounds_toArray, List.set_cons_succ, List.set_cons_zero])
                refine (few18_any _ _ _ HMB.out).mono ?_
                rintro e w4 ⟨v4, rfl, ⟨l4, e4, ho4, hn4⟩, hb4⟩
                have e3 : l4.map (·.1) = [cutM (xp, ⟨kind, mode, uid, gid, time, attrs, data, link⟩)] := e4
                obtain ⟨y, rfl, hy⟩ := one_of_map e3
                have HB4 : Keep (Below wr.heap.size wr w4) := ⟨((Below.refl _ wr).alloc (Nat.le_refl _) _).trans (hb4.mono (by simp))⟩
                obtain ⟨g2, c2, rfl⟩ : ∃ g2 c2, v4 = .slice (some ⟨g2, 0, none⟩) 1 c2 := by
                  rcases ho4.2 with ⟨_, h⟩ | ⟨g, cap, cur, h, _⟩
                  · simp at h
                  · exact ⟨g, cap, h⟩
                have hny := hn4 y (by simp)
                have hm4 : Mbs w4 _ _ (.slice (some ⟨g2, 0, none⟩) 1 c2) [y] := ⟨ownsV_reads ho4, hn4⟩
                have hld4 := hm4.load (k := 0) (by simp)
                rw [show 0 + 0 * 9 = 0 from rfl] at hld4
                have HSY : Keep (Sm y.1) := ⟨by rw [hy]; exact HKB.out.cut⟩
                have HPY : Keep (y.1.1.length ≤ 4100) := ⟨by rw [hy]; exact Nat.le_trans (List.length_take_le _ _) (by omega)⟩
                obtain ⟨⟨yp, ⟨k2, m5, u2, gi2, t2, at2, da2, li2⟩⟩, av2, dv2⟩ := y
                obtain ⟨a8, l8, c8, a9, l9, c9, e8, e9⟩ := hny.shape
                dsimp only at hny e8 e9 hy HPY HSY
                subst e8 e9
                have HNY := Keep.keep hny
                simp only [List.getElem_cons_zero] at hld4
                unfold mcell mbC strV at hld4
                dsimp only at hld4
                have hs4 : wr.heap.size + 1 ≤ w4.heap.size := by have := hb4.size; simpa using this
                clear ho4 hn4 hb4 e3 e4 hy hny hm4 hld HMB
                go_upto_region 20 with ((with_reducible refine arm_loadM hld4 ?_ ?_); (focus rfl); simp only [Act.put, List.setIfInBounds_toArray, List.set_cons_succ, List.set_cons_zero])
                refine wp_world (R := fun w5 => Row w5 w4.heap.size 32 #[.string ⟨yp.toArray⟩, .int .i64 k2, .int .u32 m5, .int .u32 u2, .int .u32 gi2, .int .i64 t2, .slice a8 l8 c8, .slice a9 l9 c9, .string ⟨li2.toArray⟩] ∧ Below wr.heap.size wr w5 ∧ w4.heap.size < w5.heap.size ∧ NdR w5 (Fresh wr.heap.size w5) ⟨k2, m5, u2, gi2, t2, at2, da2, li2⟩ (.slice a8 l8 c8) (.slice a9 l9 c9)) ⟨Row.new _ _ _, HB4.out.alloc (by omega) _, by simp, ?_⟩ ?_
                · exact (HNY.out.below ((Below.refl _ w4).alloc (Nat.le_refl _) _) (fun b hb => hb.1.2)).mono (fun b hb => ⟨by have := hb.1.1; simp at this; omega, by have := hb.1.2; simp; omega⟩)
                intro w5 HV
                obtain ⟨b13, hb13⟩ : ∃ b13, w4.heap.size = b13 := ⟨_, rfl⟩
                have HTW5 := Keep.keep ((HTW.out.grow HV.out.2.1).sub (X' := Fresh wr.heap.size w5) (fun b hb => .inr hb))
                have HX13 : Keep (Fresh wr.heap.size w5 b13) := ⟨⟨by omega, by have := HV.out.2.2.1; omega⟩⟩
                rw [hb13] at HV ⊢
                have HRW5 := Keep.keep HV.out.1
                have HND5 := Keep.keep HV.out.2.2.2
                have hs5 := HV.out.2.1.size
                clear hld4 HB4 HNY HV HTW hb13 hs4 HX
                obtain ⟨XX, hXX⟩ : ∃ X : Nat → Prop, Fresh wr.heap.size w5 = X := ⟨_, rfl⟩
                rw [hXX] at HTW5 HX13 HND5
                clear hXX
                generalize wr.heap.size = sr at *
                -- the rest of the box's facts, wherever the blocks of XX stay
                have HBX : Keep (∀ wx, (∀ b, XX b → wx.heap[b]? = w5.heap[b]?) → Row wx b13 32 #[.string ⟨yp.toArray⟩, .int .i64 k2, .int .u32 m5, .int .u32 u2, .int .u32 gi2, .int .i64 t2, .slice a8 l8 c8, .slice a9 l9 c9, .string ⟨li2.toArray⟩] ∧ NdR wx XX ⟨k2, m5, u2, gi2, t2, at2, da2, li2⟩ (.slice a8 l8 c8) (.slice a9 l9 c9)) := ⟨fun wx h => ⟨(by unfold Row; rw [h b13 HX13.out]; exact HRW5.out), HND5.out.loc h⟩⟩
                have hL1 : L.length ≤ 1000 := by omega
                go_upto_region 21 with fail
                go_cut [93] from 71 to 138 (fun u93 wc => ∃ bb : Bool, u93 = .bool bb ∧ wc = w5)
                case first =>
                  go_wp2_with fail
                  go_meet
                  case rel => exact ⟨_, rfl, rfl⟩
                case rest =>
                  obtain ⟨bb, rfl, hwc⟩ := hcut
                  have hwc2 := hwc.symm
                  clear hwc
                  subst hwc2
                  go_upto_if 93 with fail
                  go_cut [7] from 71 to 138 (fun u7 wc => ∃ T, u7 = .pointer (some ⟨T, 0, none⟩) ∧ TWs w wc T R L L XX ∧ ∀ b, XX b → wc.heap[b]? = w5.heap[b]?)
                  case first =>
                    cases bb with
                    | false =>
                      go_wp2_with fail
                      go_meet
                      case rel => exact ⟨T, rfl, HTW5.out, fun b _ => rfl⟩
                    | true =>
                      obtain ⟨⟨mb, Bk, N, f, vr, lr, g1, g2, g3, g4, g5, g6, g7, g8, g9⟩, gbel⟩ := HTW5.out
                      have G1 := Keep.keep g1; have G2 := Keep.keep g2; have G3 := Keep.keep g3; have G5 := Keep.keep g5; have G6 := Keep.keep g6; have G7 := Keep.keep g7; have G9 := Keep.keep g9; have GB := Keep.keep gbel; have G4 := Keep.keep g4
                      have hTl := g1.row.lt
                      have hml := g1.map.lt
                      clear g1 g2 g3 g4 g5 g6 g7 g9 gbel HTW5
                      go_wp2_with fail
                      refine (copy_tree T mb Bk f L w5 G1.out G5.out (by omega)).mono ?_
                      rintro e w6 ⟨T2, m2, Bk2, f2, rfl, ht2, ⟨k1, k2, k3⟩, hb6⟩
                      have HT2 := Keep.keep ht2; have KB2 := Keep.keep k3; have HB6 := Keep.keep hb6
                      have hs6 := hb6.size
                      have hm2l := ht2.map.lt
                      have hT2l := ht2.row.lt
                      have HTO6 : Keep (TreeIn w6 T mb Bk f L) := ⟨G1.out.loc (fun b hb => hb6.block b (by
                        rcases hb with rfl | rfl | h
                        · exact hTl
                        · exact hml
                        · exact G5.out b h))⟩
                      clear ht2 k3 hb6
                      go_wp2_with fail
                      refine (same_tree T2 m2 Bk2 f2 L T mb Bk f L w6 HT2.out (fun b hb => (KB2.out b hb).2) HTO6.out (fun b hb => by have := G5.out b hb; omega) (by omega)).mono ?_
                      rintro e w7 ⟨⟨rb, rfl, hrb⟩, hb7⟩
                      obtain rfl : rb = true := hrb.2 rfl
                      have HB7 := Keep.keep hb7
                      have hs7 := hb7.size
                      have HTO7 : Keep (TreeIn w7 T mb Bk f L) := ⟨HTO6.out.loc (fun b hb => hb7.block b (by
                        rcases hb with rfl | rfl | h
                        · omega
                        · omega
                        · have := G5.out b h; omega))⟩
                      clear hb7 hrb HTO6
                      go_wp2_with fail
                      refine (remove_tree T mb Bk f L w7 HTO7.out (fun b hb => by have := G5.out b hb; omega) [97] (by simp)).mono ?_
                      rintro e w8 ⟨rfl, ht8, hc8⟩
                      have HT8 := Keep.keep ht8; have HC8 := Keep.keep hc8
                      have hs8 := hc8.size
                      have HRL : Keep ((removeT L [97]).2.length ≤ 1000) := ⟨by have := remove_len L [97]; omega⟩
                      have HBW8 : Keep (Below w.heap.size w w8) := ⟨GB.out.trans (((HB6.out.trans (HB7.out.mono hs6)).mono GB.out.size).trans ((hc8.lower (by have := GB.out.size; omega)).below (fun k hk e => by have := G4.out.1; omega)))⟩
                      clear ht8 hc8 HTO7
                      have hbn1 : ∀ w, (Instr.build 30 #[(0, .int .i64 1)]).run Tryz.prog w = .ok (.agg #[.int .i64 1, .int .u32 0, .int .u32 0, .int .u32 0, .int .i64 0, .slice none 0 0, .slice none 0 0, .string ⟨#[]⟩]) w := fun w => by kernel_rfl
                      have hbm2 : ∀ w, (Instr.build 32 #[(0, .string ⟨#[111, 116, 104, 101, 114]⟩), (1, .agg #[.int .i64 1, .int .u32 0, .int .u32 0, .int .u32 0, .int .i64 0, .slice none 0 0, .slice none 0 0, .string ⟨#[]⟩])]).run Tryz.prog w = .ok (.agg #[.string ⟨#[111, 116, 104, 101, 114]⟩, .int .i64 1, .int .u32 0, .int .u32 0, .int .u32 0, .int .i64 0, .slice none 0 0, .slice none 0 0, .string ⟨#[]⟩]) w := fun w => by kernel_rfl
                      have hNd : ∀ (w : World) (N : Nat → Prop), NdR w N dirN nilV nilV := fun w N => ⟨RdV.ofNil, ⟨⟨none, 0, rfl, Nat.le_refl _, by unfold maxLen; omega, .inl rfl⟩, fun b off n cap e j hj => by cases e⟩⟩
                      have hSd : ∀ p : Tx, p.length ≤ 400000 → Sm (p, dirN) := fun p hp => ⟨hp, by simp [dirN], by simp [dirN], by simp [dirN], fun x hx => by simp [dirN] at hx, by simp [dirN]⟩
                      have HPO := Keep.keep (put_tree T mb Bk f _ B w8 HT8.out (fun b hb => by have := G5.out b hb; omega) (by have := HRL.out; omega) (HT.out.on (HBW8.out.mono HT.out.b)) ([111, 116, 104, 101, 114], dirN) nilV nilV (hSd _ (by simp)) (hNd _ _))
                      clear hNd hSd
                      go_wp2_with fail
                      refine HPO.out.mono ?_
                      rintro e w9 ⟨rfl, -, hc9⟩
                      have HALL : Keep (∀ b, b < w6.heap.size → b ≠ mb → w9.heap[b]? = w6.heap[b]?) := ⟨fun b h1 h2 => by
                        rw [hc9.block b (by omega) h2, HC8.out.block b (by omega) h2, HB7.out.block b h1]⟩
                      have hs9 := hc9.size
                      have HT9 : Keep (TWs w w9 T2 R L L XX) := ⟨by
                        have g7 := G7.out
                        refine ⟨⟨m2, Bk2, N, f2, vr, lr, HT2.out.loc (fun b hb => HALL.out b ?_ ?_), G2.out.loc (fun b hb => ?_), G3.out, ⟨by have := GB.out.size; omega, G4.out.2⟩, fun b hb => by have := (KB2.out b hb).2; omega, fun b hb => by have := G6.out b hb; omega, ⟨by omega, by omega, fun e => by have := (KB2.out R e).1; omega, fun e => by have := G6.out m2 e; omega⟩, by omega, fun b hb => by have := G9.out b hb; exact ⟨by omega, by omega, this.2.2⟩⟩, HBW8.out.trans ((hc9.lower HBW8.out.size).below (fun k hk e => by have := G4.out.1; omega))⟩
                        · rcases hb with rfl | rfl | h
                          · exact hT2l
                          · exact hm2l
                          · exact (KB2.out b h).2
                        · rcases hb with rfl | rfl | h
                          · omega
                          · omega
                          · have := (KB2.out b h).1; omega
                        · rw [HALL.out b (by rcases hb with rfl | hb; omega; (have := G6.out b hb; omega)) (by
                            rcases hb with rfl | hb
                            · exact g7.2.1
                            · exact fun e => g7.2.2.2 (e ▸ hb)), HB6.out.block b (by rcases hb with rfl | hb; exact g8; exact G6.out b hb)]⟩
                      have HX9 : Keep (∀ b, XX b → w9.heap[b]? = w5.heap[b]?) := ⟨fun b hb => by
                        have := G9.out b hb
                        rw [HALL.out b (by omega) this.2.1, HB6.out.block b this.1]⟩
                      clear hc9 HPO hbn1 hbm2
                      go_wp2_with fail
                      go_meet
                      case rel => exact ⟨T2, rfl, HT9.out, HX9.out⟩
                  case rest =>
                    clear HTW5
                    obtain ⟨T, rfl, htw, hxx⟩ := hcut
                    have HTC := Keep.keep htw; have HXC := Keep.keep hxx
                    have cpu := HPU.out wc htw.bel
                    clear htw hxx
                    obtain ⟨HRWC, HNDC⟩ := HBX.out wc HXC.out
                    have HRC := Keep.keep HRWC; have HNC := Keep.keep HNDC
                    clear HRWC HNDC
                    go_upto_if 110 with fail
                    clear cpu
                    go_cut [] from 71 to 138 (fun wd => ∃ L', TWs w wd T R L' L' XX ∧ (∀ b, XX b → wd.heap[b]? = w5.heap[b]?) ∧ L'.length ≤ L.length + 1)
                    case first =>
                      have HSRT : Keep (SM.Srt L) := ⟨by obtain ⟨⟨mb, Bk, N, f, vr, lr, g1, -⟩, -⟩ := HTC.out; exact g1.srt⟩
                      cases pu with
                      | true =>
                        go_upto_region 28 with fail
                        refine wp_region_two [111, 112, 113, 114, 115, 116, 117] (ttP T R #[.string ⟨yp.toArray⟩, .int .i64 k2, .int .u32 m5, .int .u32 u2, .int .u32 gi2, .int .i64 t2, .slice a8 l8 c8, .slice a9 l9 c9, .string ⟨li2.toArray⟩] (putT L (yp, ⟨k2, m5, u2, gi2, t2, at2, da2, li2⟩)).1) (fun b1 b2 wx => TWs w wx T R (if b1 then (putT L (yp, ⟨k2, m5, u2, gi2, t2, at2, da2, li2⟩)).2 else L) (if b2 then (putT L (yp, ⟨k2, m5, u2, gi2, t2, at2, da2, li2⟩)).2 else L) XX ∧ ∀ b, XX b → wx.heap[b]? = w5.heap[b]?) 2 5 (by decide) (by kernel_rfl) rfl (by decide) (by show ∀ d ∈ _, d < 170; decide) (by kernel_rfl) (by kernel_rfl) (by show 2 < 7; decide) (by show 5 < 7; decide) ⟨HTC.out.on (Below.refl _ _).drew, HXC.out⟩ ?_ ?_ ?_ ?_
                        · intro q hq hq1 hq2 a1 wq b1 b2 hF hM hT
                          have r7 : a1.eval (.tmp 7) = .pointer (some ⟨T, 0, none⟩) := (hF.same 7 (by decide)).trans rfl
                          have r9 : a1.eval (.tmp 9) = .pointer (some ⟨R, 0, none⟩) := (hF.same 9 (by decide)).trans rfl
                          have r13 : a1.eval (.tmp 13) = .pointer (some ⟨b13, 0, none⟩) := (hF.same 13 (by decide)).trans rfl
                          have hrow := (HBX.out wq hM.2).1
                          have hq' : q < 7 := hq
                          rcases (by omega : q = 0 ∨ q = 1 ∨ q = 3 ∨ q = 4 ∨ q = 6) with rfl | rfl | rfl | rfl | rfl
                          · exact spcS_val (d := 111) (St := fun _ _ => True) (T := fun i v _ => ttP T R (#[.string ⟨yp.toArray⟩, .int .i64 k2, .int .u32 m5, .int .u32 u2, .int .u32 gi2, .int .i64 t2, .slice a8 l8 c8, .slice a9 l9 c9, .string ⟨li2.toArray⟩] : Array Value) _ i v) rfl (wanted_none rfl) (by simp [execOp, r7]) hM trivial rfl
                          · exact spcS_val (d := 112) (St := fun _ _ => True) (T := fun i v _ => ttP T R (#[.string ⟨yp.toArray⟩, .int .i64 k2, .int .u32 m5, .int .u32 u2, .int .u32 gi2, .int .i64 t2, .slice a8 l8 c8, .slice a9 l9 c9, .string ⟨li2.toArray⟩] : Array Value) _ i v) rfl (wanted_none rfl) (run_loadRowG (c := (#[.string ⟨yp.toArray⟩, .int .i64 k2, .int .u32 m5, .int .u32 u2, .int .u32 gi2, .int .i64 t2, .slice a8 l8 c8, .slice a9 l9 c9, .string ⟨li2.toArray⟩] : Array Value)) hrow aggM rfl r13) hM trivial rfl
                          · exact spcS_val (d := 114) (St := fun _ _ => True) (T := fun i v _ => ttP T R (#[.string ⟨yp.toArray⟩, .int .i64 k2, .int .u32 m5, .int .u32 u2, .int .u32 gi2, .int .i64 t2, .slice a8 l8 c8, .slice a9 l9 c9, .string ⟨li2.toArray⟩] : Array Value) _ i v) rfl (wanted_none rfl) (by simp [execOp, r9]) hM trivial rfl
                          · exact spcS_val (d := 115) (St := fun _ _ => True) (T := fun i v _ => ttP T R (#[.string ⟨yp.toArray⟩, .int .i64 k2, .int .u32 m5, .int .u32 u2, .int .u32 gi2, .int .i64 t2, .slice a8 l8 c8, .slice a9 l9 c9, .string ⟨li2.toArray⟩] : Array Value) _ i v) rfl (wanted_none rfl) (run_loadRowG (c := (#[.string ⟨yp.toArray⟩, .int .i64 k2, .int .u32 m5, .int .u32 u2, .int .u32 gi2, .int .i64 t2, .slice a8 l8 c8, .slice a9 l9 c9, .string ⟨li2.toArray⟩] : Array Value)) hrow aggM rfl r13) hM trivial rfl
                          · have hx : a1.eval (.tmp 113) = .int .i64 (putT L (yp, ⟨k2, m5, u2, gi2, t2, at2, da2, li2⟩)).1 := hT 2 (by kernel_rfl)
                            have hy : a1.eval (.tmp 116) = .int .i64 (putT L (yp, ⟨k2, m5, u2, gi2, t2, at2, da2, li2⟩)).1 := hT 5 (by kernel_rfl)
                            exact spcS_val (d := 117) (St := fun _ _ => True) (T := fun i v _ => ttP T R (#[.string ⟨yp.toArray⟩, .int .i64 k2, .int .u32 m5, .int .u32 u2, .int .u32 gi2, .int .i64 t2, .slice a8 l8 c8, .slice a9 l9 c9, .string ⟨li2.toArray⟩] : Array Value) _ i v) rfl (wanted_none rfl) (run_neqInt hx hy) hM trivial rfl
                        · intro a1 wq hF hM hT
                          have hx : a1.eval (.tmp 111) = .pointer (some ⟨T, 0, none⟩) := hT 0 (by kernel_rfl)
                          have hy : a1.eval (.tmp 112) = .agg #[.string ⟨yp.toArray⟩, .int .i64 k2, .int .u32 m5, .int .u32 u2, .int .u32 gi2, .int .i64 t2, .slice a8 l8 c8, .slice a9 l9 c9, .string ⟨li2.toArray⟩] := hT 1 (by kernel_rfl)
                          refine spcS_call (d := 113) (St := fun _ _ => True) (T := fun i v _ => ttP T R (#[.string ⟨yp.toArray⟩, .int .i64 k2, .int .u32 m5, .int .u32 u2, .int .u32 gi2, .int .i64 t2, .slice a8 l8 c8, .slice a9 l9 c9, .string ⟨li2.toArray⟩] : Array Value) _ i v) (vs := #[.pointer (some ⟨T, 0, none⟩), .agg #[.string ⟨yp.toArray⟩, .int .i64 k2, .int .u32 m5, .int .u32 u2, .int .u32 gi2, .int .i64 t2, .slice a8 l8 c8, .slice a9 l9 c9, .string ⟨li2.toArray⟩]]) rfl (wanted_none rfl) (Go.Proofs.enters_of Tryz.func9 (by kernel_rfl) rfl) (by simp [hx, hy]) ?_
                          refine (tput_tw hM.1 B HT.out hL1 (yp, ⟨k2, m5, u2, gi2, t2, at2, da2, li2⟩) (.slice a8 l8 c8) (.slice a9 l9 c9) HSY.out (HBX.out wq hM.2).2).mono ?_
                          rintro e wz ⟨rfl, h1, h2, -⟩
                          exact ⟨_, rfl, ⟨h1, fun b hb => (h2 b hb).trans (hM.2 b hb)⟩, trivial, rfl⟩
                        · intro a1 wq hF hM hT
                          have hx : a1.eval (.tmp 114) = .pointer (some ⟨R, 0, none⟩) := hT 3 (by kernel_rfl)
                          have hy : a1.eval (.tmp 115) = .agg #[.string ⟨yp.toArray⟩, .int .i64 k2, .int .u32 m5, .int .u32 u2, .int .u32 gi2, .int .i64 t2, .slice a8 l8 c8, .slice a9 l9 c9, .string ⟨li2.toArray⟩] := hT 4 (by kernel_rfl)
                          refine spcS_call (d := 116) (St := fun _ _ => True) (T := fun i v _ => ttP T R (#[.string ⟨yp.toArray⟩, .int .i64 k2, .int .u32 m5, .int .u32 u2, .int .u32 gi2, .int .i64 t2, .slice a8 l8 c8, .slice a9 l9 c9, .string ⟨li2.toArray⟩] : Array Value) _ i v) (vs := #[.pointer (some ⟨R, 0, none⟩), .agg #[.string ⟨yp.toArray⟩, .int .i64 k2, .int .u32 m5, .int .u32 u2, .int .u32 gi2, .int .i64 t2, .slice a8 l8 c8, .slice a9 l9 c9, .string ⟨li2.toArray⟩]]) rfl (wanted_none rfl) (Go.Proofs.enters_of Tryz.func23 (by kernel_rfl) rfl) (by simp [hx, hy]) ?_
                          refine (rput_tw hM.1 hL1 (yp, ⟨k2, m5, u2, gi2, t2, at2, da2, li2⟩) (.slice a8 l8 c8) (.slice a9 l9 c9) HSY.out (HBX.out wq hM.2).2).mono ?_
                          rintro e wz ⟨rfl, h1, h2, -⟩
                          exact ⟨_, rfl, ⟨h1, fun b hb => (h2 b hb).trans (hM.2 b hb)⟩, trivial, rfl⟩
                        · intro a1 wq ha hM hT
                          have t6 : slot a1 117 = .bool false := hT 6 (by show 6 < 7; decide)
                          simp only [List.foldl_cons, List.foldl_nil, t6] at ha
                          have HMQ := Keep.keep hM
                          clear hT t6 hM
                          generalize slot a1 111 = y111 at *
                          generalize slot a1 112 = y112 at *
                          generalize slot a1 113 = y113 at *
                          generalize slot a1 114 = y114 at *
                          generalize slot a1 115 = y115 at *
                          generalize slot a1 116 = y116 at *
                          subst ha
                          simp only [Act.put, List.setIfInBounds_toArray, List.set_cons_succ, List.set_cons_zero]
                          go_wp2_with fail
                          go_meet
                          case rel => exact ⟨_, HMQ.out.1, HMQ.out.2, put_len HSRT.out _⟩
                      | false =>
                        go_upto_region 30 with fail
                        refine wp_region_two [118, 119, 120, 121, 122, 123, 124, 125, 126] (ttR T R b13 yp (removeT L yp).1) (fun b1 b2 wx => TWs w wx T R (if b1 then (removeT L yp).2 else L) (if b2 then (removeT L yp).2 else L) XX ∧ ∀ b, XX b → wx.heap[b]? = w5.heap[b]?) 3 7 (by decide) (by kernel_rfl) rfl (by decide) (by show ∀ d ∈ _, d < 170; decide) (by kernel_rfl) (by kernel_rfl) (by show 3 < 9; decide) (by show 7 < 9; decide) ⟨HTC.out.on (Below.refl _ _).drew, HXC.out⟩ ?_ ?_ ?_ ?_
                        · intro q hq hq1 hq2 a1 wq b1 b2 hF hM hT
                          have r7 : a1.eval (.tmp 7) = .pointer (some ⟨T, 0, none⟩) := (hF.same 7 (by decide)).trans rfl
                          have r9 : a1.eval (.tmp 9) = .pointer (some ⟨R, 0, none⟩) := (hF.same 9 (by decide)).trans rfl
                          have r13 : a1.eval (.tmp 13) = .pointer (some ⟨b13, 0, none⟩) := (hF.same 13 (by decide)).trans rfl
                          have hrow := (HBX.out wq hM.2).1
                          have hq' : q < 9 := hq
                          rcases (by omega : q = 0 ∨ q = 1 ∨ q = 2 ∨ q = 4 ∨ q = 5 ∨ q = 6 ∨ q = 8) with rfl | rfl | rfl | rfl | rfl | rfl | rfl
                          · exact spcS_val (d := 118) (St := fun _ _ => True) (T := fun i v _ => ttR T R b13 yp _ i v) rfl (wanted_none rfl) (by simp [execOp, r7]) hM trivial rfl
                          · exact spcS_val (d := 119) (St := fun _ _ => True) (T := fun i v _ => ttR T R b13 yp _ i v) rfl (wanted_none rfl) (run_fieldAddr (m := 0) Tryz.underlying32 rfl (by kernel_rfl) r13) hM trivial rfl
                          · have hx : a1.eval (.tmp 119) = .pointer (some ⟨b13, 0, none⟩) := hT 1 (by kernel_rfl)
                            exact spcS_val (d := 120) (St := fun _ _ => True) (T := fun i v _ => ttR T R b13 yp _ i v) rfl (wanted_none rfl) (run_loadCell (run_isAgg_plain Tryz.underlying9 rfl) (hrow.cell (i := 0) rfl) hx) hM trivial rfl
                          · exact spcS_val (d := 122) (St := fun _ _ => True) (T := fun i v _ => ttR T R b13 yp _ i v) rfl (wanted_none rfl) (by simp [execOp, r9]) hM trivial rfl
                          · exact spcS_val (d := 123) (St := fun _ _ => True) (T := fun i v _ => ttR T R b13 yp _ i v) rfl (wanted_none rfl) (run_fieldAddr (m := 0) Tryz.underlying32 rfl (by kernel_rfl) r13) hM trivial rfl
                          · have hx : a1.eval (.tmp 123) = .pointer (some ⟨b13, 0, none⟩) := hT 5 (by kernel_rfl)
                            exact spcS_val (d := 124) (St := fun _ _ => True) (T := fun i v _ => ttR T R b13 yp _ i v) rfl (wanted_none rfl) (run_loadCell (run_isAgg_plain Tryz.underlying9 rfl) (hrow.cell (i := 0) rfl) hx) hM trivial rfl
                          · have hx : a1.eval (.tmp 121) = .int .i64 (removeT L yp).1 := hT 3 (by kernel_rfl)
                            have hy : a1.eval (.tmp 125) = .int .i64 (removeT L yp).1 := hT 7 (by kernel_rfl)
                            exact spcS_val (d := 126) (St := fun _ _ => True) (T := fun i v _ => ttR T R b13 yp _ i v) rfl (wanted_none rfl) (run_neqInt hx hy) hM trivial rfl
                        · intro a1 wq hF hM hT
                          have hx : a1.eval (.tmp 118) = .pointer (some ⟨T, 0, none⟩) := hT 0 (by kernel_rfl)
                          have hy : a1.eval (.tmp 120) = .string ⟨yp.toArray⟩ := hT 2 (by kernel_rfl)
                          refine spcS_call (d := 121) (St := fun _ _ => True) (T := fun i v _ => ttR T R b13 yp _ i v) (vs := #[.pointer (some ⟨T, 0, none⟩), .string ⟨yp.toArray⟩]) rfl (wanted_none rfl) (Go.Proofs.enters_of Tryz.func13 (by kernel_rfl) rfl) (by simp [hx, hy]) ?_
                          refine (tremove_tw hM.1 yp (by have := HPY.out; omega)).mono ?_
                          rintro e wz ⟨rfl, h1, h2, -⟩
                          exact ⟨_, rfl, ⟨h1, fun b hb => (h2 b hb).trans (hM.2 b hb)⟩, trivial, rfl⟩
                        · intro a1 wq hF hM hT
                          have hx : a1.eval (.tmp 122) = .pointer (some ⟨R, 0, none⟩) := hT 4 (by kernel_rfl)
                          have hy : a1.eval (.tmp 124) = .string ⟨yp.toArray⟩ := hT 6 (by kernel_rfl)
                          refine spcS_call (d := 125) (St := fun _ _ => True) (T := fun i v _ => ttR T R b13 yp _ i v) (vs := #[.pointer (some ⟨R, 0, none⟩), .string ⟨yp.toArray⟩]) rfl (wanted_none rfl) (Go.Proofs.enters_of Tryz.func24 (by kernel_rfl) rfl) (by simp [hx, hy]) ?_
                          refine (rremove_tw hM.1 hL1 yp (by have := HPY.out; omega)).mono ?_
                          rintro e wz ⟨rfl, h1, h2, -⟩
                          exact ⟨_, rfl, ⟨h1, fun b hb => (h2 b hb).trans (hM.2 b hb)⟩, trivial, rfl⟩
                        · intro a1 wq ha hM hT
                          have t6 : slot a1 126 = .bool false := hT 8 (by show 8 < 9; decide)
                          simp only [List.foldl_cons, List.foldl_nil, t6] at ha
                          have HMQ := Keep.keep hM
                          clear hT t6 hM
                          generalize slot a1 118 = y118 at *
                          generalize slot a1 119 = y119 at *
                          generalize slot a1 120 = y120 at *
                          generalize slot a1 121 = y121 at *
                          generalize slot a1 122 = y122 at *
                          generalize slot a1 123 = y123 at *
                          generalize slot a1 124 = y124 at *
                          generalize slot a1 125 = y125 at *
                          subst ha
                          simp only [Act.put, List.setIfInBounds_toArray, List.set_cons_succ, List.set_cons_zero]
                          go_wp2_with fail
                          go_meet
                          case rel => exact ⟨_, HMQ.out.1, HMQ.out.2, by have := remove_len L yp; show (removeT L yp).2.length ≤ _; omega⟩
                    case rest =>
                      obtain ⟨L', htw, hxx, hL'⟩ := hcut
                      have HTD := Keep.keep htw
                      have hLL : L'.length ≤ 1000 := by omega
                      have HRD := Keep.keep (HBX.out _ hxx).1
                      clear htw hxx HTC HRC HNC HXC
                      go_wp2_with fail
                      refine (like_tw HTD.out hLL).mono ?_
                      rintro e w10 ⟨rfl, hb10⟩
                      have HT10 := Keep.keep (HTD.out.on hb10)
                      have c13 := (HRD.out.below hb10 HRD.out.lt).cell (i := 0) rfl
                      clear hb10
                      go_wp2_with fail
                      refine (asked_tw HT10.out hLL yp (by have := HPY.out; omega)).mono ?_
                      rintro e w11 ⟨rfl, hb11⟩
                      have HT11 := Keep.keep ((HT10.out.on hb11).sub (X' := fun _ => False) (fun b hb => hb.elim))
                      clear hb11 c13
                      go_wp2_with fail
                      go_roundg g
                      case measure => omega
                      case rel => exact ⟨i + 1, T, L', by omega, rfl, by simp, HT11.out, by omega⟩
end Go.Proofs.YtphgmkhbhboklaaGreatDoor
/- ARGUMENTS WITH SLICES WITHIN SLICES, OPENED: what lies deeper has no word of its own on its blocks; its cells tell them. -/
namespace Go.Proofs.YtphgmkhbhboklaaGreatDoor
open Go.ChangeShapes Go.WideShapes Go.ChangeAt Go.RowKit
theorem cell_spot {w : World} {a : Addr} {v : Value} (h : w.cell? a = some v) : a.spot = none ∧ a.block < w.heap.size := by
  unfold World.cell? at h
  split at h
  · rename_i c e fr hb
    split at h
    · cases h
    · rename_i hs
      exact ⟨by simpa using hs, (Array.getElem?_eq_some_iff.1 hb).1⟩
  · cases h
/-- a []byte that lies anywhere within an argument -/
theorem reads_of_trod {P : Program} {H : Type} {enc : TypeId × Value → H} {t e : TypeId} {held : Bool} {fuel : Nat} (ht : P.underlying t = some (.slice e)) (he : P.underlying e = some (.int .u8)) (hc : P.cellsOf e = 1) {W : World} {v : Value} {x : DataW H × List MemPlace}
    (hf : DataW.trod enc P W 0 (fun _ => true) held fuel t [v] = some x) : ∃ l, Reads W (fun b => b < W.heap.size) v l := by
  rcases open_ints ht he hc hf with ⟨hcs, hx⟩ | ⟨⟨b, off, sp⟩, len, cap, zs, hcs, _, hl, hm, hz, hx, hcell, hwz⟩
  · injection hcs with hcs _
    subst hcs
    exact ⟨[], Reads.ofNil⟩
  · injection hcs with hcs _
    subst hcs
    simp only [if_true] at hz
    have hsp : cap = 0 ∨ (sp = none ∧ b < W.heap.size) := by
      rcases Nat.eq_zero_or_pos cap with h | h
      · exact .inl h
      · have := cell_spot (hcell 0 (by omega))
        exact .inr this
    refine ⟨(zs.take len).map fun x => UInt8.ofNat x.toNat, ⟨some ⟨b, off, sp⟩, cap, ?_, ?_, hm, ?_⟩, fun b' off' n' c' he' j hj => ?_⟩
    · congr 1; simp; omega
    · simp; omega
    · rcases hsp with h | ⟨rfl, h⟩
      · exact .inl h
      · exact .inr ⟨b, off, rfl, h⟩
    · injection he' with e1 _ _; injection e1 with e1; injection e1 with e1 e2 e3; subst e1 e2 e3
      have hj' : j < len := by simp at hj; omega
      have hjz : j < zs.length := by omega
      have hc := hcell j hjz
      rw [Addr.add_mid] at hc
      rw [hc]
      have hw := hwz _ (List.getElem_mem hjz)
      have hm1 : IntKind.u8.min = 0 := rfl
      have hm2 : IntKind.u8.max = 255 := rfl
      simp only [Lit.wf, Bool.and_eq_true, decide_eq_true_eq, hm1, hm2] at hw
      simp only [List.getElem_map, List.getElem_take, List.getD_eq_getElem?_getD, List.getElem?_eq_getElem hjz, Option.getD_some, UInt8.toNat_ofNat']
      congr 2
      omega
end Go.Proofs.YtphgmkhbhboklaaGreatDoor
/- ARGUMENTS THAT ARE WHOLE NUMBERS, OPENED. -/
namespace Go.Proofs.YtphgmkhbhboklaaGreatDoor
open Go.ChangeShapes Go.WideShapes Go.ChangeAt Go.RowKit
/-- an argument that is an int64 (or an int) -/
theorem okI64 {P : Program} {w : World} {r : Reach} {base : Nat} {t : TypeId} {v : Value} (ht : P.underlying t = some (.int .i64)) (h : Value.okWide P w r base t v) : ∃ n : Int, v = .int .i64 n ∧ -9223372036854775808 ≤ n ∧ n ≤ 9223372036854775807 := by
  simp only [Value.okWide, ht, Cell.okWide] at h
  have hm1 : IntKind.i64.min = -9223372036854775808 := rfl
  have hm2 : IntKind.i64.max = 9223372036854775807 := rfl
  cases v <;> simp only [Cell.ok, ht] at h
  rename_i k x
  obtain ⟨rfl, h1, h2⟩ := h
  rw [hm1] at h1; rw [hm2] at h2
  exact ⟨x, rfl, h1, h2⟩
theorem okU16 {P : Program} {w : World} {r : Reach} {base : Nat} {t : TypeId} {v : Value} (ht : P.underlying t = some (.int .u16)) (h : Value.okWide P w r base t v) : ∃ n : Nat, v = .int .u16 (n : Int) ∧ n < 65536 := by
  simp only [Value.okWide, ht, Cell.okWide] at h
  have hm1 : IntKind.u16.min = 0 := rfl
  have hm2 : IntKind.u16.max = 65535 := rfl
  cases v <;> simp only [Cell.ok, ht] at h
  rename_i k x
  obtain ⟨rfl, h1, h2⟩ := h
  rw [hm1] at h1; rw [hm2] at h2
  exact ⟨x.toNat, by congr 1; omega, by omega⟩
theorem okU8 {P : Program} {w : World} {r : Reach} {base : Nat} {t : TypeId} {v : Value} (ht : P.underlying t = some (.int .u8)) (h : Value.okWide P w r base t v) : ∃ n : Nat, v = .int .u8 (n : Int) ∧ n < 256 := by
  simp only [Value.okWide, ht, Cell.okWide] at h
  have hm1 : IntKind.u8.min = 0 := rfl
  have hm2 : IntKind.u8.max = 255 := rfl
  cases v <;> simp only [Cell.ok, ht] at h
  rename_i k x
  obtain ⟨rfl, h1, h2⟩ := h
  rw [hm1] at h1; rw [hm2] at h2
  exact ⟨x.toNat, by congr 1; omega, by omega⟩
end Go.Proofs.YtphgmkhbhboklaaGreatDoor
/- ARGUMENTS THAT ARE SLICES OF MEMBERS, OR OF ACTS, OPENED. -/
namespace Go.Proofs.YtphgmkhbhboklaaGreatDoor
open Go.ChangeShapes Go.WideShapes Go.ChangeAt Go.RowKit
section
variable {H : Type} {enc : TypeId × Value → H} {W : World} {fuel : Nat} {x : DataW H × List MemPlace}
theorem str_of_trod {v : Value} (h : DataW.trod enc Tryz.prog W 0 (fun _ => true) true fuel 9 [v] = some x) : ∃ l : Tx, v = strV l ∧ l.length ≤ maxLen := by
  obtain ⟨⟨⟨l⟩⟩, e, _, hm⟩ := DataW.trod_string Tryz.underlying9 h
  injection e with e _
  exact ⟨l, e, hm⟩
theorem attrs_of_trod {v : Value} (hf : DataW.trod enc Tryz.prog W 0 (fun _ => true) true fuel 28 [v] = some x) : ∃ l : List R2, RdV W (· < W.heap.size) 2 v l.length (rcells l) := by
  rcases Deep.open_slice_pairs Tryz.underlying28 Tryz.underlying85 (by kernel_rfl) rfl rfl (by kernel_rfl) (by kernel_rfl) hf with ⟨hcs, _⟩ | ⟨⟨b, off, sp⟩, len, cap, m, n, V0, V1, D0, D1, P0, P1, hcs, _, hl, hm, hmm, _, hx⟩
  · injection hcs with hcs _
    subst hcs
    exact ⟨[], RdV.ofNil⟩
  · injection hcs with hcs _
    subst hcs
    simp only [if_true] at hmm
    have hsp : cap = 0 ∨ (sp = none ∧ b < W.heap.size) := by
      rcases Nat.eq_zero_or_pos cap with h | h
      · exact .inl h
      · exact .inr (cell_spot (hx 0 (by omega)).1)
    have key : ∀ i, i < m → ∃ q : R2, V0 i = strV q.1 ∧ V1 i = strV q.2 := fun i hi => by
      obtain ⟨_, _, t0, t1⟩ := hx i hi
      obtain ⟨l0, e0, _⟩ := str_of_trod t0
      obtain ⟨l1, e1, _⟩ := str_of_trod t1
      exact ⟨(l0, l1), e0, e1⟩
    obtain ⟨q, hq⟩ := Deep.choose_lt (α := R2) key
    have hll : ((List.range len).map q).length = len := by simp
    refine ⟨(List.range len).map q, rcells_length _, ⟨_, cap, by rw [hll], by omega, hm, ?_⟩, ?_⟩
    · rcases hsp with h | ⟨rfl, h⟩
      · exact .inl h
      · exact .inr ⟨b, off, rfl, h⟩
    · intro b' off' m' c' he j u hu
      injection he with e1 _ _; injection e1 with e1; injection e1 with e1 e2 e3; subst e1 e2 e3
      have hj := (List.getElem?_eq_some_iff.1 hu).1
      rw [rcells_length, hll] at hj
      obtain ⟨i, hi⟩ : ∃ i, i = j / 2 := ⟨_, rfl⟩
      have hil : i < len := by omega
      have hrg := rcells_get ((List.range len).map q) i (by rw [hll]; exact hil)
      have hqi : ((List.range len).map q)[i]'(by rw [hll]; exact hil) = q i := by simp
      rw [hqi] at hrg
      obtain ⟨k0, k1, _, _⟩ := hx i (by omega)
      obtain ⟨s0, s1⟩ := hq i (by omega)
      rw [Addr.add_mid] at k0 k1
      rcases (by omega : j = i * 2 ∨ j = i * 2 + 1) with rfl | rfl
      · rw [hrg.1] at hu; injection hu with hu
        rw [k0, s0, hu]
      · rw [hrg.2] at hu; injection hu with hu
        rw [← Nat.add_assoc, ← hu, ← s1]
        rw [← Nat.add_assoc] at k1
        exact k1
theorem cOne : Tryz.prog.cellsOf 3 = 1 ∧ Tryz.prog.cellsOf 27 = 1 ∧ Tryz.prog.cellsOf 2 = 1 ∧ Tryz.prog.cellsOf 28 = 1 ∧ Tryz.prog.cellsOf 23 = 1 ∧ Tryz.prog.cellsOf 9 = 1 ∧ Tryz.prog.cellsOf 4 = 1 ∧ Tryz.prog.cellsOf 30 = 8 ∧ Tryz.prog.cellsOf 32 = 9 ∧ Tryz.prog.cellsOf 36 = 10 := ⟨by kernel_rfl, by kernel_rfl, by kernel_rfl, by kernel_rfl, by kernel_rfl, by kernel_rfl, by kernel_rfl, by kernel_rfl, by kernel_rfl, by kernel_rfl⟩
set_option maxRecDepth 100000 in
theorem node_of_trod {cs : List Value} (hf : DataW.trod enc Tryz.prog W 0 (fun _ => true) true fuel 30 cs = some x) :
    ∃ n av dv, cs = (ndC n av dv).toList ∧ NdR W (· < W.heap.size) n av dv ∧ -9223372036854775808 ≤ n.kind ∧ n.kind ≤ 9223372036854775807 := by
  obtain ⟨xs, k, -, -, hlen, hxs, hg⟩ := DataW.trod_struct Tryz.underlying30 hf
  obtain ⟨c1, c2, c3, c4, c5, c6, c7, c8, -, -⟩ := cOne
  rw [c8] at hlen
  obtain ⟨v0, v1, v2, v3, v4, v5, v6, v7, rfl⟩ : ∃ v0 v1 v2 v3 v4 v5 v6 v7, cs = [v0, v1, v2, v3, v4, v5, v6, v7] := by
    match cs, hlen with
    | [v0, v1, v2, v3, v4, v5, v6, v7], _ => exact ⟨v0, v1, v2, v3, v4, v5, v6, v7, rfl⟩
  obtain ⟨y0, y1, y2, y3, y4, y5, y6, y7, rfl⟩ : ∃ y0 y1 y2 y3 y4 y5 y6 y7, xs = [y0, y1, y2, y3, y4, y5, y6, y7] := by
    match xs, hxs with
    | [v0, v1, v2, v3, v4, v5, v6, v7], _ => exact ⟨v0, v1, v2, v3, v4, v5, v6, v7, rfl⟩
  have g0 := hg 0 _ rfl
  have g1 := hg 1 _ rfl
  have g2 := hg 2 _ rfl
  have g3 := hg 3 _ rfl
  have g4 := hg 4 _ rfl
  have g5 := hg 5 _ rfl
  have g6 := hg 6 _ rfl
  have g7 := hg 7 _ rfl
  simp only [List.getElem?_cons_zero, List.getElem?_cons_succ] at g0 g1 g2 g3 g4 g5 g6 g7
  obtain ⟨n0, h0, _, w0⟩ := DataW.trod_int Tryz.underlying3 g0
  obtain ⟨n1, h1, _, _⟩ := DataW.trod_int Tryz.underlying27 g1
  obtain ⟨n2, h2, _, _⟩ := DataW.trod_int Tryz.underlying27 g2
  obtain ⟨n3, h3, _, _⟩ := DataW.trod_int Tryz.underlying27 g3
  obtain ⟨n4, h4, _, _⟩ := DataW.trod_int Tryz.underlying2 g4
  obtain ⟨l5, h5⟩ := attrs_of_trod g5
  obtain ⟨l6, h6⟩ := reads_of_trod Tryz.underlying23 Tryz.underlying5 (by kernel_rfl) g6
  obtain ⟨l7, h7, _⟩ := str_of_trod g7
  injection h0 with h0 _; injection h1 with h1 _; injection h2 with h2 _; injection h3 with h3 _; injection h4 with h4 _
  subst h0 h1 h2 h3 h4 h7
  have hm1 : IntKind.i64.min = -9223372036854775808 := rfl
  have hm2 : IntKind.i64.max = 9223372036854775807 := rfl
  simp only [Lit.wf, Bool.and_eq_true, decide_eq_true_eq, hm1, hm2] at w0
  exact ⟨⟨n0, n1, n2, n3, n4, l5, l6, l7⟩, v5, v6, rfl, ⟨h5, h6⟩, by exact w0⟩
set_option maxRecDepth 100000 in
theorem mb_of_trod {cs : List Value} (hf : DataW.trod enc Tryz.prog W 0 (fun _ => true) true fuel 32 cs = some x) :
    ∃ y : Mv, cs = (mcell y).toList ∧ NdR W (· < W.heap.size) y.1.2 y.2.1 y.2.2 ∧ Kb y.1 := by
  obtain ⟨xs, k, -, -, hlen, hxs, hg⟩ := DataW.trod_struct Tryz.underlying32 hf
  obtain ⟨c1, c2, c3, c4, c5, c6, c7, c8, c9, -⟩ := cOne
  rw [c9] at hlen
  obtain ⟨v0, v1, v2, v3, v4, v5, v6, v7, v8, rfl⟩ : ∃ v0 v1 v2 v3 v4 v5 v6 v7 v8, cs = [v0, v1, v2, v3, v4, v5, v6, v7, v8] := by
    match cs, hlen with
    | [v0, v1, v2, v3, v4, v5, v6, v7, v8], _ => exact ⟨v0, v1, v2, v3, v4, v5, v6, v7, v8, rfl⟩
  obtain ⟨y0, y1, rfl⟩ : ∃ y0 y1, xs = [y0, y1] := by
    match xs, hxs with
    | [v0, v1], _ => exact ⟨v0, v1, rfl⟩
  have g0 := hg 0 _ rfl
  have g1 := hg 1 _ rfl
  simp only [List.getElem_toArray, List.getElem_cons_succ, List.getElem_cons_zero, c6, c8, List.drop_succ_cons, List.drop_zero, List.take_succ_cons, List.take_zero, List.getElem?_cons_zero, List.getElem?_cons_succ] at g0 g1
  obtain ⟨l0, h0, _⟩ := str_of_trod g0
  obtain ⟨n, av, dv, h1, h2, h3⟩ := node_of_trod g1
  subst h0
  refine ⟨((l0, n), av, dv), ?_, h2, h3⟩
  rw [h1]; rfl
set_option maxRecDepth 100000 in
theorem act_of_trod {cs : List Value} (hf : DataW.trod enc Tryz.prog W 0 (fun _ => true) true fuel 36 cs = some x) :
    ∃ y : Av, cs = acell y ∧ NdR W (· < W.heap.size) y.2.1.2 y.2.2.1 y.2.2.2 ∧ Kb y.2.1 := by
  obtain ⟨xs, k, -, -, hlen, hxs, hg⟩ := DataW.trod_struct Tryz.underlying36 hf
  obtain ⟨c1, c2, c3, c4, c5, c6, c7, c8, c9, c10⟩ := cOne
  rw [c10] at hlen
  obtain ⟨v0, v1, v2, v3, v4, v5, v6, v7, v8, v9, rfl⟩ : ∃ v0 v1 v2 v3 v4 v5 v6 v7 v8 v9, cs = [v0, v1, v2, v3, v4, v5, v6, v7, v8, v9] := by
    match cs, hlen with
    | [v0, v1, v2, v3, v4, v5, v6, v7, v8, v9], _ => exact ⟨v0, v1, v2, v3, v4, v5, v6, v7, v8, v9, rfl⟩
  obtain ⟨y0, y1, rfl⟩ : ∃ y0 y1, xs = [y0, y1] := by
    match xs, hxs with
    | [v0, v1], _ => exact ⟨v0, v1, rfl⟩
  have g0 := hg 0 _ rfl
  have g1 := hg 1 _ rfl
  simp only [List.getElem_toArray, List.getElem_cons_succ, List.getElem_cons_zero, c7, c9, List.drop_succ_cons, List.drop_zero, List.take_succ_cons, List.take_zero, List.getElem?_cons_zero, List.getElem?_cons_succ] at g0 g1
  obtain ⟨b0, h0, _⟩ := DataW.trod_bool Tryz.underlying4 g0
  obtain ⟨y, h1, h2, h3⟩ := mb_of_trod g1
  injection h0 with h0 _
  subst h0
  refine ⟨(b0, y), ?_, h2, h3⟩
  rw [h1]; rfl
set_option maxRecDepth 100000 in
/-- a slice of rows of k cells -/
theorem slice_of_trod {α : Type} [Inhabited α] {t e : TypeId} {k : Nat} (ht : Tryz.prog.underlying t = some (.slice e)) (hk : Tryz.prog.cellsOf e = k) (hk0 : 0 < k) (cl : α → List Value) (hcl : ∀ a, (cl a).length = k) (p : α → Prop) (cells : List α → List Value) (hlen : ∀ l, (cells l).length = l.length * k)
    (hcells : ∀ (l : List α) (j i : Nat) (h : j < l.length), i < k → (cells l)[j * k + i]? = (cl l[j])[i]?)
    (hel : ∀ (n : Nat) (cs : List Value) (y : DataW H × List MemPlace), DataW.trod enc Tryz.prog W 0 (fun _ => true) true n e cs = some y → ∃ a, cs = cl a ∧ p a)
    {v : Value} (hf : DataW.trod enc Tryz.prog W 0 (fun _ => true) true fuel t [v] = some x) : ∃ l : List α, RdV W (· < W.heap.size) k v l.length (cells l) ∧ ∀ a ∈ l, p a := by
  rcases Deep.open_slice ht hf with ⟨hcs, _⟩ | ⟨⟨b, off, sp⟩, len, cap, m, n, D, Pl, hcs, _, hl, hm, hmm, _, hx⟩
  · injection hcs with hcs _
    subst hcs
    refine ⟨[], ⟨by simp [hlen], ⟨_, _, rfl, Nat.zero_le _, Nat.zero_le _, .inl rfl⟩, fun _ _ _ _ e j u hu => by cases e⟩, fun a ha => (List.not_mem_nil ha).elim⟩
  · injection hcs with hcs _
    subst hcs
    simp only [if_true] at hmm
    rw [hk] at hx
    have key : ∀ i, i < m → ∃ a, (∀ j u, (cl a)[j]? = some u → W.cell? ((⟨b, off, sp⟩ : Addr).add (i * k + j)) = some u) ∧ p a := fun i hi => by
      obtain ⟨cs', h1, h2⟩ := hx i hi
      obtain ⟨_, hl', hcell⟩ := World.cells?_some h1
      obtain ⟨a, rfl, hp⟩ := hel _ _ _ h2
      refine ⟨a, fun j u hj => ?_, hp⟩
      have hjl := (List.getElem?_eq_some_iff.1 hj).1
      rw [hcl] at hjl
      have := hcell j hjl
      rw [Deep.add_add] at this
      rw [this]; exact hj
    obtain ⟨q, hq⟩ := Deep.choose_lt (α := α) key
    have hsp : cap = 0 ∨ (sp = none ∧ b < W.heap.size) := by
      rcases Nat.eq_zero_or_pos cap with h | h
      · exact .inl h
      · have h0 := (hq 0 (by omega)).1 0 ((cl (q 0))[0]'(by rw [hcl]; exact hk0)) (List.getElem?_eq_getElem _)
        rw [Nat.zero_mul, Nat.add_zero] at h0
        exact .inr (cell_spot h0)
    have hll : ((List.range len).map q).length = len := by simp
    refine ⟨(List.range len).map q, ⟨hlen _, ⟨_, cap, by rw [hll], by omega, hm, ?_⟩, ?_⟩, fun a ha => ?_⟩
    · rcases hsp with h | ⟨rfl, h⟩
      · exact .inl h
      · exact .inr ⟨b, off, rfl, h⟩
    · intro b' off' m' c' he j u hu
      injection he with e1 _ _; injection e1 with e1; injection e1 with e1 e2 e3; subst e1 e2 e3
      have hj := (List.getElem?_eq_some_iff.1 hu).1
      rw [hlen, hll] at hj
      have hil : j / k < len := Nat.div_lt_of_lt_mul (by rw [Nat.mul_comm]; exact hj)
      have hjk : j / k * k + j % k = j := Nat.div_add_mod' j k
      have hrg := hcells ((List.range len).map q) (j / k) (j % k) (by rw [hll]; exact hil) (Nat.mod_lt _ hk0)
      rw [hjk, hu] at hrg
      have hqi : ((List.range len).map q)[j / k]'(by rw [hll]; exact hil) = q (j / k) := by simp
      rw [hqi] at hrg
      have := (hq (j / k) (by omega)).1 (j % k) u hrg.symm
      rw [hjk, Addr.add_mid] at this
      exact this
    · obtain ⟨i, hi, rfl⟩ := List.mem_map.1 ha
      exact (hq i (by have := List.mem_range.1 hi; omega)).2
instance : Inhabited Nd := ⟨⟨0, 0, 0, 0, 0, [], [], []⟩⟩
set_option maxRecDepth 100000 in
/-- AN ARGUMENT OF TYPE []Act, OPENED -/
theorem opened_acts {r : Reach} {base : Nat} {v : Value} {d : DataW H} {ps : List MemPlace} (hok : Value.okWide Tryz.prog W r base 22 v) (h0 : DataW.Trod enc Tryz.prog W 0 (fun _ => true) true 22 v d ps) :
    ∃ l : List Av, ActsR W (· < W.heap.size) (· < W.heap.size) v l ∧ ∀ a ∈ l, Kb a.2.1 := by
  obtain ⟨fuel, hf⟩ := h0
  replace hf : DataW.trod enc Tryz.prog W 0 (fun _ => true) true fuel 22 [v] = some (d, ps) := by
    rcases okSlice Tryz.underlying22 hok with rfl | ⟨b, off, len, cap, rfl, -, -, -⟩ <;> exact hf
  obtain ⟨l, h1, h2⟩ := slice_of_trod (α := Av) (k := 10) Tryz.underlying22 (by kernel_rfl) (by decide) acell acell_len (fun y => NdR W (· < W.heap.size) y.2.1.2 y.2.2.1 y.2.2.2 ∧ Kb y.2.1) acells acells_length acells_get (fun n cs y h => act_of_trod h) hf
  exact ⟨l, ⟨h1, fun a ha => (h2 a ha).1⟩, fun a ha => (h2 a ha).2⟩
set_option maxRecDepth 100000 in
/-- AN ARGUMENT OF TYPE []Member, OPENED -/
theorem opened_mbs {r : Reach} {base : Nat} {v : Value} {d : DataW H} {ps : List MemPlace} (hok : Value.okWide Tryz.prog W r base 33 v) (h0 : DataW.Trod enc Tryz.prog W 0 (fun _ => true) true 33 v d ps) :
    ∃ l : List Mv, Mbs W (· < W.heap.size) (· < W.heap.size) v l ∧ ∀ a ∈ l, Kb a.1 := by
  obtain ⟨fuel, hf⟩ := h0
  replace hf : DataW.trod enc Tryz.prog W 0 (fun _ => true) true fuel 33 [v] = some (d, ps) := by
    rcases okSlice Tryz.underlying33 hok with rfl | ⟨b, off, len, cap, rfl, -, -, -⟩ <;> exact hf
  obtain ⟨l, h1, h2⟩ := slice_of_trod (α := Mv) (k := 9) Tryz.underlying33 (by kernel_rfl) (by decide) (fun y => (mcell y).toList) mcell_len (fun y => NdR W (· < W.heap.size) y.1.2 y.2.1 y.2.2 ∧ Kb y.1) mcells mcells_length (fun l j i h hi => by rw [mcells_get l j i h hi]; simp) (fun n cs y h => mb_of_trod h) hf
  exact ⟨l, ⟨h1, fun a ha => (h2 a ha).1⟩, fun a ha => (h2 a ha).2⟩
end
end Go.Proofs.YtphgmkhbhboklaaGreatDoor
/- WHAT THE ROWS' LISTED VARIABLES AND THE WORLD'S SHAPE GIVE; and a world that holds the listed variables. -/
namespace Go.Proofs.YtphgmkhbhboklaaGreatDoor
open Go.ChangeShapes Go.WideShapes Go.ChangeAt Go.RowKit
theorem mx_of_shape {W : World} (h : W.ShapedOpen Tryz.prog) : Mx W.heap.size W := by
  obtain ⟨m, hm⟩ : ∃ m, W.cell? ⟨2, 0, none⟩ = some (.int .i64 m) := Go.Proofs.cell_of_shapedOpen_int (zero := #[.int .i64 0]) (t := 3) h (of_decide_eq_true (by kernel_rfl)) (by kernel_rfl) rfl (by kernel_rfl) (by kernel_rfl) Tryz.underlying3
  exact ⟨World.block_lt_of_cell? W _ hm, m, hm⟩
/-- what the laws of the trees ask of the world -/
theorem tabs_of {W : World} {l : List (String × DataW Unit)} (hL : laidMetH Tryz.prog l W) (hsh : W.ShapedOpen Tryz.prog) (hc : ("portolan/path.classes", Rows.laid_portolan_path_classes) ∈ l) (ht : ("portolan/tar.types", Rows.laid_portolan_tar_types) ∈ l) : Tabs W.heap.size W :=
  ⟨Nat.le_refl _, mx_of_shape hsh, cls_of_laid hL hc, typ_of_laid (laidMetH_iff.1 hL).1 (List.mem_filter.2 ⟨ht, rfl⟩)⟩
/-- A WORLD FOR THE WITNESS -/
def layRow (c : Array Value) : Obj → Obj
  | .cells _ t frozen => .cells c t frozen
  | o => o
def classesMap : Obj := .map #[⟨.int .i64 1, .func (.func 155) #[] #[], 0⟩, ⟨.int .i64 2, .func (.func 156) #[] #[], 1⟩, ⟨.int .i64 3, .func (.func 157) #[] #[], 2⟩] 3
def typesMap : Obj := .map #[⟨.int .i64 1, .int .u8 53, 0⟩, ⟨.int .i64 2, .int .u8 48, 1⟩, ⟨.int .i64 3, .int .u8 50, 2⟩, ⟨.int .i64 4, .int .u8 54, 3⟩] 4
noncomputable def lowM : Nat := (World.holding Tryz.prog default ⟨#[], #[], []⟩).heap.size
noncomputable def laidWorld (os : Os) : World :=
  let w0 := World.holding Tryz.prog os ⟨#[classesMap, typesMap], #[], []⟩
  let h2 := Array.modify w0.heap 4 (layRow ((List.range 16).flatMap fun i => [Value.int .u8 (Lib.accLo i), Value.int .u8 (Lib.accHi i)]).toArray)
  let h3 := Array.modify h2 3 (layRow (Lib.firstTab.map fun z => Value.int .u8 z).toArray)
  let h4 := Array.modify h3 0 (layRow #[.map (some lowM)])
  let h5 := Array.modify h4 1 (layRow #[.map (some (lowM + 1))])
  { w0 with heap := h5 }
end Go.Proofs.YtphgmkhbhboklaaGreatDoor
/- AN ARGUMENT THAT IS A SLICE OF TEXTS, OPENED. -/
namespace Go.Proofs.YtphgmkhbhboklaaGreatDoor
open Go.ChangeShapes Go.WideShapes Go.ChangeAt Go.RowKit
set_option maxRecDepth 100000 in
theorem opened_strs {H : Type} {enc : TypeId × Value → H} {r : Reach} {base : Nat} {W : World} {v : Value} {d : DataW H} {p : List MemPlace}
    (hok : Value.okWide Tryz.prog W r base 54 v) (h0 : DataW.Trod enc Tryz.prog W 0 (fun _ => true) true 54 v d p) :
    ∃ l : List (List UInt8), RdS W (· < W.heap.size) v l ∧ l.length ≤ 9223372036854775807 ∧ ∀ q ∈ l, q.length ≤ 9223372036854775807 := by
  obtain ⟨fuel, hf⟩ := h0
  rcases okSlice Tryz.underlying54 hok with rfl | ⟨b, off, len, cap, rfl, h1, h2, h3⟩
  · exact ⟨[], RdV.ofNil, Nat.zero_le _, fun q hq => by cases hq⟩
  · rcases open_strings Tryz.underlying54 Tryz.underlying9 (by kernel_rfl) hf with ⟨hcs, _⟩ | ⟨a, len', cap', ss, hcs, _, hl, hm, hsl, _, hcell, hsz⟩
    · cases hcs
    · have hcs : [Value.slice (some ⟨b, off, none⟩) len cap] = [Value.slice (some a) len' cap'] := hcs
      injection hcs with hcs _
      injection hcs with hc1 hc2 hc3
      injection hc1 with hc1
      subst hc1 hc2 hc3
      have hlm : len ≤ ss.length := by rw [hsl]; split <;> omega
      have hll : ((ss.take len).map fun s => s.data.toList).length = len := by simp; omega
      refine ⟨(ss.take len).map fun s => s.data.toList, ⟨by simp, ⟨_, cap, by rw [hll], by omega, h2, .inr ⟨b, off, rfl, h3⟩⟩, ?_⟩, ?_, ?_⟩
      · intro b' off' m' c' he j u hu
        injection he with e1 _ _; injection e1 with e1; injection e1 with e1 e2 _; subst e1 e2
        have hj : j < len := by
          have := (List.getElem?_eq_some_iff.1 hu).1
          rwa [List.length_map, hll] at this
        have h5 := hcell j (by omega)
        rw [Addr.add_mid] at h5
        rw [h5, ← hu]
        simp [List.getD_eq_getElem?_getD, hj, strV, show j < ss.length by omega]
      · rw [hll]; unfold maxLen at h2; omega
      · intro q hq
        simp only [List.mem_map] at hq
        obtain ⟨s, hs, rfl⟩ := hq
        have := hsz s (List.mem_of_mem_take hs)
        unfold maxLen at this
        exact this
end Go.Proofs.YtphgmkhbhboklaaGreatDoor
