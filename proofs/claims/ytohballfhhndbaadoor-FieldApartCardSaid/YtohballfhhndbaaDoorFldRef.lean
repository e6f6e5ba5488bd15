/- portolanref09: Place, Sum, Check. -/
import Derived.Test.YtohballfhhndbaaDoorFldSealL
namespace Go.Proofs.YtohballfhhndbaaDoor
open Go.RowKit
/-- the names as the document lists them, and how long each field is -/
def nmsL : List (List UInt8) := [[110, 97, 109, 101], [109, 111, 100, 101], [117, 105, 100], [103, 105, 100], [115, 105, 122, 101], [109, 116, 105, 109, 101], [99, 104, 107, 115, 117, 109], [116, 121, 112, 101], [108, 105, 110, 107, 110, 97, 109, 101], [109, 97, 103, 105, 99], [118, 101, 114, 115, 105, 111, 110], [117, 110, 97, 109, 101], [103, 110, 97, 109, 101], [100, 101, 118, 109, 97, 106, 111, 114], [100, 101, 118, 109, 105, 110, 111, 114], [112, 114, 101, 102, 105, 120]]
def lnsL : List Nat := [100, 8, 8, 8, 12, 12, 8, 1, 100, 6, 2, 32, 32, 8, 8, 155]
theorem nms_len : nmsL.length = 16 := rfl
theorem lns_len : lnsL.length = 16 := rfl
theorem place_at : ∀ k : Fin 16, placeOf (nmsL[k.val]'(by have := k.2; rw [nms_len]; omega)) = some ((lnsL.take k.val).sum, lnsL[k.val]'(by have := k.2; rw [lns_len]; omega)) := by decide +kernel
theorem place_all : places.all (fun p => nmsL.contains p.1) = true := by decide +kernel
theorem place_none {s : List UInt8} (h : ∀ j, (hj : j < nmsL.length) → nmsL[j] ≠ s) : placeOf s = none := by
  unfold placeOf
  rw [Option.map_eq_none_iff, List.find?_eq_none]
  intro p hp hc
  have h1 := List.all_eq_true.1 place_all p hp
  obtain ⟨j, hj, e⟩ := List.mem_iff_getElem.1 (List.contains_iff_mem.1 h1)
  exact h j hj (by rw [e]; exact beq_iff_eq.1 hc)
theorem lns_bound : ∀ k : Fin 17, (lnsL.take k.val).sum ≤ 500 := by decide +kernel
theorem lns_each : ∀ k : Fin 16, (lnsL[k.val]'(by have := k.2; rw [lns_len]; omega)) ≤ 155 := by decide +kernel
def strW (l : List UInt8) : Value := .string ⟨l.toArray⟩
def intW (n : Nat) : Value := .int .i64 (n : Int)
set_option maxHeartbeats 4000000 in
set_option maxRecDepth 100000 in
theorem rplace_any (s : List UInt8) (w : World) : Calls Tryd.prog 23 #[.string ⟨s.toArray⟩] w fun e w' => e = .returned (.tuple #[.int .i64 (((placeOf s).getD (0, 0)).1 : Int), .int .i64 (((placeOf s).getD (0, 0)).2 : Int)]) ∧ Below w.heap.size w w' := by
  obtain ⟨r1, hr1⟩ : ∃ r, ((placeOf s).getD (0, 0)).1 = r := ⟨_, rfl⟩
  obtain ⟨r2, hr2⟩ : ∃ r, ((placeOf s).getD (0, 0)).2 = r := ⟨_, rfl⟩
  rw [hr1, hr2]
  have HR1 := Keep.keep hr1; have HR2 := Keep.keep hr2
  clear hr1 hr2
  go_enter Tryd.func23, Tryd.ntmps23
  go_upto_region 2 with fail
  refine wp_world (R := fun w1 => Hp NoM w w1 [rowA w.heap.size 9 (nmsL.map strW).toArray]) ((Hp.begin NoM w).newRow _ _) ?_
  intro w1 H1
  obtain ⟨g0, hg0⟩ : ∃ g, w.heap.size = g := ⟨_, rfl⟩
  rw [hg0] at H1 ⊢
  go_upto_region 3 with fail
  refine wp_world (R := fun w2 => Hp NoM w w2 [rowA g0 9 (nmsL.map strW).toArray, rowA w1.heap.size 3 (lnsL.map intW).toArray]) (H1.out.newRow _ _) ?_
  intro w2 H2
  obtain ⟨g1, hg1⟩ : ∃ g, w1.heap.size = g := ⟨_, rfl⟩
  rw [hg1] at H2 ⊢
  clear hg0 hg1 H1
  go_wp2_with fail
  go_loopg [6, 7] 16 (fun g u6 u7 wx => ∃ k : Nat, k + g = 16 ∧ u7 = .int .i64 (k : Int) ∧ u6 = .int .i64 ((lnsL.take k).sum : Int) ∧ (∀ j, j < k → (hj : j < nmsL.length) → nmsL[j] ≠ s) ∧ w2 = wx)
  case atStart => exact ⟨0, by omega, rfl, rfl, fun j hj => by omega, rfl⟩
  case round =>
    obtain ⟨k, hkg, rfl, rfl, hno, rfl⟩ := hrel
    have HNO := Keep.keep hno
    clear hno
    cases gk with
    | zero =>
      obtain rfl : k = 16 := by omega
      have HN : Keep (placeOf s = none) := ⟨place_none (fun j hj => HNO.out j hj hj)⟩
      have HX1 : Keep (r1 = 0) := ⟨by rw [← HR1.out, HN.out]; rfl⟩
      have HX2 : Keep (r2 = 0) := ⟨by rw [← HR2.out, HN.out]; rfl⟩
      generalize ((lnsL.take 16).sum : Int) = sm at *
      go_wp2_with fail
      go_ret2
      exact ⟨by rw [HX1.out, HX2.out]; rfl, H2.out.below⟩
    | succ g =>
      have hk : k < 16 := by omega
      have hd : decide ((k : Int) < 16) = true := decide_eq_true (by omega)
      have hkn : k < nmsL.length := hk
      have hkl : k < lnsL.length := hk
      have hb := lns_bound ⟨k, by omega⟩
      have he := lns_each ⟨k, hk⟩
      have hpl := place_at ⟨k, hk⟩
      simp only at hb he hpl
      have hc0 := (H2.out.row 0 rfl).cell (i := k) (v := strW nmsL[k]) (by rw [List.getElem?_toArray, List.getElem?_map, List.getElem?_eq_getElem hkn]; rfl)
      have hc1 := (H2.out.row 1 rfl).cell (i := k) (v := intW lnsL[k]) (by rw [List.getElem?_toArray]; simp [hkl])
      have HSU : Keep ((lnsL.take (k + 1)).sum = (lnsL.take k).sum + lnsL[k]) := ⟨by rw [List.take_succ_eq_append_getElem hkl, List.sum_append]; simp⟩
      have HST : Keep (nmsL[k] ≠ s → ∀ j, j < k + 1 → (hj : j < nmsL.length) → nmsL[j] ≠ s) := ⟨fun h j hj hl => by
        rcases Nat.lt_succ_iff_lt_or_eq.1 hj with h2 | rfl
        · exact HNO.out j h2 hl
        · exact h⟩
      have HPL := Keep.keep hpl
      unfold strW at hc0
      unfold intW at hc1
      clear hpl HNO
      generalize nmsL[k] = x at *
      generalize lnsL[k] = y at *
      obtain ⟨sm, hsm⟩ : ∃ r, (lnsL.take k).sum = r := ⟨_, rfl⟩
      rw [hsm] at hb HSU HPL ⊢
      clear hsm
      have hwr := IntWalk.i64_in ((sm : Int) + (y : Int)) (by omega)
      cases hx : x == s with
      | true =>
        have hxs := beq_iff_eq.1 hx
        have HX1 : Keep (r1 = sm) := ⟨by rw [← HR1.out, ← hxs, HPL.out]; rfl⟩
        have HX2 : Keep (r2 = y) := ⟨by rw [← HR2.out, ← hxs, HPL.out]; rfl⟩
        clear hxs HST HPL
        go_wp2_with (go_quiet (fail))
        go_ret2
        exact ⟨by rw [HX1.out, HX2.out]; rfl, below_drewN' H2.out.below _⟩
      | false =>
        have HS2 := Keep.keep (HST.out (fun e => by rw [e, beq_self_eq_true] at hx; cases hx))
        clear HST HPL
        go_wp2_with fail
        go_roundg g
        case measure => omega
        case rel => exact ⟨k + 1, by omega, by simp, by rw [HSU.out]; simp, HS2.out, rfl⟩
/-- the sum, byte after byte, the sum's own eight bytes as blanks -/
def rsT (l : List UInt8) (k : Nat) : Nat := sumL ((setL l 148 (List.replicate 8 32)).take k)
theorem rsT_succ {l : List UInt8} (hl : l.length = 512) {k : Nat} (hk : k < 512) : rsT l (k + 1) = rsT l k + if 148 ≤ k ∧ k < 156 then 32 else (l[k]'(by omega)).toNat := by
  have hm : (setL l 148 (List.replicate 8 32)).length = 512 := by rw [setL_length (by simp; omega), hl]
  unfold rsT sumL
  rw [List.take_succ_eq_append_getElem (by omega), List.map_append, List.sum_append]
  have : ((setL l 148 (List.replicate 8 32))[k]'(by omega)).toNat = if 148 ≤ k ∧ k < 156 then 32 else (l[k]'(by omega)).toNat := by
    have h0 : (setL l 148 (List.replicate 8 32))[k]? = some (if 148 ≤ k ∧ k < 156 then 32 else (l[k]'(by omega))) := by
      unfold setL
      rw [List.append_assoc]
      rcases Nat.lt_or_ge k 148 with h | h
      · rw [List.getElem?_append_left (by simp; omega), List.getElem?_take_of_lt h, if_neg (by omega), List.getElem?_eq_getElem (by omega)]
      · rw [List.getElem?_append_right (by simp; omega), List.length_take, Nat.min_eq_left (by omega)]
        rcases Nat.lt_or_ge k 156 with h2 | h2
        · rw [List.getElem?_append_left (by simp; omega), if_pos ⟨h, h2⟩, List.getElem?_replicate, if_pos (by omega)]
        · rw [List.getElem?_append_right (by simp; omega), if_neg (by omega), List.length_replicate, List.getElem?_drop, show 148 + 8 + (k - 148 - 8) = k by omega, List.getElem?_eq_getElem (by omega)]
    have h1 := List.getElem?_eq_getElem (l := setL l 148 (List.replicate 8 32)) (i := k) (by omega)
    rw [h1] at h0
    injection h0 with h0
    rw [h0]
    split <;> rfl
  rw [List.map_cons, List.map_nil, List.sum_cons, List.sum_nil, Nat.add_zero, this]
theorem rsT_bound {l : List UInt8} (hl : l.length = 512) : ∀ k, k ≤ 512 → rsT l k ≤ 255 * k
  | 0, _ => by simp [rsT, sumL]
  | k + 1, h => by
    have h1 := rsT_bound hl k (by omega)
    rw [rsT_succ hl (by omega)]
    have := (l[k]'(by omega)).toNat_lt
    split <;> omega
theorem agg512' : AggTy Tryd.prog 35 512 := ⟨⟨_, Tryd.underlying35, rfl⟩, by kernel_rfl⟩
set_option maxHeartbeats 4000000 in
set_option maxRecDepth 100000 in
theorem rsum_any (l : List UInt8) (hl : l.length = 512) (w : World) : Calls Tryd.prog 24 #[.agg (bcells l).toArray] w fun e w' => e = .returned (.int .i64 (sumS l)) ∧ Below w.heap.size w w' := by
  have HL := Keep.keep hl
  have HSU : Keep (∀ k, (hk : k < 512) → rsT l (k + 1) = rsT l k + if 148 ≤ k ∧ k < 156 then 32 else (l[k]'(by omega)).toNat) := ⟨fun k hk => rsT_succ hl hk⟩
  have HBD := Keep.keep (rsT_bound hl)
  have HE : Keep (sumS l = (rsT l 512 : Int)) := ⟨by
    have hm : (setL l 148 (List.replicate 8 32)).length = 512 := by rw [setL_length (by simp; omega), hl]
    unfold sumS rsT
    rw [List.take_of_length_le (by omega)]⟩
  generalize sumS l = out at *
  go_enter Tryd.func24, Tryd.ntmps24
  go_upto_region 1 with fail
  refine wp_world (R := fun w1 => Hp NoM w w1 [rowA w.heap.size 35 (bcells l).toArray]) ((Hp.begin NoM w).newRow _ _) ?_
  intro w1 H1
  obtain ⟨g0, hg0⟩ : ∃ g, w.heap.size = g := ⟨_, rfl⟩
  have HBW := Keep.keep H1.out.below
  rw [hg0] at H1 ⊢
  go_wp2_with fail
  go_loopg [3, 4] 512 (fun g u3 u4 wx => ∃ k : Nat, k + g = 512 ∧ u4 = .int .i64 (k : Int) ∧ u3 = .int .i64 (rsT l k : Int) ∧ w1 = wx)
  case atStart => exact ⟨0, by omega, rfl, rfl, rfl⟩
  case round =>
    obtain ⟨k, hkg, rfl, rfl, rfl⟩ := hrel
    cases gk with
    | zero =>
      obtain rfl : k = 512 := by omega
      generalize rsT l 512 = sm at *
      go_wp2_with fail
      go_ret
      exact ⟨by rw [HE.out]; rfl, by rw [← hg0]; exact HBW.out⟩
    | succ g =>
      have hk : k < 512 := by omega
      have hsu := HSU.out k hk
      have hb := HBD.out k (by omega)
      have hcell := (H1.out.row 0 rfl).cell (i := k) (v := .int .u8 ((l[k]'(by omega)).toNat : Int)) (by rw [List.getElem?_toArray, bcells_get _ _ (by omega)])
      have hd : decide ((k : Int) < 512) = true := decide_eq_true (by omega)
      have hd2 : decide ((148 : Int) ≤ (k : Int)) = decide (148 ≤ k) := by simp only [decide_eq_decide]; omega
      have hd3 : decide ((k : Int) < 156) = decide (k < 156) := by simp only [decide_eq_decide]; omega
      have hcc := (l[k]'(by omega)).toNat_lt
      obtain ⟨a, ha⟩ : ∃ r, rsT l k = r := ⟨_, rfl⟩
      rw [ha] at hsu hb ⊢
      clear ha
      generalize (l[k]'(by have := HL.out; omega)) = c at *
      by_cases hi : 148 ≤ k ∧ k < 156
      · rw [if_pos hi] at hsu
        have HS := Keep.keep hsu
        have e2 : decide (148 ≤ k) = true := decide_eq_true hi.1
        have e3 : decide (k < 156) = true := decide_eq_true hi.2
        rw [e2] at hd2
        rw [e3] at hd3
        have hwr := IntWalk.i64_in ((a : Int) + 32) (by omega)
        clear hsu e2 e3 hi
        go_wp2_with fail
        go_roundg g
        case measure => omega
        case rel => exact ⟨k + 1, by omega, by simp, by rw [HS.out]; simp, rfl⟩
      · rw [if_neg hi] at hsu
        have HS := Keep.keep hsu
        have hwr := IntWalk.i64_in ((a : Int) + (c.toNat : Int)) (by omega)
        clear hsu
        by_cases h1 : 148 ≤ k
        · have e2 : decide (148 ≤ k) = true := decide_eq_true h1
          have e3 : decide (k < 156) = false := decide_eq_false (fun h => hi ⟨h1, h⟩)
          rw [e2] at hd2
          rw [e3] at hd3
          clear e2 e3 hi h1
          go_wp2_with fail
          go_roundg g
          case measure => omega
          case rel => exact ⟨k + 1, by omega, by simp, by rw [HS.out]; simp, rfl⟩
        · have e2 : decide (148 ≤ k) = false := decide_eq_false h1
          rw [e2] at hd2
          clear e2 hi h1 hd3
          go_wp2_with fail
          go_roundg g
          case measure => omega
          case rel => exact ⟨k + 1, by omega, by simp, by rw [HS.out]; simp, rfl⟩
end Go.Proofs.YtohballfhhndbaaDoor
