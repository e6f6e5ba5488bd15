/- portolanlaw09.wakes. -/
import Derived.Test.YtohballfhhndbaaDoorFldRNumB
import Derived.Test.YtohballfhhndbaaDoorBRep
namespace Go.Proofs.YtohballfhhndbaaDoor
open Go.RowKit
set_option maxHeartbeats 1000000 in
set_option maxRecDepth 100000 in
theorem rnum_any (v : Value) (l : List UInt8) (w : World) (hr : Reads w (· < w.heap.size) v l) (hl : l.length ≤ 1000000000) :
    Calls Tryd.prog 15 #[v] w fun e w' => e = .returned (.tuple #[.int .i64 (numS l).1, .int .i64 (numS l).2]) ∧ Below w.heap.size w w' := by
  cases l with
  | nil =>
    obtain ⟨a, cap, rfl, hcap, hmx, -⟩ := hr.shape
    clear hr
    go_enter Tryd.func15, Tryd.ntmps15
    go_wp2_with fail
    go_ret2
    exact ⟨rfl, Below.refl _ _⟩
  | cons c t =>
    have hns : numS (c :: t) = if 20 < t.length + 1 then (0, 1) else if 128 ≤ c.toNat then widS (c :: t) else octV 0 ((c :: t).dropWhile (· == 32)) := rfl
    by_cases h20 : 20 < t.length + 1
    · obtain ⟨a, cap, rfl, hcap, hmx, -⟩ := hr.shape
      rw [hns, if_pos h20]
      simp only [List.length_cons] at hcap ⊢
      have hlt : decide ((t.length : Int) + 1 < 1) = false := decide_eq_false (by omega)
      have hd : decide ((20 : Int) < (t.length : Int) + 1) = true := decide_eq_true (by omega)
      clear hr hns
      go_enter Tryd.func15, Tryd.ntmps15
      go_wp2_with fail
      go_ret2
      exact ⟨rfl, Below.refl _ _⟩
    · rw [hns, if_neg h20]
      by_cases h128 : 128 ≤ c.toNat
      · rw [if_pos h128]
        exact rnum_wide v c t w hr (by omega) h128
      · rw [if_neg h128]
        refine (rnum_oct v c t w hr (by omega) (by omega)).mono ?_
        rintro e w' ⟨rfl, rfl⟩
        exact ⟨rfl, Below.refl _ _⟩
theorem wk_oct : octS 8 8 = ([48, 48, 48, 48, 48, 49, 48, 0], 0) := by decide +kernel
theorem wk_wide : wideS (-1) 8 = ([255, 255, 255, 255, 255, 255, 255, 255], 0) := by decide +kernel
theorem wk_wide2 : wideS 256 4 = ([128, 0, 1, 0], 0) := by decide +kernel
theorem wk_num : numS [32, 49, 55, 32, 120] = (15, 0) := by decide +kernel
theorem wk_num2 : numS [32, 32, 32, 32, 32, 32, 32, 32] = (0, 0) := by decide +kernel
theorem wk_num3 : numS [57] = (0, 5) := by decide +kernel
set_option maxHeartbeats 2000000 in
set_option maxRecDepth 100000 in
theorem wakes_any (B : Nat) (w : World) (hB : B ≤ w.heap.size) (hT : Tz B w) :
    Calls Tryd.prog 17 #[] w fun e w' => e = .returned (.bool true) ∧ Below w.heap.size w w' := by
  have kc := convB
  have HO := Keep.keep (octal_any 8 8 (by decide) (by decide) B w hB hT)
  rw [wk_oct] at HO
  clear hT hB
  go_enter Tryd.func17, Tryd.ntmps17
  go_wp2_with fail
  refine HO.out.mono ?_
  rintro e w1 ⟨v1, rfl, hr1, hb1⟩
  have HR1 := Keep.keep (hr1.mono (N' := (· < w1.heap.size)) (fun b hb => hb.2)); have HB1 := Keep.keep hb1
  have HW := Keep.keep (wide_any (-1) 8 (by decide) (by decide) w1)
  rw [wk_wide] at HW
  clear hr1 hb1 HO
  go_wp2_with fail
  refine HW.out.mono ?_
  rintro e w2 ⟨v2, rfl, hr2, hb2⟩
  have HR2 := Keep.keep (hr2.mono (N' := (· < w2.heap.size)) (fun b hb => hb.2)); have HB2 := Keep.keep hb2
  have HW2 := Keep.keep (wide_any 256 4 (by decide) (by decide) w2)
  rw [wk_wide2] at HW2
  clear hr2 hb2 HW
  go_wp2_with fail
  refine HW2.out.mono ?_
  rintro e w3 ⟨v3, rfl, hr3, hb3⟩
  have HR3 := Keep.keep (hr3.mono (N' := (· < w3.heap.size)) (fun b hb => hb.2)); have HB3 := Keep.keep hb3
  clear hr3 hb3 HW2
  go_wp2_with fail
  refine calls_at (R := fun wq => Below w3.heap.size w3 wq ∧ Reads wq (· < wq.heap.size) (.slice (some ⟨w3.heap.size, 0, none⟩) 5 5) [32, 49, 55, 32, 120]) ⟨(Below.refl _ _).alloc (Nat.le_refl _) _, (Reads.lit _ _ [32, 49, 55, 32, 120] _ _ _ rfl rfl rfl (by decide)).mono (fun b hb => by subst hb; simp)⟩ ?_
  intro w4 H4
  refine (num_any _ _ w4 H4.out.2 (by decide)).mono ?_
  rw [wk_num]
  rintro e w4' ⟨rfl, rfl⟩
  go_wp2_with fail
  refine calls_at (R := fun wq => Below w4.heap.size w4 wq ∧ Reads wq (· < wq.heap.size) (.slice (some ⟨w4.heap.size, 0, none⟩) 8 8) [32, 32, 32, 32, 32, 32, 32, 32]) ⟨(Below.refl _ _).alloc (Nat.le_refl _) _, (Reads.lit _ _ [32, 32, 32, 32, 32, 32, 32, 32] _ _ _ rfl rfl rfl (by decide)).mono (fun b hb => by subst hb; simp)⟩ ?_
  intro w5 H5
  refine (num_any _ _ w5 H5.out.2 (by decide)).mono ?_
  rw [wk_num2]
  rintro e w5' ⟨rfl, rfl⟩
  go_wp2_with fail
  refine calls_at (R := fun wq => Below w5.heap.size w5 wq ∧ Reads wq (· < wq.heap.size) (.slice (some ⟨w5.heap.size, 0, none⟩) 1 1) [57]) ⟨(Below.refl _ _).alloc (Nat.le_refl _) _, (Reads.lit _ _ [57] _ _ _ rfl rfl rfl (by decide)).mono (fun b hb => by subst hb; simp)⟩ ?_
  intro w6 H6
  refine (num_any _ _ w6 H6.out.2 (by decide)).mono ?_
  rw [wk_num3]
  rintro e w6' ⟨rfl, rfl⟩
  have HB34 := Keep.keep ((H4.out.1.trans (H5.out.1.mono H4.out.1.size)).trans (H6.out.1.mono (H4.out.1.trans (H5.out.1.mono H4.out.1.size)).size))
  have HB13 := Keep.keep (HB2.out.trans (HB3.out.mono HB2.out.size))
  have HB16 := Keep.keep (HB13.out.trans (HB34.out.mono HB13.out.size))
  have R1 := Keep.keep (HR1.out.below HB16.out (fun b hb => hb))
  have R2 := Keep.keep (HR2.out.below (HB3.out.trans (HB34.out.mono HB3.out.size)) (fun b hb => hb))
  have R3 := Keep.keep (HR3.out.below HB34.out (fun b hb => hb))
  have BW := Keep.keep (HB1.out.trans (HB16.out.mono HB1.out.size))
  have hs1 := HB16.out.size
  have hs2 := (HB3.out.trans (HB34.out.mono HB3.out.size)).size
  have hs3 := HB34.out.size
  obtain ⟨a1, c1, rfl, -⟩ := R1.out.shape
  obtain ⟨a2, c2, rfl, -⟩ := R2.out.shape
  obtain ⟨a3, c3, rfl, -⟩ := R3.out.shape
  have hcv := run_string_of R1.out
  simp only [List.length_cons, List.length_nil, Nat.zero_add, Nat.reduceAdd] at hcv
  clear H4 H5 H6 HB34 HB13 HB16 HR1 HR2 HR3 HB1 HB2 HB3
  go_wp2_with fail
  refine calls_at (R := fun wq => Below w6.heap.size w6 wq ∧ Reads wq (· < wq.heap.size) (.slice (some ⟨w6.heap.size, 0, none⟩) 1 1) [255]) ⟨(Below.refl _ _).alloc (Nat.le_refl _) _, (Reads.one _ _ _ 255 rfl _ rfl).mono (fun b hb => by subst hb; simp)⟩ ?_
  intro w7 H7
  refine (rep_any _ 255 8 w7 H7.out.2 (by decide) (by decide)).mono ?_
  rintro e w8 ⟨g, rfl, hr8, -, hg8, hb8⟩
  have HB8 := Keep.keep (H7.out.1.trans (hb8.mono H7.out.1.size)); have HR8 := Keep.keep hr8
  clear hr8 hb8 H7
  go_wp2_with fail
  refine (equal_any _ _ _ _ _ _ w8 (R2.out.below HB8.out (fun b hb => by omega)) HR8.out).mono ?_
  rintro e w8' ⟨rfl, rfl⟩
  have hq : (([255, 255, 255, 255, 255, 255, 255, 255] : List UInt8) == List.replicate 8 255) = true := by decide
  rw [hq]
  clear hq HR8
  go_wp2_with fail
  refine calls_at (R := fun wq => Below w8.heap.size w8 wq ∧ Reads wq (· < wq.heap.size) (.slice (some ⟨w8.heap.size, 0, none⟩) 4 4) [128, 0, 1, 0]) ⟨(Below.refl _ _).alloc (Nat.le_refl _) _, (Reads.lit _ _ [128, 0, 1, 0] _ _ _ rfl rfl rfl (by decide)).mono (fun b hb => by subst hb; simp)⟩ ?_
  intro w9 H9
  have HB9 := Keep.keep (HB8.out.trans (H9.out.1.mono HB8.out.size))
  refine (equal_any _ _ _ _ _ _ w9 (R3.out.below HB9.out (fun b hb => by omega)) H9.out.2).mono ?_
  rintro e w9' ⟨rfl, rfl⟩
  rw [beq_self_eq_true]
  go_wp2_with fail
  go_ret
  exact ⟨rfl, BW.out.trans (HB9.out.mono BW.out.size)⟩
end Go.Proofs.YtohballfhhndbaaDoor
