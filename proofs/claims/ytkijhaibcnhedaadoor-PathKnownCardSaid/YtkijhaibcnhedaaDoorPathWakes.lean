/- portolanlaw11.wakes. -/
import Derived.Test.YtkijhaibcnhedaaDoorPathWh
namespace Go.Proofs.YtkijhaibcnhedaaDoor
open Go.RowKit
theorem wk_cl0 : cleanP [46, 47, 97, 47, 47, 98, 47, 46, 47, 99, 47] = ([97, 47, 98, 47, 99], 0) := by decide +kernel
theorem wk_cl1 : cleanP [47, 97] = ([], 30) := by decide +kernel
theorem wk_cl2 : cleanP [97, 47, 46, 46, 47, 98] = ([], 30) := by decide +kernel
theorem wk_cl3 : cleanP [46] = ([], 0) := by decide +kernel
theorem wk_cs0 : classP [97, 47, 46, 119, 104, 46, 98] = (2, [97, 47, 98]) := by decide +kernel
theorem wk_cs1 : classP [46, 119, 104, 46, 46, 119, 104, 46, 46, 111, 112, 113] = (3, []) := by decide +kernel
theorem wk_cs2 : classP [97, 47, 46, 119, 104, 46, 46, 120] = (2, [97, 47, 46, 120]) := by decide +kernel
theorem wk_cs3 : classP [46, 119, 104, 46, 46, 119, 104, 46, 120] = (0, []) := by decide +kernel
theorem wk_cs4 : classP [97, 47, 46, 119, 104, 46, 46, 119, 104, 46, 116, 111, 99] = (0, []) := by decide +kernel
theorem wk_ab : aboveP [97, 47, 98, 47, 99] = [[97], [97, 47, 98]] := by decide +kernel
set_option maxHeartbeats 4000000 in
set_option maxRecDepth 100000 in
theorem wakes_any (B : Nat) (w : World) (hB : B ≤ w.heap.size) (hM : Mx B w) (hC : Cls B w) :
    Calls Tryd.prog 18 #[] w fun e w' => e = .returned (.bool true) ∧ Below w.heap.size w w' := by
  have HCL := Keep.keep (fun (l : List UInt8) (hl : l.length ≤ 1000) wx (h : Below w.heap.size w wx) => clean_any l (by omega) B wx (Nat.le_trans hB h.size) (hM.on (h.mono hB)))
  have HCS := Keep.keep (fun (l : List UInt8) (hl : l.length ≤ 1000) wx (h : Below w.heap.size w wx) => class_any l (by omega) B wx (Nat.le_trans hB h.size) (hM.on (h.mono hB)) (hC.on (h.mono hB)))
  clear hM hC
  have HB0 := Keep.keep (Below.refl w.heap.size w)
  go_enter Tryd.func18, Tryd.ntmps18
  go_wp2_with fail
  have H0 := Keep.keep (HCL.out [46, 47, 97, 47, 47, 98, 47, 46, 47, 99, 47] (by decide) _ HB0.out)
  rw [wk_cl0] at H0
  refine H0.out.mono ?_
  rintro e w1 ⟨rfl, hb⟩
  have HB1 := Keep.keep (HB0.out.trans (hb.mono HB0.out.size))
  clear hb H0
  go_wp2_with fail
  have H1 := Keep.keep (HCL.out [47, 97] (by decide) _ HB1.out)
  rw [wk_cl1] at H1
  refine H1.out.mono ?_
  rintro e w2 ⟨rfl, hb⟩
  have HB2 := Keep.keep (HB1.out.trans (hb.mono HB1.out.size))
  clear hb H1
  go_wp2_with fail
  have H2 := Keep.keep (HCL.out [97, 47, 46, 46, 47, 98] (by decide) _ HB2.out)
  rw [wk_cl2] at H2
  refine H2.out.mono ?_
  rintro e w3 ⟨rfl, hb⟩
  have HB3 := Keep.keep (HB2.out.trans (hb.mono HB2.out.size))
  clear hb H2
  go_wp2_with fail
  have H3 := Keep.keep (HCL.out [46] (by decide) _ HB3.out)
  rw [wk_cl3] at H3
  refine H3.out.mono ?_
  rintro e w4 ⟨rfl, hb⟩
  have HB4 := Keep.keep (HB3.out.trans (hb.mono HB3.out.size))
  clear hb H3
  go_wp2_with fail
  have H4 := Keep.keep (HCS.out [97, 47, 46, 119, 104, 46, 98] (by decide) _ HB4.out)
  rw [wk_cs0] at H4
  refine H4.out.mono ?_
  rintro e w5 ⟨rfl, hb⟩
  have HB5 := Keep.keep (HB4.out.trans (hb.mono HB4.out.size))
  clear hb H4
  go_wp2_with fail
  have H5 := Keep.keep (HCS.out [46, 119, 104, 46, 46, 119, 104, 46, 46, 111, 112, 113] (by decide) _ HB5.out)
  rw [wk_cs1] at H5
  refine H5.out.mono ?_
  rintro e w6 ⟨rfl, hb⟩
  have HB6 := Keep.keep (HB5.out.trans (hb.mono HB5.out.size))
  clear hb H5
  go_wp2_with fail
  have H6 := Keep.keep (HCS.out [97, 47, 46, 119, 104, 46, 46, 120] (by decide) _ HB6.out)
  rw [wk_cs2] at H6
  refine H6.out.mono ?_
  rintro e w7 ⟨rfl, hb⟩
  have HB7 := Keep.keep (HB6.out.trans (hb.mono HB6.out.size))
  clear hb H6
  go_wp2_with fail
  have H7 := Keep.keep (HCS.out [46, 119, 104, 46, 46, 119, 104, 46, 120] (by decide) _ HB7.out)
  rw [wk_cs3] at H7
  refine H7.out.mono ?_
  rintro e w8 ⟨rfl, hb⟩
  have HB8 := Keep.keep (HB7.out.trans (hb.mono HB7.out.size))
  clear hb H7
  go_wp2_with fail
  have H8 := Keep.keep (HCS.out [97, 47, 46, 119, 104, 46, 46, 119, 104, 46, 116, 111, 99] (by decide) _ HB8.out)
  rw [wk_cs4] at H8
  refine H8.out.mono ?_
  rintro e w9 ⟨rfl, hb⟩
  have HB9 := Keep.keep (HB8.out.trans (hb.mono HB8.out.size))
  clear hb H8
  go_wp2_with fail
  refine (above_any [97, 47, 98, 47, 99] (by decide) w9).mono ?_
  rintro e wa ⟨va, rfl, ho, hb⟩
  rw [wk_ab] at ho
  have HRA := Keep.keep ((ownsV_reads ho).mono (N' := (· < wa.heap.size)) (fun b hb => hb.2.1))
  have HBA := Keep.keep (HB9.out.trans (hb.mono HB9.out.size))
  obtain ⟨aa, ca, hva, -⟩ := (ownsV_reads ho).shape
  simp only [List.length_cons, List.length_nil, Nat.zero_add, Nat.reduceAdd] at hva
  subst hva
  clear ho hb
  go_wp2_with fail
  refine calls_at (R := fun wq => Below wa.heap.size wa wq ∧ RdS wq (· < wq.heap.size) (.slice (some ⟨wa.heap.size, 0, none⟩) 2 2) [[97], [97, 47, 98]]) ⟨(Below.refl _ _).alloc (Nat.le_refl _) _, rdS_two wa _ _⟩ ?_
  intro w2 H2
  refine (sequal_any _ _ _ _ w2 ((HRA.out.below H2.out.1 (fun b hb => hb)).mono (fun b hb => Nat.lt_of_lt_of_le hb H2.out.1.size)) H2.out.2 (by decide) (by decide)).mono ?_
  rintro e w3 ⟨rfl, hb3⟩
  have HB3 := Keep.keep (HBA.out.trans ((H2.out.1.trans (hb3.mono H2.out.1.size)).mono HBA.out.size))
  clear hb3
  rw [decide_eq_true rfl]
  go_wp2_with fail
  go_ret
  exact ⟨rfl, HB3.out⟩
end Go.Proofs.YtkijhaibcnhedaaDoor
