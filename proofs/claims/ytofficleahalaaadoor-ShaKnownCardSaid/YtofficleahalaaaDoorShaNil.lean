/- A STATE THAT IS NONE: nil, or never made. -/
import Derived.Test.YtofficleahalaaaDoorShaParse
namespace Go.Proofs.YtofficleahalaaaDoor
open Go.RowKit
/-- no state: nil, or a cell that says it was never made -/
def NoSt (w : World) (p : Value) : Prop := p = .pointer none ∨ ∃ S, p = .pointer (some ⟨S, 0, none⟩) ∧ w.cell? ⟨S, 10, none⟩ = some (.bool false)
theorem NoSt.below {B : Nat} {w w' : World} {p : Value} (h : NoSt w p) (hb : Below B w w') (hB : ∀ S, p = .pointer (some ⟨S, 0, none⟩) → S < B) : NoSt w' p := by
  rcases h with h | ⟨S, h, hc⟩
  · exact .inl h
  · exact .inr ⟨S, h, by rw [hb.cell (hB S h)]; exact hc⟩
theorem none_nil (p : Value) (w : World) (hs : NoSt w p) : Calls Tryd.prog 31 #[p] w fun e w' => e = .returned (.bool true) ∧ w = w' := by
  rcases hs with rfl | ⟨S, rfl, c10⟩
  · go_enter Tryd.func31, Tryd.ntmps31
    go_wp2_with fail
    go_ret
    exact ⟨rfl, rfl⟩
  · go_enter Tryd.func31, Tryd.ntmps31
    go_wp2_with fail
    go_ret
    exact ⟨rfl, rfl⟩
theorem write_nil (p v : Value) (w : World) (hs : NoSt w p) : Calls Tryd.prog 15 #[p, v] w fun e w' => e = .returned (.int .i64 2) ∧ w = w' := by
  have HC := Keep.keep (none_nil p w hs); clear hs
  go_enter Tryd.func15, Tryd.ntmps15
  go_wp2_with (go_at_call 31; ((with_reducible refine HC.out.mono ?_); rintro e' w1 ⟨rfl, rfl⟩))
  go_ret
  exact ⟨rfl, rfl⟩
theorem len_nil (p : Value) (w : World) (hs : NoSt w p) : Calls Tryd.prog 17 #[p] w fun e w' => e = .returned (.int .u64 0) ∧ w = w' := by
  have HC := Keep.keep (none_nil p w hs); clear hs
  go_enter Tryd.func17, Tryd.ntmps17
  go_wp2_with (go_at_call 31; ((with_reducible refine HC.out.mono ?_); rintro e' w1 ⟨rfl, rfl⟩))
  go_ret
  exact ⟨rfl, rfl⟩
theorem copy_nil (p : Value) (w : World) (hs : NoSt w p) : Calls Tryd.prog 14 #[p] w fun e w' => e = .returned (.pointer none) ∧ w = w' := by
  have HC := Keep.keep (none_nil p w hs); clear hs
  go_enter Tryd.func14, Tryd.ntmps14
  go_wp2_with (go_at_call 31; ((with_reducible refine HC.out.mono ?_); rintro e' w1 ⟨rfl, rfl⟩))
  go_ret
  exact ⟨rfl, rfl⟩
set_option maxHeartbeats 1000000 in
set_option maxRecDepth 100000 in
theorem sum_nil (p : Value) (w : World) (hs : ∀ w2, Below w.heap.size w w2 → NoSt w2 p) : Calls Tryd.prog 16 #[p] w fun e w' => e = .returned (.agg (bcells (List.replicate 32 0)).toArray) ∧ Below w.heap.size w w' := by
  have hZ := Keep.keep zeros_cells
  have hZ1 := Keep.keep (all_oneCell_toArray (bcells_one (List.replicate 32 0)))
  have HC := Keep.keep hs
  clear hs
  go_enter Tryd.func16, Tryd.ntmps16
  go_wp2_with fail
  refine calls_world (R := fun w2 => Hp NoM w w2 [rowA w.heap.size 25 (bcells (List.replicate 32 0)).toArray, rowA (w.heap.size + 1) 25 (bcells (List.replicate 32 0)).toArray]) (((Hp.begin _ w).newRow' _ _ _ _ rfl rfl).newRow' _ _ _ _ (by simp) rfl) ?_
  intro w1 HH
  refine (none_nil p w1 (HC.out w1 HH.out.below)).mono ?_
  rintro e w2 ⟨rfl, rfl⟩
  generalize hzz : (bcells (List.replicate 32 0)).toArray = zz at *
  have HZZ := Keep.keep hzz; clear hzz
  have HR0 := Keep.keep (HH.out.row 0 rfl)
  have HR1 := Keep.keep (HH.out.row 1 rfl)
  have HB := Keep.keep (HH.out.setRow 0 rfl zz)
  go_wp2_with (first | ((with_reducible refine arm_loadRow HR1.out aggDig hZ.out ?_ ?_); (focus rfl); simp only [Act.put, List.setIfInBounds_toArray, List.set_cons_succ, List.set_cons_zero]) | ((with_reducible refine arm_storeRow HR0.out aggDig hZ.out hZ.out hZ1.out ?_ ?_ ?_); (focus rfl); (focus rfl); simp only [Act.put]))
  refine bodyPost_ret (v := .agg zz) ?_ rfl ⟨by rw [HZZ.out], HB.out.below⟩
  exact results_row (p := 2) (ty := 25) rfl (HB.out.row 0 rfl) aggDig hZ.out rfl
end Go.Proofs.YtofficleahalaaaDoor
