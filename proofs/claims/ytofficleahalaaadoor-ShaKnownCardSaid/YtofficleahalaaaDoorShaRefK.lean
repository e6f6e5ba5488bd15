/- THE REFERENCE's constants. -/
import Derived.Test.YtofficleahalaaaDoorShaTake
namespace Go.Proofs.YtofficleahalaaaDoor
open Go.RowKit
set_option maxHeartbeats 400000 in
set_option maxRecDepth 100000 in
theorem consts_any (w : World) : Calls Tryd.prog 29 #[] w fun e w' => e = .returned (.agg (words Ks)) ∧ Below w.heap.size w w' := by
  have H1 : Keep ((words Ks).all (·.oneCell') = true) := ⟨by simp [words, Value.oneCell']⟩
  have HS : Keep ((words Ks).size = 64) := ⟨rfl⟩
  go_enter Tryd.func29, Tryd.ntmps29
  go_wp2_with (first | ((with_reducible refine arm_storeRow (c' := words Ks) (Row.new w 58 _) agg64 ?_ HS.out H1.out ?_ ?_ ?_); (focus rfl); (focus rfl); (focus rfl); simp only [Act.put, World.setRow_alloc_new]))
  refine bodyPost_ret (v := .agg (words Ks)) ?_ rfl ⟨rfl, (Below.refl _ _).alloc (Nat.le_refl _) _⟩
  exact results_row (p := 0) (ty := 58) rfl (Row.new w 58 _) agg64 HS.out rfl
end Go.Proofs.YtofficleahalaaaDoor
