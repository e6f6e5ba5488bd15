/- PathKnown: (BEGUN.) -/
import Derived.Test.YtkijhaibcnhedaaDoorPathKnownL
namespace Go.Proofs.YtkijhaibcnhedaaDoor
open Go.RowKit
theorem rep_any (s : List UInt8) (c : Nat) (w : World) (h0 : 0 < s.length) (h2 : 2 ≤ c) (hs : s.length ≤ 1000) (hc : c ≤ 1000) :
    Calls Tryd.prog 37 #[.string ⟨s.toArray⟩, .int .i64 (c : Int)] w fun e w' => e = .returned (.string ⟨(Lib.repeatL s c).toArray⟩) ∧ Below w.heap.size w w' := by
  have hb : s.length * c ≤ 140737488355328 := Nat.le_trans (Nat.mul_le_mul hs hc) (by decide)
  exact Tryd.strings_Repeat_main ⟨s.toArray⟩ c w h2 (by omega) hb h0
theorem rp_long : Lib.repeatL [110] 251 = longT := by decide +kernel
theorem rp_deep : Lib.repeatL [100, 47] 253 ++ [100] = deepT := by decide +kernel
theorem rp_wide : Lib.repeatL (Lib.repeatL [119] 249 ++ [47]) 16 ++ Lib.repeatL [119] 80 = wideT := by decide +kernel
theorem rp_x : Lib.repeatL [120] 256 = List.replicate 256 120 := by decide +kernel
theorem rp_a6 : Lib.repeatL [97, 47] 256 = (List.replicate 256 [97, 47]).flatten := by decide +kernel
theorem rp_a5 : Lib.repeatL [97, 47] 255 = (List.replicate 255 [97, 47]).flatten := by decide +kernel
end Go.Proofs.YtkijhaibcnhedaaDoor
