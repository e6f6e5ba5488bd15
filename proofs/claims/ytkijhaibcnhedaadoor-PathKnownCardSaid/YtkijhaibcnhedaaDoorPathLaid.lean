/- WHAT THE ROWS' LISTED VARIABLES AND THE WORLD'S SHAPE GIVE; and a world that holds the listed variables. -/
import Derived.Test.YtkijhaibcnhedaaDoorPathMap
import Derived.Test.YtkijhaibcnhedaaDoorPathFns
import Derived.Test.YtkijhaibcnhedaaDoorOk
import Derived.Test.YtkijhaibcnhedaaDoorOpenS
import Derived.Lib.LaidU8
import Derived.PinnedBridge
import Derived.Deep.DeepWitnessRowRef
namespace Go.Proofs.YtkijhaibcnhedaaDoor
open Go.ChangeShapes Go.WideShapes Go.ChangeAt Go.RowKit
theorem mx_of_shape {W : World} (h : W.ShapedOpen Tryd.prog) : Mx W.heap.size W := by
  obtain ⟨m, hm⟩ := Tryd.laysM144.s1_3 W h
  have hm : W.cell? ⟨1, 0, none⟩ = some (.int .i64 m) := hm
  exact ⟨World.block_lt_of_cell? W _ hm, m, hm⟩
/-- A WORLD FOR THE WITNESS -/
def layRow (c : Array Value) : Obj → Obj
  | .cells _ t frozen => .cells c t frozen
  | o => o
def classesMap : Obj := .map #[⟨.int .i64 1, .func (.func 110) #[] #[], 0⟩, ⟨.int .i64 2, .func (.func 111) #[] #[], 1⟩, ⟨.int .i64 3, .func (.func 112) #[] #[], 2⟩] 3
noncomputable def lowM : Nat := (World.holding Tryd.prog default ⟨#[], #[], []⟩).heap.size
noncomputable def laidWorld (os : Os) : World :=
  let w0 := World.holding Tryd.prog os ⟨#[classesMap], #[], []⟩
  let h2 := Array.modify w0.heap 3 (layRow ((List.range 16).flatMap fun i => [Value.int .u8 (Lib.accLo i), Value.int .u8 (Lib.accHi i)]).toArray)
  let h3 := Array.modify h2 2 (layRow (Lib.firstTab.map fun z => Value.int .u8 z).toArray)
  let h4 := Array.modify h3 0 (layRow #[.map (some lowM)])
  { w0 with heap := h4 }
end Go.Proofs.YtkijhaibcnhedaaDoor
