/- WHAT THE ROWS' LISTED VARIABLES GIVE: the tables of sha; and a world that holds them. -/
import Derived.Test.YtofficleahalaaaDoorLaw
import Derived.Test.YtofficleahalaaaDoorShaAll
namespace Go.Proofs.YtofficleahalaaaDoor
open Go.ChangeShapes Go.WideShapes Go.ChangeAt Go.RowKit
set_option maxRecDepth 100000 in
theorem sha_of_vars {W : World} {r : List (String × DataW Unit)} (h : ∃ ps, DataW.LaidVars Tryd.prog W (Rows.shaSumsRow.laid ++ r) ps) : Consts W ∧ Begins W := by
  obtain ⟨ps, hlv⟩ := h
  have t1 := tab_of_laid (g := 1) (t := 58) (e := 48) (n := 64) (k := .u32) (zs := Ks.map fun x : Nat => (x : Int)) (by kernel_rfl) (by kernel_rfl) Tryd.underlying58 Tryd.underlying48 (by kernel_rfl) (by kernel_rfl) ⟨ps, hlv⟩
  have t2 := tab_of_laid (g := 0) (t := 49) (e := 48) (n := 8) (k := .u32) (zs := H0s.map fun x : Nat => (x : Int)) (by kernel_rfl) (by kernel_rfl) Tryd.underlying49 Tryd.underlying48 (by kernel_rfl) (by kernel_rfl) (laid_drop ⟨ps, hlv⟩)
  constructor
  · intro t ht
    have := t1.cell (g := 1) (by kernel_rfl) t (by simpa [Ks] using ht)
    rw [this]
    congr 2
    simp [List.getD_eq_getElem?_getD, show t < Ks.length from ht]
  · intro t ht
    have := t2.cell (g := 0) (by kernel_rfl) t (by simpa [H0s] using ht)
    rw [this]
    congr 2
    simp [List.getD_eq_getElem?_getD, show t < H0s.length from ht]
theorem sha_of_laid {W : World} (h : laidMetH Tryd.prog Rows.shaSumsRow.laid W) : Consts W ∧ Begins W := by
  obtain ⟨ps, hlv, _⟩ := h
  exact sha_of_vars (r := []) ⟨ps, hlv⟩
/-- A WORLD FOR THE WITNESS -/
def layRow (c : Array Value) : Obj → Obj
  | .cells _ t frozen => .cells c t frozen
  | o => o
noncomputable def laidWorld (os : Os) : World :=
  { World.holding Tryd.prog os ⟨#[], #[], []⟩ with heap := Array.modify (Array.modify (World.holding Tryd.prog os ⟨#[], #[], []⟩).heap 1 (layRow (words Ks))) 0 (layRow (words H0s)) }
end Go.Proofs.YtofficleahalaaaDoor
