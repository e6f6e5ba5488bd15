/- WHAT THE ROWS' LISTED VARIABLES GIVE: the table of tens; and a world that holds the three tables. -/
import Derived.Test.YtlhjehcfpnjbmaaDoorLaw
import Derived.Lib.AppendIntMem
namespace Go.Proofs.YtlhjehcfpnjbmaaDoor
open Go.ChangeShapes Go.WideShapes Go.ChangeAt Go.RowKit
set_option maxRecDepth 100000 in
theorem pow_of_vars {W : World} {a b : String × DataW Unit} {r : List (String × DataW Unit)} (h : ∃ ps, DataW.LaidVars Tryd.prog W (a :: b :: ("internal/strconv.uint64pow10", Rows.laid_internal_strconv_uint64pow10) :: r) ps) :
    Lib.TabBelow Tryd.prog W.heap.size W "internal/strconv.uint64pow10" .u64 Lib.pow10Tab :=
  Lib.tabBelow_of_tabIs (tab_of_laid (g := 0) (t := 101) (e := 61) (n := 20) (k := .u64) (zs := Lib.pow10Tab) (by kernel_rfl) (by kernel_rfl) Tryd.underlying101 Tryd.underlying61 (by kernel_rfl) (by kernel_rfl) (rest := r) (laid_drop (laid_drop h)))
/-- A WORLD FOR THE WITNESS -/
def layRow (c : Array Value) : Obj → Obj
  | .cells _ t frozen => .cells c t frozen
  | o => o
def dataCells : DataW Unit → Array Value
  | .agg l => (l.map fun d => match d with | .lit v => (match v with | .int k z => Value.int k z | _ => undef) | _ => undef).toArray
  | _ => #[]
noncomputable def laidWorld (os : Os) : World :=
  let w0 := World.holding Tryd.prog os ⟨#[], #[], []⟩
  { w0 with heap := Array.modify (Array.modify (Array.modify w0.heap 4 (layRow (dataCells Rows.laid_math_bits_deBruijn32tab))) 5 (layRow (dataCells Rows.laid_math_bits_deBruijn64tab))) 0 (layRow (dataCells Rows.laid_internal_strconv_uint64pow10)) }
end Go.Proofs.YtlhjehcfpnjbmaaDoor
