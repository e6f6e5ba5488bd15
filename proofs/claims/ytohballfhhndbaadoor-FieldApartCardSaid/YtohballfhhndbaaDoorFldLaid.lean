/- WHAT THE ROWS' LISTED VARIABLES GIVE: the table of trailing zeros; and a world that holds the five tables and the table of fields. -/
import Derived.Test.YtohballfhhndbaaDoorFldMap
import Derived.Test.YtohballfhhndbaaDoorFldFmt
import Derived.Test.YtohballfhhndbaaDoorOk
import Derived.PinnedBridge
import Derived.Deep.DeepWitnessRowRef
namespace Go.Proofs.YtohballfhhndbaaDoor
open Go.ChangeShapes Go.WideShapes Go.ChangeAt Go.RowKit
set_option maxRecDepth 100000 in
theorem tz_of_vars {W : World} {a : String × DataW Unit} {r : List (String × DataW Unit)} (h : ∃ ps, DataW.LaidVars Tryd.prog W (a :: ("math/bits.deBruijn64tab", Rows.laid_math_bits_deBruijn64tab) :: r) ps) : Tz W.heap.size W :=
  Lib.tabBelow_of_tabIs (tab_of_laid (g := 4) (t := 127) (e := 5) (n := 64) (k := .u8) (zs := Lib.deBruijn64tab.map Int.ofNat) (by kernel_rfl) (by kernel_rfl) Tryd.underlying127 Tryd.underlying5 (by kernel_rfl) (by kernel_rfl) (rest := r) (laid_drop h))
/-- A WORLD FOR THE WITNESS -/
def layRow (c : Array Value) : Obj → Obj
  | .cells _ t frozen => .cells c t frozen
  | o => o
def dataCells : DataW Unit → Array Value
  | .agg l => (l.map fun d => match d with | .lit v => (match v with | .int k z => Value.int k z | _ => undef) | _ => undef).toArray
  | _ => #[]
def fieldsMap : Obj := .map ((places.zipIdx.map fun p => (⟨.string ⟨p.1.1.toArray⟩, .agg #[.int .i64 (p.1.2.1 : Int), .int .i64 (p.1.2.2 : Int)], p.2⟩ : MapEntry)).toArray) 16
noncomputable def lowM : Nat := (World.holding Tryd.prog default ⟨#[], #[], []⟩).heap.size
noncomputable def laidWorld (os : Os) : World :=
  let w0 := World.holding Tryd.prog os ⟨#[fieldsMap], #[], []⟩
  let h1 := Array.modify (Array.modify (Array.modify w0.heap 3 (layRow (dataCells Rows.laid_math_bits_deBruijn32tab))) 4 (layRow (dataCells Rows.laid_math_bits_deBruijn64tab))) 2 (layRow (dataCells Rows.laid_internal_strconv_uint64pow10))
  let h2 := Array.modify h1 6 (layRow ((List.range 16).flatMap fun i => [Value.int .u8 (Lib.accLo i), Value.int .u8 (Lib.accHi i)]).toArray)
  let h3 := Array.modify h2 5 (layRow (Lib.firstTab.map fun z => Value.int .u8 z).toArray)
  let h4 := Array.modify h3 0 (layRow #[.map (some lowM)])
  { w0 with heap := h4 }
end Go.Proofs.YtohballfhhndbaaDoor
