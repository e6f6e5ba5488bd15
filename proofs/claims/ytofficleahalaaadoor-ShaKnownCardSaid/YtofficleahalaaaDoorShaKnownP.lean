/- THE TEXTS OF ShaKnown: what they parse to. -/
import Derived.Test.YtofficleahalaaaDoorShaNames
namespace Go.Proofs.YtofficleahalaaaDoor
open Go.RowKit
theorem repL (x : UInt8) : ∀ n, Lib.repeatL [x] n = List.replicate n x
  | 0 => rfl
  | n + 1 => by rw [Lib.repeatL, repL x n]; rfl
theorem srep_any (x : UInt8) (c : Nat) (hc : c ≤ 100) (w : World) : Calls Tryd.prog 24 #[.string ⟨#[x]⟩, .int .i64 (c : Int)] w fun e w' => e = .returned (.string ⟨(List.replicate c x).toArray⟩) ∧ Below w.heap.size w w' := by
  have h := Tryd.strings_Repeat ⟨#[x]⟩ c w (by omega) (by show 1 * c ≤ _; omega)
  rw [← repL]
  exact h
def pG : List UInt8 := pre7 ++ List.replicate 64 103
def pN : List UInt8 := [115, 104, 97, 53, 49, 50, 58] ++ List.replicate 64 48
def pM : List UInt8 := pre7 ++ List.replicate 62 48 ++ [49, 102]
theorem no0 : ¬ Names [] := by decide +kernel
theorem noG : ¬ Names pG := by decide +kernel
theorem noN : ¬ Names pN := by decide +kernel
theorem yesM : Names pM := by decide +kernel
theorem parse_no (l : List UInt8) (hl : l.length ≤ 140737488355328) (h : ¬ Names l) (w : World) : Calls Tryd.prog 19 #[.string ⟨l.toArray⟩] w fun e w' => e = .returned (.tuple #[.agg (bcells (List.replicate 32 0)).toArray, .int .i64 5]) ∧ Below w.heap.size w w' := by
  have := parse_any l hl w
  rw [parseD, parseE, if_neg h, if_neg h] at this
  exact this
theorem parse_m (w : World) : Calls Tryd.prog 19 #[.string ⟨pM.toArray⟩] w fun e w' => e = .returned (.tuple #[.agg (bcells (parseD pM)).toArray, .int .i64 0]) ∧ Below w.heap.size w w' := by
  have := parse_any pM (by decide +kernel) w
  rw [show parseE pM = 0 by rw [parseE, if_pos yesM]] at this
  exact this
theorem pm30 : (bcells (parseD pM)).toArray[30]? = some (.int .u8 0) := by
  have : (parseD pM)[30]? = some 0 := by decide +kernel
  simp [bcells, this]
theorem pm31 : (bcells (parseD pM)).toArray[31]? = some (.int .u8 31) := by
  have : (parseD pM)[31]? = some 31 := by decide +kernel
  simp [bcells, this]
theorem lits : ∃ gs ns ms tg tn t1 t2 : List UInt8, ∃ cd zz : Array Value,
    (∀ w, Calls Tryd.prog 24 #[.string ⟨#[103]⟩, .int .i64 64] w fun e w' => e = .returned (.string ⟨gs.toArray⟩) ∧ Below w.heap.size w w') ∧
    (∀ w, Calls Tryd.prog 24 #[.string ⟨#[48]⟩, .int .i64 64] w fun e w' => e = .returned (.string ⟨ns.toArray⟩) ∧ Below w.heap.size w w') ∧
    (∀ w, Calls Tryd.prog 24 #[.string ⟨#[48]⟩, .int .i64 62] w fun e w' => e = .returned (.string ⟨ms.toArray⟩) ∧ Below w.heap.size w w') ∧
    (∀ w, (Op.stringOp .add ⟨#[115, 104, 97, 50, 53, 54, 58]⟩ ⟨gs.toArray⟩).run Tryd.prog w = .ok (.string ⟨tg.toArray⟩) w) ∧
    (∀ w, (Op.stringOp .add ⟨#[115, 104, 97, 53, 49, 50, 58]⟩ ⟨ns.toArray⟩).run Tryd.prog w = .ok (.string ⟨tn.toArray⟩) w) ∧
    (∀ w, (Op.stringOp .add ⟨#[115, 104, 97, 50, 53, 54, 58]⟩ ⟨ms.toArray⟩).run Tryd.prog w = .ok (.string ⟨t1.toArray⟩) w) ∧
    (∀ w, (Op.stringOp .add ⟨t1.toArray⟩ ⟨#[49, 102]⟩).run Tryd.prog w = .ok (.string ⟨t2.toArray⟩) w) ∧
    (∀ w, Calls Tryd.prog 19 #[.string ⟨#[]⟩] w fun e w' => e = .returned (.tuple #[.agg zz, .int .i64 5]) ∧ Below w.heap.size w w') ∧
    (∀ w, Calls Tryd.prog 19 #[.string ⟨tg.toArray⟩] w fun e w' => e = .returned (.tuple #[.agg zz, .int .i64 5]) ∧ Below w.heap.size w w') ∧
    (∀ w, Calls Tryd.prog 19 #[.string ⟨tn.toArray⟩] w fun e w' => e = .returned (.tuple #[.agg zz, .int .i64 5]) ∧ Below w.heap.size w w') ∧
    (∀ w, Calls Tryd.prog 19 #[.string ⟨t2.toArray⟩] w fun e w' => e = .returned (.tuple #[.agg cd, .int .i64 0]) ∧ Below w.heap.size w w') ∧
    zz.size = 32 ∧ zz.all (·.oneCell') = true ∧ cd.size = 32 ∧ cd.all (·.oneCell') = true ∧ cd[30]? = some (.int .u8 0) ∧ cd[31]? = some (.int .u8 31) :=
  ⟨List.replicate 64 103, List.replicate 64 48, List.replicate 62 48, pG, pN, pre7 ++ List.replicate 62 48, pM, (bcells (parseD pM)).toArray, (bcells (List.replicate 32 0)).toArray,
   srep_any 103 64 (by decide), srep_any 48 64 (by decide), srep_any 48 62 (by decide),
   run_cat pre7 _ (by decide +kernel), run_cat [115, 104, 97, 53, 49, 50, 58] _ (by decide +kernel), run_cat pre7 _ (by decide +kernel), run_cat _ [49, 102] (by decide +kernel),
   parse_no [] (by decide) no0, parse_no pG (by decide +kernel) noG, parse_no pN (by decide +kernel) noN, parse_m,
   zeros_cells, all_oneCell_toArray (bcells_one _), by simp [bcells, parseD_length], all_oneCell_toArray (bcells_one _), pm30, pm31⟩
end Go.Proofs.YtofficleahalaaaDoor
