/- THE TABLE OF FIELDS: a package-level map, as the rows list it; what it tells at a name. -/
import Derived.Test.YtohballfhhndbaaDoorLaw
import Derived.Maps.Keyed
import Derived.Lib.LaidU8
namespace Go.Proofs.YtohballfhhndbaaDoor
open Go.ChangeShapes Go.WideShapes Go.ChangeAt Go.RowKit
/-- where a field stands, and how long it is -/
def places : List (List UInt8 × Nat × Nat) := [([99, 104, 107, 115, 117, 109], 148, 8), ([100, 101, 118, 109, 97, 106, 111, 114], 329, 8), ([100, 101, 118, 109, 105, 110, 111, 114], 337, 8), ([103, 105, 100], 116, 8), ([103, 110, 97, 109, 101], 297, 32), ([108, 105, 110, 107, 110, 97, 109, 101], 157, 100), ([109, 97, 103, 105, 99], 257, 6), ([109, 111, 100, 101], 100, 8), ([109, 116, 105, 109, 101], 136, 12), ([110, 97, 109, 101], 0, 100), ([112, 114, 101, 102, 105, 120], 345, 155), ([115, 105, 122, 101], 124, 12), ([116, 121, 112, 101], 156, 1), ([117, 105, 100], 108, 8), ([117, 110, 97, 109, 101], 265, 32), ([118, 101, 114, 115, 105, 111, 110], 263, 2)]
def placeOf (s : List UInt8) : Option (Nat × Nat) := (places.find? fun p => p.1 == s).map (·.2)
def pairD (p : Nat × Nat) : DataW Unit := Lib.tabData .i64 [(p.1 : Int), (p.2 : Int)]
theorem fields_laid : (Rows.laid_portolan_field_fields : DataW Unit) = .map (places.map fun p => (.string p.1, pairD p.2)) := rfl
theorem atKey_places (s : List UInt8) (z : DataW Unit) : ∀ (l : List (List UInt8 × Nat × Nat)), (DataW.map (l.map fun p => (Lit.string p.1, pairD p.2))).atKey (.string s) z = (((l.find? fun p => p.1 == s).map (·.2)).map pairD).getD z
  | [] => rfl
  | p :: l => by
    have ih := atKey_places s z l
    unfold DataW.atKey at ih ⊢
    simp only [List.map_cons, List.find?_cons] at ih ⊢
    have hk : (Lit.string p.1).sameKey (.string s) = (p.1 == s) := rfl
    rw [hk]
    cases p.1 == s with
    | true => rfl
    | false => exact ih
theorem atKey_fields (s : List UInt8) (z : DataW Unit) : (Rows.laid_portolan_field_fields : DataW Unit).atKey (.string s) z = ((placeOf s).map pairD).getD z := by
  rw [fields_laid, atKey_places]; rfl
/-- the world holds the table -/
def Flds (B : Nat) (w : World) : Prop := ∃ b, b < B ∧ 0 < B ∧ w.cell? ⟨0, 0, none⟩ = some (.map (some b)) ∧ ∃ (es : Array MapEntry) (clock : Nat) (R : Value → Option (DataW Unit × List MemPlace)),
  w.heap[b]? = some (.map es clock) ∧ WideElems.Fit Tryd.prog 9 R es clock ∧ DataW.map ((es.toList.map (WideElems.rg Tryd.prog 9 R)).foldr DataW.insert []) = Rows.laid_portolan_field_fields ∧
  ∀ v p ps, R v = some (pairD p, ps) → v = .agg #[.int .i64 (p.1 : Int), .int .i64 (p.2 : Int)]
theorem Flds.on {B : Nat} {w w' : World} (h : Flds B w) (hb : Below B w w') : Flds B w' := by
  obtain ⟨b, h1, h2, h3, es, clock, R, h4, h5⟩ := h
  exact ⟨b, h1, h2, by rw [hb.cell (p := ⟨0, 0, none⟩) h2]; exact h3, es, clock, R, by rw [hb.block b h1]; exact h4, h5⟩
theorem zeroA2 (w : World) : (zeroValue 89).run Tryd.prog w = .ok (.agg #[.int .i64 0, .int .i64 0]) w := by kernel_rfl
theorem Flds.look {B : Nat} {w : World} (h : Flds B w) (s : List UInt8) (hs : s.length ≤ maxLen) : ∃ b, w.cell? ⟨0, 0, none⟩ = some (.map (some b)) ∧
    (Instr.lookup 91 (.map (some b)) (.string ⟨s.toArray⟩) true).run Tryd.prog w = .ok (.tuple #[.agg #[.int .i64 (((placeOf s).getD (0, 0)).1 : Int), .int .i64 (((placeOf s).getD (0, 0)).2 : Int)], .bool (placeOf s).isSome]) w := by
  obtain ⟨b, h1, h2, h3, es, clock, R, h4, h5, h6, h7⟩ := h
  refine ⟨b, h3, ?_⟩
  have hkey : keyOf Tryd.prog 9 (.string ⟨s.toArray⟩) = some (.string s) := WideMaps.keyOf_string_mk Tryd.underlying9 hs
  rcases Maps.fit_look true (Maps.string_keyed Tryd.underlying9) Tryd.underlying91 (zeroA2 w) h4 h5 hkey with ⟨h8, -, h9⟩ | ⟨e0, y, -, -, h8, h9, h10, -⟩
  · rw [h8]
    rw [h6] at h9
    have ha := h9 .nil
    rw [atKey_fields] at ha
    cases hp : placeOf s with
    | none => rfl
    | some p => rw [hp] at ha; cases ha
  · rw [h8]
    rw [h6] at h10
    have ha := h10 .nil
    have hb := h10 (.agg [])
    rw [atKey_fields] at ha hb
    cases hp : placeOf s with
    | none => rw [hp] at ha hb; rw [← ha] at hb; cases hb
    | some p =>
      rw [hp] at ha
      have ha : pairD p = y.1 := ha
      obtain ⟨y1, y2⟩ := y
      simp only at ha
      subst ha
      rw [h7 _ p y2 h9]
      rfl
set_option maxRecDepth 100000 in
theorem flds_of_laid {W : World} {l : List (String × DataW Unit)} (hL : laidMet Tryd.prog l W) (hm : ("portolan/field.fields", Rows.laid_portolan_field_fields) ∈ l) : Flds W.heap.size W := by
  obtain ⟨g, t, cs, fuel, p, hg, ht, hvar, hd⟩ := Lib.laidMet.reads hL hm
  obtain rfl : 0 = g := Option.some.inj ((show Tryd.prog.globalNamed "portolan/field.fields" = some 0 by kernel_rfl).symm.trans hg)
  obtain rfl : 91 = t := Option.some.inj ((show (Tryd.prog.globals[0]?).map (·.type) = some 91 by kernel_rfl).symm.trans ht)
  have hcell : W.cell? ⟨0, 0, none⟩ = cs[0]? ∧ 0 < W.heap.size := by
    unfold World.var? at hvar
    rw [hg] at hvar
    simp only [Option.bind_some] at hvar
    cases hw : W.heap[0]? with
    | none => simp [hw] at hvar
    | some o =>
      cases o <;> simp [hw] at hvar
      subst hvar
      exact ⟨by simp [World.cell?, hw], (Array.getElem?_eq_some_iff.1 hw).1⟩
  rcases WideElems.open_map Tryd.underlying91 hd with ⟨_, hx⟩ | ⟨b, es, clock, n, rfl, hcs, hb, _, hF, hx⟩
  · injection hx with hx _; cases hx
  · refine ⟨b, (Array.getElem?_eq_some_iff.1 hb).1, hcell.2, ?_, es, clock, _, hb, hF, ?_, ?_⟩
    · rw [hcell.1, ← Array.getElem?_toList, hcs]; rfl
    · injection hx with hx _; exact hx.symm
    · intro v q ps hR
      unfold WideElems.elemAt at hR
      split at hR
      · rename_i hf
        have hc := Lib.cells_of_tab (n := 2) Tryd.underlying89 Tryd.underlying3 (by kernel_rfl) (by kernel_rfl) hR
        cases v with
        | agg c => 
          simp only [Value.cells] at hc
          congr 1
          apply Array.ext'
          rw [hc]; rfl
        | _ => simp [Value.cells] at hc
      · cases hR
end Go.Proofs.YtohballfhhndbaaDoor
