/- THE TABLE OF CLASSES: a package-level map of functions, as the rows list it; what it tells at a class. -/
import Derived.Test.YtkijhaibcnhedaaDoorLaw
import Derived.Maps.Keyed
import Derived.LaidHandle
import Derived.LaidMore
namespace Go.Proofs.YtkijhaibcnhedaaDoor
open Go.ChangeShapes Go.WideShapes Go.ChangeAt Go.RowKit
def clsFn (k : Nat) : FuncId := if k = 1 then 110 else if k = 2 then 111 else 112
/-- the world holds the table -/
def Cls (B : Nat) (w : World) : Prop := ∃ b, b < B ∧ 0 < B ∧ w.cell? ⟨0, 0, none⟩ = some (.map (some b)) ∧ ∃ (es : Array MapEntry) (clock : Nat) (R : Value → Option (DataW (List UInt8) × List MemPlace)),
  w.heap[b]? = some (.map es clock) ∧ WideElems.Fit Tryd.prog 3 R es clock ∧
  (∀ k : Nat, 1 ≤ k → k ≤ 3 → ∀ z, ∃ n, (DataW.map ((es.toList.map (WideElems.rg Tryd.prog 3 R)).foldr DataW.insert [])).atKey (.int .i64 (k : Int)) z = .held n ∧ ∀ v ps, R v = some (.held n, ps) → v = .func (.func (clsFn k)) #[] #[])
theorem Cls.on {B : Nat} {w w' : World} (h : Cls B w) (hb : Below B w w') : Cls B w' := by
  obtain ⟨b, h1, h2, h3, es, clock, R, h4, h5⟩ := h
  exact ⟨b, h1, h2, by rw [hb.cell (p := ⟨0, 0, none⟩) h2]; exact h3, es, clock, R, by rw [hb.block b h1]; exact h4, h5⟩
theorem zeroF : ∃ z, ∀ w, (zeroValue 47).run Tryd.prog w = .ok z w := ⟨_, fun w => rfl⟩
theorem Cls.look {B : Nat} {w : World} (h : Cls B w) (k : Nat) (h1 : 1 ≤ k) (h3 : k ≤ 3) : ∃ b, w.cell? ⟨0, 0, none⟩ = some (.map (some b)) ∧
    (Instr.lookup 48 (.map (some b)) (.int .i64 (k : Int)) false).run Tryd.prog w = .ok (.func (.func (clsFn k)) #[] #[]) w := by
  obtain ⟨b, _, _, hc, es, clock, R, h4, h5, h6⟩ := h
  refine ⟨b, hc, ?_⟩
  obtain ⟨z, hz⟩ := zeroF
  have hkey : keyOf Tryd.prog 3 (.int .i64 (k : Int)) = some (.int .i64 (k : Int)) := by
    have : (k = 1 ∨ k = 2 ∨ k = 3) := by omega
    rcases this with rfl | rfl | rfl <;> (simp [keyOf, mapKey, Tryd.underlying3]; decide)
  rcases Maps.fit_look false (Maps.int_keyed Tryd.underlying3) Tryd.underlying48 (hz w) h4 h5 hkey with ⟨_, -, h9⟩ | ⟨e0, y, -, -, h8, h9, h10, -⟩
  · obtain ⟨n, ha, _⟩ := h6 k h1 h3 .nil
    rw [h9] at ha
    cases ha
  · obtain ⟨n, ha, hf⟩ := h6 k h1 h3 .nil
    rw [h10] at ha
    obtain ⟨y1, y2⟩ := y
    simp only at ha
    subst ha
    rw [h8, hf _ _ h9]
    rfl
set_option maxRecDepth 100000 in
theorem cls_of_laid {W : World} {l : List (String × DataW Unit)} (hL : laidMetH Tryd.prog l W) (hm : ("portolan/path.classes", Rows.laid_portolan_path_classes) ∈ l) : Cls W.heap.size W := by
  obtain ⟨g, t, cs, fuel, p, hg, ht, hvar, hd⟩ := laidMetH.funcs hL hm
  obtain rfl : 0 = g := Option.some.inj ((show Tryd.prog.globalNamed "portolan/path.classes" = some 0 by kernel_rfl).symm.trans hg)
  obtain rfl : 48 = t := Option.some.inj ((show (Tryd.prog.globals[0]?).map (·.type) = some 48 by kernel_rfl).symm.trans ht)
  have hcell : W.cell? ⟨0, 0, none⟩ = cs[0]? ∧ 0 < W.heap.size := by
    unfold World.var? at hvar
    rw [hg] at hvar
    simp only [Option.bind_some] at hvar
    cases hw : W.heap[0]? with
    | none => simp [hw] at hvar
    | some o =>
      cases o <;> simp [hw] at hvar
      subst hvar
      exact ⟨by simp [World.cell?, hw], (Array.getElem?_eq_some_iff.1 hw).1⟩
  rcases WideElems.open_map Tryd.underlying48 hd with ⟨_, hx⟩ | ⟨b, es, clock, n, rfl, hcs, hb, _, hF, hx⟩
  · injection hx with hx _; cases hx
  · refine ⟨b, (Array.getElem?_eq_some_iff.1 hb).1, hcell.2, ?_, es, clock, _, hb, hF, ?_⟩
    · rw [hcell.1, ← Array.getElem?_toList, hcs]; rfl
    · injection hx with hx _
      rw [← hx]
      have inv : ∀ (c : UInt8) (r : List UInt8) (f0 : FuncId), ((List.range Tryd.prog.funcs.size).filter fun f => (Tryd.prog.funcs[f]?).any (·.name.toUTF8.data.toList == c :: r)) = [f0] → ∀ v ps, WideElems.elemAt (funcToken Tryd.prog) Tryd.prog W 0 (fun _ => true) true n 47 v = some (.held (c :: r), ps) → v = .func (.func f0) #[] #[] := by
        intro c r f0 hone v ps hR
        unfold WideElems.elemAt at hR
        split at hR
        · rename_i hf
          cases v with
          | agg cc => simp [Value.formed, Tryd.underlying47] at hf
          | _ => exact func_of_trod Tryd.underlying47 hone hR
        · cases hR
      intro k h1 h3 z
      have : (k = 1 ∨ k = 2 ∨ k = 3) := by omega
      rcases this with rfl | rfl | rfl
      · exact ⟨_, rfl, inv _ _ 110 (by decide +kernel)⟩
      · exact ⟨_, rfl, inv _ _ 111 (by decide +kernel)⟩
      · exact ⟨_, rfl, inv _ _ 112 (by decide +kernel)⟩
end Go.Proofs.YtkijhaibcnhedaaDoor
