/- A WHOLE VARIABLE READ IN A REGION THAT DRAWS ITS ORDER. -/
import Derived.Test.YtofficleahalaaaDoorMem
import Derived.Test.YtofficleahalaaaDoorQTail
namespace Go.Proofs.YtofficleahalaaaDoor
open Go.RowKit
/-- ARM: a whole variable is read, in every world of the class -/
theorem quiet_loadRow {P : Program} {ops : Array Oper} {rest : List Oper} {a : Act} {C : World → Prop} {Q : Act → Prop} {b n : Nat} {e ty tp : TypeId} {c : Array Value} {dst : Option Tmp} {x : Operand} {pos : String} {after : Array Edge}
    (hrow : ∀ w, C w → Row w b e c) (hA : AggTy P ty n) (hs : c.size = n) (hx : a.eval x = .pointer (some ⟨b, 0, none⟩))
    (h : wpQuiet P ops C Q rest (a.put dst (.agg c))) : wpQuiet P ops C Q (⟨dst, .load ty x, tp, pos, after, none⟩ :: rest) a := by
  obtain ⟨d, hu, hd⟩ := hA.u
  have hwt : Region.wanted (⟨dst, .load ty x, tp, pos, after, none⟩ : Oper) (yielded ops a.tmps) = true := rfl
  unfold wpQuiet
  rw [if_pos hwt]
  refine ⟨.agg c, fun w hw => ?_, h⟩
  have hl := (hrow w hw).loadAt (P := P) ty d hu hd (by rw [hs]; exact hA.i)
  unfold Oper.quietAt execOp
  simp only [hx, Sem.run_bind, Sem.run_pure, Result.andThen_ok, hl]
  exact ⟨rfl, rfl⟩
/-- ARM: a string (or an array's value) indexed, in every world of the class -/
theorem quiet_index {P : Program} {ops : Array Oper} {rest : List Oper} {a : Act} {C : World → Prop} {Q : Act → Prop} {ty tp : TypeId} {dst : Option Tmp} {x y : Operand} {pos : String} {after : Array Edge} {u i v : Value}
    (hr : ∀ w, (Instr.index ty u i).run P w = .ok v w) (hx : a.eval x = u) (hy : a.eval y = i)
    (h : wpQuiet P ops C Q rest (a.put dst v)) : wpQuiet P ops C Q (⟨dst, .index ty x y, tp, pos, after, none⟩ :: rest) a := by
  have hwt : Region.wanted (⟨dst, .index ty x y, tp, pos, after, none⟩ : Oper) (yielded ops a.tmps) = true := rfl
  unfold wpQuiet
  rw [if_pos hwt]
  refine ⟨v, fun w hw => ?_, h⟩
  unfold Oper.quietAt execOp
  simp only [hx, hy, Sem.run_bind, Sem.run_pure, Result.andThen_ok, hr]
  exact ⟨rfl, rfl⟩
end Go.Proofs.YtofficleahalaaaDoor
