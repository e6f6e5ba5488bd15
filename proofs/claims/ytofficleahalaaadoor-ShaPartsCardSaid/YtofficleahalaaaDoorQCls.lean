/- A REGION THAT DRAWS ITS ORDER, walked in the text's order IN A CLASS OF WORLDS: its operations read, or call what leaves a world of the class (for instance: nothing below block B has changed). -/
import Derived.Test.YtofficleahalaaaDoorIns
import Derived.Test.YtofficleahalaaaDoorQTail
import Derived.Shelf.Abstract
namespace Go.Proofs.YtofficleahalaaaDoor
open Go.RowKit
theorem wp_region_cls {P : Program} (C : World → Prop) {id : Nat} {Q : Exit → Act → World → Prop} {a : Act} {w : World} {l : List Oper} (hm : P.follows .mixedOrders = true) (hB : Region.lexB .any l.toArray = true) (hC : C w.drew)
    (h : wpQuiet P l.toArray C (fun a' => ∀ w', C w' → Q .normal a' w') l a) : (Code.region id l.toArray true).wp P Q a w :=
  wp_region_quiet (C := C) hm hB hC (by simpa using h)
theorem wp_region_cls_tail {P : Program} (C : World → Prop) {id : Nat} {Q : Exit → Act → World → Prop} {a : Act} {w : World} {l : List Oper} (n : Nat) (hm : P.follows .mixedOrders = true) (hB : Region.lexTailB .any l.toArray n = true) (hC : C w.drew)
    (h : wpQuiet P l.toArray C (fun a' => ∀ w', C w' → wpList P l.toArray Q (l.drop n) a' w') (l.take n) a) : (Code.region id l.toArray true).wp P Q a w :=
  wp_region_quiet_tail n hm hB hC h
section
variable {P : Program} {ops : Array Oper} {rest : List Oper} {a : Act} {C : World → Prop} {Q : Act → Prop} {tp : TypeId} {dst : Option Tmp} {pos : String} {after : Array Edge} {g : Option (Nat × Bool)}
/-- ARM: any operation that yields one value in every world of the class -/
theorem cls_op {o : Oper} {v : Value} (hwt : Region.wanted o (yielded ops a.tmps) = true) (hr : ∀ w, C w → (execOp a.eval o).run P w = .ok (.value v) w) (h : wpQuiet P ops C Q rest (a.put o.dst v)) : wpQuiet P ops C Q (o :: rest) a := by
  unfold wpQuiet
  rw [if_pos hwt]
  refine ⟨v, fun w hw => ?_, h⟩
  unfold Oper.quietAt
  rw [hr w hw]
  exact ⟨rfl, rfl⟩
/-- ARM: a whole variable is read -/
theorem cls_loadRow {b n : Nat} {e ty : TypeId} {c : Array Value} {x : Operand} (hwt : Region.wanted (⟨dst, .load ty x, tp, pos, after, g⟩ : Oper) (yielded ops a.tmps) = true)
    (hrow : ∀ w, C w → Row w b e c) (hA : AggTy P ty n) (hs : c.size = n) (hx : a.eval x = .pointer (some ⟨b, 0, none⟩))
    (h : wpQuiet P ops C Q rest (a.put dst (.agg c))) : wpQuiet P ops C Q (⟨dst, .load ty x, tp, pos, after, g⟩ :: rest) a := by
  obtain ⟨d, hu, hd⟩ := hA.u
  refine cls_op hwt (fun w hw => ?_) h
  have hl := (hrow w hw).loadAt (P := P) ty d hu hd (by rw [hs]; exact hA.i)
  unfold execOp
  simp only [hx, Sem.run_bind, Sem.run_pure, Result.andThen_ok, hl]
/-- ARM: one cell is read -/
theorem cls_load {ad : Addr} {ty : TypeId} {v : Value} {x : Operand} (hwt : Region.wanted (⟨dst, .load ty x, tp, pos, after, g⟩ : Oper) (yielded ops a.tmps) = true)
    (hr : ∀ w, C w → (Instr.loadAt ty (.pointer (some ad))).run P w = .ok v w) (hx : a.eval x = .pointer (some ad))
    (h : wpQuiet P ops C Q rest (a.put dst v)) : wpQuiet P ops C Q (⟨dst, .load ty x, tp, pos, after, g⟩ :: rest) a := by
  refine cls_op hwt (fun w hw => ?_) h
  unfold execOp
  simp only [hx, Sem.run_bind, Sem.run_pure, Result.andThen_ok, hr w hw]
/-- ARM: two values are set side by side (==, +, ..) -/
theorem cls_bin {t1 t2 : TypeId} {b : BinOp} {v : Value} {x y : Operand} (hwt : Region.wanted (⟨dst, .binOp b t1 x y t2, tp, pos, after, g⟩ : Oper) (yielded ops a.tmps) = true)
    (hr : ∀ w, C w → (execOp a.eval (⟨dst, .binOp b t1 x y t2, tp, pos, after, g⟩ : Oper)).run P w = .ok (.value v) w)
    (h : wpQuiet P ops C Q rest (a.put dst v)) : wpQuiet P ops C Q (⟨dst, .binOp b t1 x y t2, tp, pos, after, g⟩ :: rest) a := cls_op hwt hr h
/-- ARM: a string (or an array's value) indexed -/
theorem cls_index {ty : TypeId} {x y : Operand} {u i v : Value} (hwt : Region.wanted (⟨dst, .index ty x y, tp, pos, after, g⟩ : Oper) (yielded ops a.tmps) = true)
    (hr : ∀ w, (Instr.index ty u i).run P w = .ok v w) (hx : a.eval x = u) (hy : a.eval y = i)
    (h : wpQuiet P ops C Q rest (a.put dst v)) : wpQuiet P ops C Q (⟨dst, .index ty x y, tp, pos, after, g⟩ :: rest) a := by
  refine cls_op hwt (fun w hw => ?_) h
  unfold execOp
  simp only [hx, hy, Sem.run_bind, Sem.run_pure, Result.andThen_ok, hr]
/-- ARM: a call that leaves a world of the class -/
theorem cls_call {f : FuncId} {args : Array Operand} {ts : Array TypeId} {vs : Array Value} {v : Value} (hwt : Region.wanted (⟨dst, .call ⟨.value (.func f), args, ts⟩, tp, pos, after, g⟩ : Oper) (yielded ops a.tmps) = true)
    (hent : Enters P f) (hargs : args.map a.eval = vs) (hc : ∀ w, C w → Calls P f vs w fun e w' => e = .returned v ∧ C w')
    (h : wpQuiet P ops C Q rest (a.put dst v)) : wpQuiet P ops C Q (⟨dst, .call ⟨.value (.func f), args, ts⟩, tp, pos, after, g⟩ :: rest) a := by
  unfold wpQuiet
  rw [if_pos hwt]
  refine ⟨v, fun w hw => ?_, h⟩
  unfold Oper.quietAt
  have : (execOp a.eval (⟨dst, .call ⟨.value (.func f), args, ts⟩, tp, pos, after, g⟩ : Oper)).run P w = .ok (.enter f vs) w := by
    have h1 : a.eval (.func f) = .func (.func f) #[] #[] := rfl
    unfold execOp
    simp only [resolve, Deferred.ofValue, hargs, h1, invoke, Sem.run_bind, Sem.run_pure, Result.andThen_ok]
    simp [hent vs w]
  rw [this]
  exact ⟨rfl, hc w hw⟩
end
/-- the class: nothing below block B has changed since W -/
theorem below_drew' {B : Nat} {W w : World} (h : Below B W w) : Below B W w.drew := h.drew
end Go.Proofs.YtofficleahalaaaDoor
