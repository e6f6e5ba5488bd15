/- A MAP OF THE CALL's OWN, as an assertion on its block; a map that is written out: its entries. -/
import Derived.Test.YtlhjehcfpnjbmaaDoorGen2
import Derived.Maps.Own
import Derived.Maps.OwnOps
import Derived.Maps.OwnSet
import Derived.Maps.Views
namespace Go.Proofs.YtlhjehcfpnjbmaaDoor
open Go.RowKit Go.Maps
/-- block b is a map[int]int of the call's own, of at most n entries: D -/
def mapA (b n : Nat) (D : DataW Unit) : As := ⟨fun k => k = b, fun w => w.ownsMap Tryd.prog 3 (plainElem Tryd.prog 3) b n D, fun w w' h ho => by
  obtain ⟨es, clock, hb, rest⟩ := ho
  exact ⟨es, clock, (h b rfl).trans hb, rest⟩⟩
theorem lawI : Keyed Tryd.prog 3 := int_keyed Tryd.underlying3
theorem zeroI (w : World) : (zeroValue 3).run Tryd.prog w = .ok (.int .i64 0) w := by kernel_rfl
theorem Hp.newMap {M : Nat → Prop} {w wr : World} {ls : List As} (h : Hp M w wr ls) : Hp M w (wr.alloc (.map #[] 0)) (ls ++ [mapA wr.heap.size 0 (.map [])]) :=
  h.push _ (.of_below ((Below.refl _ _).alloc (Nat.le_refl _) _)) (World.ownsMap_made _ _ _ _) (fun b hb => by have hb : b = _ := hb; subst hb; simp)
theorem Hp.setMap {M : Nat → Prop} {w wr w' : World} {ls : List As} (h : Hp M w wr ls) (i : Nat) {b n n' : Nat} {D D' : DataW Unit} (hi : ls[i]? = some (mapA b n D)) (hg : wr.grownBy w' (some b))
    (ho : w'.ownsMap Tryd.prog 3 (plainElem Tryd.prog 3) b n' D') : Hp M w w' (ls.set i (mapA b n' D')) :=
  h.upd i hi _ ⟨hg.os, hg.tape, hg.output, hg.size, fun k hk hm => hg.block k hk (fun e => hm (by injection e))⟩ ho (fun _ hb => .inl hb)
/-- the walk stops at an entry that is written out -/
inductive StoppedI (P : Program) (ops : Array Oper) (rest : List Oper) (a : Act) (w : World) (Q : Exit → Act → World → Prop) (o : Oper) : Prop
  | mk (h : wpList P ops Q (o :: rest) a w)
theorem StoppedI.out {P : Program} {ops : Array Oper} {rest : List Oper} {a : Act} {w : World} {Q : Exit → Act → World → Prop} {o : Oper} (h : wpList P ops Q (o :: rest) a w) : StoppedI P ops rest a w Q o := .mk h
theorem arm_stopIns {P : Program} {ops : Array Oper} {rest : List Oper} {a : Act} {w : World} {Q : Exit → Act → World → Prop} {tp t : TypeId} {dst : Option Tmp} {m x v : Operand} {pos : String} {after : Array Edge}
  (h : StoppedI P ops rest a w Q ⟨dst, .insert t m x v, tp, pos, after, none⟩) : wpList P ops Q (⟨dst, .insert t m x v, tp, pos, after, none⟩ :: rest) a w := by cases h; assumption
theorem arm_stopUpd {P : Program} {ops : Array Oper} {rest : List Oper} {a : Act} {w : World} {Q : Exit → Act → World → Prop} {tp t : TypeId} {dst : Option Tmp} {m x v : Operand} {pos : String} {after : Array Edge}
  (h : StoppedI P ops rest a w Q ⟨dst, .mapUpdate t m x v, tp, pos, after, none⟩) : wpList P ops Q (⟨dst, .mapUpdate t m x v, tp, pos, after, none⟩ :: rest) a w := by cases h; assumption
theorem wpList_insert_own {H : Type} {P : Program} (w : World) {ops : Array Oper} {rest : List Oper} {o : Oper} {a : Act} {Q : Exit → Act → World → Prop}
    (hg : o.guard = none) (m x v : Operand) (t : TypeId) (hop : o.op = Op.insert t m x v)
    (k e : TypeId) (K : Keyed P k) (ht : P.underlying t = some (.map k e)) (R : Value → Option (DataW H × List MemPlace)) (b n : Nat) (D : DataW H)
    (hm : a.eval m = .map (some b)) (hown : w.ownsMap P k R b n D) (hn : n < maxLen) (key val : Value) (kl : Lit) (hx : a.eval x = key) (hv : a.eval v = val) (hkey : keyOf P k key = some kl)
    (d : DataW H) (ps : List MemPlace) (hval : R val = some (d, ps))
    (hK : ∀ w', w'.ownsMap P k R b (n + 1) (D.put kl d) → w.grownBy w' (some b) → wpList P ops Q rest (a.put o.dst undef) w') :
    wpList P ops Q (o :: rest) a w := by
  refine wpList_plain hg fun K' hK' => ?_
  obtain ⟨w', hrun, r1, r2⟩ := hown.update K ht hn hkey hval
  unfold Oper.wp
  simp [execOp, hop, hm, hx, hv, hrun, Result.andThen]
  exact hK' _ _ (hK w' r1 r2)
/-- what the map holds: e x at the key x -/
structure Mp (D : DataW Unit) (e : Nat → Option Nat) : Prop where
  isMap : IsMap D
  has : ∀ x : Nat, Maps.has D (.int .i64 (x : Int)) = (e x).isSome
  at_ : ∀ (x v : Nat), e x = some v → D.atKey (.int .i64 (x : Int)) (.lit (.int .i64 0)) = .lit (.int .i64 (v : Int))
theorem Mp.put {D : DataW Unit} {e : Nat → Option Nat} (h : Mp D e) (k v : Nat) : Mp (D.put (.int .i64 (k : Int)) (.lit (.int .i64 (v : Int)))) (fun x => if x = k then some v else e x) := by
  have hk : WideAt.IsKeyLit (.int .i64 (k : Int)) := trivial
  refine ⟨h.isMap.put _ _, fun x => ?_, fun x u hu => ?_⟩
  · by_cases hx : x = k
    · subst hx; rw [if_pos rfl]; exact has_put_same h.isMap hk _
    · rw [if_neg hx, has_put_other (by intro e; injection e with _ e; omega), h.has]
  · by_cases hx : x = k
    · subst hx
      rw [if_pos rfl] at hu
      injection hu with hu
      subst hu
      exact atKey_put_same h.isMap hk _ _
    · rw [if_neg hx] at hu
      rw [atKey_put_other (by intro e; injection e with _ e; omega)]
      exact h.at_ x u hu
theorem Mp.empty : Mp (.map []) (fun _ => none) := ⟨isMap_empty, fun _ => rfl, fun _ _ h => by cases h⟩
end Go.Proofs.YtlhjehcfpnjbmaaDoor
