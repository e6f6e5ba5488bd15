/- PathKnown: a map that is written out, whatever the order; how it is gone through. -/
import Derived.Test.YtkijhaibcnhedaaDoorPathKnownR
import Derived.Test.YtkijhaibcnhedaaDoorGen2
import Derived.Maps.Own
import Derived.Maps.OwnOps
import Derived.Maps.OwnSet
import Derived.Maps.Views
import Derived.Maps.RangeWalk
import Derived.Maps.StringElems
namespace Go.Proofs.YtkijhaibcnhedaaDoor
open Go.RowKit Go.Maps
theorem lawS : Keyed Tryd.prog 9 := string_keyed Tryd.underlying9
/-- a key of at most 252 bytes, and its bool is MayName's -/
structure Good (D : DataW Unit) : Prop where
  isMap : IsMap D
  at_ : ∀ s : List UInt8, Maps.has D (.string s) = true → s.length ≤ 252 ∧ ∀ zd, D.atKey (.string s) zd = .lit (.bool (mayN s))
theorem Good.empty : Good (.map []) := ⟨isMap_empty, fun _ h => by cases h⟩
theorem Good.put {D : DataW Unit} (h : Good D) (s : List UInt8) (hs : s.length ≤ 252) (b : Bool) (hb : mayN s = b) : Good (D.put (.string s) (.lit (.bool b))) := by
  have hk : WideAt.IsKeyLit (.string s) := trivial
  subst hb
  refine ⟨h.isMap.put _ _, fun t ht => ?_⟩
  by_cases e : t = s
  · subst e
    exact ⟨hs, fun zd => atKey_put_same h.isMap hk _ _⟩
  · have hne : (Lit.string t) ≠ .string s := fun e2 => e (by injection e2)
    rw [has_put_other hne] at ht
    refine ⟨(h.at_ t ht).1, fun zd => ?_⟩
    rw [atKey_put_other hne]
    exact (h.at_ t ht).2 zd
/-- how many operations have run -/
def cnt (d : Array Bool) : Nat := d.toList.count true
theorem cnt_set {d : Array Bool} {i : Nat} (hi : i < d.size) (h : d.getD i false = false) : cnt (d.setIfInBounds i true) = cnt d + 1 := by
  obtain ⟨l⟩ := d
  simp only [cnt, List.setIfInBounds_toArray] at *
  have hi' : i < l.length := by simpa using hi
  have h' : l[i] = false := by simpa [Array.getD_eq_getD_getElem?, hi'] using h
  rw [List.count_set hi', h']
  simp
theorem cnt_le (d : Array Bool) : cnt d ≤ d.size := by
  obtain ⟨l⟩ := d
  simpa [cnt] using List.count_le_length
/-- an entry that is written out -/
theorem run_insert {P : Program} {ρ : Operand → Value} {d : Option Tmp} {t tp : TypeId} {m x v : Operand} {pos : String} {af : Array Edge} {w w' : World} (h : (Instr.mapUpdate t (ρ m) (ρ x) (ρ v)).run P w = .ok () w') :
    (execOp ρ (⟨d, .insert t m x v, tp, pos, af, none⟩ : Oper)).run P w = .ok .skip w' := by
  simp [execOp, h, Result.andThen]
theorem inv_skip {P : Program} {ops : Array Oper} {Q : Exit → Act → World → Prop} {i : Nat} {o : Oper} {a : Act} {w w' : World} {K : Act → World → Prop} (hi : ops[i]? = some o) (hg : o.guard = none) (hd : o.dst = none) (hr : (execOp a.eval o).run P w = .ok .skip w') (hK : K a w') : wpOp P ops Q i K a w := by
  unfold wpOp
  rw [hi]
  simp only
  have : Region.wanted o (yielded ops a.tmps) = true := by simp [Region.wanted, hg]
  rw [if_pos this]
  refine .inl ?_
  unfold Oper.wp
  rw [hr, Oper.upon_skip, hd]
  exact hK
abbrev ownsS (w : World) (b n : Nat) (D : DataW Unit) : Prop := w.ownsMap Tryd.prog 9 (plainElem Tryd.prog 4) b n D
/-- the region's invariant -/
structure I2 (W : World) (l : List UInt8) (done : Array Bool) (s : Nat → Value) (w : World) : Prop where
  bel : Below W.heap.size W w
  h1 : s 1 = .string ⟨l.toArray⟩
  h0 : done.getD 0 false = false → w.heap.size = W.heap.size
  h29 : done.getD 0 false = true → s 29 = .map (some W.heap.size) ∧ ∃ n D, ownsS w W.heap.size n D ∧ n ≤ cnt done ∧ Good D
  h30 : done.getD 10 false = true → s 30 = .string ⟨l.toArray⟩
  h31 : done.getD 12 false = true → s 31 = .string ⟨l.toArray⟩
  h32 : done.getD 13 false = true → s 32 = .string ⟨(l ++ [110]).toArray⟩
  h33 : done.getD 18 false = true → s 33 = .map (some W.heap.size)
  h34 : done.getD 19 false = true → ∃ r n D left c, s 34 = .pointer (some ⟨r, 0, none⟩) ∧ W.heap.size ≤ r ∧ Good D ∧ w.ranges Tryd.prog 9 (plainElem Tryd.prog 4) W.heap.size r n D left c
theorem getD_set_ne' {d : Array Bool} {i j : Nat} (h : i ≠ j) : (d.setIfInBounds i true).getD j false = d.getD j false := by
  simp [Array.getD_eq_getD_getElem?, Array.getElem?_setIfInBounds_ne h]
theorem getD_set_eq' {d : Array Bool} {i : Nat} (h : i < d.size) : (d.setIfInBounds i true).getD i false = true := by
  simp [Array.getD_eq_getD_getElem?, h]
/-- an entry more -/
theorem I2.ins {W : World} {l : List UInt8} {done : Array Bool} {s : Nat → Value} {w : World} (h : I2 W l done s w) {i : Nat} (hi : i < done.size) (hu : done.getD i false = false) (hd0 : done.getD 0 false = true) (hd19 : done.getD 19 false = false) (hne : i ≠ 0 ∧ i ≠ 10 ∧ i ≠ 12 ∧ i ≠ 13 ∧ i ≠ 18 ∧ i ≠ 19)
    (k : List UInt8) (b : Bool) (hk : k.length ≤ 252) (hb : mayN k = b) (hsz : done.size = 20) :
    ∃ w', (Instr.mapUpdate 41 (s 29) (.string ⟨k.toArray⟩) (.bool b)).run Tryd.prog w = .ok () w' ∧ I2 W l (done.setIfInBounds i true) s w' := by
  obtain ⟨h29, n, D, ho, hn, hg⟩ := h.h29 hd0
  have hlt := ho.lt
  have hcl := cnt_le done
  have hkey : keyOf Tryd.prog 9 (.string ⟨k.toArray⟩) = some (.string k) := by
    have hu : Tryd.prog.underlying 9 = some .string := Tryd.underlying9
    simp only [keyOf, hu, mapKey]
    rw [if_pos (by show k.length ≤ maxLen; unfold maxLen; omega)]
  obtain ⟨w', hr, ho', hgr⟩ := ho.update lawS Tryd.underlying41 (by unfold maxLen; omega) hkey (plainElem_bool Tryd.underlying4 b)
  refine ⟨w', by rw [h29]; exact hr, ?_⟩
  have hbel : Below W.heap.size W w' := by
    refine h.bel.trans ?_
    exact ⟨hgr.os, hgr.tape, hgr.output, hgr.size, fun j hj => hgr.block j (Nat.lt_of_lt_of_le hj h.bel.size) (fun e => by injection e with e; omega)⟩
  refine ⟨hbel, h.h1, ?_, ?_, ?_, ?_, ?_, ?_, ?_⟩
  · rw [getD_set_ne' hne.1, hd0]; intro e; cases e
  · intro _
    exact ⟨h29, n + 1, _, ho', by rw [cnt_set hi hu]; omega, hg.put k hk b hb⟩
  · rw [getD_set_ne' hne.2.1]; exact h.h30
  · rw [getD_set_ne' hne.2.2.1]; exact h.h31
  · rw [getD_set_ne' hne.2.2.2.1]; exact h.h32
  · rw [getD_set_ne' hne.2.2.2.2.1]; exact h.h33
  · rw [getD_set_ne' hne.2.2.2.2.2, hd19]; intro e; cases e
end Go.Proofs.YtkijhaibcnhedaaDoor
