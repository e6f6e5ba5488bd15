/- APPEND ONTO A SLICE OF THE CALL's OWN, of whatever bytes; as arms of the walk. -/
import Derived.Test.YtofficleahalaaaDoorMem
import Derived.Maps.AppendAt
namespace Go.Proofs.YtofficleahalaaaDoor
open Go.RowKit
/-- t is a slice type, its elements, of type e, take one cell each -/
structure SlTy (P : Program) (t e : TypeId) (z : Value) (bytes : Nat) : Prop where
  u : P.underlying t = some (.slice e)
  i : ∃ i, P.info? e = some i ∧ i.zero = some z ∧ i.size = 1 ∧ i.bytes = bytes
  z : z.cells.size = 1
theorem SlTy.mk' {P : Program} {t e : TypeId} {z : Value} {bytes : Nat} (hu : P.underlying t = some (.slice e)) (hi : (P.info? e).map (fun i => (i.zero, i.size, i.bytes)) = some (some z, 1, bytes)) (hz : z.cells.size = 1) : SlTy P t e z bytes := by
  refine ⟨hu, ?_, hz⟩
  cases h : P.info? e with
  | none => simp [h] at hi
  | some i => simp [h] at hi; exact ⟨i, rfl, hi⟩
/-- bytes, as cells -/
def bcells (l : List UInt8) : List Value := l.map fun c => Value.int .u8 (c.toNat : Int)
theorem bcells_length (l : List UInt8) : (bcells l).length = l.length := by simp [bcells]
theorem bcells_append (l m : List UInt8) : bcells (l ++ m) = bcells l ++ bcells m := by simp [bcells]
theorem bcells_get (l : List UInt8) (j : Nat) (h : j < l.length) : (bcells l)[j]? = some (.int .u8 (l[j].toNat : Int)) := by simp [bcells, h]
theorem bcells_one (l : List UInt8) : ∀ u ∈ bcells l, u.oneCell' = true := by
  intro u hu
  obtain ⟨c, _, rfl⟩ := List.mem_map.1 hu
  rfl
/-- the slice v is the call's own, from block base on, and holds l -/
def Owns (w : World) (base : Nat) (e : TypeId) (v : Value) (l : List UInt8) : Prop := w.ownsRow base e 1 v l.length (bcells l)
theorem Owns.nil (w : World) (base : Nat) (e : TypeId) : Owns w base e (.slice none 0 0) [] := World.ownsRow_nil w base e 1
theorem Owns.reads {w : World} {base : Nat} {e : TypeId} {v : Value} {l : List UInt8} (h : Owns w base e v l) : Reads w (fun b => base ≤ b ∧ b < w.heap.size ∧ v.ownBlock = some b) v l := by
  obtain ⟨_, h⟩ := h
  rcases h with ⟨rfl, h0⟩ | ⟨g, cap, cur, rfl, hb, hh, hn, hm, hs, ht⟩
  · obtain rfl : l = [] := List.eq_nil_of_length_eq_zero h0
    exact Reads.ofNil
  · refine ⟨⟨_, cap, rfl, hn, hm, .inr ⟨g, 0, rfl, hb, (Array.getElem?_eq_some_iff.1 hh).1, rfl⟩⟩, fun b off n c he j hj => ?_⟩
    injection he with e1 _ _; injection e1 with e1; injection e1 with e1 e2 _; subst e1 e2
    rw [cell_of_row w g (0 + j) cur e (0, 0) hh, Nat.zero_add]
    have := bcells_get l j hj
    rw [← ht, List.getElem?_take] at this
    split at this
    · simpa using this
    · cases this
theorem Owns.lt {w : World} {base : Nat} {e : TypeId} {v : Value} {l : List UInt8} (h : Owns w base e v l) : ∀ k, v.ownBlock = some k → base ≤ k ∧ k < w.heap.size := World.ownsRow.lt h
theorem Owns.mono {w : World} {base base' : Nat} {e : TypeId} {v : Value} {l : List UInt8} (h : Owns w base e v l) (hb : base' ≤ base) : Owns w base' e v l := by
  obtain ⟨h0, h⟩ := h
  refine ⟨h0, h.imp id ?_⟩
  rintro ⟨g, cap, cur, rfl, hbb, rest⟩
  exact ⟨g, cap, cur, rfl, by omega, rest⟩
theorem Owns.rebase {w : World} {base base' : Nat} {e : TypeId} {v : Value} {l : List UInt8} (h : Owns w base e v l) (hb : ∀ k, v.ownBlock = some k → base' ≤ k) : Owns w base' e v l := by
  obtain ⟨h0, h⟩ := h
  refine ⟨h0, h.imp id ?_⟩
  rintro ⟨g, cap, cur, rfl, hbb, rest⟩
  exact ⟨g, cap, cur, rfl, hb g rfl, rest⟩
theorem Owns.chg {M : Nat → Prop} {w w' : World} {base B : Nat} {e : TypeId} {v : Value} {l : List UInt8} (h : Owns w base e v l) (hc : Chg M B w w') (hM : ∀ k, v.ownBlock = some k → k < B ∧ ¬ M k) : Owns w' base e v l := by
  obtain ⟨h0, h⟩ := h
  refine ⟨h0, h.imp id ?_⟩
  rintro ⟨g, cap, cur, rfl, hbb, hh, rest⟩
  have := hM g rfl
  exact ⟨g, cap, cur, rfl, hbb, (hc.block g this.1 this.2).trans hh, rest⟩
theorem Owns.drewN {w : World} {base : Nat} {e : TypeId} {v : Value} {l : List UInt8} (h : Owns w base e v l) (n : Nat) : Owns (w.drewN n) base e v l := h
/-- a slice of one byte, just made -/
theorem Reads.one (w : World) (e : TypeId) (n : Int) (c : UInt8) (hn : n = (c.toNat : Int)) (k : Nat) (hk : k = w.heap.size) : Reads (w.alloc (.cells #[.int .u8 n] e)) (fun b => b = w.heap.size) (.slice (some ⟨k, 0, none⟩) 1 1) [c] := by
  subst hn hk
  refine ⟨⟨_, 1, rfl, Nat.le_refl _, by unfold maxLen; omega, .inr ⟨_, _, rfl, rfl⟩⟩, fun b off m cap he j hj => ?_⟩
  injection he with e1 _ _; injection e1 with e1; injection e1 with e1 e2 _; subst e1 e2
  obtain rfl : j = 0 := by simp at hj; exact hj
  exact (Row.new w e _).cell rfl
/-- the walk stops here -/
inductive Stopped (P : Program) (ops : Array Oper) (rest : List Oper) (a : Act) (w : World) (Q : Exit → Act → World → Prop) (o : Oper) : Prop
  | mk (h : wpList P ops Q (o :: rest) a w)
theorem Stopped.out {P : Program} {ops : Array Oper} {rest : List Oper} {a : Act} {w : World} {Q : Exit → Act → World → Prop} {o : Oper} (h : wpList P ops Q (o :: rest) a w) : Stopped P ops rest a w Q o := .mk h
theorem arm_stop {P : Program} {ops : Array Oper} {rest : List Oper} {a : Act} {w : World} {Q : Exit → Act → World → Prop} {tp : TypeId} {dst : Option Tmp} {args : Array Operand} {ts : Array TypeId} {pos : String} {after : Array Edge}
  (h : Stopped P ops rest a w Q ⟨dst, .call ⟨.builtin .append, args, ts⟩, tp, pos, after, none⟩) : wpList P ops Q (⟨dst, .call ⟨.builtin .append, args, ts⟩, tp, pos, after, none⟩ :: rest) a w := by cases h; assumption
/-- ARM: append(v, x...), v the call's own -/
theorem arm_append {P : Program} {ops : Array Oper} {rest : List Oper} {a : Act} {w : World} {Q : Exit → Act → World → Prop} {t e tp : TypeId} {dst : Option Tmp} {s x : Operand} {pos : String} {after : Array Edge} {base : Nat} {v xv : Value} {l m : List UInt8} {N : Nat → Prop}
    (hT : SlTy P t e (.int .u8 0) 1) (hown : Owns w base e v l) (hrd : Reads w N xv m) (hbd : l.length + m.length ≤ 140737488355328) (hbase : base ≤ w.heap.size)
    (hs : a.eval s = v) (hx : a.eval x = xv)
    (h : ∀ v' w', Owns w' base e v' (l ++ m) → w.grownBy w' v.ownBlock → (v'.ownBlock = v.ownBlock ∨ v'.ownBlock = some w.heap.size) → wpList P ops Q rest (a.put dst v') w') :
    wpList P ops Q (⟨dst, .call ⟨.builtin .append, #[s, x], #[t, t]⟩, tp, pos, after, none⟩ :: rest) a w := by
  obtain ⟨i, hi, hz, hsize, hby⟩ := hT.i
  have key : ∃ v' w', (Builtin.append_ #[t, t] tp #[v, xv]).run P w = .ok v' w' ∧ Owns w' base e v' (l ++ m) ∧ w.grownBy w' v.ownBlock ∧ (v'.ownBlock = v.ownBlock ∨ v'.ownBlock = some w.heap.size) := by
    obtain ⟨⟨ad, cap, rfl, h1, h2, h3⟩, hc⟩ := hrd
    rcases h3 with h3 | ⟨b, off, rfl, _⟩
    · by_cases hm : m = []
      · subst hm
        refine ⟨v, w, ?_, by simpa using hown, ⟨rfl, rfl, rfl, Nat.le_refl _, fun _ _ _ => rfl⟩, .inl rfl⟩
        rcases hown.2 with ⟨rfl, h0⟩ | ⟨g, cap', cur, rfl, _, _, hnc, _⟩
        · cases ad <;> simp [Builtin.append_, run_underlying hT.u, sizeOf, typeInfo, hi, Builtin.lenOf, Builtin.firstCells, loadCells, loadCellsFrom]
        · cases ad <;> simp [Builtin.append_, run_underlying hT.u, sizeOf, typeInfo, hi, Builtin.lenOf, Builtin.firstCells, loadCells, loadCellsFrom, hnc, storeCells]
      · have := List.length_pos_iff.2 hm; omega
    · have hcells : ∀ j u, (bcells m)[j]? = some u → w.cell? ((⟨b, off, none⟩ : Addr).add j) = some u := by
        intro j u hu
        have hj : j < m.length := by rw [← bcells_length]; exact (List.getElem?_eq_some_iff.1 hu).1
        rw [bcells_get m j hj] at hu
        rw [Addr.add_mid, ← hu]
        exact hc b off _ _ rfl j hj
      obtain ⟨v', w', hrun, ho, hg, _, hb⟩ := run_append_own_at (P := P) w base t tp e i (.int .u8 0) 1 1 hT.u hi hz hsize hby rfl (by decide) v l.length (bcells l) hown ⟨b, off, none⟩ m.length cap (bcells m) (by rw [bcells_length]; omega) hcells (bcells_one m) (by unfold maxLen; omega) (by omega) hbase
      exact ⟨v', w', hrun, by unfold Owns; rw [List.length_append, bcells_append]; exact ho, hg, hb⟩
  obtain ⟨v', w', hrun, h1, h2, h3⟩ := key
  refine wpList_plain rfl fun _ hK => ?_
  unfold Oper.wp execOp
  simp only [resolve, invoke, builtin, Sem.run_bind, Sem.run_pure, Result.andThen_ok, List.map_toArray, List.map_cons, List.map_nil, hs, hx, hrun]
  exact hK _ _ (h v' w' h1 h2 h3)
end Go.Proofs.YtofficleahalaaaDoor
