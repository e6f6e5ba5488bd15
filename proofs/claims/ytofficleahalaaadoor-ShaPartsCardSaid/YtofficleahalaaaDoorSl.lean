/- SLICES OF ANY ELEMENTS, k CELLS EACH: what is read, what is owned; append as an arm. -/
import Derived.Test.YtofficleahalaaaDoorOwn
namespace Go.Proofs.YtofficleahalaaaDoor
open Go.RowKit
/-- t is a slice type, its elements, of type e, take k cells each -/
structure SlK (P : Program) (t e : TypeId) (z : Value) (k bytes : Nat) : Prop where
  u : P.underlying t = some (.slice e)
  i : ∃ i, P.info? e = some i ∧ i.zero = some z ∧ i.size = k ∧ i.bytes = bytes
  z : z.cells.size = k
  k : 0 < k
theorem SlK.mk' {P : Program} {t e : TypeId} {z : Value} {k bytes : Nat} (hu : P.underlying t = some (.slice e)) (hi : (P.info? e).map (fun i => (i.zero, i.size, i.bytes)) = some (some z, k, bytes)) (hz : z.cells.size = k) (hk : 0 < k) : SlK P t e z k bytes := by
  refine ⟨hu, ?_, hz, hk⟩
  cases h : P.info? e with
  | none => simp [h] at hi
  | some i => simp [h] at hi; exact ⟨i, rfl, hi⟩
/-- v, a slice of n elements of k cells, reads as the cells vs; its block is one of N -/
structure RdV (w : World) (N : Nat → Prop) (k : Nat) (v : Value) (n : Nat) (vs : List Value) : Prop where
  len : vs.length = n * k
  shape : ∃ a cap, v = .slice a n cap ∧ n ≤ cap ∧ cap ≤ maxLen ∧ (cap = 0 ∨ ∃ b off, a = some ⟨b, off, none⟩ ∧ N b)
  cell : ∀ b off m cap, v = .slice (some ⟨b, off, none⟩) m cap → ∀ j u, vs[j]? = some u → w.cell? ⟨b, off + j, none⟩ = some u
theorem RdV.lens {w : World} {N : Nat → Prop} {k n : Nat} {vs : List Value} {a : Option Addr} {m cap : Nat} (h : RdV w N k (.slice a m cap) n vs) : m = n ∧ n ≤ cap ∧ cap ≤ maxLen := by
  obtain ⟨_, ⟨a, cap', e, h1, h2, h3⟩, _⟩ := h
  injection e with e1 e2 e3
  subst e1 e3
  exact ⟨e2, h1, h2⟩
theorem RdV.blk {w : World} {N : Nat → Prop} {k n : Nat} {vs : List Value} {b off m cap : Nat} (h : RdV w N k (.slice (some ⟨b, off, none⟩) m cap) n vs) (hc : 0 < cap) : N b ∧ m = n ∧ n ≤ cap ∧ cap ≤ maxLen := by
  obtain ⟨_, ⟨a, cap', e, h1, h2, h3⟩, _⟩ := h
  injection e with e1 e2 e3
  subst e1 e3
  rcases h3 with h3 | ⟨b', off', e, hN⟩
  · omega
  · injection e with e; injection e with f1 _ _; subst f1; exact ⟨hN, e2, h1, h2⟩
theorem RdV.chg {M N : Nat → Prop} {w w' : World} {B k n : Nat} {v : Value} {vs : List Value} (h : RdV w N k v n vs) (hb : Chg M B w w') (hN : ∀ b, N b → b < B ∧ ¬ M b) : RdV w' N k v n vs := by
  refine ⟨h.len, h.shape, fun b off m cap e j u hu => ?_⟩
  subst e
  have hlt := (List.getElem?_eq_some_iff.1 hu).1
  have := hN b (h.blk (by
    have h1 := h.lens.2.1
    have h2 := h.len
    rcases Nat.eq_zero_or_pos cap with h0 | h0
    · obtain rfl : n = 0 := by omega
      rw [Nat.zero_mul] at h2; omega
    · exact h0)).1
  rw [hb.cell (p := ⟨b, off + j, none⟩) this.1 this.2]
  exact h.cell b off m cap rfl j u hu
theorem RdV.mono {N N' : Nat → Prop} {w : World} {k n : Nat} {v : Value} {vs : List Value} (h : RdV w N k v n vs) (hN : ∀ b, N b → N' b) : RdV w N' k v n vs := by
  obtain ⟨hl, ⟨a, cap, e, h1, h2, h3⟩, hc⟩ := h
  exact ⟨hl, ⟨a, cap, e, h1, h2, h3.imp id (fun ⟨b, off, e, hb⟩ => ⟨b, off, e, hN b hb⟩)⟩, hc⟩
theorem RdV.below {N : Nat → Prop} {w w' : World} {B k n : Nat} {v : Value} {vs : List Value} (h : RdV w N k v n vs) (hb : Below B w w') (hN : ∀ b, N b → b < B) : RdV w' N k v n vs :=
  h.chg (M := fun _ => False) (.of_below hb) (fun b hb' => ⟨hN b hb', fun h => h⟩)
theorem RdV.drewN {N : Nat → Prop} {w : World} {k n : Nat} {v : Value} {vs : List Value} (h : RdV w N k v n vs) (m : Nat) : RdV (w.drewN m) N k v n vs := ⟨h.len, h.shape, h.cell⟩
theorem RdV.has {N : Nat → Prop} {w : World} {k n : Nat} {v : Value} {vs : List Value} (h : RdV w N k v n vs) (hn : 0 < n) : ∃ b off cap, v = .slice (some ⟨b, off, none⟩) n cap ∧ n ≤ cap ∧ cap ≤ maxLen ∧ N b := by
  obtain ⟨a, cap, e, h1, h2, h3⟩ := h.shape
  rcases h3 with h3 | ⟨b, off, rfl, hN⟩
  · omega
  · exact ⟨b, off, cap, e, h1, h2, hN⟩
theorem RdV.bytes {N : Nat → Prop} {w : World} {v : Value} {l : List UInt8} (h : Reads w N v l) : RdV w N 1 v l.length (bcells l) := by
  refine ⟨by rw [bcells_length, Nat.mul_one], h.shape, fun b off m cap e j u hu => ?_⟩
  have hj : j < l.length := by rw [← bcells_length]; exact (List.getElem?_eq_some_iff.1 hu).1
  rw [bcells_get l j hj] at hu
  rw [← hu]
  exact h.cell b off m cap e j hj
theorem RdV.toBytes {N : Nat → Prop} {w : World} {v : Value} {l : List UInt8} (h : RdV w N 1 v l.length (bcells l)) : Reads w N v l :=
  ⟨h.shape, fun b off m cap e j hj => h.cell b off m cap e j _ (bcells_get l j hj)⟩
theorem RdV.ofNil {N : Nat → Prop} {w : World} {k : Nat} : RdV w N k (.slice none 0 0) 0 [] :=
  ⟨by simp, ⟨_, _, rfl, Nat.zero_le _, Nat.zero_le _, .inl rfl⟩, fun _ _ _ _ e j u hu => by cases hu⟩
/-- a row just made, read as a slice -/
theorem RdV.new {w : World} (e : TypeId) (vs : List Value) (k n : Nat) (b : Nat) (hb : b = w.heap.size) (hl : vs.length = n * k) (hn : n ≤ maxLen) {N : Nat → Prop} (hN : N b) : RdV (w.alloc (.cells vs.toArray e)) N k (.slice (some ⟨b, 0, none⟩) n n) n vs := by
  subst hb
  refine ⟨hl, ⟨_, n, rfl, Nat.le_refl _, hn, .inr ⟨_, _, rfl, hN⟩⟩, fun b off m cap he j u hu => ?_⟩
  injection he with e1 _ _; injection e1 with e1; injection e1 with e1 e2 _; subst e1 e2
  exact (Row.new w e _).cell (by simpa using hu)
/-- a part of a row, read as a slice -/
theorem RdV.ofRow {w : World} {b : Nat} {e : TypeId} {c : Array Value} (h : Row w b e c) {N : Nat → Prop} (hN : N b) (k off n cap : Nat) (vs : List Value) (hl : vs.length = n * k) (hn : n ≤ cap) (hc : cap ≤ maxLen) (hv : ∀ j u, vs[j]? = some u → c[off + j]? = some u) : RdV w N k (.slice (some ⟨b, off, none⟩) n cap) n vs := by
  refine ⟨hl, ⟨_, cap, rfl, hn, hc, .inr ⟨_, _, rfl, hN⟩⟩, fun b' off' m cap' he j u hu => ?_⟩
  injection he with e1 _ _; injection e1 with e1; injection e1 with e1 e2 _; subst e1 e2
  exact h.cell (hv j u hu)
/-- a part of it -/
theorem RdV.sub {N : Nat → Prop} {w : World} {k n : Nat} {vs : List Value} {b off m cap : Nat} (h : RdV w N k (.slice (some ⟨b, off, none⟩) m cap) n vs) (i n' cap' off' : Nat) (vs' : List Value) (hv : vs' = (vs.drop (i * k)).take (n' * k)) (hl : vs'.length = n' * k) (ho : off' = off + i * k) (hm : n' ≤ cap') (hc : cap' ≤ cap) :
    RdV w N k (.slice (some ⟨b, off', none⟩) n' cap') n' vs' := by
  obtain ⟨hn, h1, h2⟩ := h.lens
  subst ho
  refine ⟨hl, ⟨_, _, rfl, hm, by omega, (Nat.eq_zero_or_pos cap').imp id (fun hp => ⟨_, _, rfl, (h.blk (by omega)).1⟩)⟩, fun b' off' m' c' e j u hu => ?_⟩
  injection e with e1 e2 e3; injection e1 with e1; injection e1 with e1 e4 _; subst e1 e4
  rw [Nat.add_assoc]
  refine h.cell b off m cap rfl (i * k + j) u ?_
  subst hv
  rw [List.getElem?_take] at hu
  split at hu
  · rw [List.getElem?_drop] at hu; exact hu
  · cases hu
theorem ownsV_reads {w : World} {base k n : Nat} {e : TypeId} {v : Value} {vs : List Value} (h : w.ownsRow base e k v n vs) : RdV w (fun b => base ≤ b ∧ b < w.heap.size ∧ v.ownBlock = some b) k v n vs := by
  obtain ⟨hl, h⟩ := h
  rcases h with ⟨rfl, rfl⟩ | ⟨g, cap, cur, rfl, hb, hh, hn, hm, hs, ht⟩
  · obtain rfl : vs = [] := List.eq_nil_of_length_eq_zero (by omega)
    exact RdV.ofNil
  · refine ⟨hl, ⟨_, cap, rfl, hn, hm, .inr ⟨g, 0, rfl, hb, (Array.getElem?_eq_some_iff.1 hh).1, rfl⟩⟩, fun b off m c he j u hu => ?_⟩
    injection he with e1 _ _; injection e1 with e1; injection e1 with e1 e2 _; subst e1 e2
    rw [cell_of_row w g (0 + j) cur e (0, 0) hh, Nat.zero_add]
    rw [← ht, List.getElem?_take] at hu
    split at hu
    · simpa using hu
    · cases hu
theorem ownsV_lt {w : World} {base k n : Nat} {e : TypeId} {v : Value} {vs : List Value} (h : w.ownsRow base e k v n vs) : ∀ b, v.ownBlock = some b → base ≤ b ∧ b < w.heap.size := World.ownsRow.lt h
theorem ownsV_rebase {w : World} {base base' k n : Nat} {e : TypeId} {v : Value} {vs : List Value} (h : w.ownsRow base e k v n vs) (hb : ∀ b, v.ownBlock = some b → base' ≤ b) : w.ownsRow base' e k v n vs := by
  obtain ⟨h0, h⟩ := h
  refine ⟨h0, h.imp id ?_⟩
  rintro ⟨g, cap, cur, rfl, hbb, rest⟩
  exact ⟨g, cap, cur, rfl, hb g rfl, rest⟩
theorem ownsV_mono {w : World} {base base' k n : Nat} {e : TypeId} {v : Value} {vs : List Value} (h : w.ownsRow base e k v n vs) (hb : base' ≤ base) : w.ownsRow base' e k v n vs := ownsV_rebase h (fun b hb' => Nat.le_trans hb (ownsV_lt h b hb').1)
/-- a row just made, owned -/
theorem ownsV_new {w : World} (e : TypeId) (vs : List Value) (k n b base : Nat) (hb : b = w.heap.size) (hbase : base ≤ b) (hl : vs.length = n * k) (hn : n ≤ maxLen) : (w.alloc (.cells vs.toArray e)).ownsRow base e k (.slice (some ⟨b, 0, none⟩) n n) n vs := by
  subst hb
  exact ⟨hl, .inr ⟨_, n, vs.toArray, rfl, hbase, heap_alloc_new w _, Nat.le_refl _, hn, by simpa using hl, by rw [← hl]; simp⟩⟩
/-- ARM: append(v, x...), v the call's own -/
theorem arm_appendV {P : Program} {ops : Array Oper} {rest : List Oper} {a : Act} {w : World} {Q : Exit → Act → World → Prop} {t e tp : TypeId} {dst : Option Tmp} {s x : Operand} {pos : String} {after : Array Edge} {base k n m bytes : Nat} {z v xv : Value} {vs us : List Value} {N : Nat → Prop}
    (hT : SlK P t e z k bytes) (hown : w.ownsRow base e k v n vs) (hrd : RdV w N k xv m us) (h1 : ∀ u ∈ us, u.oneCell' = true) (hbd : n + m ≤ maxLen) (hbd2 : (n + m) * bytes ≤ 140737488355328) (hbase : base ≤ w.heap.size)
    (hs : a.eval s = v) (hx : a.eval x = xv)
    (h : ∀ v' w', w'.ownsRow base e k v' (n + m) (vs ++ us) → w.grownBy w' v.ownBlock → (v'.ownBlock = v.ownBlock ∨ v'.ownBlock = some w.heap.size) → (v' = .slice none 0 0 ↔ v = .slice none 0 0 ∧ m = 0) → wpList P ops Q rest (a.put dst v') w') :
    wpList P ops Q (⟨dst, .call ⟨.builtin .append, #[s, x], #[t, t]⟩, tp, pos, after, none⟩ :: rest) a w := by
  obtain ⟨i, hi, hz, hsize, hby⟩ := hT.i
  have key : ∃ v' w', (Builtin.append_ #[t, t] tp #[v, xv]).run P w = .ok v' w' ∧ w'.ownsRow base e k v' (n + m) (vs ++ us) ∧ w.grownBy w' v.ownBlock ∧ (v'.ownBlock = v.ownBlock ∨ v'.ownBlock = some w.heap.size) ∧ (v' = .slice none 0 0 ↔ v = .slice none 0 0 ∧ m = 0) := by
    have hlen := hrd.len
    obtain ⟨_, ⟨ad, cap, rfl, h1', h2, h3⟩, hc⟩ := hrd
    rcases h3 with h3 | ⟨b, off, rfl, _⟩
    · have hm : m = 0 := by omega
      subst hm
      obtain rfl : us = [] := List.eq_nil_of_length_eq_zero (by omega)
      refine ⟨v, w, ?_, by simpa using hown, ⟨rfl, rfl, rfl, Nat.le_refl _, fun _ _ _ => rfl⟩, .inl rfl, by simp⟩
      rcases hown.2 with ⟨rfl, h0⟩ | ⟨g, cap', cur, rfl, _, _, hnc, _⟩
      · cases ad <;> simp [Builtin.append_, run_underlying hT.u, sizeOf, typeInfo, hi, Builtin.lenOf, Builtin.firstCells, loadCells, loadCellsFrom]
      · cases ad <;> simp [Builtin.append_, run_underlying hT.u, sizeOf, typeInfo, hi, Builtin.lenOf, Builtin.firstCells, loadCells, loadCellsFrom, hnc, storeCells]
    · have hcells : ∀ j u, us[j]? = some u → w.cell? ((⟨b, off, none⟩ : Addr).add j) = some u := by
        intro j u hu
        rw [Addr.add_mid]
        exact hc b off _ _ rfl j u hu
      obtain ⟨v', w', hrun, ho, hg, hn, hb⟩ := run_append_own_at (P := P) w base t tp e i z k bytes hT.u hi hz hsize hby hT.z hT.k v n vs hown ⟨b, off, none⟩ m cap us hlen hcells h1 hbd hbd2 hbase
      exact ⟨v', w', hrun, ho, hg, hb, hn⟩
  obtain ⟨v', w', hrun, h1, h2, h3, h4⟩ := key
  refine wpList_plain rfl fun _ hK => ?_
  unfold Oper.wp execOp
  simp only [resolve, invoke, builtin, Sem.run_bind, Sem.run_pure, Result.andThen_ok, List.map_toArray, List.map_cons, List.map_nil, hs, hx, hrun]
  exact hK _ _ (h v' w' h1 h2 h3 h4)
end Go.Proofs.YtofficleahalaaaDoor
