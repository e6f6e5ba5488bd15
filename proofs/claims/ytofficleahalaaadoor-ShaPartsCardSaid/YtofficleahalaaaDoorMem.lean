/- PLAIN FACTS ON BLOCKS OF CELLS: a row of cells under one name, and how a store, a new block, a draw and a call leave it. -/
import Derived.Test.YtofficleahalaaaDoorRows
import Derived.Test.YtofficleahalaaaDoorKeep
import Derived.WalkKit
import Derived.WalkSpells
import Derived.WalkLawsBesides
import Derived.Lib.Hide
import Derived.Deep.MidRow
import Derived.Deep.WholeRow
import Derived.Laws.CopyOwn
namespace Go.Proofs.YtofficleahalaaaDoor
open Go.RowKit

/-- block b is a row of cells, c, of element type e, none of them frozen -/
def Row (w : World) (b : Nat) (e : TypeId) (c : Array Value) : Prop := w.heap[b]? = some (.cells c e (0, 0))

theorem Row.cell {w : World} {b : Nat} {e : TypeId} {c : Array Value} (h : Row w b e c) {i : Nat} {v : Value} (hv : c[i]? = some v) : w.cell? ⟨b, i, none⟩ = some v := by
  rw [cell_of_row w b i c e (0, 0) h]; exact hv
theorem Row.frozen {w : World} {b : Nat} {e : TypeId} {c : Array Value} (h : Row w b e c) (i : Nat) : w.frozen? ⟨b, i, none⟩ = false := frozen_of_row w b i c e h
theorem Row.lt {w : World} {b : Nat} {e : TypeId} {c : Array Value} (h : Row w b e c) : b < w.heap.size := (Array.getElem?_eq_some_iff.1 h).1
theorem Row.set {w : World} {b : Nat} {e : TypeId} {c : Array Value} (h : Row w b e c) (i : Nat) (v : Value) : Row (w.setCell ⟨b, i, none⟩ v) b e (c.setIfInBounds i v) := heap_setCell_same w b i c e v h
theorem Row.other {w : World} {b : Nat} {e : TypeId} {c : Array Value} (h : Row w b e c) {a : Addr} (ha : b ≠ a.block) (v : Value) : Row (w.setCell a v) b e c := by
  unfold Row; rw [heap_setCell_other w a b v ha]; exact h
theorem Row.new (w : World) (e : TypeId) (c : Array Value) : Row (w.alloc (.cells c e)) w.heap.size e c := heap_alloc_new w _
theorem Row.new' {w : World} {e : TypeId} {c c' : Array Value} {n : Nat} (hn : n = w.heap.size) (hc : c = c') : Row (w.alloc (.cells c' e)) n e c := by
  subst hn; subst hc; exact heap_alloc_new w _
theorem Row.old {w : World} {b : Nat} {e : TypeId} {c : Array Value} (h : Row w b e c) (o : Obj) : Row (w.alloc o) b e c := by
  exact (Below.heap_alloc w o b h.lt).trans h
theorem Row.drew {w : World} {b : Nat} {e : TypeId} {c : Array Value} (h : Row w b e c) : Row w.drew b e c := h
theorem Row.drewN {w : World} {b : Nat} {e : TypeId} {c : Array Value} (h : Row w b e c) (n : Nat) : Row (w.drewN n) b e c := h
theorem Row.below {w w' : World} {b B : Nat} {e : TypeId} {c : Array Value} (h : Row w b e c) (hb : Below B w w') (hlt : b < B) : Row w' b e c := by
  unfold Row; rw [hb.block b hlt]; exact h
theorem Row.grown {w w' : World} {b : Nat} {e : TypeId} {c : Array Value} {r : Option Nat} (h : Row w b e c) (hg : w.grownBy w' r) (hne : some b ≠ r) : Row w' b e c := by
  unfold Row; rw [hg.block b h.lt hne]; exact h

theorem Row.set' {w : World} {b : Nat} {e : TypeId} {c c' : Array Value} (h : Row w b e c) (i : Nat) (v : Value) (hc : c.setIfInBounds i v = c') : Row (w.setCell ⟨b, i, none⟩ v) b e c' := by
  subst hc; exact h.set i v
theorem Row.setRow {w : World} {b : Nat} {e : TypeId} {c : Array Value} (h : Row w b e c) (c' : Array Value) : Row (w.setRow b c') b e c' := Go.setRow_heap w b c c' e _ h
theorem Row.setRow_apart {w : World} {b : Nat} {e : TypeId} {c : Array Value} (h : Row w b e c) {b' : Nat} (hb : b ≠ b') (c' : Array Value) : Row (w.setRow b' c') b e c := by
  unfold Row; rw [Go.setRow_other w b' b c' hb]; exact h
/-- the whole variable, read -/
theorem Row.loadAt {P : Program} {w : World} {b : Nat} {e : TypeId} {c : Array Value} (h : Row w b e c) (ty : TypeId) (d : TypeDesc) (hu : P.underlying ty = some d) (hd : d.isRow = true) (hi : (P.info? ty).map (·.size) = some c.size) :
    (Instr.loadAt ty (.pointer (some ⟨b, 0, none⟩))).run P w = .ok (.agg c) w := by
  simp only [Instr.loadAt, Instr.sureAddr, Sem.run_bind, Sem.run_pure, Result.andThen]
  exact run_loadVar_row w b e ty c (0, 0) d h hu (by cases d <;> simp_all [TypeDesc.isRow]) hi
/-- the whole variable, written -/
theorem Row.storeAt {P : Program} {w : World} {b : Nat} {e : TypeId} {c : Array Value} (h : Row w b e c) (ty : TypeId) (c' : Array Value) (hi : (P.info? ty).map (·.size) = some c'.size) (ho : c.size = c'.size) (h1 : c'.all (·.oneCell') = true) :
    (Instr.storeAt ty (.pointer (some ⟨b, 0, none⟩)) (.agg c')).run P w = .ok () (w.setRow b c') := by
  simp only [Instr.storeAt, Instr.sureAddr, Sem.run_bind, Sem.run_pure, Result.andThen]
  exact run_storeVar_row _ _ e ty c c' h hi ho h1
/-- ty is a struct or an array, of n cells -/
structure AggTy (P : Program) (ty : TypeId) (n : Nat) : Prop where
  u : ∃ d, P.underlying ty = some d ∧ d.isRow = true
  i : (P.info? ty).map (·.size) = some n
/-- the world under a new name, with what is known of it -/
theorem wpList_world {P : Program} {ops : Array Oper} {rest : List Oper} {a : Act} {W : World} {Q : Exit → Act → World → Prop} {R : World → Prop} (h : R W) (k : ∀ w2, Keep (R w2) → wpList P ops Q rest a w2) : wpList P ops Q rest a W := k W ⟨h⟩
theorem wp_world {P : Program} {c : Code} {a : Act} {W : World} {Q : Exit → Act → World → Prop} {R : World → Prop} (h : R W) (k : ∀ w2, Keep (R w2) → c.wp P Q a w2) : c.wp P Q a W := k W ⟨h⟩
/-- ARM: a whole variable is read -/
theorem arm_loadRow {P : Program} {ops : Array Oper} {rest : List Oper} {a : Act} {w : World} {Q : Exit → Act → World → Prop} {b n : Nat} {e ty tp : TypeId} {c : Array Value} {dst : Option Tmp} {x : Operand} {pos : String} {after : Array Edge}
    (hrow : Row w b e c) (hA : AggTy P ty n) (hs : c.size = n)
    (hx : a.eval x = .pointer (some ⟨b, 0, none⟩)) (h : wpList P ops Q rest (a.put dst (.agg c)) w) : wpList P ops Q (⟨dst, .load ty x, tp, pos, after, none⟩ :: rest) a w := by
  obtain ⟨d, hu, hd⟩ := hA.u
  exact wpList_load_row rfl ty x rfl b hx e c (0, 0) d hrow hu (by cases d <;> simp_all [TypeDesc.isRow]) (by rw [hs]; exact hA.i) h
/-- ARM: a whole variable is written -/
theorem arm_storeRow {P : Program} {ops : Array Oper} {rest : List Oper} {a : Act} {w : World} {Q : Exit → Act → World → Prop} {b n : Nat} {e ty tp : TypeId} {c c' : Array Value} {dst : Option Tmp} {x y : Operand} {pos : String} {after : Array Edge}
    (hrow : Row w b e c) (hA : AggTy P ty n) (hs : c.size = n) (hs' : c'.size = n) (h1 : c'.all (·.oneCell') = true)
    (hx : a.eval x = .pointer (some ⟨b, 0, none⟩)) (hy : a.eval y = .agg c') (h : wpList P ops Q rest (a.put dst undef) (w.setRow b c')) : wpList P ops Q (⟨dst, .store ty x y, tp, pos, after, none⟩ :: rest) a w :=
  wpList_plain rfl fun _ hK => by
    have hst := hrow.storeAt (P := P) ty c' (by rw [hs']; exact hA.i) (by rw [hs, hs']) h1
    unfold Oper.wp execOp
    simp only [hx, hy, Sem.run_bind, Sem.run_pure, Result.andThen_ok, hst]
    exact hK _ _ h
/-- ARM: copy within a row that is known -/
theorem arm_copyRow {P : Program} {ops : Array Oper} {rest : List Oper} {a : Act} {w : World} {Q : Exit → Act → World → Prop} {b off soff dLen dCap sLen sCap : Nat} {e elem dT sT tp : TypeId} {c : Array Value} {dst : Option Tmp} {d s : Operand} {pos : String} {after : Array Edge}
    (hrow : Row w b e c) (cs : List Value) (c' : Array Value) (hu : P.underlying dT = some (.slice elem)) (hsz : (P.info? elem).map (·.size) = some 1)
    (hd : a.eval d = .slice (some ⟨b, off, none⟩) dLen dCap) (hsv : a.eval s = .slice (some ⟨b, soff, none⟩) sLen sCap) (hn : cs.length = Nat.min sLen dLen)
    (hsrc : ∀ j v, cs[j]? = some v → c[soff + j]? = some v) (hfit : off + cs.length ≤ c.size) (h1 : ∀ v ∈ cs, v.oneCell' = true) (hc : c' = (c.toList.take off ++ (cs ++ c.toList.drop (off + cs.length))).toArray)
    (h : wpList P ops Q rest (a.put dst (goInt cs.length)) (w.setRow b c')) : wpList P ops Q (⟨dst, .call ⟨.builtin .copy, #[d, s], #[dT, sT]⟩, tp, pos, after, none⟩ :: rest) a w := by
  subst hc
  refine wpList_copy_own rfl d s dT sT rfl elem hu hsz b off dLen dCap ⟨b, soff, none⟩ sLen sCap hd hsv c e hrow cs hn (fun j v hv => ?_) hfit h1 h
  rw [Addr.add_mid]; exact hrow.cell (hsrc j v hv)
/-- the result lies in a variable -/
theorem results_row {P : Program} {fn : Func} {p : Tmp} {ty : TypeId} {n : Nat} {w : World} {b : Nat} {e : TypeId} {c : Array Value} {tmps : Array Value} (h : fn.results = #[.cell p ty]) (hrow : Row w b e c) (hA : AggTy P ty n) (hs : c.size = n)
    (hp : tmps.getD p undef = .pointer (some ⟨b, 0, none⟩)) : (results fn tmps).run P w = .ok (.agg c) w := by
  obtain ⟨d, hu, hd⟩ := hA.u
  exact results_cell_row h tmps w b e c (0, 0) d hp hrow hu (by cases d <;> simp_all [TypeDesc.isRow]) (by rw [hs]; exact hA.i)
theorem below_drewN' {B : Nat} {a w : World} (h : Below B a w) (n : Nat) : Below B a (w.drewN n) := ⟨h.os, h.tape, h.output, h.size, h.block⟩
theorem bcell {W w1 : World} (hb : Below W.heap.size W w1) : (∀ b o, b < W.heap.size → w1.cell? ⟨b, o, none⟩ = W.cell? ⟨b, o, none⟩) ∧ (∀ b o, b < W.heap.size → w1.frozen? ⟨b, o, none⟩ = W.frozen? ⟨b, o, none⟩) :=
  ⟨fun b o h => hb.cell (p := ⟨b, o, none⟩) h, fun b o h => hb.frozen (p := ⟨b, o, none⟩) h⟩


/-- below block number B nothing but the blocks of M has changed -/
structure Chg (M : Nat → Prop) (B : Nat) (w w' : World) : Prop where
  os : w'.os = w.os
  tape : w'.tape = w.tape
  output : w'.output = w.output
  size : w.heap.size ≤ w'.heap.size
  block : ∀ k, k < B → ¬ M k → w'.heap[k]? = w.heap[k]?
theorem Chg.refl (M : Nat → Prop) (B : Nat) (w : World) : Chg M B w w := ⟨rfl, rfl, rfl, Nat.le_refl _, fun _ _ _ => rfl⟩
theorem Chg.trans {M : Nat → Prop} {B : Nat} {a b c : World} (h : Chg M B a b) (k : Chg M B b c) : Chg M B a c :=
  ⟨k.os.trans h.os, k.tape.trans h.tape, k.output.trans h.output, Nat.le_trans h.size k.size, fun i hi hm => (k.block i hi hm).trans (h.block i hi hm)⟩
theorem Chg.mono {M M' : Nat → Prop} {B B' : Nat} {w w' : World} (h : Chg M B w w') (hB : B' ≤ B) (hM : ∀ k, M k → M' k) : Chg M' B' w w' := ⟨h.os, h.tape, h.output, h.size, fun k hk hm => h.block k (by omega) (fun hx => hm (hM k hx))⟩
theorem Chg.lower {M : Nat → Prop} {B B' : Nat} {w w' : World} (h : Chg M B w w') (hB : B' ≤ B) : Chg M B' w w' := h.mono hB (fun _ hx => hx)
theorem Chg.of_below {M : Nat → Prop} {B : Nat} {w w' : World} (h : Below B w w') : Chg M B w w' := ⟨h.os, h.tape, h.output, h.size, fun k hk _ => h.block k hk⟩
theorem Chg.below {M : Nat → Prop} {B : Nat} {w w' : World} (h : Chg M B w w') (hM : ∀ k, k < B → ¬ M k) : Below B w w' := ⟨h.os, h.tape, h.output, h.size, fun k hk => h.block k hk (hM k hk)⟩
theorem Chg.drewN {M : Nat → Prop} {B : Nat} {a w : World} (h : Chg M B a w) (n : Nat) : Chg M B a (w.drewN n) := ⟨h.os, h.tape, h.output, h.size, h.block⟩
theorem Chg.drew {M : Nat → Prop} {B : Nat} {a w : World} (h : Chg M B a w) : Chg M B a w.drew := ⟨h.os, h.tape, h.output, h.size, h.block⟩
theorem Chg.alloc {M : Nat → Prop} {B : Nat} {a w : World} (h : Chg M B a w) (hB : B ≤ w.heap.size) (o : Obj) : Chg M B a (w.alloc o) :=
  h.trans (.of_below ((Below.refl _ _).alloc hB o))
theorem Chg.setCell {M : Nat → Prop} {B : Nat} {a w : World} (h : Chg M B a w) {p : Addr} (hp : B ≤ p.block ∨ M p.block) (u : Value) : Chg M B a (w.setCell p u) :=
  h.trans ⟨rfl, rfl, rfl, by simp [World.setCell], fun k hk hm => Below.heap_setCell _ _ _ _ (fun e => by subst e; exact hp.elim (fun hp => by omega) hm)⟩
theorem Chg.setRow {M : Nat → Prop} {B : Nat} {a w : World} (h : Chg M B a w) {g : Nat} (hp : B ≤ g ∨ M g) (c : Array Value) : Chg M B a (w.setRow g c) :=
  h.trans ⟨rfl, rfl, rfl, by simp [World.setRow], fun k hk hm => Go.setRow_other w g k c (fun e => by subst e; exact hp.elim (fun hp => by omega) hm)⟩
theorem Chg.grown {M : Nat → Prop} {B : Nat} {a w w' : World} {row : Option Nat} (h : Chg M B a w) (hg : w.grownBy w' row) (hB : B ≤ w.heap.size) (hr : ∀ k, row = some k → B ≤ k ∨ M k) : Chg M B a w' :=
  h.trans ⟨hg.os, hg.tape, hg.output, hg.size, fun k hk hm => hg.block k (by omega) (fun e => by exact (hr k e.symm).elim (fun hp => by omega) hm)⟩
theorem Row.chg {M : Nat → Prop} {w w' : World} {b B : Nat} {e : TypeId} {c : Array Value} (h : Row w b e c) (hb : Chg M B w w') (hlt : b < B) (hm : ¬ M b) : Row w' b e c := by
  unfold Row; rw [hb.block b hlt hm]; exact h
theorem Chg.cell {M : Nat → Prop} {B : Nat} {w w' : World} (h : Chg M B w w') {p : Addr} (hp : p.block < B) (hm : ¬ M p.block) : w'.cell? p = w.cell? p := World.cell?_of_block (w := w) (h.block p.block hp hm)
/-- the bytes l can be read from v, a []byte; its block is one of N (what has no room at all may have any address) -/
structure Reads (w : World) (N : Nat → Prop) (v : Value) (l : List UInt8) : Prop where
  shape : ∃ a cap, v = .slice a l.length cap ∧ l.length ≤ cap ∧ cap ≤ maxLen ∧ (cap = 0 ∨ ∃ b off, a = some ⟨b, off, none⟩ ∧ N b)
  cell : ∀ b off n cap, v = .slice (some ⟨b, off, none⟩) n cap → ∀ j (h : j < l.length), w.cell? ⟨b, off + j, none⟩ = some (.int .u8 (l[j].toNat : Int))
theorem Reads.len {w : World} {N : Nat → Prop} {l : List UInt8} {a : Option Addr} {n cap : Nat} (h : Reads w N (.slice a n cap) l) : n = l.length ∧ l.length ≤ cap ∧ cap ≤ maxLen := by
  obtain ⟨⟨a, cap', e, h1, h2, h3⟩, _⟩ := h
  injection e with e1 e2 e3
  subst e1 e3
  exact ⟨e2, h1, h2⟩
theorem Reads.blk {w : World} {N : Nat → Prop} {l : List UInt8} {b off n cap : Nat} (h : Reads w N (.slice (some ⟨b, off, none⟩) n cap) l) (hc : 0 < cap) : N b ∧ n = l.length ∧ l.length ≤ cap ∧ cap ≤ maxLen := by
  obtain ⟨⟨a, cap', e, h1, h2, h3⟩, _⟩ := h
  injection e with e1 e2 e3
  subst e1 e3
  rcases h3 with h3 | ⟨b', off', e, hN⟩
  · omega
  · injection e with e; injection e with f1 _ _; subst f1; exact ⟨hN, e2, h1, h2⟩
theorem Reads.chg {M N : Nat → Prop} {w w' : World} {B : Nat} {v : Value} {l : List UInt8} (h : Reads w N v l) (hb : Chg M B w w') (hN : ∀ b, N b → b < B ∧ ¬ M b) : Reads w' N v l := by
  refine ⟨h.shape, fun b off n cap e j hj => ?_⟩
  subst e
  have := hN b (h.blk (by have := h.len.2.1; omega)).1
  rw [hb.cell (p := ⟨b, off + j, none⟩) this.1 this.2]
  exact h.cell b off n cap rfl j hj
theorem Reads.mono {N N' : Nat → Prop} {w : World} {v : Value} {l : List UInt8} (h : Reads w N v l) (hN : ∀ b, N b → N' b) : Reads w N' v l := by
  obtain ⟨⟨a, cap, e, h1, h2, h3⟩, hc⟩ := h
  exact ⟨⟨a, cap, e, h1, h2, h3.imp id (fun ⟨b, off, e, hb⟩ => ⟨b, off, e, hN b hb⟩)⟩, hc⟩
theorem Reads.below {N : Nat → Prop} {w w' : World} {B : Nat} {v : Value} {l : List UInt8} (h : Reads w N v l) (hb : Below B w w') (hN : ∀ b, N b → b < B) : Reads w' N v l :=
  h.chg (M := fun _ => False) (.of_below hb) (fun b hb' => ⟨hN b hb', fun h => h⟩)
theorem Reads.drewN {N : Nat → Prop} {w : World} {v : Value} {l : List UInt8} (h : Reads w N v l) (n : Nat) : Reads (w.drewN n) N v l := ⟨h.shape, h.cell⟩
/-- a slice's length, for a measure -/
def lenV : Value → Nat
  | .slice _ n _ => n
  | _ => 0
/-- what is not empty has an address -/
theorem Reads.has {N : Nat → Prop} {w : World} {v : Value} {l : List UInt8} (h : Reads w N v l) (hl : 0 < l.length) : ∃ b off cap, v = .slice (some ⟨b, off, none⟩) l.length cap ∧ l.length ≤ cap ∧ cap ≤ maxLen ∧ N b := by
  obtain ⟨⟨a, cap, e, h1, h2, h3⟩, _⟩ := h
  rcases h3 with h3 | ⟨b, off, rfl, hN⟩
  · omega
  · exact ⟨b, off, cap, e, h1, h2, hN⟩
/-- a part of it -/
theorem Reads.sub {N : Nat → Prop} {w : World} {l : List UInt8} {b off n cap : Nat} (h : Reads w N (.slice (some ⟨b, off, none⟩) n cap) l) (i m cap' : Nat) (l' : List UInt8) (hl : l' = (l.drop i).take m) (hm : l'.length ≤ cap') (hc : cap' ≤ cap) (k : Nat) (hk : k = l'.length) :
    Reads w N (.slice (some ⟨b, off + i, none⟩) k cap') l' := by
  obtain ⟨hn, h1, h2⟩ := h.len
  subst hk
  refine ⟨⟨_, _, rfl, hm, by omega, (Nat.eq_zero_or_pos cap').imp id (fun hp => ⟨_, _, rfl, (h.blk (by omega)).1⟩)⟩, fun b' off' n' c' e j hj => ?_⟩
  injection e with e1 e2 e3; injection e1 with e1; injection e1 with e1 e4 _; subst e1 e4
  have hj2 : i + j < l.length := by subst hl; simp at hj; omega
  have := h.cell b off n cap rfl (i + j) hj2
  rw [Nat.add_assoc, this]
  subst hl
  simp
/-- an empty part of it -/
theorem Reads.ofEmpty {N : Nat → Prop} {w : World} {b off cap : Nat} (hN : N b) (hc : cap ≤ maxLen) : Reads w N (.slice (some ⟨b, off, none⟩) 0 cap) [] :=
  ⟨⟨_, _, rfl, Nat.zero_le _, hc, .inr ⟨_, _, rfl, hN⟩⟩, fun _ _ _ _ _ j hj => by cases hj⟩
theorem Reads.ofNil {N : Nat → Prop} {w : World} : Reads w N (.slice none 0 0) [] :=
  ⟨⟨_, _, rfl, Nat.zero_le _, Nat.zero_le _, .inl rfl⟩, fun _ _ _ _ e j hj => by cases hj⟩
/-- no room: whatever the address -/
theorem Reads.ofNone {N : Nat → Prop} {w : World} {a : Option Addr} : Reads w N (.slice a 0 0) [] :=
  ⟨⟨_, _, rfl, Nat.zero_le _, Nat.zero_le _, .inl rfl⟩, fun _ _ _ _ e j hj => by cases hj⟩
end Go.Proofs.YtofficleahalaaaDoor
