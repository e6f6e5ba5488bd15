/- THE CALL's OWN MEMORY AS A LIST OF ASSERTIONS, each on one block. -/
import Derived.Test.YtofficleahalaaaDoorSl
import Derived.Lib.OthersKept
namespace Go.Proofs.YtofficleahalaaaDoor
open Go.RowKit
/-- what is known of one block (or of none) -/
structure As where
  blk : Nat → Prop
  P : World → Prop
  loc : ∀ w w' : World, (∀ b, blk b → w'.heap[b]? = w.heap[b]?) → P w → P w'
/-- block b is the row c -/
def rowA (b : Nat) (e : TypeId) (c : Array Value) : As := ⟨fun k => k = b, fun w => Row w b e c, fun w w' h hr => by unfold Row; rw [h b rfl]; exact hr⟩
theorem ownsRow_loc {base k n : Nat} {e : TypeId} {v : Value} {vs : List Value} (w w' : World) (h : ∀ b, v.ownBlock = some b → w'.heap[b]? = w.heap[b]?) (ho : w.ownsRow base e k v n vs) : w'.ownsRow base e k v n vs := by
  obtain ⟨h0, ho⟩ := ho
  refine ⟨h0, ho.imp id ?_⟩
  rintro ⟨g, cap, cur, rfl, hbb, hh, rest⟩
  exact ⟨g, cap, cur, rfl, hbb, (h g rfl).trans hh, rest⟩
/-- the slice v is the call's own, of n elements of k cells: vs -/
def slA (base : Nat) (e : TypeId) (k : Nat) (v : Value) (n : Nat) (vs : List Value) : As := ⟨fun b => v.ownBlock = some b, fun w => w.ownsRow base e k v n vs, ownsRow_loc⟩
/-- the []byte v is the call's own: l -/
def byA (base : Nat) (e : TypeId) (v : Value) (l : List UInt8) : As := ⟨fun b => v.ownBlock = some b, fun w => Owns w base e v l, ownsRow_loc⟩
/-- what stands between the call's beginning, w, and now, wr: of the old blocks those of M alone may have changed; the assertions hold, each on a block of its own -/
structure Hp (M : Nat → Prop) (w wr : World) (ls : List As) : Prop where
  c : Chg M w.heap.size w wr
  p : ∀ A ∈ ls, A.P wr ∧ ∀ b, A.blk b → (w.heap.size ≤ b ∨ M b) ∧ b < wr.heap.size
  d : ∀ (i j : Nat) (A B : As), ls[i]? = some A → ls[j]? = some B → ∀ b, A.blk b → B.blk b → i = j
abbrev NoM : Nat → Prop := fun _ => False
theorem Hp.begin (M : Nat → Prop) (w : World) : Hp M w w [] := ⟨.refl _ _ _, fun A h => (List.not_mem_nil h).elim, fun i j A B h => by simp at h⟩
theorem Hp.get {M : Nat → Prop} {w wr : World} {ls : List As} (h : Hp M w wr ls) (i : Nat) {A : As} (hi : ls[i]? = some A) : A.P wr := (h.p A (List.mem_of_getElem? hi)).1
theorem Hp.row {M : Nat → Prop} {w wr : World} {ls : List As} (h : Hp M w wr ls) (i : Nat) {b : Nat} {e : TypeId} {c : Array Value} (hi : ls[i]? = some (rowA b e c)) : Row wr b e c := h.get i hi
theorem Hp.sl {M : Nat → Prop} {w wr : World} {ls : List As} (h : Hp M w wr ls) (i : Nat) {base k n : Nat} {e : TypeId} {v : Value} {vs : List Value} (hi : ls[i]? = some (slA base e k v n vs)) : wr.ownsRow base e k v n vs := h.get i hi
theorem Hp.bs {M : Nat → Prop} {w wr : World} {ls : List As} (h : Hp M w wr ls) (i : Nat) {base : Nat} {e : TypeId} {v : Value} {l : List UInt8} (hi : ls[i]? = some (byA base e v l)) : Owns wr base e v l := h.get i hi
theorem Hp.size {M : Nat → Prop} {w wr : World} {ls : List As} (h : Hp M w wr ls) : w.heap.size ≤ wr.heap.size := h.c.size
theorem Hp.below {w wr : World} {ls : List As} (h : Hp NoM w wr ls) : Below w.heap.size w wr := h.c.below (fun _ _ h => h)
/-- a block of the list lies above w's, where no old one may change -/
theorem Hp.new {w wr : World} {ls : List As} (h : Hp NoM w wr ls) (i : Nat) {A : As} (hi : ls[i]? = some A) {b : Nat} (hb : A.blk b) : w.heap.size ≤ b ∧ b < wr.heap.size :=
  ⟨((h.p A (List.mem_of_getElem? hi)).2 b hb).1.elim id (fun h => h.elim), ((h.p A (List.mem_of_getElem? hi)).2 b hb).2⟩
/-- nothing that was there changes -/
theorem Hp.keep {M : Nat → Prop} {w wr w' : World} {ls : List As} (h : Hp M w wr ls) (hc : Chg NoM wr.heap.size wr w') : Hp M w w' ls := by
  refine ⟨h.c.trans ((hc.lower h.c.size).mono (Nat.le_refl _) (fun _ h => h.elim)), fun A hA => ?_, h.d⟩
  have := h.p A hA
  exact ⟨A.loc wr w' (fun b hb => hc.block b (this.2 b hb).2 (fun h => h)) this.1, fun b hb => ⟨(this.2 b hb).1, Nat.lt_of_lt_of_le (this.2 b hb).2 hc.size⟩⟩
theorem Hp.call {M : Nat → Prop} {w wr w' : World} {ls : List As} (h : Hp M w wr ls) (hc : Below wr.heap.size wr w') : Hp M w w' ls := h.keep (.of_below hc)
theorem Hp.alloc {M : Nat → Prop} {w wr : World} {ls : List As} (h : Hp M w wr ls) (o : Obj) : Hp M w (wr.alloc o) ls := h.call ((Below.refl _ _).alloc (Nat.le_refl _) _)
theorem Hp.drewN {M : Nat → Prop} {w wr : World} {ls : List As} (h : Hp M w wr ls) (n : Nat) : Hp M w (wr.drewN n) ls := h.call (below_drewN' (Below.refl _ _) n)
theorem Hp.drew {M : Nat → Prop} {w wr : World} {ls : List As} (h : Hp M w wr ls) : Hp M w wr.drew ls := h.call (Below.refl _ _).drew
/-- one assertion more, on a new block or on none -/
theorem Hp.push {M : Nat → Prop} {w wr w' : World} {ls : List As} (h : Hp M w wr ls) (A : As) (hc : Chg NoM wr.heap.size wr w') (hP : A.P w') (hb : ∀ b, A.blk b → wr.heap.size ≤ b ∧ b < w'.heap.size) : Hp M w w' (ls ++ [A]) := by
  have hk := h.keep hc
  refine ⟨hk.c, fun B hB => ?_, fun i j A1 A2 h1 h2 b e1 e2 => ?_⟩
  · rcases List.mem_append.1 hB with hB | hB
    · exact hk.p B hB
    · obtain rfl := List.mem_singleton.1 hB
      exact ⟨hP, fun b e => ⟨.inl (Nat.le_trans h.c.size (hb b e).1), (hb b e).2⟩⟩
  · have key : ∀ (i : Nat) (A1 : As), (ls ++ [A])[i]? = some A1 → (ls[i]? = some A1 ∧ ∀ b, A1.blk b → b < wr.heap.size) ∨ (i = ls.length ∧ A1 = A) := by
      intro i A1 hi
      rcases Nat.lt_or_ge i ls.length with hl | hl
      · rw [List.getElem?_append_left hl] at hi
        exact .inl ⟨hi, fun b hb => ((h.p A1 (List.mem_of_getElem? hi)).2 b hb).2⟩
      · rw [List.getElem?_append_right hl] at hi
        have h1 := (List.getElem?_eq_some_iff.1 hi).1
        have h0 : i - ls.length = 0 := by simpa using h1
        rw [h0] at hi
        injection hi with hi
        exact .inr ⟨by omega, hi.symm⟩
    rcases key i A1 h1 with ⟨g1, g2⟩ | ⟨rfl, rfl⟩ <;> rcases key j A2 h2 with ⟨k1, k2⟩ | ⟨rfl, rfl⟩
    · exact h.d i j A1 A2 g1 k1 b e1 e2
    · have := g2 b e1; have := (hb b e2).1; omega
    · have := k2 b e2; have := (hb b e1).1; omega
    · rfl
/-- the i-th assertion turns; no other block that was there changes -/
theorem Hp.upd {M : Nat → Prop} {w wr w' : World} {ls : List As} (h : Hp M w wr ls) (i : Nat) {A : As} (hi : ls[i]? = some A) (A' : As) (hc : Chg (fun k => A.blk k) wr.heap.size wr w') (hP : A'.P w') (hb : ∀ b, A'.blk b → A.blk b ∨ (wr.heap.size ≤ b ∧ b < w'.heap.size)) : Hp M w w' (ls.set i A') := by
  have hil : i < ls.length := (List.getElem?_eq_some_iff.1 hi).1
  have hA := h.p A (List.mem_of_getElem? hi)
  have key : ∀ (j : Nat) (B : As), (ls.set i A')[j]? = some B → (j ≠ i ∧ ls[j]? = some B) ∨ (j = i ∧ B = A') := by
    intro j B hj
    by_cases e : j = i
    · subst e
      rw [List.getElem?_set_self hil] at hj
      injection hj with hj
      exact .inr ⟨rfl, hj.symm⟩
    · rw [List.getElem?_set_ne (Ne.symm e)] at hj
      exact .inl ⟨e, hj⟩
  have hno : ∀ (j : Nat) (B : As), j ≠ i → ls[j]? = some B → ∀ b, B.blk b → ¬ A.blk b := fun j B hji hj b e1 e2 => hji (h.d j i B A hj hi b e1 e2)
  have hlt : ∀ (j : Nat) (B : As), ls[j]? = some B → ∀ b, B.blk b → b < wr.heap.size := fun j B hj b e => ((h.p B (List.mem_of_getElem? hj)).2 b e).2
  refine ⟨h.c.trans ?_, fun B hB => ?_, fun j k B1 B2 h1 h2 b e1 e2 => ?_⟩
  · refine ⟨hc.os, hc.tape, hc.output, hc.size, fun k hk hm => hc.block k (Nat.lt_of_lt_of_le hk h.c.size) (fun e => ?_)⟩
    rcases (hA.2 k e).1 with h1 | h1
    · omega
    · exact hm h1
  · obtain ⟨j, hj⟩ := List.getElem?_of_mem hB
    rcases key j B hj with ⟨hji, hj⟩ | ⟨rfl, rfl⟩
    · have hB := h.p B (List.mem_of_getElem? hj)
      exact ⟨B.loc wr w' (fun b e => hc.block b (hB.2 b e).2 (hno j B hji hj b e)) hB.1, fun b e => ⟨(hB.2 b e).1, Nat.lt_of_lt_of_le (hB.2 b e).2 hc.size⟩⟩
    · refine ⟨hP, fun b e => ?_⟩
      rcases hb b e with e' | e'
      · exact ⟨(hA.2 b e').1, Nat.lt_of_lt_of_le (hA.2 b e').2 hc.size⟩
      · exact ⟨.inl (Nat.le_trans h.c.size e'.1), e'.2⟩
  · rcases key j B1 h1 with ⟨g1, g2⟩ | ⟨rfl, rfl⟩ <;> rcases key k B2 h2 with ⟨k1, k2⟩ | ⟨rfl, rfl⟩
    · exact h.d j k B1 B2 g2 k2 b e1 e2
    · rcases hb b e2 with e' | e'
      · exact (hno j B1 g1 g2 b e1 e').elim
      · have := hlt j B1 g2 b e1; omega
    · rcases hb b e1 with e' | e'
      · exact (hno k B2 k1 k2 b e2 e').elim
      · have := hlt k B2 k2 b e2; omega
    · rfl
/-- a new row -/
theorem Hp.newRow {M : Nat → Prop} {w wr : World} {ls : List As} (h : Hp M w wr ls) (e : TypeId) (c : Array Value) : Hp M w (wr.alloc (.cells c e)) (ls ++ [rowA wr.heap.size e c]) :=
  h.push _ (.of_below ((Below.refl _ _).alloc (Nat.le_refl _) _)) (Row.new wr e c) (fun b hb => by have hb : b = _ := hb; subst hb; simp)
theorem Hp.newRow' {M : Nat → Prop} {w wr : World} {ls : List As} (h : Hp M w wr ls) (e : TypeId) (c c' : Array Value) (n : Nat) (hn : n = wr.heap.size) (hc : c = c') : Hp M w (wr.alloc (.cells c' e)) (ls ++ [rowA n e c]) := by
  subst hn hc; exact h.newRow e c
theorem Hp.setCell {M : Nat → Prop} {w wr : World} {ls : List As} (h : Hp M w wr ls) (i : Nat) {b : Nat} {e : TypeId} {c : Array Value} (hi : ls[i]? = some (rowA b e c)) (j : Nat) (v : Value) {c' : Array Value} (hc : c.setIfInBounds j v = c') : Hp M w (wr.setCell ⟨b, j, none⟩ v) (ls.set i (rowA b e c')) := by
  subst hc
  exact h.upd i hi _ (Chg.setCell (M := fun k => k = b) (.refl _ _ _) (.inr rfl) _) ((h.row i hi).set j v) (fun _ hb => .inl hb)
theorem Hp.setRow {M : Nat → Prop} {w wr : World} {ls : List As} (h : Hp M w wr ls) (i : Nat) {b : Nat} {e : TypeId} {c : Array Value} (hi : ls[i]? = some (rowA b e c)) (c' : Array Value) : Hp M w (wr.setRow b c') (ls.set i (rowA b e c')) :=
  h.upd i hi _ (Chg.setRow (M := fun k => k = b) (.refl _ _ _) (.inr rfl) _) ((h.row i hi).setRow c') (fun _ hb => .inl hb)
theorem chg_grown {wr w' : World} {r : Option Nat} (hg : wr.grownBy w' r) : Chg (fun k => r = some k) wr.heap.size wr w' :=
  ⟨hg.os, hg.tape, hg.output, hg.size, fun k hk hm => hg.block k hk (fun e => hm e.symm)⟩
/-- an own slice has grown -/
theorem Hp.grow {M : Nat → Prop} {w wr w' : World} {ls : List As} (h : Hp M w wr ls) (i : Nat) {base k n n' : Nat} {e : TypeId} {v v' : Value} {vs vs' : List Value} (hi : ls[i]? = some (slA base e k v n vs)) (hg : wr.grownBy w' v.ownBlock) (ho : w'.ownsRow base e k v' n' vs') (hb : v'.ownBlock = v.ownBlock ∨ v'.ownBlock = some wr.heap.size) : Hp M w w' (ls.set i (slA base e k v' n' vs')) :=
  h.upd i hi _ (chg_grown hg) ho (fun b hb' => by
    have hb' : v'.ownBlock = some b := hb'
    rcases hb with e | e
    · exact .inl (show v.ownBlock = some b from e.symm.trans hb')
    · have : some wr.heap.size = some b := e.symm.trans hb'
      injection this with this
      subst this
      exact .inr ⟨Nat.le_refl _, (ownsV_lt ho _ e).2⟩)
theorem Hp.growB {M : Nat → Prop} {w wr w' : World} {ls : List As} (h : Hp M w wr ls) (i : Nat) {base : Nat} {e : TypeId} {v v' : Value} {l l' : List UInt8} (hi : ls[i]? = some (byA base e v l)) (hg : wr.grownBy w' v.ownBlock) (ho : Owns w' base e v' l') (hb : v'.ownBlock = v.ownBlock ∨ v'.ownBlock = some wr.heap.size) : Hp M w w' (ls.set i (byA base e v' l')) :=
  h.grow i (n := l.length) (vs := bcells l) hi hg ho hb
/-- a nil slice to begin with -/
theorem Hp.nilB {M : Nat → Prop} {w wr : World} {ls : List As} (h : Hp M w wr ls) (base : Nat) (e : TypeId) : Hp M w wr (ls ++ [byA base e (.slice none 0 0) []]) :=
  h.push _ (.refl _ _ _) (Owns.nil wr base e) (fun b hb => by cases hb)
theorem Hp.nilS {M : Nat → Prop} {w wr : World} {ls : List As} (h : Hp M w wr ls) (base : Nat) (e : TypeId) (k : Nat) : Hp M w wr (ls ++ [slA base e k (.slice none 0 0) 0 []]) :=
  h.push _ (.refl _ _ _) (World.ownsRow_nil wr base e k) (fun b hb => by cases hb)
/-- what the call was handed still reads -/
theorem Hp.reads {M N : Nat → Prop} {w wr : World} {ls : List As} (h : Hp M w wr ls) {v : Value} {l : List UInt8} (hr : Reads w N v l) (hN : ∀ b, N b → b < w.heap.size ∧ ¬ M b) : Reads wr N v l := hr.chg h.c hN
theorem Hp.rd {M N : Nat → Prop} {w wr : World} {ls : List As} (h : Hp M w wr ls) {v : Value} {k n : Nat} {vs : List Value} (hr : RdV w N k v n vs) (hN : ∀ b, N b → b < w.heap.size ∧ ¬ M b) : RdV wr N k v n vs := hr.chg h.c hN
/-- block k is a string's iterator -/
def itA (k : Nat) (s : ByteArray) (pos : Nat) : As := ⟨fun j => j = k, fun w => w.heap[k]? = some (.stringIter s pos), fun w w' h hr => by rw [h k rfl]; exact hr⟩
theorem Hp.newIt {M : Nat → Prop} {w wr : World} {ls : List As} (h : Hp M w wr ls) (s : ByteArray) (pos : Nat) : Hp M w (wr.iter s pos) (ls ++ [itA wr.heap.size s pos]) :=
  h.push _ (.of_below ((Below.refl _ _).alloc (Nat.le_refl _) _)) (World.iter_heap wr s pos) (fun b hb => by have hb : b = _ := hb; subst hb; simp [World.iter])
theorem Hp.setIt {M : Nat → Prop} {w wr : World} {ls : List As} (h : Hp M w wr ls) (i : Nat) {k : Nat} {s : ByteArray} {pos : Nat} (hi : ls[i]? = some (itA k s pos)) (pos' : Nat) : Hp M w (wr.iterAt k s pos') (ls.set i (itA k s pos')) := by
  have hk : wr.heap[k]? = some (.stringIter s pos) := h.get i hi
  refine h.upd i hi _ ⟨rfl, rfl, rfl, by simp [World.iterAt], fun j hj hm => ?_⟩ ?_ (fun _ hb => .inl hb)
  · have : k ≠ j := fun e => hm (by subst e; rfl)
    simp [World.iterAt, this]
  · exact Lib.iterAt_heap wr k s pos pos' hk
end Go.Proofs.YtofficleahalaaaDoor
