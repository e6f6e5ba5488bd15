/- PARTS OF ONE PROOF, set in one file: RowM, TreeSwap, CmpB, SymM, StSort, StA, StB, StC, StG, SortR, MvS, StSw. Each part tells its own conditions. -/
import Derived.Lib.Bytealg
import Derived.Sort.LotA
import Derived.Shelf.SlSortCmp.KitK
import Derived.Sort.WalkB2
import Derived.Sort.WalkB12
import Derived.Deep.LoopGhost
import Derived.Test.YtplafpokgpolkaaGreatDoorProg
import Derived.Test.YtplafpokgpolkaaGreatDoorP1
import Derived.Test.YtplafpokgpolkaaGreatDoorP4
import Derived.Test.YtplafpokgpolkaaGreatDoorP7
/- A ROW OF MEMBERS OF ONE'S OWN, whose nodes' slices lie elsewhere; what is appended to it. -/
namespace Go.Proofs.YtplafpokgpolkaaGreatDoor
open Go.RowKit
/-- K: old blocks in which the nodes' slices may lie, too -/
structure RowM (B : Nat) (K : Nat → Prop) (w : World) (v : Value) (l : List Mv) : Prop where
  own : w.ownsRow B 32 9 v l.length (mcells l)
  nd : ∀ x ∈ l, NdR w (fun b => (K b ∨ B ≤ b) ∧ b < w.heap.size ∧ v.ownBlock ≠ some b) x.1.2 x.2.1 x.2.2
theorem RowM.nil (B : Nat) (K : Nat → Prop) (w : World) : RowM B K w (.slice none 0 0) [] := ⟨World.ownsRow_nil _ _ _ _, fun _x hx => (List.not_mem_nil hx).elim⟩
theorem RowM.lt {B : Nat} {K : Nat → Prop} {w : World} {v : Value} {l : List Mv} (h : RowM B K w v l) {b : Nat} (hb : v.ownBlock = some b) : B ≤ b ∧ b < w.heap.size := World.ownsRow.lt h.own b hb
theorem RowM.below {B : Nat} {K : Nat → Prop} {w w' : World} {v : Value} {l : List Mv} (h : RowM B K w v l) (hb : Below w.heap.size w w') : RowM B K w' v l :=
  ⟨ownsRow_loc _ _ (fun b e => hb.block b (h.lt e).2) h.own, fun x hx => ((h.nd x hx).loc (fun b e => hb.block b e.2.1)).mono (fun _b e => ⟨e.1, Nat.lt_of_lt_of_le e.2.1 hb.size, e.2.2⟩)⟩
theorem RowM.lower {B B' : Nat} {K K' : Nat → Prop} {w : World} {v : Value} {l : List Mv} (h : RowM B K w v l) (hB : B' ≤ B) (hK : ∀ b, K b → K' b) : RowM B' K' w v l :=
  ⟨ownsRow_base h.own hB, fun x hx => (h.nd x hx).mono (fun b e => ⟨e.1.imp (hK b) (Nat.le_trans hB), e.2⟩)⟩
theorem RowM.mbs {B : Nat} {K : Nat → Prop} {w : World} {v : Value} {l : List Mv} (h : RowM B K w v l) : Mbs w (Fresh B w) (fun b => (K b ∨ B ≤ b) ∧ b < w.heap.size ∧ v.ownBlock ≠ some b) v l :=
  ⟨(ownsV_reads h.own).mono (fun _ hb => ⟨hb.1, hb.2.1⟩), h.nd⟩
theorem RowM.ofOwn {B : Nat} {w : World} {v : Value} {l : List Mv} (h : OwnMbs B w v l) (K : Nat → Prop) : RowM B K w v l :=
  ⟨h.own, fun x hx => (h.nd x hx).r.mono (fun _b e => ⟨.inr e.1, e.2.1, e.2.2⟩)⟩
theorem RowM.app {B : Nat} {K : Nat → Prop} {w w' : World} {v v' : Value} {l l2 : List Mv} (h : RowM B K w v l) (h2 : ∀ x ∈ l2, NdR w (fun b => (K b ∨ B ≤ b) ∧ b < w.heap.size ∧ v.ownBlock ≠ some b) x.1.2 x.2.1 x.2.2)
    (ho : w'.ownsRow B 32 9 v' (l.length + l2.length) (mcells l ++ mcells l2)) (hg : w.grownBy w' v.ownBlock) (hov : v'.ownBlock = v.ownBlock ∨ v'.ownBlock = some w.heap.size) : RowM B K w' v' (l ++ l2) := by
  refine ⟨by rw [List.length_append, mcells_append]; exact ho, fun x hx => ?_⟩
  have hx' : NdR w (fun b => (K b ∨ B ≤ b) ∧ b < w.heap.size ∧ v.ownBlock ≠ some b) x.1.2 x.2.1 x.2.2 := by
    rcases List.mem_append.1 hx with hx | hx
    · exact h.nd x hx
    · exact h2 x hx
  refine (hx'.loc (fun b e => hg.block b e.2.1 (fun e2 => e.2.2 e2.symm))).mono (fun b e => ⟨e.1, Nat.lt_of_lt_of_le e.2.1 hg.size, ?_⟩)
  rcases hov with e1 | e1
  · rw [e1]; exact e.2.2
  · rw [e1]; intro e2; injection e2 with e2; have := e.2.1; omega
/-- ARM: Members are appended -/
theorem arm_appM {ops : Array Oper} {rest : List Oper} {a : Act} {w : World} {Q : Exit → Act → World → Prop} {tp : TypeId} {dst : Option Tmp} {s x : Operand} {pos : String} {after : Array Edge} {B : Nat} {K N N' : Nat → Prop} {v xv : Value} {l l2 : List Mv}
    (h : RowM B K w v l) (hB : B ≤ w.heap.size) (h2 : Mbs w N N' xv l2) (hN : ∀ b, N' b → (K b ∨ B ≤ b) ∧ b < w.heap.size ∧ v.ownBlock ≠ some b) (hl : l.length + l2.length ≤ 1000000000000)
    (hs : a.eval s = v) (hx : a.eval x = xv)
    (k : ∀ v' w', RowM B K w' v' (l ++ l2) → w.grownBy w' v.ownBlock → (v'.ownBlock = v.ownBlock ∨ v'.ownBlock = some w.heap.size) → (∃ aa cc, v' = .slice aa (l.length + l2.length) cc) → wpList Tryz.prog ops Q rest (a.put dst v') w') :
    wpList Tryz.prog ops Q (⟨dst, .call ⟨.builtin .append, #[s, x], #[35, 35]⟩, tp, pos, after, none⟩ :: rest) a w := by
  refine arm_appendV slMb h.own h2.rd (mcells_one (fun y hy => (h2.nd y hy).shape)) (by unfold maxLen; omega) (by omega) hB hs hx ?_
  intro v' w' ho hg hov _
  refine k v' w' (h.app (fun y hy => (h2.nd y hy).mono hN) ho hg hov) hg hov ?_
  obtain ⟨aa, cc, e, -⟩ := (ownsV_reads ho).shape
  exact ⟨aa, cc, e⟩
/-- a row that has grown: nothing below its base has changed -/
theorem RowM.chg {B : Nat} {K : Nat → Prop} {w w' : World} {v : Value} {l : List Mv} (h : RowM B K w v l) (hB : B ≤ w.heap.size) (hg : w.grownBy w' v.ownBlock) : Below B w w' :=
  (Chg.grown (M := NoM) (.refl _ _ _) hg hB (fun _k e => .inl (h.lt e).1)).below (fun _ _ h => h)
end Go.Proofs.YtplafpokgpolkaaGreatDoor
/- TreeSwap: two Members of a row are exchanged, in a region that draws its order. -/
namespace Go.Proofs.YtplafpokgpolkaaGreatDoor
open Go.RowKit
/-- the list xs with cs laid over it from j on -/
def layAt : List Value → Nat → List Value → List Value
  | xs, _, [] => xs
  | xs, j, v :: r => layAt (xs.set j v) (j + 1) r
theorem layAt_length : ∀ (cs xs : List Value) (j : Nat), (layAt xs j cs).length = xs.length
  | [], _, _ => rfl
  | v :: r, xs, j => by rw [layAt, layAt_length r, List.length_set]
theorem layAt_get : ∀ (cs xs : List Value) (j i : Nat), j + cs.length ≤ xs.length → (layAt xs j cs)[i]? = if j ≤ i ∧ i < j + cs.length then cs[i - j]? else xs[i]?
  | [], xs, j, i, h => by
    rw [layAt, if_neg (by simp)]
  | v :: r, xs, j, i, h => by
    rw [List.length_cons] at h
    rw [layAt, layAt_get r _ _ _ (by rw [List.length_set]; omega)]
    by_cases h1 : j + 1 ≤ i ∧ i < j + 1 + r.length
    · rw [if_pos h1, if_pos (by rw [List.length_cons]; omega), show i - j = (i - (j + 1)) + 1 by omega, List.getElem?_cons_succ]
    · rw [if_neg h1]
      by_cases h2 : i = j
      · subst h2
        rw [if_pos (by rw [List.length_cons]; omega), Nat.sub_self, List.getElem?_cons_zero, List.getElem?_set_self (by omega)]
      · rw [if_neg (by rw [List.length_cons]; omega), List.getElem?_set_ne (Ne.symm h2)]
theorem owns_setCells {base size g cap n : Nat} {e : TypeId} : ∀ (cs xs : List Value) (w : World) (j : Nat), w.ownsRow base e size (.slice (some ⟨g, 0, none⟩) n cap) n xs →
    (w.setCells g j cs).ownsRow base e size (.slice (some ⟨g, 0, none⟩) n cap) n (layAt xs j cs) ∧ w.grownBy (w.setCells g j cs) (some g)
  | [], xs, w, j, h => ⟨h, rfl, rfl, rfl, Nat.le_refl _, fun _ _ _ => rfl⟩
  | v :: r, xs, w, j, h => by
    obtain ⟨h1, g1⟩ := h.stored j v
    obtain ⟨h2, g2⟩ := owns_setCells r _ _ (j + 1) h1
    rw [World.setCells, layAt]
    exact ⟨h2, g2.os.trans g1.os, g2.tape.trans g1.tape, g2.output.trans g1.output, Nat.le_trans g1.size g2.size, fun k hk hne => (g2.block k (Nat.lt_of_lt_of_le hk g1.size) hne).trans (g1.block k hk hne)⟩
theorem mcells_at (l : List Mv) (i j : Nat) (hj : j < 9) : (mcells l)[i * 9 + j]? = (l[i]?).bind fun x => (mcell x).toList[j]? := by
  induction l generalizing i with
  | nil => simp [mcells]
  | cons x l ih =>
    rw [mcells_cons]
    cases i with
    | zero =>
      rw [Nat.zero_mul, Nat.zero_add, List.getElem?_append_left (by rw [mcell_len]; omega)]
      rfl
    | succ i =>
      rw [List.getElem?_append_right (by rw [mcell_len]; omega), mcell_len, show (i + 1) * 9 + j - 9 = i * 9 + j by omega, ih]
      rfl
theorem layAt_mcells (l : List Mv) (k : Nat) (x : Mv) (hk : k < l.length) : layAt (mcells l) (k * 9) (mcell x).toList = mcells (l.set k x) := by
  have hlen : ∀ l : List Mv, (mcells l).length = l.length * 9 := fun l => by
    induction l with
    | nil => rfl
    | cons y l ih => rw [mcells_cons, List.length_append, ih, mcell_len, List.length_cons]; omega
  refine List.ext_getElem? fun i => ?_
  rw [layAt_get _ _ _ _ (by rw [hlen, mcell_len]; omega), mcell_len]
  have hi : i = i / 9 * 9 + i % 9 := by omega
  by_cases h : k * 9 ≤ i ∧ i < k * 9 + 9
  · rw [if_pos h]
    have hd : i / 9 = k := by omega
    conv => rhs; rw [hi, mcells_at _ _ _ (Nat.mod_lt _ (by omega)), hd]
    rw [List.getElem?_set_self hk, show i - k * 9 = i % 9 by omega]
    rfl
  · rw [if_neg h]
    conv => lhs; rw [hi, mcells_at _ _ _ (Nat.mod_lt _ (by omega))]
    conv => rhs; rw [hi, mcells_at _ _ _ (Nat.mod_lt _ (by omega))]
    rw [List.getElem?_set_ne (by omega)]
theorem owns_setMb {base g cap n k : Nat} {w : World} {l : List Mv} (h : w.ownsRow base 32 9 (.slice (some ⟨g, 0, none⟩) n cap) n (mcells l)) (x : Mv) (hk : k < l.length) :
    (w.setCells g (k * 9) (mcell x).toList).ownsRow base 32 9 (.slice (some ⟨g, 0, none⟩) n cap) n (mcells (l.set k x)) ∧ w.grownBy (w.setCells g (k * 9) (mcell x).toList) (some g) := by
  have := owns_setCells (mcell x).toList _ w (k * 9) h
  rw [layAt_mcells l k x hk] at this
  exact this
theorem owns_there {base g cap n k : Nat} {w : World} {l : List Mv} (h : w.ownsRow base 32 9 (.slice (some ⟨g, 0, none⟩) n cap) n (mcells l)) (hn : n = l.length) (hk : k < l.length) : w.there g (k * 9) 9 := fun j hj => by
  refine ⟨?_, h.frozenAt _⟩
  rw [h.cellAt _ (by omega), mcells_at _ _ _ hj, List.getElem?_eq_getElem hk]
  show ((mcell l[k]).toList[j]?).isSome = true
  rw [List.getElem?_eq_getElem (by rw [mcell_len]; omega)]
  rfl
theorem mcell_one {w : World} {N : Nat → Prop} {x : Mv} (h : NdR w N x.1.2 x.2.1 x.2.2) : (mcell x).all (·.oneCell') = true := by
  obtain ⟨aa, la, ca, ad, ld, cd, e1, e2⟩ := h.shape
  unfold mcell mbC strV
  rw [e1, e2]
  simp [Value.oneCell']
theorem run_index {ρ : Operand → Value} {d : Option Tmp} {x y : Operand} {t : TypeId} {pos : String} {af : Array Edge} {g : Option (Nat × Bool)} {w : World} {b n cap k : Nat} (hx : ρ x = .slice (some ⟨b, 0, none⟩) n cap) (hy : ρ y = .int .i64 (k : Int)) (hk : k < n) :
    (execOp ρ (⟨d, .indexAddr 35 x y, t, pos, af, g⟩ : Oper)).run Tryz.prog w = .ok (.value (.pointer (some ⟨b, k * 9, none⟩))) w := by
  have he : Tryz.prog.elem 35 = 32 := by simp [Program.elem, Tryz.underlying35]
  have hs : ∀ w, (sizeOf 32).run Tryz.prog w = .ok 9 w := fun w => by kernel_rfl
  have h1 : (k : Int) < n := by omega
  simp [execOp, hx, hy, run_indexAt_slice (P := Tryz.prog) (w := w) (t := 35) (a := ⟨b, 0, none⟩) (len := n) (cap := cap) (k := .i64) (i := (k : Int)) (h := by rw [he]; exact Tryz.underlying35), he, hs, h1, Addr.add]
  exact Eq.symm
theorem run_swap {ρ : Operand → Value} {d : Option Tmp} {x y : Operand} {t : TypeId} {pos : String} {af : Array Edge} {g : Option (Nat × Bool)} {w : World} {b o : Nat} {m : Mv} (hx : ρ x = .pointer (some ⟨b, o, none⟩)) (hy : ρ y = .agg (mcell m)) (ht : w.there b o 9) (h1 : (mcell m).all (·.oneCell') = true) :
    (execOp ρ (⟨d, .store 32 x y, t, pos, af, g⟩ : Oper)).run Tryz.prog w = .ok .skip (w.setCells b o (mcell m).toList) := by
  have := run_storeAt_mid (P := Tryz.prog) w b o 32 (mcell m) ht aggM.i h1
  simp [execOp, hx, hy, this]
/-- what is said of each operation of the exchange: slots 178 .. 191 -/
def swT (sl pk pj : Value) (k j : Nat) (ck cj : Array Value) : Nat → Value → Prop
  | 0, v => v = sl
  | 1, v => v = .int .i64 (k : Int)
  | 2, v => v = sl
  | 3, v => v = .int .i64 (j : Int)
  | 4, v => v = sl
  | 5, v => v = .int .i64 (j : Int)
  | 6, v => v = pj
  | 7, v => v = .agg cj
  | 8, v => v = sl
  | 9, v => v = .int .i64 (k : Int)
  | 10, v => v = pk
  | 11, v => v = .agg ck
  | 12, v => v = pk
  | 14, v => v = pj
  | _, _ => True
def swD (i : Nat) : Nat := if i < 13 then 178 + i else if i = 14 then 191 else 0
/-- .. and of the memory -/
def swI (sl pk pj : Value) (k j : Nat) (ck cj : Array Value) (W0 W1 W2 : World) (done : Array Bool) (s : Nat → Value) (w : World) : Prop :=
  (∀ i, i < 16 → done.getD i false = true → swT sl pk pj k j ck cj i (s (swD i))) ∧ w = if done.getD 15 false then W2 else if done.getD 13 false then W1 else W0
theorem swD_inj {i j : Nat} (_hi : i < 13 ∨ i = 14) (hj : j < 13 ∨ j = 14) (h : swD i = swD j) : i = j := by
  unfold swD at h
  split at h <;> split at h <;> (try split at h) <;> (try split at h) <;> omega
theorem swI.put {sl pk pj : Value} {k j : Nat} {ck cj : Array Value} {W0 W1 W2 : World} {done : Array Bool} {s s' : Nat → Value} {w : World} (h : swI sl pk pj k j ck cj W0 W1 W2 done s w) (i : Nat) {v : Value} (hi : i < 13 ∨ i = 14) (hv : s' (swD i) = v) (hs : ∀ q, q ≠ swD i → s' q = s q) (hT : swT sl pk pj k j ck cj i v) :
    swI sl pk pj k j ck cj W0 W1 W2 (done.setIfInBounds i true) s' w := by
  have hne : ∀ q, q ≠ i → (done.setIfInBounds i true).getD q false = done.getD q false := fun q hq => by
    simp [Array.getD_eq_getD_getElem?, Array.getElem?_setIfInBounds_ne (Ne.symm hq)]
  refine ⟨fun q hq hd => ?_, ?_⟩
  · by_cases e : q = i
    · subst e; rw [hv]; exact hT
    · rw [hne q e] at hd
      have := h.1 q hq hd
      rcases (by omega : (q < 13 ∨ q = 14) ∨ q = 13 ∨ q = 15) with hc | rfl | rfl
      · rw [hs _ (fun e2 => e (swD_inj hc hi e2))]; exact this
      · trivial
      · trivial
  · rw [hne 15 (by omega), hne 13 (by omega)]; exact h.2
theorem swI.at {sl pk pj : Value} {k j : Nat} {ck cj : Array Value} {W0 W1 W2 : World} {done : Array Bool} {s : Nat → Value} {w : World} (h : swI sl pk pj k j ck cj W0 W1 W2 done s w) (i : Nat) (hi : i < 16) (hd : done.getD i false = true) : swT sl pk pj k j ck cj i (s (swD i)) := h.1 i hi hd
theorem swI.store {sl pk pj : Value} {k j : Nat} {ck cj : Array Value} {W0 W1 W2 : World} {done : Array Bool} {s : Nat → Value} {w w' : World} (h : swI sl pk pj k j ck cj W0 W1 W2 done s w) (i : Nat) (hi : i = 13 ∧ w' = W1 ∧ done.getD 15 false = false ∨ i = 15 ∧ w' = W2) (hz : done.size = 16) :
    swI sl pk pj k j ck cj W0 W1 W2 (done.setIfInBounds i true) s w' := by
  have hne : ∀ q, q ≠ i → (done.setIfInBounds i true).getD q false = done.getD q false := fun q hq => by
    simp [Array.getD_eq_getD_getElem?, Array.getElem?_setIfInBounds_ne (Ne.symm hq)]
  have hii : (done.setIfInBounds i true).getD i false = true := by
    have : i < done.size := by rcases hi with ⟨rfl, _⟩ | ⟨rfl, _⟩ <;> omega
    simp [Array.getD_eq_getD_getElem?, this]
  refine ⟨fun q hq hd => ?_, ?_⟩
  · by_cases e : q = i
    · rcases hi with ⟨rfl, _⟩ | ⟨rfl, _⟩ <;> subst e <;> trivial
    · rw [hne q e] at hd; exact h.1 q hq hd
  · rcases hi with ⟨rfl, rfl, h15⟩ | ⟨rfl, rfl⟩
    · rw [hne 15 (by omega), h15, hii]; rfl
    · rw [hii]; rfl
/-- an operation that yields no value, in a region seen by its frame -/
theorem fr_skip {P : Program} {ops : Array Oper} {Q : Exit → Act → World → Prop} {a a1 : Act} {ds : List Nat} {I : Array Bool → (Nat → Value) → World → Prop} {done : Array Bool} {w w' : World} {i : Nat} {op : Op} {tp : TypeId} {pos : String} {af : Array Edge}
    (hf : Fr a ds a1) (hi : ops[i]? = some ⟨none, op, tp, pos, af, none⟩) (hr : (execOp a1.eval (⟨none, op, tp, pos, af, none⟩ : Oper)).run P w = .ok .skip w') (hI : I (done.setIfInBounds i true) (slot a1) w') :
    wpOp P ops Q i (fun a2 w2 => Fr a ds a2 ∧ I (done.setIfInBounds i true) (slot a2) w2) a1 w := by
  unfold wpOp
  rw [hi]
  simp only
  rw [if_pos (by simp [Region.wanted])]
  refine .inl ?_
  unfold Oper.wp
  rw [hr]
  exact ⟨hf, hI⟩
theorem ready_wait {ops : Array Oper} {done : Array Bool} {i j : Nat} (hi : i ∈ Region.ready .any ops done) (h : Region.waitsFor .any ops i j = true) : done.getD j false = true := by
  have hlt := ready_lt hi
  obtain ⟨e, he1, he2, he3⟩ := waits_of (Array.getElem?_eq_getElem hlt) h
  have hdn := (ready_at hi (Array.getElem?_eq_getElem hlt)).2 e he1 he2
  rw [he3] at hdn
  exact hdn
theorem ready_un {ops : Array Oper} {done : Array Bool} {i : Nat} (hi : i ∈ Region.ready .any ops done) : done.getD i false = false :=
  getD_both (ready_at hi (Array.getElem?_eq_getElem (ready_lt hi))).1
/-- what waits for an operation that has not run has not run -/
theorem closed_un {ops : Array Oper} {done : Array Bool} {i j : Nat} (hc : Closed ops done) (hj : j < ops.size) (hi : done.getD i false = false) (h : Region.waitsFor .any ops j i = true) : done.getD j false = false := by
  cases hd : done.getD j false with
  | false => rfl
  | true =>
    obtain ⟨e, he1, he2, he3⟩ := waits_of (Array.getElem?_eq_getElem hj) h
    have := hc j _ (Array.getElem?_eq_getElem hj) hd e he1 he2
    rw [he3, hi] at this
    cases this
theorem own_load {ρ : Operand → Value} {d : Option Tmp} {x : Operand} {t : TypeId} {pos : String} {af : Array Edge} {gd : Option (Nat × Bool)} {base g cap n k : Nat} {w : World} {l : List Mv} (h : w.ownsRow base 32 9 (.slice (some ⟨g, 0, none⟩) n cap) n (mcells l)) (hn : n = l.length) (hk : k < l.length) (hx : ρ x = .pointer (some ⟨g, k * 9, none⟩)) :
    (execOp ρ (⟨d, .load 32 x, t, pos, af, gd⟩ : Oper)).run Tryz.prog w = .ok (.value (.agg (mcell l[k]))) w := by
  have := run_loadAt_mid (P := Tryz.prog) w g (k * 9) 32 (mcell l[k]).toList _ (fun j z hj => by
    have hlt := (List.getElem?_eq_some_iff.1 hj).1
    rw [mcell_len] at hlt
    rw [h.cellAt _ (by omega), mcells_at _ _ _ hlt, List.getElem?_eq_getElem hk]
    exact hj) Tryz.underlying32 rfl (by rw [mcell_len]; exact aggM.i)
  simp [execOp, hx, this]
end Go.Proofs.YtplafpokgpolkaaGreatDoor
/- strings.Compare's order, plainly. -/
namespace Go.Proofs.YtplafpokgpolkaaGreatDoor
def cmpS (a b : Tx) : Int := if a < b then -1 else if b < a then 1 else 0
theorem compare_is : ∀ a b : Tx, Go.Lib.compareBytes a b = cmpS a b
  | [], [] => by unfold cmpS; rw [if_neg (tx_irrefl _), if_neg (tx_irrefl _)]; rfl
  | [], b :: r => by unfold cmpS; rw [if_pos (List.nil_lt_cons b r)]; rfl
  | a :: s, [] => by unfold cmpS; rw [if_neg (List.not_lt_nil _), if_pos (List.nil_lt_cons a s)]; rfl
  | a :: s, b :: r => by
    have ih := compare_is s r
    unfold cmpS at ih ⊢
    rw [Go.Lib.compareBytes, ih]
    simp only [List.cons_lt_cons_iff]
    by_cases h1 : a < b
    · rw [if_pos h1, if_pos (.inl h1)]
    · rw [if_neg h1]
      by_cases h2 : b < a
      · rw [if_pos h2, if_neg, if_pos (.inl h2)]
        rintro (h | ⟨h, -⟩)
        · exact h1 h
        · rw [h] at h2; exact UInt8.lt_irrefl _ h2
      · have e : a = b := UInt8.le_antisymm (UInt8.not_lt.1 h2) (UInt8.not_lt.1 h1)
        subst e
        rw [if_neg h2]
        by_cases h3 : s < r
        · rw [if_pos h3, if_pos (.inr ⟨rfl, h3⟩)]
        · have n3 : ¬ (a < a ∨ a = a ∧ s < r) := fun h => h.elim h1 (fun g => h3 g.2)
          by_cases h4 : r < s
          · rw [if_neg h3, if_pos h4, if_neg n3, if_pos (.inr ⟨rfl, h4⟩)]
          · rw [if_neg h3, if_neg h4, if_neg n3, if_neg (fun h => h.elim h1 (fun g => h4 g.2))]
end Go.Proofs.YtplafpokgpolkaaGreatDoor
/- A STABLE SORT's merge in place, plainly: where two sorted runs are cut; what is sorted behind it. -/
namespace Go.Proofs.YtplafpokgpolkaaGreatDoor
section
variable {α : Type} {lt : α → α → Prop}
/-- a thing put where it belongs -/
theorem ins_at {l : List α} {x : α} {i : Nat} (hs : l.Pairwise lt) (h1 : ∀ j, (hj : j < i) → (hl : j < l.length) → lt l[j] x) (h2 : ∀ j, i ≤ j → (hl : j < l.length) → lt x l[j]) : (l.take i ++ x :: l.drop i).Pairwise lt ∧ (l.take i ++ x :: l.drop i).Perm (x :: l) := by
  have hp := hs
  rw [← List.take_append_drop i l, List.pairwise_append] at hp
  refine ⟨List.pairwise_append.2 ⟨hp.1, List.pairwise_cons.2 ⟨fun y hy => ?_, hp.2.1⟩, fun a ha b hb => ?_⟩, ?_⟩
  · obtain ⟨j, hj, rfl⟩ := List.mem_iff_getElem.1 hy
    rw [List.getElem_drop]
    exact h2 _ (by omega) _
  · rcases List.mem_cons.1 hb with rfl | hb
    · obtain ⟨j, hj, rfl⟩ := List.mem_iff_getElem.1 ha
      rw [List.length_take] at hj
      rw [List.getElem_take]
      exact h1 j (by omega) (by omega)
    · exact hp.2.2 a ha b hb
  · refine List.perm_middle.trans ?_
    rw [List.take_append_drop]
/-- all up to one that is less are less -/
theorem less_to (ht : ∀ {a b c : α}, lt a b → lt b c → lt a c) {l : List α} (hs : l.Pairwise lt) {x : α} {h : Nat} (hh : h < l.length) (hx : lt l[h] x) {k : Nat} (hk : k ≤ h) : lt (l[k]'(by omega)) x := by
  rcases Nat.lt_or_eq_of_le hk with hk | rfl
  · exact ht ((List.pairwise_iff_getElem.1 hs) k h (by omega) hh hk) hx
  · exact hx
theorem more_from (ht : ∀ {a b c : α}, lt a b → lt b c → lt a c) {l : List α} (hs : l.Pairwise lt) {x : α} {h : Nat} (hh : h < l.length) (hx : lt x l[h]) {k : Nat} (hk : h ≤ k) (hl : k < l.length) : lt x l[k] := by
  rcases Nat.lt_or_eq_of_le hk with hk | rfl
  · exact ht hx ((List.pairwise_iff_getElem.1 hs) h k hh hl hk)
  · exact hx
/-- what the search finds: c is one of those that go to the first half just if what stands as far from the other end does not come ahead of it -/
structure Cut (D : Nat → α) (lt : α → α → Prop) (p s0 r0 s : Nat) : Prop where
  lo : s0 ≤ s
  hi : s ≤ r0
  a : ∀ c, s0 ≤ c → c < s → lt (D c) (D (p - c))
  b : ∀ c, s ≤ c → c < r0 → lt (D (p - c)) (D c)
/-- the halves: all that comes into the first one is less than all that comes into the second one -/
theorem cut_halves (ht : ∀ {a b c : α}, lt a b → lt b c → lt a c) {D : Nat → α} {a m b mid s : Nat} (hmid : mid = (a + b) / 2) (_ham : a < m) (hmb : m < b)
    (hX : ∀ i j, a ≤ i → i < j → j < m → lt (D i) (D j)) (hY : ∀ i j, m ≤ i → i < j → j < b → lt (D i) (D j))
    (hc : Cut D lt (mid + m - 1) (if mid < m then mid + m - b else a) (if mid < m then mid else m) s) :
    a ≤ s ∧ s ≤ m ∧ m ≤ mid + m - s ∧ mid + m - s ≤ b ∧ ∀ i j, ((a ≤ i ∧ i < s) ∨ (m ≤ i ∧ i < mid + m - s)) → ((s ≤ j ∧ j < m) ∨ (mid + m - s ≤ j ∧ j < b)) → lt (D i) (D j) := by
  obtain ⟨lo, hi, ha, hb⟩ := hc
  have g1 : a ≤ s ∧ s ≤ m ∧ m ≤ mid + m - s ∧ mid + m - s ≤ b := by
    split at lo <;> split at hi <;> omega
  have h1 : a < s → mid + m - s < b → lt (D (s - 1)) (D (mid + m - s)) := fun e1 e2 => by
    have := ha (s - 1) (by split <;> omega) (by omega)
    rwa [show mid + m - 1 - (s - 1) = mid + m - s by omega] at this
  have h2 : m < mid + m - s → s < m → lt (D (mid + m - s - 1)) (D s) := fun e1 e2 => by
    have := hb s (Nat.le_refl _) (by split <;> omega)
    rwa [show mid + m - 1 - s = mid + m - s - 1 by omega] at this
  refine ⟨g1.1, g1.2.1, g1.2.2.1, g1.2.2.2, fun i j hi hj => ?_⟩
  have le1 : ∀ i k, a ≤ i → i ≤ k → k < m → i = k ∨ lt (D i) (D k) := fun i k e1 e2 e3 => by
    rcases Nat.lt_or_eq_of_le e2 with e | e
    · exact .inr (hX i k e1 e e3)
    · exact .inl e
  have le2 : ∀ i k, m ≤ i → i ≤ k → k < b → i = k ∨ lt (D i) (D k) := fun i k e1 e2 e3 => by
    rcases Nat.lt_or_eq_of_le e2 with e | e
    · exact .inr (hY i k e1 e e3)
    · exact .inl e
  have chain : ∀ {x y z u : Nat}, (x = y ∨ lt (D x) (D y)) → lt (D y) (D z) → (z = u ∨ lt (D z) (D u)) → lt (D x) (D u) := by
    intro x y z u e1 e2 e3
    have e4 : lt (D x) (D z) := by
      rcases e1 with rfl | e1
      · exact e2
      · exact ht e1 e2
    rcases e3 with rfl | e3
    · exact e4
    · exact ht e4 e3
  rcases hi with ⟨i1, i2⟩ | ⟨i1, i2⟩ <;> rcases hj with ⟨j1, j2⟩ | ⟨j1, j2⟩
  · exact hX i j i1 (by omega) j2
  · exact chain (le1 i (s - 1) i1 (by omega) (by omega)) (h1 (by omega) (by omega)) (le2 (mid + m - s) j g1.2.2.1 j1 j2)
  · exact chain (le2 i (mid + m - s - 1) i1 (by omega) (by omega)) (h2 (by omega) (by omega)) (le1 s j g1.1 j1 j2)
  · exact hY i j i1 (by omega) j2
/-- one step of that search -/
theorem cut_left (ht : ∀ {a b c : α}, lt a b → lt b c → lt a c) {D : Nat → α} {a m b p s0 c : Nat} (hX : ∀ i j, a ≤ i → i < j → j < m → lt (D i) (D j)) (hY : ∀ i j, m ≤ i → i < j → j < b → lt (D i) (D j))
    (h0 : a ≤ s0) (hcm : c < m) (hpc : m ≤ p - c) (hps : p - s0 < b) (hc : s0 ≤ c) (h : lt (D c) (D (p - c))) : ∀ k, s0 ≤ k → k < c + 1 → lt (D k) (D (p - k)) := by
  intro k hk hkc
  rcases Nat.lt_or_eq_of_le (Nat.le_of_lt_succ hkc) with e | rfl
  · exact ht (ht (hX k c (by omega) e hcm) h) (hY (p - c) (p - k) hpc (by omega) (by omega))
  · exact h
theorem cut_right (ht : ∀ {a b c : α}, lt a b → lt b c → lt a c) {D : Nat → α} {a m b p r0 c : Nat} (hX : ∀ i j, a ≤ i → i < j → j < m → lt (D i) (D j)) (hY : ∀ i j, m ≤ i → i < j → j < b → lt (D i) (D j))
    (h0 : a ≤ c) (hr : r0 ≤ m) (hpr : ∀ k, k < r0 → m ≤ p - k) (hpc : p - c < b) (h : lt (D (p - c)) (D c)) : ∀ k, c ≤ k → k < r0 → lt (D (p - k)) (D k) := by
  intro k hk hkr
  rcases Nat.lt_or_eq_of_le hk with e | rfl
  · have := hpr k hkr
    exact ht (ht (hY (p - k) (p - c) this (by omega) hpc) h) (hX c k h0 e (by omega))
  · exact h
end
end Go.Proofs.YtplafpokgpolkaaGreatDoor
/- A STABLE SORT, plainly: numbered things, sorted by keys and then by numbers, are the stable sort. -/
namespace Go.Proofs.YtplafpokgpolkaaGreatDoor
section
variable {α : Type} (k : α → Tx)
/-- by keys; of one key by numbers -/
def lxT (x y : α × Nat) : Prop := k x.1 < k y.1 ∨ (k x.1 = k y.1 ∧ x.2 < y.2)
variable {k}
theorem lxT.trans {x y z : α × Nat} (h : lxT k x y) (g : lxT k y z) : lxT k x z := by
  rcases h with h | ⟨h1, h2⟩ <;> rcases g with g | ⟨g1, g2⟩
  · exact .inl (tx_trans h g)
  · exact .inl (g1 ▸ h)
  · exact .inl (h1 ▸ g)
  · exact .inr ⟨h1.trans g1, Nat.lt_trans h2 g2⟩
theorem lxT.irr {x : α × Nat} (h : lxT k x x) : False := by
  rcases h with h | ⟨_, h⟩
  · exact tx_irrefl _ h
  · exact Nat.lt_irrefl _ h
/-- of a thing with a greater number: its key alone tells whether it comes ahead -/
theorem lxT_key {x y : α × Nat} (h : x.2 < y.2) : lxT k y x ↔ k y.1 < k x.1 := by
  constructor
  · rintro (h1 | ⟨_, h1⟩)
    · exact h1
    · omega
  · exact .inl
theorem lxT_not {x y : α × Nat} (h : x.2 < y.2) : ¬ k y.1 < k x.1 → lxT k x y := fun h1 => by
  rcases tx_tri (k x.1) (k y.1) with e | e | e
  · exact .inl e
  · exact .inr ⟨e, h⟩
  · exact (h1 e).elim
def leK (k : α → Tx) (x y : α) : Bool := decide (k x ≤ k y)
theorem lx_le {x y : α × Nat} (h : lxT k x y) : List.zipIdxLE (leK k) x y = true := by
  unfold List.zipIdxLE leK
  rcases h with h | ⟨h1, h2⟩
  · rw [if_pos (by simpa using List.le_of_lt h), if_neg (by simpa using h)]
  · rw [if_pos (by rw [h1]; simp), if_pos (by rw [h1]; simp)]
    exact decide_eq_true (Nat.le_of_lt h2)
theorem tagged_sort {l : List α} {T : List (α × Nat)} (hp : T.Perm l.zipIdx) (hs : T.Pairwise (lxT k)) : T.map (·.1) = l.mergeSort (leK k) := by
  have ht : ∀ a b c : α, leK k a b = true → leK k b c = true → leK k a c = true := fun a b c h1 h2 => decide_eq_true (List.le_trans (of_decide_eq_true h1) (of_decide_eq_true h2))
  have hto : ∀ a b : α, (leK k a b || leK k b a) = true := fun a b => by
    rcases List.le_total (k a) (k b) with e | e
    · simp [leK, e]
    · simp [leK, e]
  rw [← List.mergeSort_zipIdx]
  congr 1
  have h1 := List.pairwise_mergeSort (le := List.zipIdxLE (leK k)) (List.zipIdxLE_trans ht) (List.zipIdxLE_total hto) l.zipIdx
  have h2 := List.mergeSort_perm l.zipIdx (List.zipIdxLE (leK k))
  have h3 : T.Pairwise (fun a b => List.zipIdxLE (leK k) a b = true) := hs.imp lx_le
  refine List.Perm.eq_of_pairwise (le := fun a b => List.zipIdxLE (leK k) a b = true) (fun a b ha hb e1 e2 => ?_) h3 h1 (hp.trans h2.symm)
  have ha : a ∈ l.zipIdx := hp.mem_iff.1 ha
  have hb : b ∈ l.zipIdx := h2.mem_iff.1 hb
  have he : a.2 = b.2 := by
    unfold List.zipIdxLE at e1 e2
    split at e1
    · rename_i g1
      rw [if_pos g1] at e2
      split at e1
      · rename_i g2
        rw [if_pos g2] at e2
        have := of_decide_eq_true e1
        have := of_decide_eq_true e2
        omega
      · rename_i g2
        rw [if_neg g2] at e2
        cases e2
    · cases e1
  obtain ⟨i, hi⟩ := List.mem_iff_getElem?.1 ha
  obtain ⟨j, hj⟩ := List.mem_iff_getElem?.1 hb
  rw [List.getElem?_zipIdx] at hi hj
  cases h5 : l[i]? with
  | none => rw [h5] at hi; cases hi
  | some u =>
    cases h6 : l[j]? with
    | none => rw [h6] at hj; cases hj
    | some v =>
      rw [h5] at hi
      rw [h6] at hj
      injection hi with hi
      injection hj with hj
      subst hi hj
      have : i = j := by simpa using he
      subst this
      rw [h5] at h6
      injection h6 with h6
      rw [h6]
end
end Go.Proofs.YtplafpokgpolkaaGreatDoor
/- A STABLE SORT over an array, plainly: insertion of numbered things; rotations; the merge in place; blocks. -/
namespace Go.Proofs.YtplafpokgpolkaaGreatDoor
open Go.Sort
section
variable {α : Type}
/-- two stretches of one length exchanged -/
def swR (D : Nat → α) (a b n k : Nat) : α := if a ≤ k ∧ k < a + n then D (k + (b - a)) else if b ≤ k ∧ k < b + n then D (k - (b - a)) else D k
/-- whence a rotation takes what comes to k -/
def rotX (lo m hi k : Nat) : Nat := if lo ≤ k ∧ k < lo + (hi - m) then k + (m - lo) else if lo + (hi - m) ≤ k ∧ k < hi then k - (hi - m) else k
theorem swR_zero (D : Nat → α) (a b k : Nat) : swR D a b 0 k = D k := by
  unfold swR
  rw [if_neg (by omega), if_neg (by omega)]
theorem rotX_is (lo m hi k : Nat) : ((lo ≤ k ∧ k < lo + (hi - m)) ∧ rotX lo m hi k = k + (m - lo)) ∨ (¬ (lo ≤ k ∧ k < lo + (hi - m)) ∧ (lo + (hi - m) ≤ k ∧ k < hi) ∧ rotX lo m hi k = k - (hi - m)) ∨ (¬ (lo ≤ k ∧ k < lo + (hi - m)) ∧ ¬ (lo + (hi - m) ≤ k ∧ k < hi) ∧ rotX lo m hi k = k) := by
  unfold rotX
  split
  · exact .inl ⟨by assumption, rfl⟩
  · split
    · exact .inr (.inl ⟨by assumption, by assumption, rfl⟩)
    · exact .inr (.inr ⟨by assumption, by assumption, rfl⟩)
theorem swR_is (D : Nat → α) (a b n k : Nat) : ∃ x, swR D a b n k = D x ∧ (((a ≤ k ∧ k < a + n) ∧ x = k + (b - a)) ∨ (¬ (a ≤ k ∧ k < a + n) ∧ (b ≤ k ∧ k < b + n) ∧ x = k - (b - a)) ∨ (¬ (a ≤ k ∧ k < a + n) ∧ ¬ (b ≤ k ∧ k < b + n) ∧ x = k)) := by
  unfold swR
  split
  · exact ⟨_, rfl, .inl ⟨by assumption, rfl⟩⟩
  · split
    · exact ⟨_, rfl, .inr (.inl ⟨by assumption, by assumption, rfl⟩)⟩
    · exact ⟨_, rfl, .inr (.inr ⟨by assumption, by assumption, rfl⟩)⟩
theorem rot_step1 (D : Nat → α) {i j m : Nat} (hj : j < i) (hi : i ≤ m) (k : Nat) : swR D (m - i) m j (rotX (m - (i - j)) m (m + j) k) = D (rotX (m - i) m (m + j) k) := by
  have h1 := rotX_is (m - (i - j)) m (m + j) k
  have h2 := rotX_is (m - i) m (m + j) k
  obtain ⟨x, hx, h3⟩ := swR_is D (m - i) m j (rotX (m - (i - j)) m (m + j) k)
  rw [hx]
  congr 1
  omega
theorem rot_step2 (D : Nat → α) {i j m : Nat} (hj : i < j) (hi : i ≤ m) (k : Nat) : swR D (m - i) (m + j - i) i (rotX (m - i) m (m + (j - i)) k) = D (rotX (m - i) m (m + j) k) := by
  have h1 := rotX_is (m - i) m (m + (j - i)) k
  have h2 := rotX_is (m - i) m (m + j) k
  obtain ⟨x, hx, h3⟩ := swR_is D (m - i) (m + j - i) i (rotX (m - i) m (m + (j - i)) k)
  rw [hx]
  congr 1
  omega
theorem rot_end (D : Nat → α) {i m : Nat} (hi : i ≤ m) (k : Nat) : swR D (m - i) m i k = D (rotX (m - i) m (m + i) k) := by
  have h2 := rotX_is (m - i) m (m + i) k
  obtain ⟨x, hx, h3⟩ := swR_is D (m - i) m i k
  rw [hx]
  congr 1
  omega
/-- rising from a up to b -/
def Inc (lt : α → α → Prop) (D : Nat → α) (a b : Nat) : Prop := ∀ i j, a ≤ i → i < j → j < b → lt (D i) (D j)
variable {lt : α → α → Prop}
theorem Inc.sub {D : Nat → α} {a b a' b' : Nat} (h : Inc lt D a b) (h1 : a ≤ a') (h2 : b' ≤ b) : Inc lt D a' b' := fun i j e1 e2 e3 => h i j (by omega) e2 (by omega)
theorem Inc.cross {D : Nat → α} {a m b : Nat} (h1 : Inc lt D a m) (h2 : Inc lt D m b) (h : ∀ i j, a ≤ i → i < m → m ≤ j → j < b → lt (D i) (D j)) : Inc lt D a b := fun i j e1 e2 e3 => by
  by_cases g1 : j < m
  · exact h1 i j e1 e2 g1
  · by_cases g2 : m ≤ i
    · exact h2 i j g2 e2 e3
    · exact h i j e1 (by omega) (by omega) e3
/-- one thing ahead of a run, put where it belongs -/
theorem sym_left {D D' : Nat → α} {a b i : Nat} (hY : Inc lt D (a + 1) b) (hi : a + 1 ≤ i) (hib : i ≤ b) (h1 : ∀ h, a + 1 ≤ h → h < i → lt (D h) (D a)) (h2 : ∀ h, i ≤ h → h < b → lt (D a) (D h))
    (hD : ∀ k, D' k = if a ≤ k ∧ k + 1 < i then D (k + 1) else if k + 1 = i then D a else D k) : Inc lt D' a b := fun x y e1 e2 e3 => by
  rw [hD, hD]
  split
  · split
    · exact hY _ _ (by omega) (by omega) (by omega)
    · split
      · exact h1 _ (by omega) (by omega)
      · exact hY _ _ (by omega) (by omega) (by omega)
  · split
    · rw [if_neg (by omega), if_neg (by omega)]
      exact h2 _ (by omega) e3
    · rw [if_neg (by omega), if_neg (by omega)]
      exact hY _ _ (by omega) (by omega) (by omega)
/-- one thing behind a run, put where it belongs -/
theorem sym_right {D D' : Nat → α} {a m i : Nat} (hX : Inc lt D a m) (hi : a ≤ i) (him : i ≤ m) (h1 : ∀ h, a ≤ h → h < i → lt (D h) (D m)) (h2 : ∀ h, i ≤ h → h < m → lt (D m) (D h))
    (hD : ∀ k, D' k = if k = i then D m else if i < k ∧ k ≤ m then D (k - 1) else D k) : Inc lt D' a (m + 1) := fun x y e1 e2 e3 => by
  rw [hD, hD]
  split
  · rw [if_neg (by omega), if_pos (by omega)]
    exact h2 _ (by omega) (by omega)
  · split
    · rw [if_neg (by omega), if_pos (by omega)]
      exact hX _ _ (by omega) (by omega) (by omega)
    · split
      · exact h1 _ (by omega) (by omega)
      · split
        · exact hX _ _ (by omega) (by omega) (by omega)
        · exact hX _ _ (by omega) (by omega) (by omega)
/-- behind the cut and the rotation: four runs; what is in the first half is less than what is in the second -/
theorem sym_halves (ht : ∀ {a b c : α}, lt a b → lt b c → lt a c) {D D1 : Nat → α} {a m b mid s : Nat} (hmid : mid = (a + b) / 2) (ham : a < m) (hmb : m < b)
    (hX : Inc lt D a m) (hY : Inc lt D m b) (hc : Cut D lt (mid + m - 1) (if mid < m then mid + m - b else a) (if mid < m then mid else m) s)
    (hD : ∀ k, D1 k = D (rotX s m (mid + m - s) k)) (t : α → Nat) (hT : ∀ i j, a ≤ i → i < m → m ≤ j → j < b → t (D i) < t (D j)) :
    (a ≤ s ∧ s ≤ m ∧ m ≤ mid + m - s ∧ mid + m - s ≤ b ∧ s ≤ mid ∧ mid ≤ mid + m - s) ∧ Inc lt D1 a s ∧ Inc lt D1 s mid ∧ Inc lt D1 mid (mid + m - s) ∧ Inc lt D1 (mid + m - s) b ∧ (∀ i j, a ≤ i → i < mid → mid ≤ j → j < b → lt (D1 i) (D1 j)) ∧
    (∀ i j, a ≤ i → i < s → s ≤ j → j < mid → t (D1 i) < t (D1 j)) ∧ (∀ i j, mid ≤ i → i < mid + m - s → mid + m - s ≤ j → j < b → t (D1 i) < t (D1 j)) := by
  obtain ⟨g1, g2, g3, g4, g5⟩ := cut_halves (D := D) (lt := lt) ht hmid ham hmb hX hY hc
  have g6 : s ≤ mid ∧ mid ≤ mid + m - s := by omega
  have f1 : ∀ k, k < s → D1 k = D k := fun k h => by rw [hD]; unfold rotX; rw [if_neg (by omega), if_neg (by omega)]
  have f2 : ∀ k, s ≤ k → k < mid → D1 k = D (k + (m - s)) := fun k h h' => by rw [hD]; unfold rotX; rw [if_pos (by omega)]
  have f3 : ∀ k, mid ≤ k → k < mid + m - s → D1 k = D (k - (mid - s)) := fun k h h' => by
    rw [hD]; unfold rotX; rw [if_neg (by omega), if_pos (by omega)]; congr 1; omega
  have f4 : ∀ k, mid + m - s ≤ k → D1 k = D k := fun k h => by rw [hD]; unfold rotX; rw [if_neg (by omega), if_neg (by omega)]
  refine ⟨⟨g1, g2, g3, g4, g6.1, g6.2⟩, fun i j e1 e2 e3 => ?_, fun i j e1 e2 e3 => ?_, fun i j e1 e2 e3 => ?_, fun i j e1 e2 e3 => ?_, fun i j e1 e2 e3 e4 => ?_, fun i j e1 e2 e3 e4 => ?_, fun i j e1 e2 e3 e4 => ?_⟩
  · rw [f1 _ (by omega), f1 _ e3]; exact hX _ _ e1 e2 (by omega)
  · rw [f2 _ e1 (by omega), f2 _ (by omega) e3]; exact hY _ _ (by omega) (by omega) (by omega)
  · rw [f3 _ e1 (by omega), f3 _ (by omega) e3]; exact hX _ _ (by omega) (by omega) (by omega)
  · rw [f4 _ e1, f4 _ (by omega)]; exact hY _ _ (by omega) e2 e3
  · have hi : ∃ i', D1 i = D i' ∧ ((a ≤ i' ∧ i' < s) ∨ (m ≤ i' ∧ i' < mid + m - s)) := by
      by_cases h : i < s
      · exact ⟨i, f1 _ h, .inl ⟨e1, h⟩⟩
      · exact ⟨_, f2 _ (by omega) e2, .inr (by omega)⟩
    have hj : ∃ j', D1 j = D j' ∧ ((s ≤ j' ∧ j' < m) ∨ (mid + m - s ≤ j' ∧ j' < b)) := by
      by_cases h : j < mid + m - s
      · exact ⟨_, f3 _ e3 h, .inl (by omega)⟩
      · exact ⟨j, f4 _ (by omega), .inr (by omega)⟩
    obtain ⟨i', hi1, hi2⟩ := hi
    obtain ⟨j', hj1, hj2⟩ := hj
    rw [hi1, hj1]
    exact g5 i' j' hi2 hj2
  · rw [f1 _ e2, f2 _ e3 e4]; exact hT _ _ e1 (by omega) (by omega) (by omega)
  · rw [f3 _ e1 e2, f4 _ e3]; exact hT _ _ (by omega) (by omega) (by omega) e4
end
section
variable {α : Type} [Inhabited α]
/-- an array by its places -/
def at' (d : Array α) (k : Nat) : α := d[k]!
theorem swp_at (d : Array α) {i j : Nat} (hi : i < d.size) (hj : j < d.size) (k : Nat) : at' (swp d i j) k = if k = j then at' d i else if k = i then at' d j else at' d k := swp_get d hi hj k
theorem swR_step {d d' : Array α} {a b n : Nat} (hab : a + n + 1 ≤ b) (hb : b + n < d'.size) (h : ∀ k, at' d' k = swR (at' d) a b n k) (k : Nat) : at' (swp d' (a + n) (b + n)) k = swR (at' d) a b (n + 1) k := by
  rw [swp_at d' (by omega) hb, h, h, h]
  unfold swR
  by_cases e1 : k = b + n
  · subst e1
    rw [if_pos rfl, if_neg (by omega), if_neg (by omega), if_neg (by omega), if_pos (by omega)]
    congr 1; omega
  · rw [if_neg e1]
    by_cases e2 : k = a + n
    · subst e2
      rw [if_pos rfl, if_neg (by omega), if_neg (by omega), if_pos (by omega)]
      congr 1; omega
    · rw [if_neg e2]
      obtain ⟨x, hx, h1⟩ := swR_is (at' d) a b n k
      obtain ⟨y, hy, h2⟩ := swR_is (at' d) a b (n + 1) k
      unfold swR at hx hy
      rw [hx, hy]
      congr 1
      omega
theorem left_step {d d' : Array α} {a k : Nat} (hak : a ≤ k) (hk : k + 1 < d'.size) (h : ∀ x, at' d' x = if a ≤ x ∧ x < k then at' d (x + 1) else if x = k then at' d a else at' d x) (x : Nat) :
    at' (swp d' k (k + 1)) x = if a ≤ x ∧ x < k + 1 then at' d (x + 1) else if x = k + 1 then at' d a else at' d x := by
  rw [swp_at d' (by omega) hk, h, h, h]
  by_cases e1 : x = k + 1
  · subst e1
    rw [if_pos rfl, if_neg (by omega), if_pos rfl, if_neg (by omega), if_pos rfl]
  · rw [if_neg e1]
    by_cases e2 : x = k
    · subst e2
      rw [if_pos rfl, if_neg (by omega), if_neg (by omega), if_pos (by omega)]
    · rw [if_neg e2, if_neg e2, if_neg e1]
      split
      · rw [if_pos (by omega)]
      · rw [if_neg (by omega)]
theorem right_step {d d' : Array α} {m k : Nat} (hkm : k + 1 ≤ m) (hm : m < d'.size) (h : ∀ x, at' d' x = if x = k + 1 then at' d m else if k + 1 < x ∧ x ≤ m then at' d (x - 1) else at' d x) (x : Nat) :
    at' (swp d' (k + 1) k) x = if x = k then at' d m else if k < x ∧ x ≤ m then at' d (x - 1) else at' d x := by
  rw [swp_at d' (by omega) (by omega), h, h, h]
  by_cases e1 : x = k
  · subst e1
    rw [if_pos rfl, if_pos rfl, if_pos rfl]
  · rw [if_neg e1, if_neg e1]
    by_cases e2 : x = k + 1
    · subst e2
      rw [if_pos rfl, if_neg (by omega), if_neg (by omega), if_pos (by omega)]
      congr 1
    · rw [if_neg e2, if_neg e2]
      split
      · rw [if_pos (by omega)]
      · rw [if_neg (by omega)]
variable {kl lx : α → α → Bool} {t : α → Nat}
theorem inner_eq (a : Nat) : ∀ (j : Nat) (d : Array α), j < d.size → (∀ k, a ≤ k → k < j → kl d[j]! d[k]! = lx d[j]! d[k]!) → insInner kl a j d = insInner lx a j d
  | 0, d, _, _ => by unfold insInner; rfl
  | j + 1, d, hj, h => by
    unfold insInner
    by_cases hja : j + 1 > a
    · rw [h j (by omega) (by omega)]
      split
      · refine inner_eq a j _ (by rw [swp_size]; omega) fun k h1 h2 => ?_
        rw [swp_get d (i := j + 1) (j := j) hj (by omega), swp_get d (i := j + 1) (j := j) hj (by omega), if_pos rfl, if_neg (by omega), if_neg (by omega)]
        exact h k h1 (by omega)
      · rfl
    · rw [if_neg (by simp; omega), if_neg (by simp; omega)]
theorem outer_eq (hS : SWO lx) (hag : ∀ x y, t y < t x → kl x y = lx x y) (a b : Nat) : ∀ (n i : Nat) (d : Array α), b - i = n → a < i → b ≤ d.size → (∀ p q, a ≤ p → p < q → i ≤ q → q < b → t d[p]! < t d[q]!) → SortedIn lx a i d → insOuter kl a b i d = insOuter lx a b i d
  | 0, i, d, hn, _, _, _, _ => by
    rw [insOuter, if_neg (by omega), insOuter, if_neg (by omega)]
  | n + 1, i, d, hn, hai, hb, hT, hs => by
    rw [insOuter, if_pos (by omega), insOuter.eq_1 lx a b i, if_pos (by omega), inner_eq a i d (by omega) (fun k h1 h2 => hag _ _ (hT k i h1 h2 (Nat.le_refl _) (by omega)))]
    have h1 := insInner_spec hS swp_permIn permIn_refl permIn_trans a (i + 1) i (Nat.lt_succ_self i) i d (by omega) (Nat.le_refl _) (by omega) ⟨fun p q hap hpq hqi _ hq => hs p q hap hpq (by omega), fun q h1 h2 => by omega⟩
    refine outer_eq hS hag a b n (i + 1) _ (by omega) (by omega) (by rw [h1.1.1]; exact hb) (fun p q e1 e2 e3 e4 => ?_) h1.2
    rw [h1.1.2.1 q (.inr e3)]
    by_cases hp : p < i + 1
    · exact permIn_all d _ a (i + 1) (fun x => t x < t d[q]!) (by omega) h1.1 (fun k e5 e6 => hT k q e5 (by omega) (by omega) e4) p e1 hp
    · rw [h1.1.2.1 p (.inr (by omega))]
      exact hT p q e1 e2 (by omega) e4
/-- INSERTION by keys of things that are numbered as they stand: sorted by keys, of one key by numbers -/
theorem ins_lex (hS : SWO lx) (hag : ∀ x y, t y < t x → kl x y = lx x y) (d : Array α) (a b : Nat) (hab : a ≤ b) (hb : b ≤ d.size) (hT : ∀ p q, a ≤ p → p < q → q < b → t d[p]! < t d[q]!) :
    PermIn a b d (insertionSort kl d a b) ∧ SortedIn lx a b (insertionSort kl d a b) := by
  have e : insertionSort kl d a b = insertionSort lx d a b := by
    unfold insertionSort
    exact outer_eq hS hag a b _ (a + 1) d rfl (by omega) hb (fun p q e1 e2 _ e3 => hT p q e1 e2 e3) (fun i j h1 h2 h3 => by omega)
  rw [e]
  exact insertionSort_holds hS d a b hab hb
end
end Go.Proofs.YtplafpokgpolkaaGreatDoor
/- A STABLE SORT over an array, plainly: from blocks to blocks twice as long. -/
namespace Go.Proofs.YtplafpokgpolkaaGreatDoor
open Go.Sort
section
variable {α : Type} [Inhabited α]
/-- rising -/
abbrev IncB (lx : α → α → Bool) (d : Array α) (a b : Nat) : Prop := Inc (fun x y => lx x y = true) (at' d) a b
/-- what stands in a is numbered below what stands in b -/
def TagB (t : α → Nat) (d : Array α) (a m b : Nat) : Prop := ∀ i j, a ≤ i → i < m → m ≤ j → j < b → t (at' d i) < t (at' d j)
/-- merged in place -/
def Merged (lx : α → α → Bool) (d d' : Array α) (a b : Nat) : Prop := PermIn a b d d' ∧ IncB lx d' a b
def NdT (t : α → Nat) (d : Array α) : Prop := (d.toList.map t).Nodup
variable {lx : α → α → Bool} {t : α → Nat}
theorem perm_all {d d' : Array α} {a b : Nat} (hb : b ≤ d.size) (h : PermIn a b d d') : d'.toList.Perm d.toList := by
  have h1 := permIn_mono d d' a b 0 d.size (Nat.zero_le _) hb (Nat.le_refl _) h
  have h2 := h1.2.2
  have e1 : d'.extract 0 d.size = d' := by rw [← h1.1]; simp
  have e2 : d.extract 0 d.size = d := by simp
  rwa [e1, e2] at h2
omit [Inhabited α] in
theorem NdT.perm {d d' : Array α} (h : NdT t d) (hp : d'.toList.Perm d.toList) : NdT t d' := (hp.map t).nodup_iff.2 h
theorem NdT.ne {d : Array α} (h : NdT t d) {i j : Nat} (hij : i < j) (hj : j < d.size) : t d[i]! ≠ t d[j]! := by
  unfold NdT at h
  rw [List.nodup_iff_pairwise_ne, List.pairwise_iff_getElem] at h
  have := h i j (by simp; omega) (by simpa using hj) hij
  rw [getElem!_pos d i (by omega), getElem!_pos d j hj]
  simpa using this
theorem inc_of_sorted (hto : ∀ x y, t x ≠ t y → lx y x = false → lx x y = true) {d : Array α} {a b : Nat} (hn : NdT t d) (hb : b ≤ d.size) (h : SortedIn lx a b d) : IncB lx d a b := fun i j e1 e2 e3 =>
  hto _ _ (hn.ne e2 (by omega)) (h i j e1 e2 e3)
theorem sym_join {d1 d2 d3 : Array α} {a mid b : Nat} (hb : b ≤ d1.size) (h1 : a ≤ mid) (h2 : mid ≤ b) (hx : ∀ i j, a ≤ i → i < mid → mid ≤ j → j < b → lx (at' d1 i) (at' d1 j) = true)
    (m1 : Merged lx d1 d2 a mid) (m2 : Merged lx d2 d3 mid b) : Merged lx d1 d3 a b := by
  have s2 : d2.size = d1.size := m1.1.1
  have p1 := permIn_mono d1 d2 a mid a b (Nat.le_refl _) h2 hb m1.1
  have p2 := permIn_mono d2 d3 mid b a b h1 (Nat.le_refl _) (by omega) m2.1
  have lo : ∀ i, a ≤ i → i < mid → at' d3 i = at' d2 i := fun i _ e => m2.1.2.1 i (.inl e)
  have hi2 : ∀ j, mid ≤ j → at' d2 j = at' d1 j := fun j e => m1.1.2.1 j (.inr e)
  refine ⟨permIn_trans _ _ _ a b p1 p2, Inc.cross (fun i j e1 e2 e3 => ?_) m2.2 fun i j e1 e2 e3 e4 => ?_⟩
  · show lx (at' d3 i) (at' d3 j) = true
    rw [lo i e1 (by omega), lo j (by omega) e3]
    exact m1.2 i j e1 e2 e3
  · have q : ∀ i, a ≤ i → i < mid → ∀ j, mid ≤ j → j < b → lx (at' d2 i) (at' d1 j) = true := fun i e1 e2 => permIn_all d1 d2 a mid (fun x => ∀ j, mid ≤ j → j < b → lx x (at' d1 j) = true) (by omega) m1.1 (fun i e1 e2 j e3 e4 => hx i j e1 e2 e3 e4) i e1 e2
    show lx (at' d3 i) (at' d3 j) = true
    rw [lo i e1 e2]
    exact permIn_all d2 d3 mid b (fun x => lx (at' d2 i) x = true) (by omega) m2.1 (fun j e3 e4 => by rw [show d2[j]! = d1[j]! from hi2 j e3]; exact q i e1 e2 j e3 e4) j e3 e4
theorem merged_refl {d : Array α} {a b : Nat} (h : IncB lx d a b) : Merged lx d d a b := ⟨permIn_refl d a b, h⟩
/-- each block of s is rising -/
def Sd (lx : α → α → Bool) (s lo hi : Nat) (d : Array α) : Prop := ∀ i j, lo ≤ i → i < j → j < hi → i / s = j / s → lx (at' d i) (at' d j) = true
/-- from lo on each block of s has the numbers of its places -/
def BlkT (t : α → Nat) (s lo : Nat) (d : Array α) : Prop := ∀ i, lo ≤ i → i < d.size → t (at' d i) / s = i / s
theorem blk_div {a b s i : Nat} (ha : s ∣ a) (hb : b ≤ a + s) (h1 : a ≤ i) (h2 : i < b) : i / s = a / s := by
  obtain ⟨k, rfl⟩ := ha
  have hs : 0 < s := by omega
  rw [Nat.mul_div_cancel_left _ hs]
  exact Nat.div_eq_of_lt_le (by rw [Nat.mul_comm]; exact h1) (by rw [Nat.mul_comm, Nat.mul_succ]; omega)
theorem div_lt_blk {a s i j : Nat} (hs : 0 < s) (ha : s ∣ a) (h1 : i < a) (h2 : a ≤ j) : i / s < j / s := by
  obtain ⟨k, rfl⟩ := ha
  exact Nat.lt_of_lt_of_le ((Nat.div_lt_iff_lt_mul hs).2 (by rw [Nat.mul_comm]; exact h1)) ((Nat.le_div_iff_mul_le hs).2 (by rw [Nat.mul_comm]; exact h2))
theorem BlkT.op {s a b : Nat} {d d' : Array α} (_hs : 0 < s) (ha : s ∣ a) (hb : b ≤ a + s) (hbs : b ≤ d.size) (h : BlkT t s 0 d) (hp : PermIn a b d d') : BlkT t s 0 d' := fun i _ hi => by
  rw [hp.1] at hi
  by_cases e : a ≤ i ∧ i < b
  · rw [blk_div ha hb e.1 e.2]
    exact permIn_all d d' a b (fun x => t x / s = a / s) hbs hp (fun k e1 e2 => by rw [← blk_div ha hb e1 e2]; exact h k (Nat.zero_le _) (by omega)) i e.1 e.2
  · unfold at'
    rw [hp.2.1 i (by omega)]
    exact h i (Nat.zero_le _) hi
theorem BlkT.from {s lo a b : Nat} {d d' : Array α} (hlo : b ≤ lo) (h : BlkT t s lo d) (hp : PermIn a b d d') : BlkT t s lo d' := fun i h1 hi => by
  rw [hp.1] at hi
  unfold at'
  rw [hp.2.1 i (by omega)]
  exact h i h1 hi
theorem BlkT.twice {s : Nat} {d : Array α} (h : BlkT t s 0 d) : BlkT t (2 * s) 0 d := fun i h1 h2 => by
  rw [Nat.mul_comm, ← Nat.div_div_eq_div_mul, ← Nat.div_div_eq_div_mul, h i h1 h2]
theorem Sd.op {s a b : Nat} {d d' : Array α} (hs : 0 < s) (ha : s ∣ a) (h : Sd lx s 0 a d) (hp : PermIn a b d d') (hi : IncB lx d' a b) : Sd lx s 0 b d' := fun i j h1 h2 h3 h4 => by
  by_cases e1 : j < a
  · unfold at'
    rw [hp.2.1 i (by omega), hp.2.1 j (by omega)]
    exact h i j h1 h2 e1 h4
  · by_cases e2 : i < a
    · have := div_lt_blk hs ha e2 (Nat.le_of_not_lt e1)
      omega
    · exact hi i j (by omega) h2 h3
theorem Sd.from {s lo hi a b : Nat} {d d' : Array α} (hlo : b ≤ lo) (h : Sd lx s lo hi d) (hp : PermIn a b d d') : Sd lx s lo hi d' := fun i j h1 h2 h3 h4 => by
  unfold at'
  rw [hp.2.1 i (by omega), hp.2.1 j (by omega)]
  exact h i j h1 h2 h3 h4
/-- THE FIRST STAGE: blocks sorted by insertion -/
structure StgI (lx : α → α → Bool) (t : α → Nat) (s a : Nat) (d0 d : Array α) : Prop where
  perm : d.toList.Perm d0.toList
  size : d.size = d0.size
  sd : Sd lx s 0 a d
  blk : BlkT t s 0 d
  tag : ∀ i, a ≤ i → i < d.size → t (at' d i) = i
  dvd : s ∣ a
theorem StgI.zero {s : Nat} {d : Array α} (hs : ∀ i, i < d.size → t (at' d i) = i) : StgI lx t s 0 d d := ⟨List.Perm.refl _, rfl, fun i j h1 h2 h3 => by omega, fun i _ h => by rw [hs i h], fun i _ h => hs i h, ⟨0, by simp⟩⟩
theorem StgI.op {kl : α → α → Bool} (hS : SWO lx) (hag : ∀ x y, t y < t x → kl x y = lx x y) (hto : ∀ x y, t x ≠ t y → lx y x = false → lx x y = true) {s a b : Nat} {d0 d : Array α} (hs : 0 < s) (hn : NdT t d0) (h : StgI lx t s a d0 d) (hab : a ≤ b) (hb : b ≤ a + s) (hbs : b ≤ d.size) :
    let d' := insertionSort kl d a b
    d'.toList.Perm d0.toList ∧ d'.size = d0.size ∧ Sd lx s 0 b d' ∧ BlkT t s 0 d' ∧ (∀ i, b ≤ i → i < d'.size → t (at' d' i) = i) := by
  intro d'
  obtain ⟨hp, hi⟩ := ins_lex hS hag d a b hab hbs (fun p q e1 e2 e3 => by rw [show t d[p]! = p from h.tag p e1 (by omega), show t d[q]! = q from h.tag q (by omega) (by omega)]; exact e2)
  have hp1 := (perm_all hbs hp).trans h.perm
  refine ⟨hp1, hp.1.trans h.size, h.sd.op hs h.dvd hp (inc_of_sorted hto (hn.perm hp1) (by rw [hp.1]; exact hbs) hi), h.blk.op hs h.dvd hb hbs hp, fun i e1 e2 => ?_⟩
  rw [hp.1] at e2
  unfold at'
  rw [hp.2.1 i (.inr e1)]
  exact h.tag i (by omega) e2
/-- THE LATER STAGES: of blocks of s, blocks of 2 s are made up to a -/
structure StgM (lx : α → α → Bool) (t : α → Nat) (s a : Nat) (d0 d : Array α) : Prop where
  perm : d.toList.Perm d0.toList
  size : d.size = d0.size
  sd2 : Sd lx (2 * s) 0 a d
  sd : Sd lx s a d.size d
  blk2 : BlkT t (2 * s) 0 d
  blk : BlkT t s a d
  dvd : 2 * s ∣ a
/-- blocks of s, all of them -/
structure StgD (lx : α → α → Bool) (t : α → Nat) (s : Nat) (d0 d : Array α) : Prop where
  perm : d.toList.Perm d0.toList
  size : d.size = d0.size
  sd : Sd lx s 0 d.size d
  blk : BlkT t s 0 d
theorem StgD.start {s : Nat} {d0 d : Array α} (h : StgD lx t s d0 d) : StgM lx t s 0 d0 d := ⟨h.perm, h.size, fun i j h1 h2 h3 => by omega, h.sd, h.blk.twice, h.blk, ⟨0, by simp⟩⟩
theorem StgM.halves {s a b : Nat} {d0 d : Array α} (hs : 0 < s) (h : StgM lx t s a d0 d) (hb : b ≤ a + 2 * s) (hm : a + s < b) (hbs : b ≤ d.size) : IncB lx d a (a + s) ∧ IncB lx d (a + s) b ∧ TagB t d a (a + s) b := by
  have d1 : s ∣ a := Nat.dvd_trans ⟨2, by omega⟩ h.dvd
  have d2 : s ∣ a + s := (Nat.dvd_add_right d1).2 (Nat.dvd_refl s)
  have g1 : ∀ i, a ≤ i → i < a + s → i / s = a / s := fun i => blk_div d1 (Nat.le_refl _)
  have g2 : ∀ i, a + s ≤ i → i < b → i / s = (a + s) / s := fun i => blk_div d2 (by omega)
  refine ⟨fun i j e1 e2 e3 => h.sd i j e1 e2 (by omega) (by rw [g1 i e1 (by omega), g1 j (by omega) e3]), fun i j e1 e2 e3 => h.sd i j (by omega) e2 (by omega) (by rw [g2 i e1 (by omega), g2 j (by omega) e3]), fun i j e1 e2 e3 e4 => ?_⟩
  have b1 := h.blk i e1 (by omega)
  have b2 := h.blk j (by omega) (by omega)
  rw [g1 i e1 e2] at b1
  rw [g2 j e3 e4, Nat.add_div_right _ hs] at b2
  refine Nat.lt_of_not_le fun hle => ?_
  have := Nat.div_le_div_right (c := s) hle
  omega
theorem StgM.op {s a b : Nat} {d0 d d' : Array α} (hs : 0 < s) (h : StgM lx t s a d0 d) (hab : a ≤ b) (hb : b ≤ a + 2 * s) (hbs : b ≤ d.size) (hm : Merged lx d d' a b) :
    d'.toList.Perm d0.toList ∧ d'.size = d0.size ∧ Sd lx (2 * s) 0 b d' ∧ Sd lx s b d'.size d' ∧ BlkT t (2 * s) 0 d' ∧ BlkT t s b d' := by
  have h2 : 0 < 2 * s := by omega
  obtain ⟨hp, hi⟩ := hm
  refine ⟨(perm_all hbs hp).trans h.perm, hp.1.trans h.size, h.sd2.op h2 h.dvd hp hi, ?_, h.blk2.op h2 h.dvd hb hbs hp, ?_⟩
  · rw [hp.1]
    exact Sd.from (Nat.le_refl _) (fun i j e1 e2 e3 e4 => h.sd i j (by omega) e2 e3 e4) hp
  · exact BlkT.from (Nat.le_refl _) (fun i e1 e2 => h.blk i (by omega) e2) hp
theorem StgM.next {s a : Nat} {d0 d d' : Array α} (hs : 0 < s) (h : StgM lx t s a d0 d) (hbs : a + 2 * s ≤ d.size) (hm : Merged lx d d' a (a + 2 * s)) : StgM lx t s (a + 2 * s) d0 d' := by
  obtain ⟨h1, h2, h3, h4, h5, h6⟩ := h.op hs (by omega) (Nat.le_refl _) hbs hm
  exact ⟨h1, h2, h3, h4, h5, h6, (Nat.dvd_add_right h.dvd).2 (Nat.dvd_refl _)⟩
theorem StgM.last {s a : Nat} {d0 d d' : Array α} (hs : 0 < s) (h : StgM lx t s a d0 d) (hb : d.size ≤ a + 2 * s) (hm : Merged lx d d' a d.size) (ha : a ≤ d.size) : StgD lx t (2 * s) d0 d' := by
  obtain ⟨h1, h2, h3, h4, h5, h6⟩ := h.op hs ha hb (Nat.le_refl _) hm
  exact ⟨h1, h2, by rw [hm.1.1]; exact h3, h5⟩
theorem StgM.stop {s a : Nat} {d0 d : Array α} (hs : 0 < s) (h : StgM lx t s a d0 d) (hb : d.size ≤ a + s) : StgD lx t (2 * s) d0 d := by
  refine ⟨h.perm, h.size, fun i j h1 h2 h3 h4 => ?_, h.blk2⟩
  by_cases e1 : j < a
  · exact h.sd2 i j h1 h2 e1 h4
  · by_cases e2 : i < a
    · have := div_lt_blk (by omega) h.dvd e2 (Nat.le_of_not_lt e1)
      omega
    · have d1 : s ∣ a := Nat.dvd_trans ⟨2, by omega⟩ h.dvd
      exact h.sd i j (by omega) h2 h3 (by rw [blk_div d1 hb (by omega) (by omega), blk_div d1 hb (by omega) h3])
theorem StgD.done {s : Nat} {d0 d : Array α} (h : StgD lx t s d0 d) (hs : d.size ≤ s) : d.toList.Pairwise (fun x y => lx x y = true) := by
  rw [List.pairwise_iff_getElem]
  intro i j hi hj hij
  have hj' : j < d.size := by simpa using hj
  have := h.sd i j (Nat.zero_le _) hij hj' (by rw [Nat.div_eq_of_lt (by omega), Nat.div_eq_of_lt (by omega)])
  unfold at' at this
  rw [getElem!_pos d i (by omega), getElem!_pos d j hj'] at this
  simpa using this
end
end Go.Proofs.YtplafpokgpolkaaGreatDoor
/- A STABLE SORT over an array, plainly: numbered things; at the end it is the stable sort. -/
namespace Go.Proofs.YtplafpokgpolkaaGreatDoor
open Go.Sort
section
variable {α : Type} [Inhabited α] (k : α → Tx)
instance decLx (x y : α × Nat) : Decidable (lxT k x y) := by unfold lxT; infer_instance
def lxB (x y : α × Nat) : Bool := decide (lxT k x y)
def klB (x y : α × Nat) : Bool := decide (k x.1 < k y.1)
variable {k}
omit [Inhabited α] in
theorem swo_lx : SWO (lxB k) where
  irrefl x := by unfold lxB; rw [decide_eq_false_iff_not]; exact fun h => h.irr
  trans x y z h1 h2 := by
    unfold lxB at *
    rw [decide_eq_true_eq] at *
    exact h1.trans h2
  ntrans x y z h1 h2 := by
    unfold lxB at *
    rw [decide_eq_false_iff_not] at *
    have tot : ∀ u v : α × Nat, ¬ lxT k u v → lxT k v u ∨ (k u.1 = k v.1 ∧ u.2 = v.2) := fun u v h => by
      rcases tx_tri (k u.1) (k v.1) with e | e | e
      · exact (h (.inl e)).elim
      · rcases Nat.lt_trichotomy u.2 v.2 with g | g | g
        · exact (h (.inr ⟨e, g⟩)).elim
        · exact .inr ⟨e, g⟩
        · exact .inl (.inr ⟨e.symm, g⟩)
      · exact .inl (.inl e)
    intro h3
    rcases tot x y h1 with e | e
    · exact h2 (e.trans h3)
    · rcases tot y z h2 with g | g
      · refine h1 (h3.trans g)
      · rcases h3 with q | q
        · rw [e.1, g.1] at q; exact tx_irrefl _ q
        · have := q.2; omega
omit [Inhabited α] in
theorem agree_lx (x y : α × Nat) (h : y.2 < x.2) : klB k x y = lxB k x y := by
  unfold klB lxB
  rw [decide_eq_decide]
  exact (lxT_key h).symm
omit [Inhabited α] in
theorem total_lx (x y : α × Nat) (h : x.2 ≠ y.2) (h1 : lxB k y x = false) : lxB k x y = true := by
  unfold lxB at *
  rw [decide_eq_false_iff_not] at h1
  rw [decide_eq_true_eq]
  rcases tx_tri (k x.1) (k y.1) with e | e | e
  · exact .inl e
  · rcases Nat.lt_or_gt_of_ne h with g | g
    · exact .inr ⟨e, g⟩
    · exact (h1 (.inr ⟨e.symm, g⟩)).elim
  · exact (h1 (.inl e)).elim
theorem tag_zip {l : List α} {d : Array (α × Nat)} (h : d.toList = l.zipIdx) (i : Nat) (hi : i < d.size) : (at' d i).2 = i := by
  unfold at'
  rw [getElem!_pos d i hi]
  have : d[i] = d.toList[i]'(by simpa using hi) := by simp
  rw [this, List.getElem_of_eq h]
  simp
omit [Inhabited α] in
theorem nd_zip {l : List α} {d : Array (α × Nat)} (h : d.toList = l.zipIdx) : NdT (·.2) d := by
  unfold NdT
  rw [h, List.zipIdx_map_snd]
  exact List.nodup_range'
theorem stable_done {l : List α} {s : Nat} {d0 d : Array (α × Nat)} (h0 : d0.toList = l.zipIdx) (h : StgD (lxB k) (·.2) s d0 d) (hs : d.size ≤ s) : d.toList.map (·.1) = l.mergeSort (leK k) := by
  refine tagged_sort (h0 ▸ h.perm) ((h.done hs).imp fun e => ?_)
  simpa [lxB] using e
end
end Go.Proofs.YtplafpokgpolkaaGreatDoor
/- A STABLE SORT over an array: what its loops keep, plainly. -/
namespace Go.Proofs.YtplafpokgpolkaaGreatDoor
open Go.Sort
section
variable {α : Type} [Inhabited α]
/-- two stretches exchanged -/
structure SwOk (d d' : Array α) (a b n : Nat) : Prop where
  at_ : ∀ q, at' d' q = swR (at' d) a b n q
  size : d'.size = d.size
  perm : ∀ x y, x ≤ a → b + n ≤ y → y ≤ d.size → PermIn x y d d'
theorem SwOk.zero (d : Array α) (a b : Nat) : SwOk d d a b 0 := ⟨fun _ => (swR_zero _ _ _ _).symm, rfl, fun x y _ _ _ => permIn_refl d x y⟩
theorem SwOk.step {d d' : Array α} {a b n : Nat} (h : SwOk d d' a b n) (hab : a + n + 1 ≤ b) (hb : b + n < d.size) : SwOk d (swp d' (a + n) (b + n)) a b (n + 1) :=
  ⟨swR_step hab (by rw [h.size]; exact hb) h.at_, by rw [swp_size]; exact h.size, fun x y h1 h2 h3 => permIn_trans _ _ _ x y (h.perm x y h1 (by omega) h3) (swp_permIn d' x y _ _ (by omega) (by omega) (by omega) (by omega) (by rw [h.size]; exact h3))⟩
/-- rotated -/
structure RotOk (d d' : Array α) (a m b : Nat) : Prop where
  at_ : ∀ q, at' d' q = at' d (rotX a m b q)
  size : d'.size = d.size
  perm : PermIn a b d d'
/-- still to rotate: i ahead of m, j behind it -/
structure RotG (d dk : Array α) (a m b i j : Nat) : Prop where
  at_ : ∀ q, at' dk (rotX (m - i) m (m + j) q) = at' d (rotX a m b q)
  size : dk.size = d.size
  perm : PermIn a b d dk
  hi : a + i ≤ m
  hj : m + j ≤ b
  hb : b ≤ d.size
theorem RotG.start {d : Array α} {a m b : Nat} (h1 : a ≤ m) (h2 : m ≤ b) (hb : b ≤ d.size) : RotG d d a m b (m - a) (b - m) :=
  ⟨fun q => by rw [show m - (m - a) = a by omega, show m + (b - m) = b by omega], rfl, permIn_refl d a b, by omega, by omega, hb⟩
theorem RotG.left {d dk d' : Array α} {a m b i j : Nat} (h : RotG d dk a m b i j) (hij : j < i) (hs : SwOk dk d' (m - i) m j) : RotG d d' a m b (i - j) j :=
  ⟨fun q => by
    have h1 := h.hi
    rw [hs.at_, rot_step1 (at' dk) hij (by omega), h.at_], hs.size.trans h.size, permIn_trans _ _ _ a b h.perm (hs.perm a b (by have := h.hi; omega) h.hj (by rw [h.size]; exact h.hb)), by have := h.hi; omega, h.hj, h.hb⟩
theorem RotG.right {d dk d' : Array α} {a m b i j : Nat} (h : RotG d dk a m b i j) (hij : i < j) (hs : SwOk dk d' (m - i) (m + j - i) i) : RotG d d' a m b i (j - i) :=
  ⟨fun q => by
    have h1 := h.hi
    rw [hs.at_, rot_step2 (at' dk) hij (by omega), h.at_], hs.size.trans h.size, permIn_trans _ _ _ a b h.perm (hs.perm a b (by have := h.hi; omega) (by have := h.hj; omega) (by rw [h.size]; exact h.hb)), h.hi, by have := h.hj; omega, h.hb⟩
theorem RotG.done {d dk d' : Array α} {a m b i : Nat} (h : RotG d dk a m b i i) (hs : SwOk dk d' (m - i) m i) : RotOk d d' a m b :=
  ⟨fun q => by
    have h1 := h.hi
    rw [hs.at_, rot_end (at' dk) (by omega), h.at_], hs.size.trans h.size, permIn_trans _ _ _ a b h.perm (hs.perm a b (by have := h.hi; omega) h.hj (by rw [h.size]; exact h.hb))⟩
variable (kl lx : α → α → Bool) (t : α → Nat)
/-- what is known of the order -/
structure Ord : Prop where
  swo : SWO lx
  agree : ∀ x y, t y < t x → kl x y = lx x y
  total : ∀ x y, t x ≠ t y → lx y x = false → lx x y = true
variable {kl lx t}
omit [Inhabited α] in
theorem Ord.yes (O : Ord kl lx t) {x y : α} (h : t y < t x) (hk : kl x y = true) : lx x y = true := by rw [← O.agree x y h]; exact hk
omit [Inhabited α] in
theorem Ord.no (O : Ord kl lx t) {x y : α} (h : t y < t x) (hk : kl x y = false) : lx y x = true := O.total y x (by omega) (by rw [← O.agree x y h]; exact hk)
omit [Inhabited α] in
theorem Ord.tr (O : Ord kl lx t) {x y z : α} (h : lx x y = true) (g : lx y z = true) : lx x z = true := O.swo.trans _ _ _ h g
/-- to be merged -/
structure SymP (lx : α → α → Bool) (t : α → Nat) (d : Array α) (a m b : Nat) : Prop where
  am : a < m
  mb : m < b
  bs : b ≤ d.size
  hX : IncB lx d a m
  hY : IncB lx d m b
  hT : TagB t d a m b
/-- one ahead: the search -/
structure SeaL (lx : α → α → Bool) (d : Array α) (a b i j : Nat) : Prop where
  lo : a + 1 ≤ i
  ij : i ≤ j
  hi : j ≤ b
  l : ∀ h, a + 1 ≤ h → h < i → lx (at' d h) (at' d a) = true
  r : ∀ h, j ≤ h → h < b → lx (at' d a) (at' d h) = true
theorem SeaL.start {d : Array α} {a b : Nat} (h : a + 1 ≤ b) : SeaL lx d a b (a + 1) b := ⟨Nat.le_refl _, h, Nat.le_refl _, fun _ _ _ => by omega, fun _ _ _ => by omega⟩
theorem SeaL.yes {d : Array α} {a b i j h : Nat} (O : Ord kl lx t) (P : SymP lx t d a (a + 1) b) (hg : SeaL lx d a b i j) (h1 : i ≤ h) (h2 : h < j) (hk : kl d[h]! d[a]! = true) : SeaL lx d a b (h + 1) j := by
  have e := O.yes (P.hT a h (Nat.le_refl _) (by omega) (by have := hg.lo; omega) (by have := hg.hi; omega)) hk
  refine ⟨by have := hg.lo; omega, h2, hg.hi, fun q h3 h4 => ?_, hg.r⟩
  rcases Nat.lt_or_eq_of_le (Nat.le_of_lt_succ h4) with h5 | rfl
  · exact O.tr (P.hY q h h3 h5 (by have := hg.hi; omega)) e
  · exact e
theorem SeaL.no {d : Array α} {a b i j h : Nat} (O : Ord kl lx t) (P : SymP lx t d a (a + 1) b) (hg : SeaL lx d a b i j) (h1 : i ≤ h) (h2 : h < j) (hk : kl d[h]! d[a]! = false) : SeaL lx d a b i h := by
  have e := O.no (P.hT a h (Nat.le_refl _) (by omega) (by have := hg.lo; omega) (by have := hg.hi; omega)) hk
  refine ⟨hg.lo, h1, by have := hg.hi; omega, hg.l, fun q h3 h4 => ?_⟩
  rcases Nat.lt_or_eq_of_le h3 with h5 | rfl
  · exact O.tr e (P.hY h q (by have := hg.lo; omega) h5 h4)
  · exact e
/-- .. and the shift -/
structure ShL (d dk : Array α) (a b k : Nat) : Prop where
  at_ : ∀ x, at' dk x = if a ≤ x ∧ x < k then at' d (x + 1) else if x = k then at' d a else at' d x
  size : dk.size = d.size
  perm : PermIn a b d dk
theorem ShL.start (d : Array α) (a b : Nat) : ShL d d a b a := ⟨fun x => by
  rw [if_neg (by omega)]
  split
  · subst_vars; rfl
  · rfl, rfl, permIn_refl _ _ _⟩
theorem ShL.step {d dk : Array α} {a b k : Nat} (h : ShL d dk a b k) (hak : a ≤ k) (hk : k + 1 < b) (hb : b ≤ d.size) : ShL d (swp dk k (k + 1)) a b (k + 1) :=
  ⟨left_step hak (by rw [h.size]; omega) h.at_, by rw [swp_size]; exact h.size, permIn_trans _ _ _ a b h.perm (swp_permIn dk a b _ _ hak (by omega) (by omega) hk (by rw [h.size]; exact hb))⟩
theorem ShL.done {d dk : Array α} {a b k : Nat} (P : SymP lx t d a (a + 1) b) (hg : SeaL lx d a b (k + 1) (k + 1)) (h : ShL d dk a b k) : Merged lx d dk a b := by
  refine ⟨h.perm, sym_left (D := at' d) (i := k + 1) P.hY hg.lo hg.hi hg.l hg.r fun x => ?_⟩
  rw [h.at_]
  by_cases e1 : a ≤ x ∧ x < k
  · rw [if_pos e1, if_pos (by omega)]
  · rw [if_neg e1]
    by_cases e2 : x = k
    · rw [if_pos e2, if_neg (by omega), if_pos (by omega)]
    · rw [if_neg e2, if_neg (by omega), if_neg (by omega)]
/-- one behind: the search -/
structure SeaR (lx : α → α → Bool) (d : Array α) (a m i j : Nat) : Prop where
  lo : a ≤ i
  ij : i ≤ j
  hi : j ≤ m
  l : ∀ h, a ≤ h → h < i → lx (at' d h) (at' d m) = true
  r : ∀ h, j ≤ h → h < m → lx (at' d m) (at' d h) = true
theorem SeaR.start {d : Array α} {a m : Nat} (h : a ≤ m) : SeaR lx d a m a m := ⟨Nat.le_refl _, h, Nat.le_refl _, fun _ _ _ => by omega, fun _ _ _ => by omega⟩
theorem SeaR.no {d : Array α} {a m i j h : Nat} (O : Ord kl lx t) (P : SymP lx t d a m (m + 1)) (hg : SeaR lx d a m i j) (h1 : i ≤ h) (h2 : h < j) (hk : kl d[m]! d[h]! = false) : SeaR lx d a m (h + 1) j := by
  have e := O.no (P.hT h m (by have := hg.lo; omega) (by have := hg.hi; omega) (Nat.le_refl _) (by omega)) hk
  refine ⟨by have := hg.lo; omega, h2, hg.hi, fun q h3 h4 => ?_, hg.r⟩
  rcases Nat.lt_or_eq_of_le (Nat.le_of_lt_succ h4) with h5 | rfl
  · exact O.tr (P.hX q h h3 h5 (by have := hg.hi; omega)) e
  · exact e
theorem SeaR.yes {d : Array α} {a m i j h : Nat} (O : Ord kl lx t) (P : SymP lx t d a m (m + 1)) (hg : SeaR lx d a m i j) (h1 : i ≤ h) (h2 : h < j) (hk : kl d[m]! d[h]! = true) : SeaR lx d a m i h := by
  have e := O.yes (P.hT h m (by have := hg.lo; omega) (by have := hg.hi; omega) (Nat.le_refl _) (by omega)) hk
  refine ⟨hg.lo, h1, by have := hg.hi; omega, hg.l, fun q h3 h4 => ?_⟩
  rcases Nat.lt_or_eq_of_le h3 with h5 | rfl
  · exact O.tr e (P.hX h q (by have := hg.lo; omega) h5 h4)
  · exact e
/-- .. and the shift -/
structure ShR (d dk : Array α) (a m k : Nat) : Prop where
  at_ : ∀ x, at' dk x = if x = k then at' d m else if k < x ∧ x ≤ m then at' d (x - 1) else at' d x
  size : dk.size = d.size
  perm : PermIn a (m + 1) d dk
theorem ShR.start (d : Array α) (a m : Nat) : ShR d d a m m := ⟨fun x => by
  split
  · subst_vars; rfl
  · rw [if_neg (by omega)], rfl, permIn_refl _ _ _⟩
theorem ShR.step {d dk : Array α} {a m k : Nat} (h : ShR d dk a m (k + 1)) (hak : a ≤ k) (hk : k + 1 ≤ m) (hm : m < d.size) : ShR d (swp dk (k + 1) k) a m k :=
  ⟨right_step hk (by rw [h.size]; exact hm) h.at_, by rw [swp_size]; exact h.size, permIn_trans _ _ _ a (m + 1) h.perm (swp_permIn dk a (m + 1) _ _ (by omega) (by omega) hak (by omega) (by rw [h.size]; exact hm))⟩
theorem ShR.done {d dk : Array α} {a m i : Nat} (P : SymP lx t d a m (m + 1)) (hg : SeaR lx d a m i i) (h : ShR d dk a m i) : Merged lx d dk a (m + 1) :=
  ⟨h.perm, sym_right (D := at' d) (i := i) P.hX hg.lo hg.hi hg.l hg.r h.at_⟩
/-- the cut: the search -/
structure SeaC (lx : α → α → Bool) (d : Array α) (p s0 r0 i j : Nat) : Prop where
  lo : s0 ≤ i
  ij : i ≤ j
  hi : j ≤ r0
  l : ∀ c, s0 ≤ c → c < i → lx (at' d c) (at' d (p - c)) = true
  r : ∀ c, j ≤ c → c < r0 → lx (at' d (p - c)) (at' d c) = true
theorem SeaC.start {d : Array α} {p s0 r0 : Nat} (h : s0 ≤ r0) : SeaC lx d p s0 r0 s0 r0 := ⟨Nat.le_refl _, h, Nat.le_refl _, fun _ _ _ => by omega, fun _ _ _ => by omega⟩
/-- where the cut is sought -/
structure CutB (a m b mid p s0 r0 : Nat) : Prop where
  hmid : mid = (a + b) / 2
  hp : p = mid + m - 1
  h0 : s0 = if mid < m then mid + m - b else a
  hr : r0 = if mid < m then mid else m
theorem CutB.bnd {a m b mid p s0 r0 : Nat} (h : CutB a m b mid p s0 r0) (am : a < m) (mb : m < b) : a ≤ s0 ∧ s0 ≤ r0 ∧ r0 ≤ m ∧ (∀ c, s0 ≤ c → c < r0 → m ≤ p - c ∧ p - c < b ∧ c < p) ∧ a ≤ mid ∧ mid < b ∧ 1 ≤ mid + m := by
  obtain ⟨h1, h2, h3, h4⟩ := h
  split at h3 <;> rename_i e1
  · rw [if_pos e1] at h4
    refine ⟨by omega, by omega, by omega, fun c e2 e3 => by omega, by omega, by omega, by omega⟩
  · rw [if_neg e1] at h4
    refine ⟨by omega, by omega, by omega, fun c e2 e3 => by omega, by omega, by omega, by omega⟩
theorem SeaC.no {d : Array α} {a m b mid p s0 r0 i j c : Nat} (O : Ord kl lx t) (P : SymP lx t d a m b) (B : CutB a m b mid p s0 r0) (hg : SeaC lx d p s0 r0 i j) (h1 : i ≤ c) (h2 : c < j) (hk : kl d[p - c]! d[c]! = false) : SeaC lx d p s0 r0 (c + 1) j := by
  obtain ⟨b1, b2, b3, b4, -⟩ := B.bnd P.am P.mb
  have c0 : s0 ≤ c := Nat.le_trans hg.lo h1
  have c1 : c < r0 := Nat.lt_of_lt_of_le h2 hg.hi
  have b5 := b4 c c0 c1
  have e := O.no (P.hT c (p - c) (by omega) (by omega) b5.1 b5.2.1) hk
  refine ⟨by omega, h2, hg.hi, fun q h3 h4 => ?_, hg.r⟩
  rcases Nat.lt_or_eq_of_le (Nat.le_of_lt_succ h4) with h5 | rfl
  · have b6 := b4 q h3 (by omega)
    exact O.tr (O.tr (P.hX q c (by omega) h5 (by omega)) e) (P.hY (p - c) (p - q) b5.1 (by omega) b6.2.1)
  · exact e
theorem SeaC.yes {d : Array α} {a m b mid p s0 r0 i j c : Nat} (O : Ord kl lx t) (P : SymP lx t d a m b) (B : CutB a m b mid p s0 r0) (hg : SeaC lx d p s0 r0 i j) (h1 : i ≤ c) (h2 : c < j) (hk : kl d[p - c]! d[c]! = true) : SeaC lx d p s0 r0 i c := by
  obtain ⟨b1, b2, b3, b4, -⟩ := B.bnd P.am P.mb
  have c0 : s0 ≤ c := Nat.le_trans hg.lo h1
  have c1 : c < r0 := Nat.lt_of_lt_of_le h2 hg.hi
  have b5 := b4 c c0 c1
  have e := O.yes (P.hT c (p - c) (by omega) (by omega) b5.1 b5.2.1) hk
  refine ⟨hg.lo, h1, by omega, hg.l, fun q h3 h4 => ?_⟩
  rcases Nat.lt_or_eq_of_le h3 with h5 | rfl
  · have b6 := b4 q (by omega) h4
    exact O.tr (O.tr (P.hY (p - q) (p - c) b6.1 (by omega) b5.2.1) e) (P.hX c q (by omega) h5 (by omega))
  · exact e
/-- behind the cut, rotated: two merges are left -/
structure SymH (lx : α → α → Bool) (t : α → Nat) (d d1 : Array α) (a mid b s e : Nat) : Prop where
  perm : PermIn a b d d1
  bs : b ≤ d1.size
  alo : a ≤ s
  sm : s ≤ mid
  me : mid ≤ e
  eb : e ≤ b
  i1 : IncB lx d1 a s
  i2 : IncB lx d1 s mid
  i3 : IncB lx d1 mid e
  i4 : IncB lx d1 e b
  x : ∀ i j, a ≤ i → i < mid → mid ≤ j → j < b → lx (at' d1 i) (at' d1 j) = true
  t1 : TagB t d1 a s mid
  t2 : TagB t d1 mid e b
theorem SymH.of {d d1 : Array α} {a m b mid p s0 r0 s : Nat} (O : Ord kl lx t) (P : SymP lx t d a m b) (B : CutB a m b mid p s0 r0) (hg : SeaC lx d p s0 r0 s s) (hD : ∀ q, at' d1 q = at' d (rotX s m (mid + m - s) q)) (hp : PermIn a b d d1) : SymH lx t d d1 a mid b s (mid + m - s) := by
  obtain ⟨b1, b2, b3, b4⟩ := B
  subst b2 b3 b4
  have h := sym_halves (lt := fun x y => lx x y = true) (fun h g => O.tr h g) (D := at' d) (D1 := at' d1) b1 P.am P.mb P.hX P.hY ⟨hg.lo, hg.hi, hg.l, hg.r⟩ hD t P.hT
  obtain ⟨⟨g1, g2, g3, g4, g5, g6⟩, h1, h2, h3, h4, h5, h6, h7⟩ := h
  exact ⟨hp, by rw [hp.1]; exact P.bs, g1, g5, g6, g4, h1, h2, h3, h4, h5, h6, h7⟩
theorem SymH.first {d d1 : Array α} {a mid b s e : Nat} (H : SymH lx t d d1 a mid b s e) (h1 : a < s) (h2 : s < mid) : SymP lx t d1 a s mid := ⟨h1, h2, by have := H.me; have := H.eb; have := H.bs; omega, H.i1, H.i2, H.t1⟩
theorem SymH.nofirst {d d1 : Array α} {a mid b s e : Nat} (H : SymH lx t d d1 a mid b s e) (h : ¬ (a < s ∧ s < mid)) : Merged lx d1 d1 a mid := merged_refl (by
  have h1 := H.alo
  have h2 := H.sm
  by_cases g : a < s
  · obtain rfl : s = mid := by omega
    exact H.i1
  · obtain rfl : s = a := by omega
    exact H.i2)
theorem SymH.second {d d1 d2 : Array α} {a mid b s e : Nat} (H : SymH lx t d d1 a mid b s e) (M : Merged lx d1 d2 a mid) (h1 : mid < e) (h2 : e < b) : SymP lx t d2 mid e b := by
  have hq : ∀ q, mid ≤ q → at' d2 q = at' d1 q := fun q h => M.1.2.1 q (.inr h)
  refine ⟨h1, h2, by rw [M.1.1]; exact H.bs, fun i j e1 e2 e3 => ?_, fun i j e1 e2 e3 => ?_, fun i j e1 e2 e3 e4 => ?_⟩
  · show lx _ _ = true
    rw [hq i e1, hq j (by omega)]; exact H.i3 i j e1 e2 e3
  · show lx _ _ = true
    rw [hq i (by omega), hq j (by omega)]; exact H.i4 i j e1 e2 e3
  · rw [hq i e1, hq j (by omega)]; exact H.t2 i j e1 e2 e3 e4
theorem SymH.nosecond {d d1 d2 : Array α} {a mid b s e : Nat} (H : SymH lx t d d1 a mid b s e) (M : Merged lx d1 d2 a mid) (h : ¬ (mid < e ∧ e < b)) : Merged lx d2 d2 mid b := merged_refl (by
  have hq : ∀ q, mid ≤ q → at' d2 q = at' d1 q := fun q h => M.1.2.1 q (.inr h)
  have h1 := H.me
  have h2 := H.eb
  intro i j e1 e2 e3
  show lx _ _ = true
  rw [hq i e1, hq j (by omega)]
  by_cases g : mid < e
  · obtain rfl : e = b := by omega
    exact H.i3 i j e1 e2 e3
  · obtain rfl : e = mid := by omega
    exact H.i4 i j e1 e2 e3)
theorem SymH.done {d d1 d2 d3 : Array α} {a mid b s e : Nat} (H : SymH lx t d d1 a mid b s e) (M1 : Merged lx d1 d2 a mid) (M2 : Merged lx d2 d3 mid b) : Merged lx d d3 a b := by
  have h := sym_join (lx := lx) H.bs (Nat.le_trans H.alo H.sm) (Nat.le_trans H.me H.eb) H.x M1 M2
  exact ⟨permIn_trans _ _ _ a b H.perm h.1, h.2⟩
theorem perm_in {d d' : Array α} {a b a' b' : Nat} (h : PermIn a b d d') (h1 : a' ≤ a) (h2 : b ≤ b') (h3 : b' ≤ d.size) : PermIn a' b' d d' := permIn_mono d d' a b a' b' h1 h2 h3 h
/-- nothing to rotate -/
theorem rotX_none {s m e q : Nat} (h : ¬ (s < m ∧ m < e)) (h1 : s ≤ m) (h2 : m ≤ e) : rotX s m e q = q := by
  have := rotX_is s m e q
  omega
end
end Go.Proofs.YtplafpokgpolkaaGreatDoor
/- INSERTION over an array without numbers is the stable sort. -/
namespace Go.Proofs.YtplafpokgpolkaaGreatDoor
open Go.Sort
section
variable {α β : Type} [Inhabited α] [Inhabited β]
theorem get_map (f : α → β) (d : Array α) {i : Nat} (hi : i < d.size) : (d.map f)[i]! = f d[i]! := by
  rw [getElem!_pos (d.map f) i (by simpa using hi), getElem!_pos d i hi, Array.getElem_map]
theorem swp_map (f : α → β) (d : Array α) {i j : Nat} (hi : i < d.size) (hj : j < d.size) : (swp d i j).map f = swp (d.map f) i j := by
  unfold swp
  rw [get_map f d hi, get_map f d hj]
  simp [Array.map_setIfInBounds]
theorem inner_map (f : α → β) (lt : β → β → Bool) (a : Nat) : ∀ (j : Nat) (d : Array α), j < d.size → (insInner (fun x y => lt (f x) (f y)) a j d).map f = insInner lt a j (d.map f)
  | 0, d, _ => by unfold insInner; rfl
  | j + 1, d, h => by
    unfold insInner
    rw [get_map f d h, get_map f d (by omega : j < d.size)]
    split
    · rw [inner_map f lt a j _ (by rw [swp_size]; omega), swp_map f d h (by omega)]
    · rfl
theorem inner_size (lt : α → α → Bool) (a : Nat) : ∀ (j : Nat) (d : Array α), (insInner lt a j d).size = d.size
  | 0, d => by unfold insInner; rfl
  | j + 1, d => by
    unfold insInner
    split
    · rw [inner_size lt a j, swp_size]
    · rfl
theorem outer_map (f : α → β) (lt : β → β → Bool) (a b : Nat) : ∀ (n i : Nat) (d : Array α), b - i = n → b ≤ d.size → (insOuter (fun x y => lt (f x) (f y)) a b i d).map f = insOuter lt a b i (d.map f)
  | 0, i, d, hn, _ => by
    rw [insOuter, if_neg (by omega), insOuter, if_neg (by omega)]
  | n + 1, i, d, hn, hb => by
    rw [insOuter, if_pos (by omega), outer_map f lt a b n (i + 1) _ (by omega) (by rw [inner_size]; exact hb), inner_map f lt a i d (by omega)]
    conv => rhs; rw [insOuter, if_pos (by omega)]
end
section
variable {α : Type} [Inhabited α] {k : α → Tx}
/-- insertion by keys -/
theorem ins_merge (l : List α) : (insertionSort (fun x y => decide (k x < k y)) l.toArray 0 l.length).toList = l.mergeSort (leK k) := by
  have h0 : (l.zipIdx.toArray).toList = l.zipIdx := by simp
  have hsz : (l.zipIdx.toArray).size = l.length := by simp
  have hm : (l.zipIdx.toArray).map (·.1) = l.toArray := by
    apply Array.toList_inj.1
    rw [Array.toList_map, h0]
    simp
  have h1 := (StgI.zero (lx := lxB k) (s := l.length + 1) (tag_zip h0)).op (kl := klB k) swo_lx agree_lx total_lx (by omega) (nd_zip h0) (Nat.zero_le _) (b := l.length) (by omega) (by omega)
  obtain ⟨e1, e2, e3, e4, -⟩ := h1
  have h2 := stable_done h0 (⟨e1, e2, by rw [e2, hsz]; exact e3, e4⟩ : StgD (lxB k) (·.2) (l.length + 1) _ _) (by omega)
  rw [← h2]
  have h3 := outer_map (f := fun x : α × Nat => x.1) (fun x y => decide (k x < k y)) 0 l.length _ (0 + 1) l.zipIdx.toArray rfl (by omega)
  rw [hm] at h3
  unfold insertionSort
  rw [← h3, Array.toList_map]
  rfl
end
end Go.Proofs.YtplafpokgpolkaaGreatDoor
/- Members whose nodes' slices have the shape of slices, as things to be sorted by their paths. -/
namespace Go.Proofs.YtplafpokgpolkaaGreatDoor
open Go.RowKit Go.Sort Go.Shelf
abbrev MvS := {x : Mv // NdS x}
instance : Inhabited MvS := ⟨⟨(([], nd0), nilV, nilV), ⟨none, 0, 0, none, 0, 0, rfl, rfl⟩⟩⟩
def encS (x : MvS) : List Value := (mcell x.1).toList
def cfS (x y : MvS) : Int := cmpS x.1.1.1 y.1.1.1
theorem ltS (x y : MvS) : ltOf cfS x y = decide (x.1.1.1 < y.1.1.1) := by
  unfold ltOf cfS cmpS
  by_cases h : x.1.1.1 < y.1.1.1
  · simp [h]
  · by_cases k : y.1.1.1 < x.1.1.1 <;> simp [h, k]
theorem swoS : SWO (ltOf cfS) where
  irrefl x := by rw [ltS]; simp [tx_irrefl]
  trans x y z h1 h2 := by
    rw [ltS] at *
    simp only [decide_eq_true_eq] at *
    exact tx_trans h1 h2
  ntrans x y z h1 h2 := by
    rw [ltS] at *
    simp only [decide_eq_false_iff_not, List.not_lt] at *
    exact List.le_trans h2 h1
theorem list_sub (l : List Mv) (h : ∀ x ∈ l, NdS x) : ∃ ls : List MvS, ls.map (·.1) = l := by
  induction l with
  | nil => exact ⟨[], rfl⟩
  | cons x l ih =>
    obtain ⟨ls, hls⟩ := ih (fun y hy => h y (by simp [hy]))
    exact ⟨⟨x, h x (by simp)⟩ :: ls, by simp [hls]⟩
theorem flat_get (d : Array MvS) (t : Nat) (h : t < d.size * 9) : (mcells (d.toList.map (·.1)))[t]? = some ((flatK encS 9 d)[t]!) := by
  rw [get_flatK _ _ _ _ h]
  have ht : t = t / 9 * 9 + t % 9 := by omega
  have hlt : t / 9 < d.size := by omega
  conv => lhs; rw [ht, mcells_at _ _ _ (Nat.mod_lt _ (by omega))]
  rw [List.getElem?_map, Array.getElem?_toList, Array.getElem?_eq_getElem hlt]
  have h9 : t % 9 < (encS d[t / 9]).length := by
    show t % 9 < (mcell _).toList.length
    rw [mcell_len]; exact Nat.mod_lt _ (by omega)
  rw [getElem!_pos d _ hlt, getElem!_pos (encS d[t / 9]) _ h9]
  show (encS d[t / 9])[t % 9]? = _
  rw [List.getElem?_eq_getElem h9]
theorem flat_list (d : Array MvS) : (flatK encS 9 d).toList = mcells (d.toList.map (·.1)) := by
  apply List.ext_getElem?
  intro t
  by_cases h : t < d.size * 9
  · rw [flat_get d t h, Array.getElem?_toList, Array.getElem?_eq_getElem (by rw [size_flatK]; exact h), getElem!_pos _ _ (by rw [size_flatK]; exact h)]
  · rw [List.getElem?_eq_none (by simp; omega), List.getElem?_eq_none (by rw [mcells_length]; simp; omega)]
theorem heap_sortedK {w : World} {g n : Nat} {os : Array Obj} {cur : Array Value} {e : TypeId} {fr : Nat × Nat} (F : Array Value) (hb : w.heap[g]? = some (.cells cur e fr)) :
    (grow (putRow id (Sort.ahead w n) g 0 F) os).heap[g]? = some (.cells (putCells id 0 F cur) e fr) := by
  have hg : g < w.heap.size := (Array.getElem?_eq_some_iff.1 hb).1
  rw [heap_grow_old _ _ (by simpa using hg)]
  simp [putRow, mapBlock, Sort.ahead, Array.getElem?_modify, hb, onCells]
theorem grownBy_sortedK {w : World} {g n : Nat} {os : Array Obj} (F : Array Value) : w.grownBy (grow (putRow id (Sort.ahead w n) g 0 F) os) (some g) := by
  refine ⟨rfl, rfl, rfl, by simp, fun k hk hne => ?_⟩
  rw [heap_grow_old _ _ (by simpa using hk)]
  have : g ≠ k := fun e => hne (by rw [e])
  simp [putRow, mapBlock, Sort.ahead, Array.getElem?_modify, this]
theorem take_putCellsK (cur F : Array Value) (h : F.size ≤ cur.size) : (putCells id 0 F cur).toList.take F.size = F.toList := by
  apply List.ext_getElem?
  intro j
  by_cases hj : j < F.size
  · rw [List.getElem?_take_of_lt hj, Array.getElem?_toList]
    simp [putCells, hj, show j < cur.size by omega]
  · rw [List.getElem?_take_eq_none (by omega), List.getElem?_eq_none (by simp; omega)]
/-- numbered -/
def encT (x : MvS × Nat) : List Value := encS x.1
def cfT (x y : MvS × Nat) : Int := cfS x.1 y.1
def pathS (x : MvS) : Tx := x.1.1.1
theorem ltT : ltOf cfT = klB pathS := by
  funext x y
  show ltOf cfS x.1 y.1 = _
  rw [ltS]; rfl
theorem swoT : SWO (ltOf cfT) where
  irrefl x := swoS.irrefl x.1
  trans x y z := swoS.trans x.1 y.1 z.1
  ntrans x y z := swoS.ntrans x.1 y.1 z.1
theorem ordT : Ord (ltOf cfT) (lxB pathS) (·.2) := ⟨swo_lx, by rw [ltT]; exact agree_lx, total_lx⟩
theorem flatT (d : Array (MvS × Nat)) : flatK encT 9 d = flatK encS 9 (d.map (·.1)) := by
  apply Array.ext
  · rw [size_flatK, size_flatK, Array.size_map]
  · intro i h1 h2
    rw [size_flatK] at h1
    have h2' : i < (d.map (·.1)).size * 9 := by rw [Array.size_map]; exact h1
    have e1 := get_flatK encT 9 d i h1
    have e2 := get_flatK encS 9 (d.map (·.1)) i h2'
    rw [getElem!_pos _ i (by rw [size_flatK]; exact h1)] at e1
    rw [getElem!_pos _ i (by rw [size_flatK]; exact h2')] at e2
    rw [e1, e2, get_map (·.1) d (by omega : i / 9 < d.size)]
    rfl
end Go.Proofs.YtplafpokgpolkaaGreatDoor
/- slices.swapRangeCmpFunc over Members. -/
namespace Go.Proofs.YtplafpokgpolkaaGreatDoor
open Go.Shelf Go.RowKit Go.Lib Go.Sort
set_option maxHeartbeats 4000000 in
set_option maxRecDepth 1000000 in
theorem swr_any {α : Type} [Inhabited α] (k : Nat) (zE : ∀ w, (Go.sizeOf 32).run Tryz.prog w = .ok k w) (enc : α → List Value) (g : Nat) (cb : Array Value) (blk off cap : Nat) (a b n : Nat) (d0 d : Array α) (w0 w : World) (R : RowK enc k w0 blk off d0) (hs : d0.size = d.size) (S : SWK enc k w0 blk off d w) (hab : a + n ≤ b) (hb : b + n ≤ d.size) (hsz : d.size < 4611686018427387904) :
    Calls Tryz.prog 179 #[.slice (some ⟨blk, off, none⟩) d.size cap, .int .i64 a, .int .i64 b, .int .i64 n, .func (.func g) #[] cb] w fun e w' => e = .returned (.tuple #[]) ∧ ∃ d', SWK enc k w0 blk off d' w' ∧ SwOk d d' a b n := by
  have aE : ∀ w, (isAgg 32).run Tryz.prog w = .ok true w := fun w => by kernel_rfl
  have mixed : Tryz.prog.follows Departure.mixedOrders = true := by first | rfl | kernel_rfl
  have S0 : Aside (SWK enc k w0 blk off d w) := S
  clear S
  go_enter Tryz.func179, Tryz.ntmps179
  go_wp2
  go_loopg [10] n (fun kx s wr => ∃ (i : Nat) (dk : Array α), s = .int .i64 i ∧ i ≤ n ∧ n - i ≤ kx ∧ Aside (SWK enc k w0 blk off dk wr) ∧ Aside (SwOk d dk a b i))
  case atStart => exact ⟨0, d, by go_num, by omega, by omega, S0, SwOk.zero d a b⟩
  case round =>
    clear S0
    obtain ⟨i, dk, rfl, hin, hkx, S1, H1⟩ := hrel
    have hds : dk.size = d.size := H1.out.size
    by_cases hlt : i < n
    · have hltz : (i : Int) < (n : Int) := by omega
      obtain ⟨x, hx⟩ : ∃ x, x = a + i := ⟨_, rfl⟩
      obtain ⟨y, hy⟩ : ∃ y, y = b + i := ⟨_, rfl⟩
      have rx : IntKind.i64.wrap ((a : Int) + (i : Int)) = (x : Int) := by rw [IntKind.wrap_i64]; omega
      have ry : IntKind.i64.wrap ((b : Int) + (i : Int)) = (y : Int) := by rw [IntKind.wrap_i64]; omega
      have H2 : Aside (SwOk d (swp dk x y) a b (i + 1)) := by
        show SwOk _ _ _ _ _
        rw [hx, hy]
        exact H1.out.step (by omega) (by omega)
      have hx2 : x < d.size := by omega
      have hy2 : y < d.size := by omega
      have HX : Aside (x = a + i ∧ y = b + i) := ⟨hx, hy⟩
      clear hx hy
      go_wp2_with fail
      have bx1 : ((x : Nat) : Int) < (d.size : Int) := by omega
      have by1 : ((y : Nat) : Int) < (d.size : Int) := by omega
      have S2 : Aside (SWK enc k w0 blk off (swp dk (x) (y)) ((wr.drew.setCells blk (off + (x) * k) (enc dk[y]!)).setCells blk (off + (y) * k) (enc dk[x]!))) := S1.out.swapped R (x) (y) (by omega) (by omega)
      have la1 := S1.out.ld1 R (by omega) Tryz.prog (x) (by omega)
      have lb1 := S1.out.ld1 R (by omega) Tryz.prog (y) (by omega)
      have sa1 := S1.out.st1 R (by omega) Tryz.prog (x) (by omega) dk[y]!
      have sb1 := S1.out.st2 R (by omega) Tryz.prog (x) (y) (by omega) (by omega) dk[y]! dk[x]!
      have na1 : (enc dk[x]!).length = k := R.hk _
      have nb1 : (enc dk[y]!).length = k := R.hk _
      generalize enc dk[x]! = cI1 at S2 la1 sb1 na1
      generalize enc dk[y]! = cJ1 at S2 lb1 sa1 sb1 nb1
      clear S1
      go_big_region_o
      clear la1 lb1 sa1 sb1
      generalize (wr.drew.setCells blk (off + (x) * k) cJ1).setCells blk (off + (y) * k) cI1 = w2 at S2 ⊢
      go_wp2
      go_roundg (n - (i + 1))
      case measure => omega
      case rel => exact ⟨i + 1, swp dk x y, by go_num, by omega, Nat.le_refl _, S2, H2⟩
    · obtain rfl : i = n := by omega
      go_wp2
      go_end0
      exact ⟨rfl, dk, S1.out, H1.out⟩
end Go.Proofs.YtplafpokgpolkaaGreatDoor
