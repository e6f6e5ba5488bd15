/- PARTS OF ONE PROOF, set in one file: RowM, TreeSwap, MbDel, AppFull, FewA, FewB. Each part tells its own conditions. -/
import Derived.ArgAppend
import Derived.Test.YtmnknmpfkjhgbaaGreatDoorP4
import Derived.Test.YtmnknmpfkjhgbaaGreatDoorP5
import Derived.Test.YtmnknmpfkjhgbaaGreatDoorP6
import Derived.Test.YtmnknmpfkjhgbaaGreatDoorP7
/- A ROW OF MEMBERS OF ONE'S OWN, whose nodes' slices lie elsewhere; what is appended to it. -/
namespace Go.Proofs.YtmnknmpfkjhgbaaGreatDoor
open Go.RowKit
/-- K: old blocks in which the nodes' slices may lie, too -/
structure RowM (B : Nat) (K : Nat → Prop) (w : World) (v : Value) (l : List Mv) : Prop where
  own : w.ownsRow B 41 9 v l.length (mcells l)
  nd : ∀ x ∈ l, NdR w (fun b => (K b ∨ B ≤ b) ∧ b < w.heap.size ∧ v.ownBlock ≠ some b) x.1.2 x.2.1 x.2.2
theorem RowM.nil (B : Nat) (K : Nat → Prop) (w : World) : RowM B K w (.slice none 0 0) [] := ⟨World.ownsRow_nil _ _ _ _, fun _x hx => (List.not_mem_nil hx).elim⟩
theorem RowM.lt {B : Nat} {K : Nat → Prop} {w : World} {v : Value} {l : List Mv} (h : RowM B K w v l) {b : Nat} (hb : v.ownBlock = some b) : B ≤ b ∧ b < w.heap.size := World.ownsRow.lt h.own b hb
theorem RowM.below {B : Nat} {K : Nat → Prop} {w w' : World} {v : Value} {l : List Mv} (h : RowM B K w v l) (hb : Below w.heap.size w w') : RowM B K w' v l :=
  ⟨ownsRow_loc _ _ (fun b e => hb.block b (h.lt e).2) h.own, fun x hx => ((h.nd x hx).loc (fun b e => hb.block b e.2.1)).mono (fun _b e => ⟨e.1, Nat.lt_of_lt_of_le e.2.1 hb.size, e.2.2⟩)⟩
theorem RowM.lower {B B' : Nat} {K K' : Nat → Prop} {w : World} {v : Value} {l : List Mv} (h : RowM B K w v l) (hB : B' ≤ B) (hK : ∀ b, K b → K' b) : RowM B' K' w v l :=
  ⟨ownsRow_base h.own hB, fun x hx => (h.nd x hx).mono (fun b e => ⟨e.1.imp (hK b) (Nat.le_trans hB), e.2⟩)⟩
theorem RowM.mbs {B : Nat} {K : Nat → Prop} {w : World} {v : Value} {l : List Mv} (h : RowM B K w v l) : Mbs w (Fresh B w) (fun b => (K b ∨ B ≤ b) ∧ b < w.heap.size ∧ v.ownBlock ≠ some b) v l :=
  ⟨(ownsV_reads h.own).mono (fun _ hb => ⟨hb.1, hb.2.1⟩), h.nd⟩
theorem RowM.ofOwn {B : Nat} {w : World} {v : Value} {l : List Mv} (h : OwnMbs B w v l) (K : Nat → Prop) : RowM B K w v l :=
  ⟨h.own, fun x hx => (h.nd x hx).r.mono (fun _b e => ⟨.inr e.1, e.2.1, e.2.2⟩)⟩
theorem RowM.app {B : Nat} {K : Nat → Prop} {w w' : World} {v v' : Value} {l l2 : List Mv} (h : RowM B K w v l) (h2 : ∀ x ∈ l2, NdR w (fun b => (K b ∨ B ≤ b) ∧ b < w.heap.size ∧ v.ownBlock ≠ some b) x.1.2 x.2.1 x.2.2)
    (ho : w'.ownsRow B 41 9 v' (l.length + l2.length) (mcells l ++ mcells l2)) (hg : w.grownBy w' v.ownBlock) (hov : v'.ownBlock = v.ownBlock ∨ v'.ownBlock = some w.heap.size) : RowM B K w' v' (l ++ l2) := by
  refine ⟨by rw [List.length_append, mcells_append]; exact ho, fun x hx => ?_⟩
  have hx' : NdR w (fun b => (K b ∨ B ≤ b) ∧ b < w.heap.size ∧ v.ownBlock ≠ some b) x.1.2 x.2.1 x.2.2 := by
    rcases List.mem_append.1 hx with hx | hx
    · exact h.nd x hx
    · exact h2 x hx
  refine (hx'.loc (fun b e => hg.block b e.2.1 (fun e2 => e.2.2 e2.symm))).mono (fun b e => ⟨e.1, Nat.lt_of_lt_of_le e.2.1 hg.size, ?_⟩)
  rcases hov with e1 | e1
  · rw [e1]; exact e.2.2
  · rw [e1]; intro e2; injection e2 with e2; have := e.2.1; omega
/-- ARM: Members are appended -/
theorem arm_appM {ops : Array Oper} {rest : List Oper} {a : Act} {w : World} {Q : Exit → Act → World → Prop} {tp : TypeId} {dst : Option Tmp} {s x : Operand} {pos : String} {after : Array Edge} {B : Nat} {K N N' : Nat → Prop} {v xv : Value} {l l2 : List Mv}
    (h : RowM B K w v l) (hB : B ≤ w.heap.size) (h2 : Mbs w N N' xv l2) (hN : ∀ b, N' b → (K b ∨ B ≤ b) ∧ b < w.heap.size ∧ v.ownBlock ≠ some b) (hl : l.length + l2.length ≤ 1000000000000)
    (hs : a.eval s = v) (hx : a.eval x = xv)
    (k : ∀ v' w', RowM B K w' v' (l ++ l2) → w.grownBy w' v.ownBlock → (v'.ownBlock = v.ownBlock ∨ v'.ownBlock = some w.heap.size) → (∃ aa cc, v' = .slice aa (l.length + l2.length) cc) → wpList Tryz.prog ops Q rest (a.put dst v') w') :
    wpList Tryz.prog ops Q (⟨dst, .call ⟨.builtin .append, #[s, x], #[23, 23]⟩, tp, pos, after, none⟩ :: rest) a w := by
  refine arm_appendV slMb h.own h2.rd (mcells_one (fun y hy => (h2.nd y hy).shape)) (by unfold maxLen; omega) (by omega) hB hs hx ?_
  intro v' w' ho hg hov _
  refine k v' w' (h.app (fun y hy => (h2.nd y hy).mono hN) ho hg hov) hg hov ?_
  obtain ⟨aa, cc, e, -⟩ := (ownsV_reads ho).shape
  exact ⟨aa, cc, e⟩
/-- a row that has grown: nothing below its base has changed -/
theorem RowM.chg {B : Nat} {K : Nat → Prop} {w w' : World} {v : Value} {l : List Mv} (h : RowM B K w v l) (hB : B ≤ w.heap.size) (hg : w.grownBy w' v.ownBlock) : Below B w w' :=
  (Chg.grown (M := NoM) (.refl _ _ _) hg hB (fun _k e => .inl (h.lt e).1)).below (fun _ _ h => h)
end Go.Proofs.YtmnknmpfkjhgbaaGreatDoor
/- TreeSwap: two Members of a row are exchanged, in a region that draws its order. -/
namespace Go.Proofs.YtmnknmpfkjhgbaaGreatDoor
open Go.RowKit
/-- the list xs with cs laid over it from j on -/
def layAt : List Value → Nat → List Value → List Value
  | xs, _, [] => xs
  | xs, j, v :: r => layAt (xs.set j v) (j + 1) r
theorem layAt_get : ∀ (cs xs : List Value) (j i : Nat), j + cs.length ≤ xs.length → (layAt xs j cs)[i]? = if j ≤ i ∧ i < j + cs.length then cs[i - j]? else xs[i]?
  | [], xs, j, i, h => by
    rw [layAt, if_neg (by simp)]
  | v :: r, xs, j, i, h => by
    rw [List.length_cons] at h
    rw [layAt, layAt_get r _ _ _ (by rw [List.length_set]; omega)]
    by_cases h1 : j + 1 ≤ i ∧ i < j + 1 + r.length
    · rw [if_pos h1, if_pos (by rw [List.length_cons]; omega), show i - j = (i - (j + 1)) + 1 by omega, List.getElem?_cons_succ]
    · rw [if_neg h1]
      by_cases h2 : i = j
      · subst h2
        rw [if_pos (by rw [List.length_cons]; omega), Nat.sub_self, List.getElem?_cons_zero, List.getElem?_set_self (by omega)]
      · rw [if_neg (by rw [List.length_cons]; omega), List.getElem?_set_ne (Ne.symm h2)]
theorem owns_setCells {base size g cap n : Nat} {e : TypeId} : ∀ (cs xs : List Value) (w : World) (j : Nat), w.ownsRow base e size (.slice (some ⟨g, 0, none⟩) n cap) n xs →
    (w.setCells g j cs).ownsRow base e size (.slice (some ⟨g, 0, none⟩) n cap) n (layAt xs j cs) ∧ w.grownBy (w.setCells g j cs) (some g)
  | [], xs, w, j, h => ⟨h, rfl, rfl, rfl, Nat.le_refl _, fun _ _ _ => rfl⟩
  | v :: r, xs, w, j, h => by
    obtain ⟨h1, g1⟩ := h.stored j v
    obtain ⟨h2, g2⟩ := owns_setCells r _ _ (j + 1) h1
    rw [World.setCells, layAt]
    exact ⟨h2, g2.os.trans g1.os, g2.tape.trans g1.tape, g2.output.trans g1.output, Nat.le_trans g1.size g2.size, fun k hk hne => (g2.block k (Nat.lt_of_lt_of_le hk g1.size) hne).trans (g1.block k hk hne)⟩
theorem mcells_at (l : List Mv) (i j : Nat) (hj : j < 9) : (mcells l)[i * 9 + j]? = (l[i]?).bind fun x => (mcell x).toList[j]? := by
  induction l generalizing i with
  | nil => simp [mcells]
  | cons x l ih =>
    rw [mcells_cons]
    cases i with
    | zero =>
      rw [Nat.zero_mul, Nat.zero_add, List.getElem?_append_left (by rw [mcell_len]; omega)]
      rfl
    | succ i =>
      rw [List.getElem?_append_right (by rw [mcell_len]; omega), mcell_len, show (i + 1) * 9 + j - 9 = i * 9 + j by omega, ih]
      rfl
theorem layAt_mcells (l : List Mv) (k : Nat) (x : Mv) (hk : k < l.length) : layAt (mcells l) (k * 9) (mcell x).toList = mcells (l.set k x) := by
  have hlen : ∀ l : List Mv, (mcells l).length = l.length * 9 := fun l => by
    induction l with
    | nil => rfl
    | cons y l ih => rw [mcells_cons, List.length_append, ih, mcell_len, List.length_cons]; omega
  refine List.ext_getElem? fun i => ?_
  rw [layAt_get _ _ _ _ (by rw [hlen, mcell_len]; omega), mcell_len]
  have hi : i = i / 9 * 9 + i % 9 := by omega
  by_cases h : k * 9 ≤ i ∧ i < k * 9 + 9
  · rw [if_pos h]
    have hd : i / 9 = k := by omega
    conv => rhs; rw [hi, mcells_at _ _ _ (Nat.mod_lt _ (by omega)), hd]
    rw [List.getElem?_set_self hk, show i - k * 9 = i % 9 by omega]
    rfl
  · rw [if_neg h]
    conv => lhs; rw [hi, mcells_at _ _ _ (Nat.mod_lt _ (by omega))]
    conv => rhs; rw [hi, mcells_at _ _ _ (Nat.mod_lt _ (by omega))]
    rw [List.getElem?_set_ne (by omega)]
theorem owns_setMb {base g cap n k : Nat} {w : World} {l : List Mv} (h : w.ownsRow base 41 9 (.slice (some ⟨g, 0, none⟩) n cap) n (mcells l)) (x : Mv) (hk : k < l.length) :
    (w.setCells g (k * 9) (mcell x).toList).ownsRow base 41 9 (.slice (some ⟨g, 0, none⟩) n cap) n (mcells (l.set k x)) ∧ w.grownBy (w.setCells g (k * 9) (mcell x).toList) (some g) := by
  have := owns_setCells (mcell x).toList _ w (k * 9) h
  rw [layAt_mcells l k x hk] at this
  exact this
theorem owns_there {base g cap n k : Nat} {w : World} {l : List Mv} (h : w.ownsRow base 41 9 (.slice (some ⟨g, 0, none⟩) n cap) n (mcells l)) (hn : n = l.length) (hk : k < l.length) : w.there g (k * 9) 9 := fun j hj => by
  refine ⟨?_, h.frozenAt _⟩
  rw [h.cellAt _ (by omega), mcells_at _ _ _ hj, List.getElem?_eq_getElem hk]
  show ((mcell l[k]).toList[j]?).isSome = true
  rw [List.getElem?_eq_getElem (by rw [mcell_len]; omega)]
  rfl
theorem mcell_one {w : World} {N : Nat → Prop} {x : Mv} (h : NdR w N x.1.2 x.2.1 x.2.2) : (mcell x).all (·.oneCell') = true := by
  obtain ⟨aa, la, ca, ad, ld, cd, e1, e2⟩ := h.shape
  unfold mcell mbC strV
  rw [e1, e2]
  simp [Value.oneCell']
theorem run_swap {ρ : Operand → Value} {d : Option Tmp} {x y : Operand} {t : TypeId} {pos : String} {af : Array Edge} {g : Option (Nat × Bool)} {w : World} {b o : Nat} {m : Mv} (hx : ρ x = .pointer (some ⟨b, o, none⟩)) (hy : ρ y = .agg (mcell m)) (ht : w.there b o 9) (h1 : (mcell m).all (·.oneCell') = true) :
    (execOp ρ (⟨d, .store 41 x y, t, pos, af, g⟩ : Oper)).run Tryz.prog w = .ok .skip (w.setCells b o (mcell m).toList) := by
  have := run_storeAt_mid (P := Tryz.prog) w b o 41 (mcell m) ht aggM.i h1
  simp [execOp, hx, hy, this]
/-- what is said of each operation of the exchange: slots 178 .. 191 -/
def swT (sl pk pj : Value) (k j : Nat) (ck cj : Array Value) : Nat → Value → Prop
  | 0, v => v = sl
  | 1, v => v = .int .i64 (k : Int)
  | 2, v => v = sl
  | 3, v => v = .int .i64 (j : Int)
  | 4, v => v = sl
  | 5, v => v = .int .i64 (j : Int)
  | 6, v => v = pj
  | 7, v => v = .agg cj
  | 8, v => v = sl
  | 9, v => v = .int .i64 (k : Int)
  | 10, v => v = pk
  | 11, v => v = .agg ck
  | 12, v => v = pk
  | 14, v => v = pj
  | _, _ => True
def swD (i : Nat) : Nat := if i < 13 then 178 + i else if i = 14 then 191 else 0
/-- .. and of the memory -/
def swI (sl pk pj : Value) (k j : Nat) (ck cj : Array Value) (W0 W1 W2 : World) (done : Array Bool) (s : Nat → Value) (w : World) : Prop :=
  (∀ i, i < 16 → done.getD i false = true → swT sl pk pj k j ck cj i (s (swD i))) ∧ w = if done.getD 15 false then W2 else if done.getD 13 false then W1 else W0
theorem swD_inj {i j : Nat} (_hi : i < 13 ∨ i = 14) (hj : j < 13 ∨ j = 14) (h : swD i = swD j) : i = j := by
  unfold swD at h
  split at h <;> split at h <;> (try split at h) <;> (try split at h) <;> omega
theorem swI.put {sl pk pj : Value} {k j : Nat} {ck cj : Array Value} {W0 W1 W2 : World} {done : Array Bool} {s s' : Nat → Value} {w : World} (h : swI sl pk pj k j ck cj W0 W1 W2 done s w) (i : Nat) {v : Value} (hi : i < 13 ∨ i = 14) (hv : s' (swD i) = v) (hs : ∀ q, q ≠ swD i → s' q = s q) (hT : swT sl pk pj k j ck cj i v) :
    swI sl pk pj k j ck cj W0 W1 W2 (done.setIfInBounds i true) s' w := by
  have hne : ∀ q, q ≠ i → (done.setIfInBounds i true).getD q false = done.getD q false := fun q hq => by
    simp [Array.getD_eq_getD_getElem?, Array.getElem?_setIfInBounds_ne (Ne.symm hq)]
  refine ⟨fun q hq hd => ?_, ?_⟩
  · by_cases e : q = i
    · subst e; rw [hv]; exact hT
    · rw [hne q e] at hd
      have := h.1 q hq hd
      rcases (by omega : (q < 13 ∨ q = 14) ∨ q = 13 ∨ q = 15) with hc | rfl | rfl
      · rw [hs _ (fun e2 => e (swD_inj hc hi e2))]; exact this
      · trivial
      · trivial
  · rw [hne 15 (by omega), hne 13 (by omega)]; exact h.2
theorem swI.at {sl pk pj : Value} {k j : Nat} {ck cj : Array Value} {W0 W1 W2 : World} {done : Array Bool} {s : Nat → Value} {w : World} (h : swI sl pk pj k j ck cj W0 W1 W2 done s w) (i : Nat) (hi : i < 16) (hd : done.getD i false = true) : swT sl pk pj k j ck cj i (s (swD i)) := h.1 i hi hd
theorem swI.store {sl pk pj : Value} {k j : Nat} {ck cj : Array Value} {W0 W1 W2 : World} {done : Array Bool} {s : Nat → Value} {w w' : World} (h : swI sl pk pj k j ck cj W0 W1 W2 done s w) (i : Nat) (hi : i = 13 ∧ w' = W1 ∧ done.getD 15 false = false ∨ i = 15 ∧ w' = W2) (hz : done.size = 16) :
    swI sl pk pj k j ck cj W0 W1 W2 (done.setIfInBounds i true) s w' := by
  have hne : ∀ q, q ≠ i → (done.setIfInBounds i true).getD q false = done.getD q false := fun q hq => by
    simp [Array.getD_eq_getD_getElem?, Array.getElem?_setIfInBounds_ne (Ne.symm hq)]
  have hii : (done.setIfInBounds i true).getD i false = true := by
    have : i < done.size := by rcases hi with ⟨rfl, _⟩ | ⟨rfl, _⟩ <;> omega
    simp [Array.getD_eq_getD_getElem?, this]
  refine ⟨fun q hq hd => ?_, ?_⟩
  · by_cases e : q = i
    · rcases hi with ⟨rfl, _⟩ | ⟨rfl, _⟩ <;> subst e <;> trivial
    · rw [hne q e] at hd; exact h.1 q hq hd
  · rcases hi with ⟨rfl, rfl, h15⟩ | ⟨rfl, rfl⟩
    · rw [hne 15 (by omega), h15, hii]; rfl
    · rw [hii]; rfl
end Go.Proofs.YtmnknmpfkjhgbaaGreatDoor
/- slices.DeleteFunc over Members of one's own; the predicate is a closure. -/
namespace Go.Proofs.YtmnknmpfkjhgbaaGreatDoor
open Go.RowKit
set_option maxRecDepth 100000 in
theorem run_clear_mbs (w : World) (b o n c : Nat) (hn : 0 < n) (hc : ∀ j, j < n * 9 → (w.cell? ⟨b, o + j, none⟩).isSome = true) (hf : ∀ j, j < n * 9 → w.frozen? ⟨b, o + j, none⟩ = false) :
    ∃ cs : List Value, cs.length = n * 9 ∧ ∀ ty, (Builtin.clear_ #[23] ty #[.slice (some ⟨b, o, none⟩) n c]).run Tryz.prog w = .ok (.tuple #[]) (w.setCells b o cs) := by
  have hz : ∀ w, (zeroValue 41).run Tryz.prog w = .ok (.agg (mbC ([], nd0) nilV nilV)) w := fun w => by kernel_rfl
  obtain ⟨Z, hZ⟩ : ∃ Z : Array Value, mbC ([], nd0) nilV nilV = Z := ⟨_, rfl⟩
  have hZs : Z.size = 9 := by rw [← hZ]; rfl
  have hZ1 : ∀ i, (h : i < Z.size) → Z[i].oneCell' = true := by
    have : (mbC ([], nd0) nilV nilV).all (·.oneCell') = true := by simp [mbC, strV, nilV, Value.oneCell']
    rw [hZ] at this
    intro i h
    exact (Array.all_eq_true.1 this) i h
  rw [hZ] at hz
  have hcl : (Value.agg Z).cells = Z := rfl
  have hl : (Builtin.zeroCells Z n).toList.length = n * 9 := by simp [Builtin.zeroCells, hZs]
  refine ⟨_, hl, fun ty => ?_⟩
  have hst := run_storeCells_cells (P := Tryz.prog) b o (Builtin.zeroCells Z n).toList 0 w (by rw [hl]; simpa using hc) (by rw [hl]; simpa using hf) (by
    intro v hv
    simp only [Builtin.zeroCells, Array.toList_map, List.mem_map] at hv
    obtain ⟨i, _, rfl⟩ := hv
    have hi : i % Z.size < Z.size := Nat.mod_lt _ (by omega)
    rw [getElem!_pos Z _ hi]
    exact hZ1 _ hi)
  simp only [Nat.add_zero] at hst
  obtain ⟨m, rfl⟩ : ∃ m, n = m + 1 := ⟨n - 1, by omega⟩
  simp [Builtin.clear_, run_underlying Tryz.underlying23, hz, hcl, hst]
def kpM (p : Mb → Bool) (l : List Mv) (j : Nat) : List Mv := (l.take j).filter fun x => !p x.1
theorem kpM_le (p : Mb → Bool) (l : List Mv) (j : Nat) : (kpM p l j).length ≤ j := Nat.le_trans (List.length_filter_le _ _) (by rw [List.length_take]; omega)
theorem kpM_succ (p : Mb → Bool) (l : List Mv) (j : Nat) (hj : j < l.length) : kpM p l (j + 1) = if p l[j].1 then kpM p l j else kpM p l j ++ [l[j]] := by
  unfold kpM
  rw [List.take_succ_eq_append_getElem hj, List.filter_append]
  cases h : p l[j].1
  · rw [List.filter_cons_of_pos (by simp [h])]; rfl
  · rw [List.filter_cons_of_neg (by simp [h])]; simp
theorem kpM_all (p : Mb → Bool) (l : List Mv) : kpM p l l.length = l.filter fun x => !p x.1 := by unfold kpM; rw [List.take_length]
/-- the row while it is done -/
structure DFM (p : Mb → Bool) (l ls : List Mv) (j : Nat) : Prop where
  sz : ls.length = l.length
  pre : ls.take (kpM p l j).length = kpM p l j
  post : ∀ m, j ≤ m → m < l.length → ls[m]? = l[m]?
theorem DFM.skip {p : Mb → Bool} {l ls : List Mv} {j : Nat} (h : DFM p l ls j) (hj : j < l.length) (hp : p l[j].1 = true) : DFM p l ls (j + 1) := by
  have hk := kpM_succ p l j hj
  rw [if_pos hp] at hk
  exact ⟨h.sz, by rw [hk]; exact h.pre, fun m hm hl => h.post m (by omega) hl⟩
theorem DFM.put {p : Mb → Bool} {l ls : List Mv} {j : Nat} (h : DFM p l ls j) (hj : j < l.length) (hp : p l[j].1 = false) : DFM p l (ls.set (kpM p l j).length l[j]) (j + 1) := by
  have hk := kpM_succ p l j hj
  rw [if_neg (by rw [hp]; decide)] at hk
  have hle := kpM_le p l j
  have hs := h.sz
  refine ⟨by simp [hs], ?_, fun m hm hml => ?_⟩
  · rw [hk, List.length_append, List.length_singleton, List.take_succ_eq_append_getElem (by rw [List.length_set]; omega), List.getElem_set_self, List.take_set_of_le (Nat.le_refl _), h.pre]
  · rw [List.getElem?_set_ne (by omega)]
    exact h.post m (by omega) hml
theorem layAt_take (cs xs : List Value) (j : Nat) (h : j + cs.length ≤ xs.length) : (layAt xs j cs).take j = xs.take j := by
  apply List.ext_getElem?
  intro i
  rw [List.getElem?_take, List.getElem?_take]
  split
  · rw [layAt_get _ _ _ _ h, if_neg (by omega)]
  · rfl
theorem owns_take {w : World} {base g n cap k : Nat} {e : TypeId} {xs ys : List Value} (h : w.ownsRow base e 9 (.slice (some ⟨g, 0, none⟩) n cap) n xs) (hk : k ≤ n) (hy : xs.take (k * 9) = ys) : w.ownsRow base e 9 (.slice (some ⟨g, 0, none⟩) k cap) k ys := by
  obtain ⟨h0, h⟩ := h
  rcases h with ⟨h1, _⟩ | ⟨g', cap', cur, h1, h2, h3, h4, h5, h6, h7⟩
  · cases h1
  · injection h1 with e1 e2 e3; injection e1 with e1; injection e1 with e1 _ _; subst e1 e3
    refine ⟨by rw [← hy, List.length_take]; omega, .inr ⟨g, cap, cur, rfl, h2, h3, by omega, h5, h6, ?_⟩⟩
    rw [← hy, ← h7, List.take_take, Nat.min_eq_left (by omega)]
theorem slice_mfrom_at (g n cap i : Nat) (hi : i ≤ n) (_hn : n ≤ cap) (hc : i < cap) (w : World) : (Instr.slice 23 (.slice (some ⟨g, 0, none⟩) n cap) (some (.int .i64 (i : Int))) none none).run Tryz.prog w = .ok (.slice (some ⟨g, i * 9, none⟩) (n - i) (cap - i)) w := by
  have he : Tryz.prog.elem 23 = 41 := by simp [Program.elem, Tryz.underlying23]
  have hs : ∀ w, (sizeOf 41).run Tryz.prog w = .ok 9 w := fun w => by kernel_rfl
  have hci : cap ≠ i := by omega
  rw [run_slice_l w 23 _ n cap (by rw [he]; exact Tryz.underlying23) .i64 (i : Int) (by omega) (by omega), he, hs]
  simp [Result.andThen, sliced, hci, Addr.add_mid]
theorem own_loadAt {base g cap n k : Nat} {w : World} {l : List Mv} (h : w.ownsRow base 41 9 (.slice (some ⟨g, 0, none⟩) n cap) n (mcells l)) (hn : n = l.length) {x : Mv} (hx : l[k]? = some x) : (Instr.loadAt 41 (.pointer (some ⟨g, k * 9, none⟩))).run Tryz.prog w = .ok (.agg (mcell x)) w := by
  have hk := (List.getElem?_eq_some_iff.1 hx).1
  have := run_loadAt_mid (P := Tryz.prog) w g (k * 9) 41 (mcell x).toList _ (fun j z hj => by
    have hlt := (List.getElem?_eq_some_iff.1 hj).1
    rw [mcell_len] at hlt
    rw [h.cellAt _ (by omega), mcells_at _ _ _ hlt, hx]
    exact hj) Tryz.underlying41 rfl (by rw [mcell_len]; exact aggM.i)
  simpa using this
theorem arm_setMb {ops : Array Oper} {rest : List Oper} {a : Act} {w : World} {Q : Exit → Act → World → Prop} {tp : TypeId} {dst : Option Tmp} {x y : Operand} {pos : String} {after : Array Edge} {base g cap n k : Nat} {ls : List Mv} (m : Mv)
    (ho : w.ownsRow base 41 9 (.slice (some ⟨g, 0, none⟩) n cap) n (mcells ls)) (hn : n = ls.length) (hk : k < ls.length) (h1 : (mcell m).all (·.oneCell') = true) (hx : a.eval x = .pointer (some ⟨g, k * 9, none⟩)) (hy : a.eval y = .agg (mcell m))
    (h : ∀ w', w'.ownsRow base 41 9 (.slice (some ⟨g, 0, none⟩) n cap) n (mcells (ls.set k m)) → w.grownBy w' (some g) → wpList Tryz.prog ops Q rest (a.put dst undef) w') :
    wpList Tryz.prog ops Q (⟨dst, .store 41 x y, tp, pos, after, none⟩ :: rest) a w :=
  wpList_skip rfl (run_swap hx hy (owns_there ho hn hk) h1) (h _ (owns_setMb ho m hk).1 (owns_setMb ho m hk).2)
theorem arm_sSt {P : Program} {ops : Array Oper} {rest : List Oper} {a : Act} {w : World} {Q : Exit → Act → World → Prop} {tp t : TypeId} {dst : Option Tmp} {x y : Operand} {pos : String} {after : Array Edge} (h : StM P ops rest a w Q ⟨dst, .store t x y, tp, pos, after, none⟩) : wpList P ops Q (⟨dst, .store t x y, tp, pos, after, none⟩ :: rest) a w := by cases h; assumption
set_option maxHeartbeats 4000000 in
set_option maxRecDepth 100000 in
theorem dfuncM (F : FuncId) (cs : Array Value) (p : Mb → Bool) (v : Value) (l : List Mv) (base : Nat) (K : Nat → Prop) (w : World) (hent : ∀ args w, (callFunc F args).run Tryz.prog w = .ok (.enter F args) w) (_hB : base ≤ w.heap.size) (hl : l.length ≤ 1000000000000)
    (hf : ∀ wx, Chg (fun b => v.ownBlock = some b) w.heap.size w wx → ∀ x ∈ l, Calls Tryz.prog F (#[.agg (mcell x)] ++ cs) wx fun e w' => e = .returned (.bool (p x.1)) ∧ Below wx.heap.size wx w') (h : RowM base K w v l) :
    Calls Tryz.prog 92 #[v, .func (.func F) #[] cs] w fun e w' => ∃ v', e = .returned v' ∧ RowM base K w' v' (l.filter fun x => !p x.1) ∧ v'.ownBlock = v.ownBlock ∧ Chg (fun b => v.ownBlock = some b) w.heap.size w w' := by
  have HI := Keep.keep (ifuncM F cs p v l w hent (fun wx hb x hx => hf wx (.of_below hb) x hx) (h.mbs.mono (fun b hb => hb.2) (fun b hb => hb.2.1)))
  have HF := Keep.keep hf
  have HM := Keep.keep h
  obtain ⟨hlen, hcase⟩ := h.own
  have HCASE := Keep.keep hcase
  clear hf hlen hcase
  by_cases hall : ∀ x ∈ l, p x.1 = false
  · have hi : idxM p l = -1 := idxM_none (fun j hj => hall _ (List.getElem_mem hj))
    have hfl : (l.filter fun x => !p x.1) = l := List.filter_eq_self.2 (fun x hx => by simp [hall x hx])
    obtain ⟨a, cap, rfl, -⟩ := (ownsV_reads HM.out.own).shape
    rw [hi] at HI
    rw [hfl]
    clear hi hfl hall h
    go_enter Tryz.func92, Tryz.ntmps92
    go_wp2_with fail
    refine HI.out.mono ?_
    rintro e w1 ⟨rfl, hb⟩
    have HB := Keep.keep hb
    clear hb
    go_wp2_with fail
    go_ret
    exact ⟨_, rfl, HM.out.below HB.out, rfl, .of_below HB.out⟩
  · obtain ⟨i, hi, hpi, hno⟩ : ∃ i, ∃ h : i < l.length, p l[i].1 = true ∧ ∀ j, (hj : j < i) → p (l[j]'(by omega)).1 = false := by
      cases hx : l.findIdx? (fun x => p x.1) with
      | none => exact absurd (fun x hx' => by simpa using List.findIdx?_eq_none_iff.1 hx x hx') hall
      | some i =>
        obtain ⟨h1, h2, h3⟩ := List.findIdx?_eq_some_iff_getElem.1 hx
        exact ⟨i, h1, h2, fun j hj => by simpa using h3 j hj⟩
    have hidx := idxM_hit hi hpi hno
    rw [hidx] at HI
    rcases HCASE.out with ⟨_, h0⟩ | ⟨g, cap, cur, rfl, hbase, hrow, hn, hmx, hsz, htk⟩
    · omega
    have hkp : kpM p l i = l.take i := by
      unfold kpM
      rw [List.filter_eq_self]
      intro x hx
      obtain ⟨j, hj, rfl⟩ := List.mem_iff_getElem.1 hx
      rw [List.length_take] at hj
      simp [hno j (by omega)]
    have hkl : (kpM p l i).length = i := by rw [hkp, List.length_take]; omega
    have hk1 := kpM_succ p l i hi
    rw [if_pos hpi] at hk1
    have HDF : Keep (DFM p l l (i + 1)) := ⟨⟨rfl, by rw [hk1, hkl, hkp], fun m _ _ => rfl⟩⟩
    have HKL : Keep ((kpM p l (i + 1)).length = i) := ⟨by rw [hk1]; exact hkl⟩
    have HTOT : Keep ((kpM p l l.length).length < l.length) := ⟨by
      rw [kpM_all]
      refine Nat.lt_of_le_of_ne (List.length_filter_le _ _) (fun e => ?_)
      have := List.length_filter_eq_length_iff.1 e l[i] (List.getElem_mem hi)
      simp [hpi] at this⟩
    have HGW : Keep (base ≤ g ∧ g < w.heap.size ∧ l.length ≤ cap ∧ cap ≤ maxLen) := ⟨hbase, (Array.getElem?_eq_some_iff.1 hrow).1, hn, hmx⟩
    unfold maxLen at hmx
    clear hidx hpi hno hall hkp hkl hk1 hsz htk hrow hbase HCASE h cur
    have hbig : l.length ≤ 9223372036854775807 := by omega
    go_enter Tryz.func92, Tryz.ntmps92
    go_wp2_with fail
    refine HI.out.mono ?_
    rintro e w1 ⟨rfl, hb⟩
    have HB := Keep.keep hb
    clear hb HI
    have hne : ((i : Int) == -1) = false := by rw [beq_eq_false_iff_ne]; omega
    go_wp2_with fail
    go_loopg [5, 6] (l.length - (i + 1)) (fun q u5 u6 wx => ∃ (j : Nat) (ls : List Mv), j + q = l.length ∧ u6 = .int .i64 (j : Int) ∧ u5 = .int .i64 ((kpM p l j).length : Int) ∧ wx.ownsRow base 41 9 (.slice (some ⟨g, 0, none⟩) l.length cap) l.length (mcells ls) ∧ DFM p l ls j ∧ Chg (fun b => b = g) w.heap.size w wx)
    case atStart => exact ⟨i + 1, l, by omega, by simp, by rw [HKL.out], (HM.out.below HB.out).own, HDF.out, .of_below HB.out⟩
    case round =>
      obtain ⟨j, ls, hjq, rfl, rfl, hown, hdf, hch⟩ := hrel
      have HO := Keep.keep hown; have HD := Keep.keep hdf; have HC := Keep.keep hch
      have hle := kpM_le p l j
      clear hown hdf hch
      cases gk with
      | zero =>
        obtain rfl : j = l.length := by omega
        have HFL : Keep (kpM p l l.length = l.filter fun x => !p x.1) := ⟨kpM_all p l⟩
        have htot := HTOT.out
        generalize hkk : (kpM p l l.length).length = i2 at *
        have HKK := Keep.keep hkk
        have hsz := HD.out.sz
        have hsl := slice_mfrom_at g l.length cap i2 (by omega) HGW.out.2.2.1 (by have := HGW.out.2.2.1; omega) wr
        obtain ⟨zs, hzl, hcl⟩ := run_clear_mbs wr g (i2 * 9) (l.length - i2) (cap - i2) (by omega) (fun m hm => by
          rw [HO.out.cellAt _ (by omega), List.getElem?_eq_getElem (by rw [mcells_length]; omega)]; rfl) (fun m hm => HO.out.frozenAt _)
        have hown2 := owns_setCells zs _ wr (i2 * 9) HO.out
        have hown3 := owns_take (k := i2) hown2.1 (by omega) (by rw [layAt_take _ _ _ (by rw [mcells_length]; omega), ← mcells_take, ← HKK.out, HD.out.pre])
        have HO3 := Keep.keep hown3
        have HC3 : Keep (Chg (fun b => b = g) w.heap.size w (wr.setCells g (i2 * 9) zs)) := ⟨HC.out.trans (((chg_grown hown2.2).mono (Nat.le_refl _) (fun b e => by injection e with e; exact e.symm)).lower HC.out.size)⟩
        clear hown2 hown3 hzl hkk hsz
        generalize wr.setCells g (i2 * 9) zs = w9 at *
        have hst := slice_mto (some ⟨g, 0, none⟩) l.length cap i2 .i64 (by have := HGW.out.2.2.1; omega) w9
        go_wp2_with fail
        go_ret
        refine ⟨_, rfl, ⟨?_, fun x hx => ?_⟩, rfl, HC3.out.mono (Nat.le_refl _) (fun b hb => by rw [hb]; rfl)⟩
        · rw [← HFL.out, HKK.out]; exact HO3.out
        · have hx2 := (List.mem_filter.1 hx).1
          refine ((HM.out.nd x hx2).loc (fun b e => HC3.out.block b e.2.1 (fun e2 => e.2.2 (by rw [e2]; rfl)))).mono (fun b e => ⟨e.1, Nat.lt_of_lt_of_le e.2.1 HC3.out.size, e.2.2⟩)
      | succ q =>
        have hj : j < l.length := by omega
        have hlj : ls[j]? = some l[j] := by rw [HD.out.post j (Nat.le_refl _) hj, List.getElem?_eq_getElem hj]
        have hld := own_loadAt HO.out HD.out.sz.symm hlj
        have HCF := Keep.keep (fun wx (hc : Chg (fun b => (Value.slice (some ⟨g, 0, none⟩) l.length cap).ownBlock = some b) w.heap.size w wx) => HF.out wx hc l[j] (List.getElem_mem hj))
        have HSK := Keep.keep (fun h => HD.out.skip hj h)
        have HPU := Keep.keep (fun h => HD.out.put hj h)
        have HK1 := Keep.keep (kpM_succ p l j hj)
        have HND := Keep.keep (HM.out.nd l[j] (List.getElem_mem hj))
        have HKT : Keep ((kpM p l j).length < l.length) := ⟨by omega⟩
        generalize hkk : (kpM p l j).length = k at *
        have HKK := Keep.keep hkk
        clear hkk hlj
        generalize p l[j].1 = pk at *
        generalize l[j] = x at *
        have HONE := Keep.keep (mcell_one HND.out)
        obtain ⟨⟨xp, ⟨kind, mode, uid, gid, time, attrs, data, link⟩⟩, av, dv⟩ := x
        obtain ⟨aa, la, ca, ad, ld, cd, e1, e2⟩ := HND.out.shape
        dsimp only at e1 e2
        subst e1 e2
        have HMC : Keep (mcell (((xp, ⟨kind, mode, uid, gid, time, attrs, data, link⟩), .slice aa la ca, .slice ad ld cd) : Mv) = #[.string ⟨xp.toArray⟩, .int .i64 kind, .int .u32 mode, .int .u32 uid, .int .u32 gid, .int .i64 time, .slice aa la ca, .slice ad ld cd, .string ⟨link.toArray⟩]) := ⟨rfl⟩
        have HSZ : Keep ((#[.string ⟨xp.toArray⟩, .int .i64 kind, .int .u32 mode, .int .u32 uid, .int .u32 gid, .int .i64 time, .slice aa la ca, .slice ad ld cd, .string ⟨link.toArray⟩] : Array Value).size = 9) := ⟨rfl⟩
        rw [HMC.out] at hld HCF
        clear HND
        go_upto_region 8 with ((with_reducible refine arm_loadM hld ?_ ?_); (focus rfl); simp only [Act.put, List.setIfInBounds_toArray, List.set_cons_succ, List.set_cons_zero])
        refine wp_world (R := fun wq => Hp NoM wr wq [rowA wr.heap.size 41 #[.string ⟨xp.toArray⟩, .int .i64 kind, .int .u32 mode, .int .u32 uid, .int .u32 gid, .int .i64 time, .slice aa la ca, .slice ad ld cd, .string ⟨link.toArray⟩]]) ((Hp.begin NoM wr).newRow _ _) ?_
        intro w2 H2
        have HRV := Keep.keep (H2.out.row 0 rfl)
        have HC2 := Keep.keep (HC.out.trans ((Chg.of_below (M := fun b => b = g) H2.out.below).lower HC.out.size))
        obtain ⟨b7, hb7⟩ : ∃ b7, wr.heap.size = b7 := ⟨_, rfl⟩
        have HB7 := Keep.keep hb7
        rw [hb7] at HRV ⊢
        clear hb7 hld
        go_wp2_with ((with_reducible refine arm_loadRow HRV.out aggM HSZ.out ?_ ?_); (focus rfl); simp only [Act.put, List.setIfInBounds_toArray, List.set_cons_succ, List.set_cons_zero])
        refine (HCF.out w2 (HC2.out.mono (Nat.le_refl _) (fun b hb => by rw [hb]; rfl))).mono ?_
        rintro e w3 ⟨rfl, hb3⟩
        have HB3 := Keep.keep (H2.out.below.trans (hb3.mono H2.out.below.size))
        have HRV3 := Keep.keep (HRV.out.below hb3 HRV.out.lt)
        have HO3 := Keep.keep (ownsRow_loc _ _ (fun b hb => HB3.out.block b (ownsV_lt HO.out b hb).2) HO.out)
        have HC3 := Keep.keep (HC2.out.trans ((Chg.of_below (M := fun b => b = g) hb3).lower HC2.out.size))
        clear hb3 HRV HCF
        cases pk with
        | true =>
          have HX := Keep.keep (HSK.out rfl)
          have HL : Keep ((kpM p l (j + 1)).length = k) := ⟨by rw [HK1.out, if_pos rfl]; exact HKK.out⟩
          go_wp2_with fail
          go_roundg q
          case measure => omega
          case rel => exact ⟨j + 1, ls, by omega, by simp, by rw [HL.out], HO3.out, HX.out, HC3.out⟩
        | false =>
          have HX := Keep.keep (HPU.out rfl)
          have HL : Keep ((kpM p l (j + 1)).length = k + 1) := ⟨by rw [HK1.out, if_neg (by decide), List.length_append, HKK.out]; rfl⟩
          have hkt := HKT.out
          clear HPU HSK
          go_upto_region 9 with fail
          go_wp2_with (first | ((with_reducible refine arm_loadRow HRV3.out aggM HSZ.out ?_ ?_); (focus rfl); simp only [Act.put, List.setIfInBounds_toArray, List.set_cons_succ, List.set_cons_zero]) | (with_reducible refine arm_sSt ?_))
          refine StM.out ?_
          refine arm_setMb (((xp, ⟨kind, mode, uid, gid, time, attrs, data, link⟩), .slice aa la ca, .slice ad ld cd) : Mv) HO3.out HD.out.sz.symm (by rw [HD.out.sz]; exact hkt) HONE.out rfl rfl ?_
          intro w4 ho4 hg4
          have HO4 := Keep.keep ho4
          have HC4 := Keep.keep (HC3.out.trans (((chg_grown hg4).mono (Nat.le_refl _) (fun b e => by injection e with e; exact e.symm)).lower HC3.out.size))
          clear ho4 hg4
          simp only [Act.put]
          go_wp2_with fail
          go_roundg q
          case measure => omega
          case rel => exact ⟨j + 1, _, by omega, by simp, by rw [HL.out]; simp, HO4.out, HX.out, HC4.out⟩
end Go.Proofs.YtmnknmpfkjhgbaaGreatDoor
/- append TO A FULL ROW: what was there stays; the head of a row of Members of one's own. -/
namespace Go.Proofs.YtmnknmpfkjhgbaaGreatDoor
open Go.RowKit
variable {P : Program}
theorem run_appFull {ρ : Operand → Value} {w : World} {t e tp : TypeId} {d : Option Tmp} {s x : Operand} {pos : String} {af : Array Edge} {g : Option (Nat × Bool)} {base k n m bytes b0 : Nat} {z xv : Value} {vs us : List Value} {N : Nat → Prop}
    (hT : SlK P t e z k bytes) (hown : w.ownsRow base e k (.slice (some ⟨b0, 0, none⟩) n n) n vs) (hrd : RdV w N k xv m us) (h1 : ∀ u ∈ us, u.oneCell' = true) (hbd : n + m ≤ maxLen) (hbd2 : (n + m) * bytes ≤ 140737488355328) (hbase : base ≤ w.heap.size)
    (hs : ρ s = .slice (some ⟨b0, 0, none⟩) n n) (hx : ρ x = xv) :
    ∃ v' w', (execOp ρ (⟨d, .call ⟨.builtin .append, #[s, x], #[t, t]⟩, tp, pos, af, g⟩ : Oper)).run P w = .ok (.value v') w' ∧ w'.ownsRow base e k v' (n + m) (vs ++ us) ∧ Below w.heap.size w w' := by
  obtain ⟨i, hi, hz, hsize, hby⟩ := hT.i
  have key : ∃ v' w', (Builtin.append_ #[t, t] tp #[.slice (some ⟨b0, 0, none⟩) n n, xv]).run P w = .ok v' w' ∧ w'.ownsRow base e k v' (n + m) (vs ++ us) ∧ Below w.heap.size w w' := by
    have hlen := hrd.len
    obtain ⟨_, ⟨ad, cap, rfl, h1', h2, h3⟩, hc⟩ := hrd
    by_cases hm : m = 0
    · subst hm
      obtain rfl : us = [] := List.eq_nil_of_length_eq_zero (by omega)
      refine ⟨.slice (some ⟨b0, 0, none⟩) n n, w, ?_, by simpa using hown, Below.refl _ _⟩
      cases ad <;> simp [Builtin.append_, run_underlying hT.u, sizeOf, typeInfo, hi, Builtin.lenOf, Builtin.firstCells, loadCells, loadCellsFrom, storeCells]
    · obtain ⟨b, off, rfl, -⟩ := h3.resolve_left (fun e => hm (by omega))
      have hcells : ∀ j u, us[j]? = some u → w.cell? ((⟨b, off, none⟩ : Addr).add j) = some u := by
        intro j u hu
        rw [Addr.add_mid]
        exact hc b off _ _ rfl j u hu
      have holds : ∀ j u, vs[j]? = some u → w.cell? ((⟨b0, 0, none⟩ : Addr).add j) = some u := fun j u hu => World.ownsRow.cells hown rfl j u hu
      obtain ⟨v', w', hrun, ho, hg⟩ := run_append_arg_grows (P := P) w t tp e i z k bytes hT.u hi hz hsize hby hT.z hT.k ⟨b0, 0, none⟩ n n vs hown.1 holds ⟨b, off, none⟩ m cap us hlen hcells (by omega) hbd hbd2
      exact ⟨v', w', hrun, ownsRow_base ho hbase, (Chg.grown (M := NoM) (.refl _ _ _) hg (Nat.le_refl _) (fun k e => by cases e)).below (fun _ _ h => h)⟩
  obtain ⟨v', w', hrun, h2, h3⟩ := key
  refine ⟨v', w', ?_, h2, h3⟩
  unfold execOp
  simp only [resolve, invoke, builtin, Sem.run_bind, Sem.run_pure, Result.andThen_ok, List.map_toArray, List.map_cons, List.map_nil, hs, hx, hrun]
theorem RowM.take {B : Nat} {K : Nat → Prop} {w : World} {a : Option Addr} {n c : Nat} {l : List Mv} (h : RowM B K w (.slice a n c) l) (j : Nat) (hj : j ≤ n) : RowM B K w (.slice a j c) (l.take j) := by
  have hn : l.length = n := by
    obtain ⟨_, _, he, -⟩ := (ownsV_reads h.own).shape
    injection he with _ e2 _
    exact e2.symm
  have hl : (l.take j).length = j := by rw [List.length_take]; omega
  refine ⟨?_, fun x hx => ?_⟩
  · rw [hl]
    have ho := h.own
    rw [hn] at ho
    rcases ho.2 with ⟨he, h0⟩ | ⟨g, cap, cur, he, hr⟩
    · injection he with e1 e2 e3
      subst e1 e3
      obtain rfl : j = 0 := by omega
      refine ⟨by simp [mcells_length], .inl ⟨rfl, rfl⟩⟩
    · injection he with e1 e2 e3
      subst e1 e3
      exact owns_take ho hj (by rw [mcells_take])
  · have := h.nd x (List.mem_of_mem_take hx)
    cases a <;> exact this
end Go.Proofs.YtmnknmpfkjhgbaaGreatDoor
/- portolanlaw12.Few: what it cuts; single operations on texts. -/
namespace Go.Proofs.YtmnknmpfkjhgbaaGreatDoor
open Go.RowKit
def cutA (x : R2) : R2 := (x.1.take 250, x.2.take 700)
def cutN (n : Nd) : Nd := { n with link := n.link.take 4100, data := n.data.take 1500, attrs := (n.attrs.take 20).map cutA }
def cutM (m : Mb) : Mb := (m.1.take 4100, cutN m.2)
def few12 (l : List Mb) : List Mb := (l.take 12).map cutM
section
variable {ρ : Operand → Value} {d : Option Tmp} {x y : Operand} {t : TypeId} {pos : String} {af : Array Edge} {g : Option (Nat × Bool)} {w : World}
theorem run_lenS {l : Tx} (hx : ρ x = .string ⟨l.toArray⟩) : (execOp ρ (⟨d, .call ⟨.builtin .len, #[x], #[9]⟩, t, pos, af, g⟩ : Oper)).run Tryz.prog w = .ok (.value (.int .i64 (l.length : Int))) w := by
  simp [execOp, resolve, invoke, builtin, Builtin.len_, hx, run_underlying Tryz.underlying9]
  rfl
theorem run_minC {n c : Int} (hx : ρ x = .int .i64 n) (hc : ρ y = .int .i64 c) : (execOp ρ (⟨d, .call ⟨.builtin .min, #[x, y], #[3, 3]⟩, 3, pos, af, g⟩ : Oper)).run Tryz.prog w = .ok (.value (.int .i64 (min n c))) w := by
  have h2 : (Builtin.min2 (.int .i64 n) (.int .i64 c)).run Tryz.prog w = .ok (.int .i64 (min n c)) w := by
    unfold Builtin.min2
    simp only [Int.min_def]
    split <;> split <;> first | rfl | omega
  simp [go_sem, Builtin.min_, hx, hc, h2]
theorem run_sliceS {l : Tx} {k : Nat} (hk : k ≤ l.length) (hx : ρ x = .string ⟨l.toArray⟩) (hy : ρ y = .int .i64 (k : Int)) : (execOp ρ (⟨d, .slice 9 x none (some y) none, t, pos, af, g⟩ : Oper)).run Tryz.prog w = .ok (.value (.string ⟨(l.take k).toArray⟩)) w := by
  simp [go_sem, execOp, hx, hy, Instr.sliceAt]
  rw [if_pos hk]
  have : ByteArray.extract ⟨l.toArray⟩ 0 k = ⟨(l.take k).toArray⟩ := by
    apply ByteArray.ext
    simp [ByteArray.data_extract]
  rw [this]
theorem run_storeS {s : Tx} {b off : Nat} (hc : ∃ v, w.cell? ⟨b, off, none⟩ = some v) (hf : w.frozen? ⟨b, off, none⟩ = false) (hx : ρ x = .pointer (some ⟨b, off, none⟩)) (hy : ρ y = .string ⟨s.toArray⟩) :
    (execOp ρ (⟨d, .store 9 x y, t, pos, af, g⟩ : Oper)).run Tryz.prog w = .ok .skip (w.setCell ⟨b, off, none⟩ (.string ⟨s.toArray⟩)) := by
  obtain ⟨v, hc⟩ := hc
  have hz : (sizeOf 9).run Tryz.prog w = .ok 1 w := by kernel_rfl
  simp [go_sem, execOp, hx, hy, hz, hc, hf, Instr.storeAt, storeCells]
end
end Go.Proofs.YtmnknmpfkjhgbaaGreatDoor
/- portolanlaw12.Few. -/
namespace Go.Proofs.YtmnknmpfkjhgbaaGreatDoor
open Go.RowKit
/-- region 6: the row of t5 while it is under way -/
def fwR (kind mode uid gid time : Int) (av dv : Value) (q k : Tx) : Array Value := #[.string ⟨q.toArray⟩, .int .i64 kind, .int .u32 mode, .int .u32 uid, .int .u32 gid, .int .i64 time, av, dv, .string ⟨k.toArray⟩]
def Was (s q : Tx) : Prop := q = s ∨ q = s.take 4100
theorem Was.take {s q : Tx} (h : Was s q) : q.take 4100 = s.take 4100 := by rcases h with rfl | rfl <;> simp [List.take_take]
theorem Was.mn {s q : Tx} (h : Was s q) : min (q.length : Int) 4100 = min (s.length : Int) 4100 := by
  rcases h with rfl | rfl
  · rfl
  · rw [List.length_take]; omega
theorem Was.le {s q : Tx} (h : Was s q) : min s.length 4100 ≤ q.length := by
  rcases h with rfl | rfl
  · omega
  · rw [List.length_take]; omega
theorem Was.cut {s q : Tx} (h : Was s q) : q.take (min s.length 4100) = s.take 4100 := by
  rcases h with rfl | rfl
  · rw [List.take_eq_take_iff]; omega
  · rw [List.take_take, List.take_eq_take_iff]; omega
def fwT (B : Nat) (p k : Tx) : Nat → Value → World → Prop
  | 1, v, _ => ∃ q, v = .string ⟨q.toArray⟩ ∧ Was p q
  | 3, v, _ => ∃ q, v = .string ⟨q.toArray⟩ ∧ Was p q
  | 4, v, _ => ∃ q, v = .int .i64 (q.length : Int) ∧ Was p q
  | 5, v, _ => v = .int .i64 ((min p.length 4100 : Nat) : Int)
  | 6, v, _ => v = .string ⟨(p.take 4100).toArray⟩
  | 9, v, _ => ∃ q, v = .string ⟨q.toArray⟩ ∧ Was k q
  | 12, v, _ => ∃ q, v = .string ⟨q.toArray⟩ ∧ Was k q
  | 13, v, _ => ∃ q, v = .int .i64 (q.length : Int) ∧ Was k q
  | 14, v, _ => v = .int .i64 ((min k.length 4100 : Nat) : Int)
  | 15, v, _ => v = .string ⟨(k.take 4100).toArray⟩
  | 17, _, w => w.cell? ⟨B, 0, none⟩ = some (.string ⟨(p.take 4100).toArray⟩)
  | 20, _, w => w.cell? ⟨B, 8, none⟩ = some (.string ⟨(k.take 4100).toArray⟩)
  | 0, v, _ => v = .pointer (some ⟨B, 0, none⟩)
  | 2, v, _ => v = .pointer (some ⟨B, 0, none⟩)
  | 16, v, _ => v = .pointer (some ⟨B, 0, none⟩)
  | 7, v, _ => v = .pointer (some ⟨B, 1, none⟩)
  | 10, v, _ => v = .pointer (some ⟨B, 1, none⟩)
  | 18, v, _ => v = .pointer (some ⟨B, 1, none⟩)
  | _, v, _ => v = .pointer (some ⟨B, 8, none⟩)
def fwS (B : Nat) (p k : Tx) (w w' : World) : Prop := (w.cell? ⟨B, 0, none⟩ = some (.string ⟨(p.take 4100).toArray⟩) → w'.cell? ⟨B, 0, none⟩ = some (.string ⟨(p.take 4100).toArray⟩)) ∧ (w.cell? ⟨B, 8, none⟩ = some (.string ⟨(k.take 4100).toArray⟩) → w'.cell? ⟨B, 8, none⟩ = some (.string ⟨(k.take 4100).toArray⟩))
theorem fwS.refl (B : Nat) (p k : Tx) (w : World) : fwS B p k w w := ⟨fun h => h, fun h => h⟩
theorem fwT_stays {B : Nat} {p k : Tx} (i : Nat) (v : Value) (w w' : World) (h : fwT B p k i v w) (hs : fwS B p k w w') : fwT B p k i v w' := by
  by_cases e : i = 17
  · subst e; exact hs.1 h
  · by_cases e2 : i = 20
    · subst e2; exact hs.2 h
    · unfold fwT at h ⊢
      split at h <;> first | exact h | omega
/-- the class of worlds of region 6 -/
def fwC (W : World) (B : Nat) (kind mode uid gid time : Int) (av dv : Value) (p k : Tx) (w : World) : Prop :=
  Chg (fun b => b = B) W.heap.size W w ∧ ∃ q j, Was p q ∧ Was k j ∧ Row w B 41 (fwR kind mode uid gid time av dv q j)
theorem slAt2 : SlK Tryz.prog 36 92 (.agg #[.string ⟨#[]⟩, .string ⟨#[]⟩]) 2 32 := SlK.mk' Tryz.underlying36 (by kernel_rfl) rfl (by decide)
theorem buildA (p q : Tx) (w : World) : (Instr.build 92 #[(0, .string ⟨p.toArray⟩), (1, .string ⟨q.toArray⟩)]).run Tryz.prog w = .ok (.agg #[.string ⟨p.toArray⟩, .string ⟨q.toArray⟩]) w := by kernel_rfl
theorem run_buildA {ρ : Operand → Value} {d : Option Tmp} {x y : Operand} {t : TypeId} {pos : String} {af : Array Edge} {g : Option (Nat × Bool)} {w : World} {p q : Tx} (h1 : ρ x = .string ⟨p.toArray⟩) (h2 : ρ y = .string ⟨q.toArray⟩) :
    (execOp ρ (⟨d, .build 92 #[(0, x), (1, y)], t, pos, af, g⟩ : Oper)).run Tryz.prog w = .ok (.value (.agg #[.string ⟨p.toArray⟩, .string ⟨q.toArray⟩])) w := by
  simp [execOp, h1, h2, buildA]
/-- region 13 -/
def afT (Br : Nat) (u : Value) (p q : Tx) : Nat → Value → World → Prop
  | 0, v, _ => v = u
  | 1, v, _ => v = .pointer (some ⟨Br, 0, none⟩)
  | 2, v, _ => v = .string ⟨p.toArray⟩
  | 3, v, _ => v = .pointer (some ⟨Br, 0, none⟩)
  | 4, v, _ => v = .string ⟨p.toArray⟩
  | 5, v, _ => v = .int .i64 (p.length : Int)
  | 6, v, _ => v = .int .i64 ((min p.length 250 : Nat) : Int)
  | 7, v, _ => v = .string ⟨(p.take 250).toArray⟩
  | 8, v, _ => v = .pointer (some ⟨Br, 1, none⟩)
  | 9, v, _ => v = .string ⟨q.toArray⟩
  | 10, v, _ => v = .pointer (some ⟨Br, 1, none⟩)
  | 11, v, _ => v = .string ⟨q.toArray⟩
  | 12, v, _ => v = .int .i64 (q.length : Int)
  | 13, v, _ => v = .int .i64 ((min q.length 700 : Nat) : Int)
  | 14, v, _ => v = .string ⟨(q.take 700).toArray⟩
  | 15, v, _ => v = .agg #[.string ⟨(p.take 250).toArray⟩, .string ⟨(q.take 700).toArray⟩]
  | _, v, w => ∃ bl, v = .slice (some ⟨bl, 0, none⟩) 1 1 ∧ RdV w (fun b => b = bl) 2 v 1 [.string ⟨(p.take 250).toArray⟩, .string ⟨(q.take 700).toArray⟩] ∧ bl < w.heap.size
theorem afT_stays {Br : Nat} {u : Value} {p q : Tx} (i : Nat) (v : Value) (w w' : World) (h : afT Br u p q i v w) (hb : Below w.heap.size w w') : afT Br u p q i v w' := by
  unfold afT at h ⊢
  split at h <;> first | exact h | (obtain ⟨bl, e, h1, h2⟩ := h; exact ⟨bl, e, h1.below hb (fun b e => e ▸ h2), Nat.lt_of_lt_of_le h2 hb.size⟩)
theorem take_min (l : Tx) (k : Nat) : l.take (min l.length k) = l.take k := by rw [List.take_eq_take_iff]; omega
theorem Hp.init {M : Nat → Prop} {w wr : World} {ls : List As} {A : As} (h : Hp M w wr (ls ++ [A])) : Hp M w wr ls :=
  ⟨h.c, fun B hB => h.p B (List.mem_append_left _ hB), fun i j B C hi hj b h1 h2 => h.d i j B C (by rw [List.getElem?_append_left (List.getElem?_eq_some_iff.1 hi).1]; exact hi) (by rw [List.getElem?_append_left (List.getElem?_eq_some_iff.1 hj).1]; exact hj) b h1 h2⟩
/-- a slice of Members of the call's own -/
structure FewIs (w w' : World) (v : Value) (L : List Mb) : Prop where
  is : ∃ l : List Mv, l.map (·.1) = L ∧ w'.ownsRow w.heap.size 41 9 v l.length (mcells l) ∧ ∀ x ∈ l, NdR w' (fun b => Fresh w.heap.size w' b ∧ v.ownBlock ≠ some b) x.1.2 x.2.1 x.2.2
theorem slMbF : SlK Tryz.prog 23 41 (.agg (mbC ([], ⟨0, 0, 0, 0, 0, [], [], []⟩) (.slice none 0 0) (.slice none 0 0))) 9 112 := SlK.mk' Tryz.underlying23 (by kernel_rfl) rfl (by decide)
theorem Hp.first {M : Nat → Prop} {w wr : World} {ls : List As} {A : As} (h : Hp M w wr (A :: ls)) : Hp M w wr [A] :=
  ⟨h.c, fun B hB => h.p B (by have := List.mem_singleton.1 hB; subst this; exact List.mem_cons_self), fun i j B C hi hj b h1 h2 => by
    have e1 : i = 0 := by have := (List.getElem?_eq_some_iff.1 hi).1; simp at this; exact this
    have e2 : j = 0 := by have := (List.getElem?_eq_some_iff.1 hj).1; simp at this; exact this
    omega⟩
/-- one round of Few, done -/
theorem few_step {w w' : World} {B6 B8 B5 k i : Nat} {v13 v6 v7 : Value} {acc : List Mv} {c5 : Array Value} {xp link : Tx} {kind mode uid gid time : Int} {attrs : List R2} {data : Tx} {L : List Mb}
    (h : Hp NoM w w' [slA w.heap.size 41 9 v13 (k + 1) (mcells acc ++ [.string ⟨(xp.take 4100).toArray⟩, .int .i64 kind, .int .u32 mode, .int .u32 uid, .int .u32 gid, .int .i64 time, v6, v7, .string ⟨(link.take 4100).toArray⟩]), rowA B5 41 c5, byA B6 5 v7 (data.take 1500), slA B8 92 2 v6 i (rcells ((attrs.take i).map cutA))])
    (hm : acc.map (·.1) = ((L.take k).map cutM)) (ht : ((L.take (k + 1)).map cutM) = ((L.take k).map cutM) ++ [cutM (xp, ⟨kind, mode, uid, gid, time, attrs, data, link⟩)]) (hal : acc.length = k)
    (ha : (attrs.take i).map cutA = (attrs.take 20).map cutA) (hi : i ≤ attrs.length)
    (hn : ∀ x ∈ acc, NdR w' (fun b => Fresh w.heap.size w' b ∧ v13.ownBlock ≠ some b) x.1.2 x.2.1 x.2.2) :
    (acc ++ [(cutM (xp, ⟨kind, mode, uid, gid, time, attrs, data, link⟩), v6, v7)]).map (·.1) = ((L.take (k + 1)).map cutM) ∧ (acc ++ [(cutM (xp, ⟨kind, mode, uid, gid, time, attrs, data, link⟩), v6, v7)]).length = k + 1 ∧
    Hp NoM w w' [slA w.heap.size 41 9 v13 (k + 1) (mcells (acc ++ [(cutM (xp, ⟨kind, mode, uid, gid, time, attrs, data, link⟩), v6, v7)]))] ∧ ∀ x ∈ acc ++ [(cutM (xp, ⟨kind, mode, uid, gid, time, attrs, data, link⟩), v6, v7)], NdR w' (fun b => Fresh w.heap.size w' b ∧ v13.ownBlock ≠ some b) x.1.2 x.2.1 x.2.2 := by
  refine ⟨by rw [List.map_append, hm, ht]; rfl, by simp [hal], ?_, fun x hx => ?_⟩
  · rw [mcells_append, mcells_cons]
    exact h.first
  · rcases List.mem_append.1 hx with hx | hx
    · exact hn x hx
    · obtain rfl : x = (cutM (xp, ⟨kind, mode, uid, gid, time, attrs, data, link⟩), v6, v7) := by simpa using hx
      have hil : ((attrs.take i).map cutA).length = i := by rw [List.length_map, List.length_take]; omega
      have h3 := h.sl 3 rfl
      have h2 := h.bs 2 rfl
      refine ⟨?_, ?_⟩
      · have hr := ownsV_reads h3
        have e : i = ((attrs.take 20).map cutA).length := by rw [← ha, hil]
        rw [ha] at hr
        rw [e] at hr
        refine RdV.mono hr (fun b hb => ⟨?_, fun e2 => ?_⟩)
        · exact h.new 3 rfl (b := b) hb.2.2
        · have := h.d 0 3 _ _ rfl rfl b e2 hb.2.2
          omega
      · refine Reads.mono h2.reads (fun b hb => ⟨?_, fun e2 => ?_⟩)
        · exact h.new 2 rfl (b := b) hb.2.2
        · have := h.d 0 2 _ _ rfl rfl b e2 hb.2.2
          omega
set_option maxHeartbeats 4000000 in
set_option maxRecDepth 100000 in
theorem few12_any (v : Value) (l : List Mv) (w : World) (hr : Mbs w (· < w.heap.size) (· < w.heap.size) v l) :
    Calls Tryz.prog 15 #[v] w fun e w' => ∃ v', e = .returned v' ∧ FewIs w w' v' (few12 (l.map (·.1))) ∧ Below w.heap.size w w' := by
  obtain ⟨a, cap, hv, hcap, hmx, h3⟩ := hr.rd.shape
  have HR := Keep.keep hr; have H3 := Keep.keep h3
  unfold maxLen at hmx
  clear hr h3
  subst hv
  go_enter Tryz.func15, Tryz.ntmps15
  go_wp2_with fail
  go_loopg [3, 4] (min l.length 12) (fun g u3 u4 wx => ∃ (k : Nat) (acc : List Mv), k + g = min l.length 12 ∧ u4 = .int .i64 (k : Int) ∧ acc.map (·.1) = (((l.map (·.1)).take k).map cutM) ∧ acc.length = k ∧ Hp NoM w wx [slA w.heap.size 41 9 u3 k (mcells acc)] ∧ ∀ x ∈ acc, NdR wx (fun b => Fresh w.heap.size wx b ∧ u3.ownBlock ≠ some b) x.1.2 x.2.1 x.2.2)
  case atStart => exact ⟨0, [], by omega, rfl, rfl, rfl, (Hp.begin NoM w).nilS _ _ _, fun x hx => by simp at hx⟩
  case round =>
    obtain ⟨k, acc, hkg, rfl, hmap, hal, HP, hnd⟩ := hrel
    have HM := Keep.keep hmap; have HH := Keep.keep HP; have HN := Keep.keep hnd
    obtain ⟨a3, c3, rfl, -⟩ := (ownsV_reads (HP.sl 0 rfl)).shape
    clear hmap HP hnd
    cases gk with
    | zero =>
      have HF : Keep (acc.map (·.1) = few12 (l.map (·.1))) := ⟨by
        rw [HM.out]; unfold few12
        congr 1
        rw [List.take_eq_take_iff, List.length_map]; omega⟩
      by_cases hk : k < l.length
      · have hd1 : decide ((k : Int) < (l.length : Int)) = true := decide_eq_true (by omega)
        have hd2 : decide ((k : Int) < 12) = false := decide_eq_false (by omega)
        go_wp2_with fail
        go_ret
        exact ⟨.slice a3 k c3, rfl, ⟨acc, HF.out, by rw [hal]; exact HH.out.sl 0 rfl, HN.out⟩, HH.out.below⟩
      · have hd1 : decide ((k : Int) < (l.length : Int)) = false := decide_eq_false (by omega)
        go_wp2_with fail
        go_ret
        exact ⟨.slice a3 k c3, rfl, ⟨acc, HF.out, by rw [hal]; exact HH.out.sl 0 rfl, HN.out⟩, HH.out.below⟩
    | succ g =>
      have hk : k < l.length := by omega
      have hd1 : decide ((k : Int) < (l.length : Int)) = true := decide_eq_true (by omega)
      have hd2 : decide ((k : Int) < 12) = true := decide_eq_true (by omega)
      obtain ⟨b, off, rfl, hbl⟩ : ∃ b off, a = some ⟨b, off, none⟩ ∧ b < w.heap.size := by
        rcases H3.out with h | ⟨b, off, h, hb⟩
        · omega
        · exact ⟨b, off, h, hb⟩
      have hrx := HR.out.below HH.out.below (fun b hb => hb) (fun b hb => hb)
      have hld := hrx.load hk
      have hndx := HR.out.nd _ (List.getElem_mem hk)
      have HTK : Keep ((((l.map (·.1)).take (k + 1)).map cutM) = (((l.map (·.1)).take k).map cutM) ++ [cutM l[k].1]) := ⟨by
        rw [List.take_succ_eq_append_getElem (by simpa using hk), List.map_append]; simp⟩
      clear hrx
      generalize l[k] = x at *
      obtain ⟨⟨xp, ⟨kind, mode, uid, gid, time, attrs, data, link⟩⟩, av, dv⟩ := x
      obtain ⟨aa, la, ca, ad, ld, cd, e1, e2⟩ := hndx.shape
      dsimp only at hndx e1 e2
      subst e1 e2
      have HX := Keep.keep hndx
      unfold mcell mbC strV at hld
      dsimp only at hld
      clear hndx
      go_upto_region 6 with ((with_reducible refine arm_loadM hld ?_ ?_); (focus rfl); simp only [Act.put, List.setIfInBounds_toArray, List.set_cons_succ, List.set_cons_zero])
      refine wp_world (R := fun w5 => Hp NoM w w5 [slA w.heap.size 41 9 (.slice a3 k c3) k (mcells acc), rowA wr.heap.size 41 (fwR kind mode uid gid time (.slice aa la ca) (.slice ad ld cd) xp link)] ∧ Below wr.heap.size wr w5) ⟨HH.out.newRow _ _, (Below.refl _ _).alloc (Nat.le_refl _) _⟩ ?_
      intro w5 H5
      obtain ⟨B5, hB5⟩ : ∃ B5, wr.heap.size = B5 := ⟨_, rfl⟩
      rw [hB5] at H5 ⊢
      have hlt5 := (H5.out.1.row 1 rfl).lt
      clear hld
      refine wp_region_spcO [some 23, some 24, some 25, some 26, some 27, some 28, some 29, some 30, some 31, some 32, some 33, some 34, some 35, some 36, some 37, some 38, some 39, none, some 40, some 41, none] (fwC w5 B5 kind mode uid gid time (.slice aa la ca) (.slice ad ld cd) xp link) (fwT B5 xp link) (fwS B5 xp link) (by kernel_rfl) rfl (by decide) (by intro d hd; simp at hd; show d < 98; omega) (by kernel_rfl) ⟨(Chg.refl _ _ _).drew, xp, link, .inl rfl, .inl rfl, H5.out.1.row 1 rfl⟩ (fun i v w w' h _ hb => fwT_stays i v w w' h hb) ?_ ?_
      · intro i hi a1 w6 hF hC hT
        have hi : i < 21 := hi
        obtain ⟨hCh, q, j, hq, hj, hrow⟩ := id hC
        have b5 : a1.eval (.tmp 5) = .pointer (some ⟨B5, 0, none⟩) := (hF.same 5 (by decide)).trans rfl
        have hkr : fwS B5 xp link w6 w6 := fwS.refl _ _ _ _
        rcases (by omega : i = 0 ∨ i = 1 ∨ i = 2 ∨ i = 3 ∨ i = 4 ∨ i = 5 ∨ i = 6 ∨ i = 7 ∨ i = 8 ∨ i = 9 ∨ i = 10 ∨ i = 11 ∨ i = 12 ∨ i = 13 ∨ i = 14 ∨ i = 15 ∨ i = 16 ∨ i = 17 ∨ i = 18 ∨ i = 19 ∨ i = 20) with rfl | rfl | rfl | rfl | rfl | rfl | rfl | rfl | rfl | rfl | rfl | rfl | rfl | rfl | rfl | rfl | rfl | rfl | rfl | rfl | rfl
        · exact spcO_val (d := 23) rfl (wanted_none rfl) (run_fieldAddr (m := 0) Tryz.underlying41 rfl (by kernel_rfl) b5) hC hkr rfl
        · have hx : a1.eval (.tmp 23) = .pointer (some ⟨B5, 0, none⟩) := hT 0 (by kernel_rfl)
          exact spcO_val (d := 24) rfl (wanted_none rfl) (run_loadCell (run_isAgg_plain Tryz.underlying9 rfl) (hrow.cell (i := 0) rfl) hx) hC hkr ⟨q, rfl, hq⟩
        · exact spcO_val (d := 25) rfl (wanted_none rfl) (run_fieldAddr (m := 0) Tryz.underlying41 rfl (by kernel_rfl) b5) hC hkr rfl
        · have hx : a1.eval (.tmp 25) = .pointer (some ⟨B5, 0, none⟩) := hT 2 (by kernel_rfl)
          exact spcO_val (d := 26) rfl (wanted_none rfl) (run_loadCell (run_isAgg_plain Tryz.underlying9 rfl) (hrow.cell (i := 0) rfl) hx) hC hkr ⟨q, rfl, hq⟩
        · obtain ⟨q', hx, hq'⟩ := hT 3 (by kernel_rfl)
          exact spcO_val (d := 27) rfl (wanted_none rfl) (run_lenS hx) hC hkr ⟨q', rfl, hq'⟩
        · obtain ⟨q', hx, hq'⟩ := hT 4 (by kernel_rfl)
          refine spcO_val (d := 28) rfl (wanted_none rfl) (run_minC hx rfl) hC hkr ?_
          show Value.int .i64 _ = Value.int .i64 _
          have := hq'.mn
          congr 1
          omega
        · obtain ⟨q', hx, hq'⟩ := hT 1 (by kernel_rfl)
          have hy : a1.eval (.tmp 28) = .int .i64 ((min xp.length 4100 : Nat) : Int) := hT 5 (by kernel_rfl)
          refine spcO_val (d := 29) rfl (wanted_none rfl) (run_sliceS hq'.le hx hy) hC hkr ?_
          show Value.string _ = Value.string _
          rw [hq'.cut]
        · exact spcO_val (d := 30) rfl (wanted_none rfl) (run_fieldAddr (m := 7) Tryz.underlying41 rfl (by kernel_rfl) b5) hC hkr rfl
        · have hx : a1.eval (.tmp 30) = .pointer (some ⟨B5, 1, none⟩) := hT 7 (by kernel_rfl)
          exact spcO_val (d := 31) rfl (wanted_none rfl) (run_fieldAddr (m := 0) Tryz.underlying39 rfl (by kernel_rfl) hx) hC hkr rfl
        · have hx : a1.eval (.tmp 31) = .pointer (some ⟨B5, 8, none⟩) := hT 8 (by kernel_rfl)
          exact spcO_val (d := 32) rfl (wanted_none rfl) (run_loadCell (run_isAgg_plain Tryz.underlying9 rfl) (hrow.cell (i := 8) rfl) hx) hC hkr ⟨j, rfl, hj⟩
        · exact spcO_val (d := 33) rfl (wanted_none rfl) (run_fieldAddr (m := 7) Tryz.underlying41 rfl (by kernel_rfl) b5) hC hkr rfl
        · have hx : a1.eval (.tmp 33) = .pointer (some ⟨B5, 1, none⟩) := hT 10 (by kernel_rfl)
          exact spcO_val (d := 34) rfl (wanted_none rfl) (run_fieldAddr (m := 0) Tryz.underlying39 rfl (by kernel_rfl) hx) hC hkr rfl
        · have hx : a1.eval (.tmp 34) = .pointer (some ⟨B5, 8, none⟩) := hT 11 (by kernel_rfl)
          exact spcO_val (d := 35) rfl (wanted_none rfl) (run_loadCell (run_isAgg_plain Tryz.underlying9 rfl) (hrow.cell (i := 8) rfl) hx) hC hkr ⟨j, rfl, hj⟩
        · obtain ⟨q', hx, hq'⟩ := hT 12 (by kernel_rfl)
          exact spcO_val (d := 36) rfl (wanted_none rfl) (run_lenS hx) hC hkr ⟨q', rfl, hq'⟩
        · obtain ⟨q', hx, hq'⟩ := hT 13 (by kernel_rfl)
          refine spcO_val (d := 37) rfl (wanted_none rfl) (run_minC hx rfl) hC hkr ?_
          show Value.int .i64 _ = Value.int .i64 _
          have := hq'.mn
          congr 1
          omega
        · obtain ⟨q', hx, hq'⟩ := hT 9 (by kernel_rfl)
          have hy : a1.eval (.tmp 37) = .int .i64 ((min link.length 4100 : Nat) : Int) := hT 14 (by kernel_rfl)
          refine spcO_val (d := 38) rfl (wanted_none rfl) (run_sliceS hq'.le hx hy) hC hkr ?_
          show Value.string _ = Value.string _
          rw [hq'.cut]
        · exact spcO_val (d := 39) rfl (wanted_none rfl) (run_fieldAddr (m := 0) Tryz.underlying41 rfl (by kernel_rfl) b5) hC hkr rfl
        · have hx : a1.eval (.tmp 39) = .pointer (some ⟨B5, 0, none⟩) := hT 16 (by kernel_rfl)
          have hy : a1.eval (.tmp 29) = .string ⟨(xp.take 4100).toArray⟩ := hT 6 (by kernel_rfl)
          have hrow' : Row (w6.setCell ⟨B5, 0, none⟩ (.string ⟨(xp.take 4100).toArray⟩)) B5 41 (fwR kind mode uid gid time (.slice aa la ca) (.slice ad ld cd) (xp.take 4100) j) := hrow.set' 0 _ rfl
          refine spcO_skip rfl (wanted_none rfl) (run_storeS ⟨_, hrow.cell (i := 0) rfl⟩ (hrow.frozen 0) hx hy) ⟨Chg.setCell (M := fun b => b = B5) hCh (p := ⟨B5, 0, none⟩) (.inr rfl) _, xp.take 4100, j, .inr rfl, hj, hrow'⟩ ⟨fun _ => hrow'.cell (i := 0) rfl, fun h => by rw [hrow'.cell (i := 8) (v := .string ⟨j.toArray⟩) rfl, ← hrow.cell (i := 8) (v := .string ⟨j.toArray⟩) rfl]; exact h⟩ (hrow'.cell (i := 0) rfl)
        · exact spcO_val (d := 40) rfl (wanted_none rfl) (run_fieldAddr (m := 7) Tryz.underlying41 rfl (by kernel_rfl) b5) hC hkr rfl
        · have hx : a1.eval (.tmp 40) = .pointer (some ⟨B5, 1, none⟩) := hT 18 (by kernel_rfl)
          exact spcO_val (d := 41) rfl (wanted_none rfl) (run_fieldAddr (m := 0) Tryz.underlying39 rfl (by kernel_rfl) hx) hC hkr rfl
        · have hx : a1.eval (.tmp 41) = .pointer (some ⟨B5, 8, none⟩) := hT 19 (by kernel_rfl)
          have hy : a1.eval (.tmp 38) = .string ⟨(link.take 4100).toArray⟩ := hT 15 (by kernel_rfl)
          have hrow' : Row (w6.setCell ⟨B5, 8, none⟩ (.string ⟨(link.take 4100).toArray⟩)) B5 41 (fwR kind mode uid gid time (.slice aa la ca) (.slice ad ld cd) q (link.take 4100)) := hrow.set' 8 _ rfl
          refine spcO_skip rfl (wanted_none rfl) (run_storeS ⟨_, hrow.cell (i := 8) rfl⟩ (hrow.frozen 8) hx hy) ⟨Chg.setCell (M := fun b => b = B5) hCh (p := ⟨B5, 8, none⟩) (.inr rfl) _, q, link.take 4100, hq, .inr rfl, hrow'⟩ ⟨fun h => by rw [hrow'.cell (i := 0) (v := .string ⟨q.toArray⟩) rfl, ← hrow.cell (i := 0) (v := .string ⟨q.toArray⟩) rfl]; exact h, fun _ => hrow'.cell (i := 8) rfl⟩ (hrow'.cell (i := 8) rfl)
      · intro a1 w6 ha hC hT
        obtain ⟨hCh, q, j, hq, hj, hrow⟩ := hC
        have h17 : w6.cell? ⟨B5, 0, none⟩ = some (.string ⟨(xp.take 4100).toArray⟩) := hT 17 (by decide)
        have h20 : w6.cell? ⟨B5, 8, none⟩ = some (.string ⟨(link.take 4100).toArray⟩) := hT 20 (by decide)
        have e1 := (hrow.cell (i := 0) (v := .string ⟨q.toArray⟩) rfl).symm.trans h17
        have e2 := (hrow.cell (i := 8) (v := .string ⟨j.toArray⟩) rfl).symm.trans h20
        injection e1 with e1
        injection e2 with e2
        have hrow6 : Row w6 B5 41 (fwR kind mode uid gid time (.slice aa la ca) (.slice ad ld cd) (xp.take 4100) (link.take 4100)) := by
          unfold fwR at hrow ⊢
          rw [e1, e2] at hrow
          exact hrow
        have H6 := Keep.keep (H5.out.1.upd 1 rfl (rowA B5 41 (fwR kind mode uid gid time (.slice aa la ca) (.slice ad ld cd) (xp.take 4100) (link.take 4100))) (hCh.mono (Nat.le_refl _) (fun _ h => h)) hrow6 (fun b hb => .inl hb))
        have HB6 : Keep (Below B5 wr w6) := ⟨H5.out.2.trans ((hCh.lower (by omega)).below (fun k hk e => by omega))⟩
        simp only [List.filterMap_cons, List.filterMap_nil, List.foldl_cons, List.foldl_nil] at ha
        clear hT hCh hq hj hrow h17 h20 e1 e2 hrow6 H5
        generalize slot a1 23 = x23 at *
        generalize slot a1 24 = x24 at *
        generalize slot a1 25 = x25 at *
        generalize slot a1 26 = x26 at *
        generalize slot a1 27 = x27 at *
        generalize slot a1 28 = x28 at *
        generalize slot a1 29 = x29 at *
        generalize slot a1 30 = x30 at *
        generalize slot a1 31 = x31 at *
        generalize slot a1 32 = x32 at *
        generalize slot a1 33 = x33 at *
        generalize slot a1 34 = x34 at *
        generalize slot a1 35 = x35 at *
        generalize slot a1 36 = x36 at *
        generalize slot a1 37 = x37 at *
        generalize slot a1 38 = x38 at *
        generalize slot a1 39 = x39 at *
        generalize slot a1 40 = x40 at *
        generalize slot a1 41 = x41 at *
        subst ha
        simp only [Act.put, List.setIfInBounds_toArray, List.set_cons_succ, List.set_cons_zero]
        have hfr := H6.out.row 1 rfl
        unfold fwR at hfr
        have k7 := hfr.cell (i := 7) rfl
        have f7 := hfr.frozen 7
        have hdc : ld ≤ cd := by have := HX.out.dt.len; dsimp only at this; omega
        have HDL : Keep (ld = data.length) := ⟨HX.out.dt.len.1⟩
        have hmn : min (ld : Int) 1500 = ((min ld 1500 : Nat) : Int) := by omega
        have hsl := fun wx => slice_to (P := Tryz.prog) slBy ad ld cd (min ld 1500) .i64 (by omega) wx
        clear hdc hfr
        go_wp2_with (with_reducible refine arm_stop ?_)
        refine Stopped.out ?_
        have hrd : Reads w6 (· < w6.heap.size) (.slice ad (min ld 1500) cd) (data.take 1500) := by
          have h1 := reads_to (HX.out.dt.below H6.out.below (fun b hb => hb)) (min ld 1500) (by rw [← HDL.out]; omega)
          have e : data.take (min ld 1500) = data.take 1500 := by rw [List.take_eq_take_iff, ← HDL.out]; omega
          rw [e] at h1
          exact h1.mono (fun b hb => Nat.lt_of_lt_of_le hb H6.out.size)
        refine arm_append slBy (Owns.nil w6 w6.heap.size 5) hrd (by rw [List.length_take]; simp; omega) (Nat.le_refl _) rfl rfl ?_
        intro v7 w7 ho hg hov
        rw [List.nil_append] at ho
        have hch7 : Chg NoM w6.heap.size w6 w7 := (chg_grown hg).mono (Nat.le_refl _) (fun k h => by cases h)
        have H7 := Keep.keep (H6.out.push (byA w6.heap.size 5 v7 (data.take 1500)) hch7 ho (fun b hb => World.ownsRow.lt ho b hb))
        have HB7 : Keep (Below B5 wr w7) := ⟨HB6.out.trans ((hch7.lower (by have := HB6.out.size; omega)).below (fun _ _ h => h))⟩
        obtain ⟨a7, c7, hv7, -⟩ := ho.reads.shape
        clear ho hg hov hch7 hrd H6 HB6 k7 f7
        subst hv7
        have hr7 := H7.out.row 1 rfl
        unfold fwR at hr7
        have k7 := hr7.cell (i := 7) rfl
        have f7 := hr7.frozen 7
        have k6 := hr7.cell (i := 6) rfl
        clear hr7
        simp only [Act.put, List.setIfInBounds_toArray, List.set_cons_succ, List.set_cons_zero]
        go_wp2_with fail
        obtain ⟨n7, hn7⟩ : ∃ n7, (data.take 1500).length = n7 := ⟨_, rfl⟩
        rw [hn7] at H7
        try simp only [List.length_take] at hn7
        try rw [hn7]
        refine wp_world (R := fun w8 => Hp NoM w w8 [slA w.heap.size 41 9 (.slice a3 k c3) k (mcells acc), rowA B5 41 (fwR kind mode uid gid time (.slice aa la ca) (.slice a7 n7 c7) (xp.take 4100) (link.take 4100)), byA w6.heap.size 5 (.slice a7 n7 c7) (data.take 1500)] ∧ Below B5 wr w8) ⟨H7.out.setCell 1 rfl 7 _ rfl, HB7.out.trans ((Chg.setCell (M := fun _ => False) (.refl _ _ _) (p := ⟨B5, 7, none⟩) (.inl (Nat.le_refl _)) _).below (fun _ _ h => h))⟩ ?_
        intro w8 H8
        clear H7 HB7 k7 f7 k6 hn7 hsl hmn
        have HLA : Keep (la = attrs.length) := ⟨HX.out.at_.lens.1⟩
        go_loopg [6, 7] (min la 20) (fun g u6 u7 wx => ∃ i : Nat, i + g = min la 20 ∧ u7 = .int .i64 (i : Int) ∧ Hp NoM w wx [slA w.heap.size 41 9 (.slice a3 k c3) k (mcells acc), rowA B5 41 (fwR kind mode uid gid time (.slice aa la ca) (.slice a7 n7 c7) (xp.take 4100) (link.take 4100)), byA w6.heap.size 5 (.slice a7 n7 c7) (data.take 1500), slA w8.heap.size 92 2 u6 i (rcells ((attrs.take i).map cutA))] ∧ Below B5 wr wx ∧ w8.heap.size ≤ wx.heap.size)
        case atStart => exact ⟨0, by omega, rfl, H8.out.1.nilS _ _ _, H8.out.2, Nat.le_refl _⟩
        case round =>
          obtain ⟨i, hig, rfl, hHi, hBi, hs8⟩ := hrel
          have HI := Keep.keep hHi; have HBI := Keep.keep hBi
          obtain ⟨a6, c6, rfl, -⟩ := (ownsV_reads (hHi.sl 3 rfl)).shape
          have hB58 := (H8.out.1.row 1 rfl).lt
          clear hHi hBi H8
          have hri := HI.out.row 1 rfl
          unfold fwR at hri
          have k6 := hri.cell (i := 6) rfl
          cases gk with
          | zero =>
            have HTF : Keep ((attrs.take i).map cutA = (attrs.take 20).map cutA) := ⟨by
              congr 1
              rw [List.take_eq_take_iff, ← HLA.out]; omega⟩
            have f6 := hri.frozen 6
            clear hri
            by_cases hil : i < la
            focus
              have hd3 : decide ((i : Int) < (la : Int)) = true := decide_eq_true (by omega)
              have hd4 : decide ((i : Int) < 20) = false := decide_eq_false (by omega)
              go_upto_region 15 with fail
            rotate_left
            focus
              have hd3 : decide ((i : Int) < (la : Int)) = false := decide_eq_false (by omega)
              go_upto_region 15 with fail
            all_goals
              refine wp_world (R := fun w12 => Hp NoM w w12 [slA w.heap.size 41 9 (.slice a3 k c3) k (mcells acc), rowA B5 41 (fwR kind mode uid gid time (.slice a6 i c6) (.slice a7 n7 c7) (xp.take 4100) (link.take 4100)), byA w6.heap.size 5 (.slice a7 n7 c7) (data.take 1500), slA w8.heap.size 92 2 (.slice a6 i c6) i (rcells ((attrs.take i).map cutA))] ∧ Below B5 _ w12) ⟨HI.out.setCell 1 rfl 6 _ rfl, HBI.out.trans ((Chg.setCell (M := fun _ => False) (.refl _ _ _) (p := ⟨B5, 6, none⟩) (.inl (Nat.le_refl _)) _).below (fun _ _ h => h))⟩ ?_
              intro w12 H12
              have HRW := Keep.keep (H12.out.1.row 1 rfl)
              unfold fwR at HRW
              have HSZ : Keep ((#[.string ⟨(xp.take 4100).toArray⟩, .int .i64 kind, .int .u32 mode, .int .u32 uid, .int .u32 gid, .int .i64 time, .slice a6 i c6, .slice a7 n7 c7, .string ⟨(link.take 4100).toArray⟩] : Array Value).size = 9) := ⟨rfl⟩
              clear k6 f6 HI HBI
              go_wp2_with (first
                | ((with_reducible refine arm_loadRow HRW.out aggM HSZ.out ?_ ?_); (focus rfl); simp only [Act.put, List.setIfInBounds_toArray, List.set_cons_succ, List.set_cons_zero])
                | (with_reducible refine arm_stop ?_))
              refine Stopped.out ?_
              refine arm_appendV slMbF ((H12.out.1.alloc _).sl 0 rfl) (RdV.new (N := fun _ => True) 41 [.string ⟨(xp.take 4100).toArray⟩, .int .i64 kind, .int .u32 mode, .int .u32 uid, .int .u32 gid, .int .i64 time, .slice a6 i c6, .slice a7 n7 c7, .string ⟨(link.take 4100).toArray⟩] 9 1 _ rfl rfl (by unfold maxLen; omega) trivial) (by simp [Value.oneCell']) (by unfold maxLen; omega) (by omega) (by simp; have := H12.out.1.size; omega) rfl rfl ?_
              intro v13 w13 ho hg hov _
              have hgr := (H12.out.1.alloc _).grow 0 rfl hg ho hov
              have hob := World.ownsRow.lt (H12.out.1.sl 0 rfl)
              have hia2 : i ≤ attrs.length := by have := HLA.out; omega
              have HST := Keep.keep (few_step hgr (HM.out) HTK.out hal HTF.out hia2 (fun x hx => (HN.out x hx).loc (fun b hb => by
                rw [hg.block b (by simp; have := hb.1.2; have := H12.out.2.size; omega) (fun e => hb.2 e.symm), Below.heap_alloc w12 _ b (by have := hb.1.2; have := H12.out.2.size; omega), H12.out.2.block b (by have := hb.1.2; omega)]) |>.mono (fun b hb => ⟨⟨hb.1.1, by have := hb.1.2; have := hg.size; have := H12.out.2.size; simp at *; omega⟩, by
                  rcases hov with e | e
                  · rw [e]; exact hb.2
                  · rw [e]; intro e2; injection e2 with e2; simp at e2; have := hb.1.2; have := H12.out.2.size; omega⟩)))
              obtain ⟨a13, c13, rfl, -⟩ := (ownsV_reads ho).shape
              clear ho hg hov hob hgr H12 HRW
              simp only [Act.put, List.setIfInBounds_toArray, List.set_cons_succ, List.set_cons_zero]
              go_wp2_with fail
              go_roundg g
              case measure => omega
              case rel => exact ⟨k + 1, _, by omega, by simp, HST.out.1, HST.out.2.1, HST.out.2.2.1, HST.out.2.2.2⟩
          | succ gi =>
            have hia : i < la := by omega
            have hd3 : decide ((i : Int) < (la : Int)) = true := decide_eq_true (by omega)
            have hd4 : decide ((i : Int) < 20) = true := decide_eq_true (by omega)
            clear hri
            have hiA : i < attrs.length := by have := HLA.out; omega
            have HXi := HX.out.at_.below HI.out.below (fun b hb => hb)
            obtain ⟨ba, oa, rfl⟩ : ∃ ba oa, aa = some ⟨ba, oa, none⟩ := by
              obtain ⟨b, off, cap, h, -⟩ := HXi.has (Nat.lt_of_le_of_lt (Nat.zero_le _) hiA)
              injection h with h
              exact ⟨b, off, h⟩
            have hga := rcells_get attrs i hiA
            have ca0 := HXi.cell ba oa _ _ rfl _ _ hga.1
            have ca1 := HXi.cell ba oa _ _ rfl _ _ hga.2
            clear hga HXi
            have HTA : Keep ((attrs.take (i + 1)).map cutA = (attrs.take i).map cutA ++ [cutA attrs[i]]) := ⟨by
              rw [List.take_succ_eq_append_getElem hiA, List.map_append]; rfl⟩
            generalize attrs[i] = xa at *
            obtain ⟨an, aw⟩ := xa
            unfold strV at ca0 ca1
            dsimp only at ca0 ca1
            rw [← Nat.add_assoc] at ca1
            go_upto_region 13 with fail
            refine wp_world (R := fun w9 => Hp NoM w w9 ([slA w.heap.size 41 9 (.slice a3 k c3) k (mcells acc), rowA B5 41 (fwR kind mode uid gid time (.slice (some ⟨ba, oa, none⟩) la ca) (.slice a7 n7 c7) (xp.take 4100) (link.take 4100)), byA w6.heap.size 5 (.slice a7 n7 c7) (data.take 1500), slA w8.heap.size 92 2 (.slice a6 i c6) i (rcells ((attrs.take i).map cutA))] ++ [rowA wr.heap.size 92 #[.string ⟨an.toArray⟩, .string ⟨aw.toArray⟩]]) ∧ Below B5 _ w9 ∧ w8.heap.size ≤ w9.heap.size) ⟨HI.out.newRow _ _, HBI.out.alloc (by have := (HI.out.row 1 rfl).lt; omega) _, by simp; omega⟩ ?_
            intro w9 H9
            obtain ⟨Br, hBr⟩ : ∃ Br, wr.heap.size = Br := ⟨_, rfl⟩
            rw [hBr] at H9 ⊢
            have hBr9 := (H9.out.1.row 4 rfl).lt
            clear ca0 ca1 k6 HI HBI hBr
            refine wp_region_spcT 17 [72, 73, 74, 75, 76, 77, 78, 79, 80, 81, 82, 83, 84, 85, 86, 87, 88] (Below w9.heap.size w9) (afT Br (.slice a6 i c6) an aw) (fun w w' => Below w.heap.size w w') (by kernel_rfl) rfl (by decide) (by show ∀ d ∈ _, d < 98; decide) (by kernel_rfl) (by decide) (by kernel_rfl) (by kernel_rfl) (by kernel_rfl) (Below.refl _ _).drew (fun i v w w' h _ hb => afT_stays i v w w' h hb) ?_ ?_
            · intro j hj a1 w10 hF hC hT
              have b8 : a1.eval (.tmp 8) = .pointer (some ⟨Br, 0, none⟩) := (hF.same 8 (by decide)).trans rfl
              have hkr : Below w10.heap.size w10 w10 := Below.refl _ _
              have RX : Row w10 Br 92 #[.string ⟨an.toArray⟩, .string ⟨aw.toArray⟩] := (H9.out.1.row 4 rfl).below hC hBr9
              rcases (by omega : j = 0 ∨ j = 1 ∨ j = 2 ∨ j = 3 ∨ j = 4 ∨ j = 5 ∨ j = 6 ∨ j = 7 ∨ j = 8 ∨ j = 9 ∨ j = 10 ∨ j = 11 ∨ j = 12 ∨ j = 13 ∨ j = 14 ∨ j = 15 ∨ j = 16) with rfl | rfl | rfl | rfl | rfl | rfl | rfl | rfl | rfl | rfl | rfl | rfl | rfl | rfl | rfl | rfl | rfl
              · exact spcS_val (d := 72) rfl (wanted_none rfl) run_move hC hkr ((hF.same 6 (by decide)).trans rfl)
              · exact spcS_val (d := 73) rfl (wanted_none rfl) (run_fieldAddr (m := 0) Tryz.underlying92 rfl (by kernel_rfl) b8) hC hkr rfl
              · have hx : a1.eval (.tmp 73) = .pointer (some ⟨Br, 0, none⟩) := hT 1 (by decide) (by kernel_rfl)
                exact spcS_val (d := 74) rfl (wanted_none rfl) (run_loadCell (run_isAgg_plain Tryz.underlying9 rfl) (RX.cell (i := 0) rfl) hx) hC hkr rfl
              · exact spcS_val (d := 75) rfl (wanted_none rfl) (run_fieldAddr (m := 0) Tryz.underlying92 rfl (by kernel_rfl) b8) hC hkr rfl
              · have hx : a1.eval (.tmp 75) = .pointer (some ⟨Br, 0, none⟩) := hT 3 (by decide) (by kernel_rfl)
                exact spcS_val (d := 76) rfl (wanted_none rfl) (run_loadCell (run_isAgg_plain Tryz.underlying9 rfl) (RX.cell (i := 0) rfl) hx) hC hkr rfl
              · have hx : a1.eval (.tmp 76) = .string ⟨an.toArray⟩ := hT 4 (by decide) (by kernel_rfl)
                exact spcS_val (d := 77) rfl (wanted_none rfl) (run_lenS hx) hC hkr rfl
              · have hx : a1.eval (.tmp 77) = .int .i64 (an.length : Int) := hT 5 (by decide) (by kernel_rfl)
                refine spcS_val (d := 78) rfl (wanted_none rfl) (run_minC hx rfl) hC hkr ?_
                show Value.int .i64 _ = Value.int .i64 _
                congr 1
                omega
              · have hx : a1.eval (.tmp 74) = .string ⟨an.toArray⟩ := hT 2 (by decide) (by kernel_rfl)
                have hy : a1.eval (.tmp 78) = .int .i64 ((min an.length 250 : Nat) : Int) := hT 6 (by decide) (by kernel_rfl)
                refine spcS_val (d := 79) rfl (wanted_none rfl) (run_sliceS (Nat.min_le_left _ _) hx hy) hC hkr ?_
                show Value.string _ = Value.string _
                rw [take_min]
              · exact spcS_val (d := 80) rfl (wanted_none rfl) (run_fieldAddr (m := 0) Tryz.underlying92 rfl (by kernel_rfl) b8) hC hkr rfl
              · have hx : a1.eval (.tmp 80) = .pointer (some ⟨Br, 1, none⟩) := hT 8 (by decide) (by kernel_rfl)
                exact spcS_val (d := 81) rfl (wanted_none rfl) (run_loadCell (run_isAgg_plain Tryz.underlying9 rfl) (RX.cell (i := 1) rfl) hx) hC hkr rfl
              · exact spcS_val (d := 82) rfl (wanted_none rfl) (run_fieldAddr (m := 0) Tryz.underlying92 rfl (by kernel_rfl) b8) hC hkr rfl
              · have hx : a1.eval (.tmp 82) = .pointer (some ⟨Br, 1, none⟩) := hT 10 (by decide) (by kernel_rfl)
                exact spcS_val (d := 83) rfl (wanted_none rfl) (run_loadCell (run_isAgg_plain Tryz.underlying9 rfl) (RX.cell (i := 1) rfl) hx) hC hkr rfl
              · have hx : a1.eval (.tmp 83) = .string ⟨aw.toArray⟩ := hT 11 (by decide) (by kernel_rfl)
                exact spcS_val (d := 84) rfl (wanted_none rfl) (run_lenS hx) hC hkr rfl
              · have hx : a1.eval (.tmp 84) = .int .i64 (aw.length : Int) := hT 12 (by decide) (by kernel_rfl)
                refine spcS_val (d := 85) rfl (wanted_none rfl) (run_minC hx rfl) hC hkr ?_
                show Value.int .i64 _ = Value.int .i64 _
                congr 1
                omega
              · have hx : a1.eval (.tmp 81) = .string ⟨aw.toArray⟩ := hT 9 (by decide) (by kernel_rfl)
                have hy : a1.eval (.tmp 85) = .int .i64 ((min aw.length 700 : Nat) : Int) := hT 13 (by decide) (by kernel_rfl)
                refine spcS_val (d := 86) rfl (wanted_none rfl) (run_sliceS (Nat.min_le_left _ _) hx hy) hC hkr ?_
                show Value.string _ = Value.string _
                rw [take_min]
              · have hx : a1.eval (.tmp 79) = .string ⟨(an.take 250).toArray⟩ := hT 7 (by decide) (by kernel_rfl)
                have hy : a1.eval (.tmp 86) = .string ⟨(aw.take 700).toArray⟩ := hT 14 (by decide) (by kernel_rfl)
                exact spcS_val (d := 87) rfl (wanted_none rfl) (run_buildA hx hy) hC hkr rfl
              · have hx : a1.eval (.tmp 87) = .agg #[.string ⟨(an.take 250).toArray⟩, .string ⟨(aw.take 700).toArray⟩] := hT 15 (by decide) (by kernel_rfl)
                have hal2 : Below w10.heap.size w10 (w10.alloc (.cells (a1.eval (.tmp 87)).cells 92)) := (Below.refl _ _).alloc (Nat.le_refl _) _
                refine spcS_val (d := 88) rfl (wanted_none rfl) (run_build1 slAt2 (by decide) (by rw [hx]; rfl)) (hC.trans (hal2.mono hC.size)) hal2 ?_
                rw [hx]
                exact ⟨w10.heap.size, rfl, RdV.new 92 [.string ⟨(an.take 250).toArray⟩, .string ⟨(aw.take 700).toArray⟩] 2 1 w10.heap.size rfl rfl (by unfold maxLen; omega) rfl, by simp⟩
            · intro a1 w10 ha hC hT
              have t0 : slot a1 72 = .slice a6 i c6 := hT 0 (by decide)
              obtain ⟨bl, t16, hrd, hbl⟩ : ∃ bl, slot a1 88 = .slice (some ⟨bl, 0, none⟩) 1 1 ∧ RdV w10 (fun b => b = bl) 2 (slot a1 88) 1 [.string ⟨(an.take 250).toArray⟩, .string ⟨(aw.take 700).toArray⟩] ∧ bl < w10.heap.size := hT 16 (by decide)
              rw [t16] at hrd
              simp only [List.foldl_cons, List.foldl_nil, t0, t16] at ha
              have H10 := Keep.keep (H9.out.1.call hC)
              have hs10 : w8.heap.size ≤ w10.heap.size := Nat.le_trans H9.out.2.2 hC.size
              have HB10 := Keep.keep (H9.out.2.1.trans (hC.mono (by have := H9.out.2.2; omega)))
              clear hT t0 t16 hC H9
              generalize slot a1 73 = y73 at *
              generalize slot a1 74 = y74 at *
              generalize slot a1 75 = y75 at *
              generalize slot a1 76 = y76 at *
              generalize slot a1 77 = y77 at *
              generalize slot a1 78 = y78 at *
              generalize slot a1 79 = y79 at *
              generalize slot a1 80 = y80 at *
              generalize slot a1 81 = y81 at *
              generalize slot a1 82 = y82 at *
              generalize slot a1 83 = y83 at *
              generalize slot a1 84 = y84 at *
              generalize slot a1 85 = y85 at *
              generalize slot a1 86 = y86 at *
              generalize slot a1 87 = y87 at *
              subst ha
              simp only [List.drop_succ_cons, List.drop_zero]
              simp only [Act.put, List.setIfInBounds_toArray, List.set_cons_succ, List.set_cons_zero]
              have hob := World.ownsRow.lt (H10.out.sl 3 rfl)
              refine arm_appendV slAt2 (H10.out.sl 3 rfl) hrd (by simp [Value.oneCell']) (by unfold maxLen; omega) (by omega) hs10 rfl rfl ?_
              intro v11 w11 ho hg hov _
              have HG := Keep.keep (H10.out.grow 3 rfl hg ho hov)
              have HB11 := Keep.keep (HB10.out.trans ((Chg.grown (M := fun _ => False) (.refl _ _ _) hg (by omega) (fun k e => .inl (by have := (hob k e).1; omega))).below (fun _ _ h => h)))
              have hs11 : w8.heap.size ≤ w11.heap.size := Nat.le_trans hs10 hg.size
              obtain ⟨a11, c11, rfl, -⟩ := (ownsV_reads ho).shape
              clear ho hg hov hob hrd H10 HB10
              simp only [Act.put, List.setIfInBounds_toArray, List.set_cons_succ, List.set_cons_zero]
              go_wp2_with fail
              go_roundg gi
              case measure => omega
              case rel => exact ⟨i + 1, by omega, by simp, by rw [HTA.out, rcells_append]; exact HG.out.init, HB11.out, hs11⟩
end Go.Proofs.YtmnknmpfkjhgbaaGreatDoor

