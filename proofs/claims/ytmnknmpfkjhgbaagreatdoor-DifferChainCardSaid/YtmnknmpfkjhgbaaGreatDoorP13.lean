/- PARTS OF ONE PROOF, set in one file: TreeSwap, MbDel, DfBelow, SpcOne. Each part tells its own conditions. -/
import Derived.Test.YtmnknmpfkjhgbaaGreatDoorP4
import Derived.Test.YtmnknmpfkjhgbaaGreatDoorP8
import Derived.Test.YtmnknmpfkjhgbaaGreatDoorP11
import Derived.Test.YtmnknmpfkjhgbaaGreatDoorP12
/- TreeSwap: two Members of a row are exchanged, in a region that draws its order. -/
namespace Go.Proofs.YtmnknmpfkjhgbaaGreatDoor
open Go.RowKit
/-- the list xs with cs laid over it from j on -/
def layAt : List Value → Nat → List Value → List Value
  | xs, _, [] => xs
  | xs, j, v :: r => layAt (xs.set j v) (j + 1) r
theorem layAt_length : ∀ (cs xs : List Value) (j : Nat), (layAt xs j cs).length = xs.length
  | [], _, _ => rfl
  | v :: r, xs, j => by rw [layAt, layAt_length r, List.length_set]
theorem layAt_get : ∀ (cs xs : List Value) (j i : Nat), j + cs.length ≤ xs.length → (layAt xs j cs)[i]? = if j ≤ i ∧ i < j + cs.length then cs[i - j]? else xs[i]?
  | [], xs, j, i, h => by
    rw [layAt, if_neg (by simp)]
  | v :: r, xs, j, i, h => by
    rw [List.length_cons] at h
    rw [layAt, layAt_get r _ _ _ (by rw [List.length_set]; omega)]
    by_cases h1 : j + 1 ≤ i ∧ i < j + 1 + r.length
    · rw [if_pos h1, if_pos (by rw [List.length_cons]; omega), show i - j = (i - (j + 1)) + 1 by omega, List.getElem?_cons_succ]
    · rw [if_neg h1]
      by_cases h2 : i = j
      · subst h2
        rw [if_pos (by rw [List.length_cons]; omega), Nat.sub_self, List.getElem?_cons_zero, List.getElem?_set_self (by omega)]
      · rw [if_neg (by rw [List.length_cons]; omega), List.getElem?_set_ne (Ne.symm h2)]
theorem owns_setCells {base size g cap n : Nat} {e : TypeId} : ∀ (cs xs : List Value) (w : World) (j : Nat), w.ownsRow base e size (.slice (some ⟨g, 0, none⟩) n cap) n xs →
    (w.setCells g j cs).ownsRow base e size (.slice (some ⟨g, 0, none⟩) n cap) n (layAt xs j cs) ∧ w.grownBy (w.setCells g j cs) (some g)
  | [], xs, w, j, h => ⟨h, rfl, rfl, rfl, Nat.le_refl _, fun _ _ _ => rfl⟩
  | v :: r, xs, w, j, h => by
    obtain ⟨h1, g1⟩ := h.stored j v
    obtain ⟨h2, g2⟩ := owns_setCells r _ _ (j + 1) h1
    rw [World.setCells, layAt]
    exact ⟨h2, g2.os.trans g1.os, g2.tape.trans g1.tape, g2.output.trans g1.output, Nat.le_trans g1.size g2.size, fun k hk hne => (g2.block k (Nat.lt_of_lt_of_le hk g1.size) hne).trans (g1.block k hk hne)⟩
theorem mcells_at (l : List Mv) (i j : Nat) (hj : j < 9) : (mcells l)[i * 9 + j]? = (l[i]?).bind fun x => (mcell x).toList[j]? := by
  induction l generalizing i with
  | nil => simp [mcells]
  | cons x l ih =>
    rw [mcells_cons]
    cases i with
    | zero =>
      rw [Nat.zero_mul, Nat.zero_add, List.getElem?_append_left (by rw [mcell_len]; omega)]
      rfl
    | succ i =>
      rw [List.getElem?_append_right (by rw [mcell_len]; omega), mcell_len, show (i + 1) * 9 + j - 9 = i * 9 + j by omega, ih]
      rfl
theorem layAt_mcells (l : List Mv) (k : Nat) (x : Mv) (hk : k < l.length) : layAt (mcells l) (k * 9) (mcell x).toList = mcells (l.set k x) := by
  have hlen : ∀ l : List Mv, (mcells l).length = l.length * 9 := fun l => by
    induction l with
    | nil => rfl
    | cons y l ih => rw [mcells_cons, List.length_append, ih, mcell_len, List.length_cons]; omega
  refine List.ext_getElem? fun i => ?_
  rw [layAt_get _ _ _ _ (by rw [hlen, mcell_len]; omega), mcell_len]
  have hi : i = i / 9 * 9 + i % 9 := by omega
  by_cases h : k * 9 ≤ i ∧ i < k * 9 + 9
  · rw [if_pos h]
    have hd : i / 9 = k := by omega
    conv => rhs; rw [hi, mcells_at _ _ _ (Nat.mod_lt _ (by omega)), hd]
    rw [List.getElem?_set_self hk, show i - k * 9 = i % 9 by omega]
    rfl
  · rw [if_neg h]
    conv => lhs; rw [hi, mcells_at _ _ _ (Nat.mod_lt _ (by omega))]
    conv => rhs; rw [hi, mcells_at _ _ _ (Nat.mod_lt _ (by omega))]
    rw [List.getElem?_set_ne (by omega)]
theorem owns_setMb {base g cap n k : Nat} {w : World} {l : List Mv} (h : w.ownsRow base 41 9 (.slice (some ⟨g, 0, none⟩) n cap) n (mcells l)) (x : Mv) (hk : k < l.length) :
    (w.setCells g (k * 9) (mcell x).toList).ownsRow base 41 9 (.slice (some ⟨g, 0, none⟩) n cap) n (mcells (l.set k x)) ∧ w.grownBy (w.setCells g (k * 9) (mcell x).toList) (some g) := by
  have := owns_setCells (mcell x).toList _ w (k * 9) h
  rw [layAt_mcells l k x hk] at this
  exact this
theorem owns_there {base g cap n k : Nat} {w : World} {l : List Mv} (h : w.ownsRow base 41 9 (.slice (some ⟨g, 0, none⟩) n cap) n (mcells l)) (hn : n = l.length) (hk : k < l.length) : w.there g (k * 9) 9 := fun j hj => by
  refine ⟨?_, h.frozenAt _⟩
  rw [h.cellAt _ (by omega), mcells_at _ _ _ hj, List.getElem?_eq_getElem hk]
  show ((mcell l[k]).toList[j]?).isSome = true
  rw [List.getElem?_eq_getElem (by rw [mcell_len]; omega)]
  rfl
theorem mcell_one {w : World} {N : Nat → Prop} {x : Mv} (h : NdR w N x.1.2 x.2.1 x.2.2) : (mcell x).all (·.oneCell') = true := by
  obtain ⟨aa, la, ca, ad, ld, cd, e1, e2⟩ := h.shape
  unfold mcell mbC strV
  rw [e1, e2]
  simp [Value.oneCell']
theorem run_index {ρ : Operand → Value} {d : Option Tmp} {x y : Operand} {t : TypeId} {pos : String} {af : Array Edge} {g : Option (Nat × Bool)} {w : World} {b n cap k : Nat} (hx : ρ x = .slice (some ⟨b, 0, none⟩) n cap) (hy : ρ y = .int .i64 (k : Int)) (hk : k < n) :
    (execOp ρ (⟨d, .indexAddr 23 x y, t, pos, af, g⟩ : Oper)).run Tryz.prog w = .ok (.value (.pointer (some ⟨b, k * 9, none⟩))) w := by
  have he : Tryz.prog.elem 23 = 41 := by simp [Program.elem, Tryz.underlying23]
  have hs : ∀ w, (sizeOf 41).run Tryz.prog w = .ok 9 w := fun w => by kernel_rfl
  have h1 : (k : Int) < n := by omega
  simp [execOp, hx, hy, run_indexAt_slice (P := Tryz.prog) (w := w) (t := 23) (a := ⟨b, 0, none⟩) (len := n) (cap := cap) (k := .i64) (i := (k : Int)) (h := by rw [he]; exact Tryz.underlying23), he, hs, h1, Addr.add]
  exact Eq.symm
theorem run_swap {ρ : Operand → Value} {d : Option Tmp} {x y : Operand} {t : TypeId} {pos : String} {af : Array Edge} {g : Option (Nat × Bool)} {w : World} {b o : Nat} {m : Mv} (hx : ρ x = .pointer (some ⟨b, o, none⟩)) (hy : ρ y = .agg (mcell m)) (ht : w.there b o 9) (h1 : (mcell m).all (·.oneCell') = true) :
    (execOp ρ (⟨d, .store 41 x y, t, pos, af, g⟩ : Oper)).run Tryz.prog w = .ok .skip (w.setCells b o (mcell m).toList) := by
  have := run_storeAt_mid (P := Tryz.prog) w b o 41 (mcell m) ht aggM.i h1
  simp [execOp, hx, hy, this]
/-- what is said of each operation of the exchange: slots 178 .. 191 -/
def swT (sl pk pj : Value) (k j : Nat) (ck cj : Array Value) : Nat → Value → Prop
  | 0, v => v = sl
  | 1, v => v = .int .i64 (k : Int)
  | 2, v => v = sl
  | 3, v => v = .int .i64 (j : Int)
  | 4, v => v = sl
  | 5, v => v = .int .i64 (j : Int)
  | 6, v => v = pj
  | 7, v => v = .agg cj
  | 8, v => v = sl
  | 9, v => v = .int .i64 (k : Int)
  | 10, v => v = pk
  | 11, v => v = .agg ck
  | 12, v => v = pk
  | 14, v => v = pj
  | _, _ => True
def swD (i : Nat) : Nat := if i < 13 then 178 + i else if i = 14 then 191 else 0
/-- .. and of the memory -/
def swI (sl pk pj : Value) (k j : Nat) (ck cj : Array Value) (W0 W1 W2 : World) (done : Array Bool) (s : Nat → Value) (w : World) : Prop :=
  (∀ i, i < 16 → done.getD i false = true → swT sl pk pj k j ck cj i (s (swD i))) ∧ w = if done.getD 15 false then W2 else if done.getD 13 false then W1 else W0
theorem swD_inj {i j : Nat} (_hi : i < 13 ∨ i = 14) (hj : j < 13 ∨ j = 14) (h : swD i = swD j) : i = j := by
  unfold swD at h
  split at h <;> split at h <;> (try split at h) <;> (try split at h) <;> omega
theorem swI.put {sl pk pj : Value} {k j : Nat} {ck cj : Array Value} {W0 W1 W2 : World} {done : Array Bool} {s s' : Nat → Value} {w : World} (h : swI sl pk pj k j ck cj W0 W1 W2 done s w) (i : Nat) {v : Value} (hi : i < 13 ∨ i = 14) (hv : s' (swD i) = v) (hs : ∀ q, q ≠ swD i → s' q = s q) (hT : swT sl pk pj k j ck cj i v) :
    swI sl pk pj k j ck cj W0 W1 W2 (done.setIfInBounds i true) s' w := by
  have hne : ∀ q, q ≠ i → (done.setIfInBounds i true).getD q false = done.getD q false := fun q hq => by
    simp [Array.getD_eq_getD_getElem?, Array.getElem?_setIfInBounds_ne (Ne.symm hq)]
  refine ⟨fun q hq hd => ?_, ?_⟩
  · by_cases e : q = i
    · subst e; rw [hv]; exact hT
    · rw [hne q e] at hd
      have := h.1 q hq hd
      rcases (by omega : (q < 13 ∨ q = 14) ∨ q = 13 ∨ q = 15) with hc | rfl | rfl
      · rw [hs _ (fun e2 => e (swD_inj hc hi e2))]; exact this
      · trivial
      · trivial
  · rw [hne 15 (by omega), hne 13 (by omega)]; exact h.2
theorem swI.at {sl pk pj : Value} {k j : Nat} {ck cj : Array Value} {W0 W1 W2 : World} {done : Array Bool} {s : Nat → Value} {w : World} (h : swI sl pk pj k j ck cj W0 W1 W2 done s w) (i : Nat) (hi : i < 16) (hd : done.getD i false = true) : swT sl pk pj k j ck cj i (s (swD i)) := h.1 i hi hd
theorem swI.store {sl pk pj : Value} {k j : Nat} {ck cj : Array Value} {W0 W1 W2 : World} {done : Array Bool} {s : Nat → Value} {w w' : World} (h : swI sl pk pj k j ck cj W0 W1 W2 done s w) (i : Nat) (hi : i = 13 ∧ w' = W1 ∧ done.getD 15 false = false ∨ i = 15 ∧ w' = W2) (hz : done.size = 16) :
    swI sl pk pj k j ck cj W0 W1 W2 (done.setIfInBounds i true) s w' := by
  have hne : ∀ q, q ≠ i → (done.setIfInBounds i true).getD q false = done.getD q false := fun q hq => by
    simp [Array.getD_eq_getD_getElem?, Array.getElem?_setIfInBounds_ne (Ne.symm hq)]
  have hii : (done.setIfInBounds i true).getD i false = true := by
    have : i < done.size := by rcases hi with ⟨rfl, _⟩ | ⟨rfl, _⟩ <;> omega
    simp [Array.getD_eq_getD_getElem?, this]
  refine ⟨fun q hq hd => ?_, ?_⟩
  · by_cases e : q = i
    · rcases hi with ⟨rfl, _⟩ | ⟨rfl, _⟩ <;> subst e <;> trivial
    · rw [hne q e] at hd; exact h.1 q hq hd
  · rcases hi with ⟨rfl, rfl, h15⟩ | ⟨rfl, rfl⟩
    · rw [hne 15 (by omega), h15, hii]; rfl
    · rw [hii]; rfl
/-- an operation that yields no value, in a region seen by its frame -/
theorem fr_skip {P : Program} {ops : Array Oper} {Q : Exit → Act → World → Prop} {a a1 : Act} {ds : List Nat} {I : Array Bool → (Nat → Value) → World → Prop} {done : Array Bool} {w w' : World} {i : Nat} {op : Op} {tp : TypeId} {pos : String} {af : Array Edge}
    (hf : Fr a ds a1) (hi : ops[i]? = some ⟨none, op, tp, pos, af, none⟩) (hr : (execOp a1.eval (⟨none, op, tp, pos, af, none⟩ : Oper)).run P w = .ok .skip w') (hI : I (done.setIfInBounds i true) (slot a1) w') :
    wpOp P ops Q i (fun a2 w2 => Fr a ds a2 ∧ I (done.setIfInBounds i true) (slot a2) w2) a1 w := by
  unfold wpOp
  rw [hi]
  simp only
  rw [if_pos (by simp [Region.wanted])]
  refine .inl ?_
  unfold Oper.wp
  rw [hr]
  exact ⟨hf, hI⟩
theorem ready_wait {ops : Array Oper} {done : Array Bool} {i j : Nat} (hi : i ∈ Region.ready .any ops done) (h : Region.waitsFor .any ops i j = true) : done.getD j false = true := by
  have hlt := ready_lt hi
  obtain ⟨e, he1, he2, he3⟩ := waits_of (Array.getElem?_eq_getElem hlt) h
  have hdn := (ready_at hi (Array.getElem?_eq_getElem hlt)).2 e he1 he2
  rw [he3] at hdn
  exact hdn
theorem ready_un {ops : Array Oper} {done : Array Bool} {i : Nat} (hi : i ∈ Region.ready .any ops done) : done.getD i false = false :=
  getD_both (ready_at hi (Array.getElem?_eq_getElem (ready_lt hi))).1
/-- what waits for an operation that has not run has not run -/
theorem closed_un {ops : Array Oper} {done : Array Bool} {i j : Nat} (hc : Closed ops done) (hj : j < ops.size) (hi : done.getD i false = false) (h : Region.waitsFor .any ops j i = true) : done.getD j false = false := by
  cases hd : done.getD j false with
  | false => rfl
  | true =>
    obtain ⟨e, he1, he2, he3⟩ := waits_of (Array.getElem?_eq_getElem hj) h
    have := hc j _ (Array.getElem?_eq_getElem hj) hd e he1 he2
    rw [he3, hi] at this
    cases this
theorem own_load {ρ : Operand → Value} {d : Option Tmp} {x : Operand} {t : TypeId} {pos : String} {af : Array Edge} {gd : Option (Nat × Bool)} {base g cap n k : Nat} {w : World} {l : List Mv} (h : w.ownsRow base 41 9 (.slice (some ⟨g, 0, none⟩) n cap) n (mcells l)) (hn : n = l.length) (hk : k < l.length) (hx : ρ x = .pointer (some ⟨g, k * 9, none⟩)) :
    (execOp ρ (⟨d, .load 41 x, t, pos, af, gd⟩ : Oper)).run Tryz.prog w = .ok (.value (.agg (mcell l[k]))) w := by
  have := run_loadAt_mid (P := Tryz.prog) w g (k * 9) 41 (mcell l[k]).toList _ (fun j z hj => by
    have hlt := (List.getElem?_eq_some_iff.1 hj).1
    rw [mcell_len] at hlt
    rw [h.cellAt _ (by omega), mcells_at _ _ _ hlt, List.getElem?_eq_getElem hk]
    exact hj) Tryz.underlying41 rfl (by rw [mcell_len]; exact aggM.i)
  simp [execOp, hx, this]
end Go.Proofs.YtmnknmpfkjhgbaaGreatDoor
/- slices.DeleteFunc over Members of one's own; the predicate is a closure. -/
namespace Go.Proofs.YtmnknmpfkjhgbaaGreatDoor
open Go.RowKit
set_option maxRecDepth 100000 in
theorem run_clear_mbs (w : World) (b o n c : Nat) (hn : 0 < n) (hc : ∀ j, j < n * 9 → (w.cell? ⟨b, o + j, none⟩).isSome = true) (hf : ∀ j, j < n * 9 → w.frozen? ⟨b, o + j, none⟩ = false) :
    ∃ cs : List Value, cs.length = n * 9 ∧ ∀ ty, (Builtin.clear_ #[23] ty #[.slice (some ⟨b, o, none⟩) n c]).run Tryz.prog w = .ok (.tuple #[]) (w.setCells b o cs) := by
  have hz : ∀ w, (zeroValue 41).run Tryz.prog w = .ok (.agg (mbC ([], nd0) nilV nilV)) w := fun w => by kernel_rfl
  obtain ⟨Z, hZ⟩ : ∃ Z : Array Value, mbC ([], nd0) nilV nilV = Z := ⟨_, rfl⟩
  have hZs : Z.size = 9 := by rw [← hZ]; rfl
  have hZ1 : ∀ i, (h : i < Z.size) → Z[i].oneCell' = true := by
    have : (mbC ([], nd0) nilV nilV).all (·.oneCell') = true := by simp [mbC, strV, nilV, Value.oneCell']
    rw [hZ] at this
    intro i h
    exact (Array.all_eq_true.1 this) i h
  rw [hZ] at hz
  have hcl : (Value.agg Z).cells = Z := rfl
  have hl : (Builtin.zeroCells Z n).toList.length = n * 9 := by simp [Builtin.zeroCells, hZs]
  refine ⟨_, hl, fun ty => ?_⟩
  have hst := run_storeCells_cells (P := Tryz.prog) b o (Builtin.zeroCells Z n).toList 0 w (by rw [hl]; simpa using hc) (by rw [hl]; simpa using hf) (by
    intro v hv
    simp only [Builtin.zeroCells, Array.toList_map, List.mem_map] at hv
    obtain ⟨i, _, rfl⟩ := hv
    have hi : i % Z.size < Z.size := Nat.mod_lt _ (by omega)
    rw [getElem!_pos Z _ hi]
    exact hZ1 _ hi)
  simp only [Nat.add_zero] at hst
  obtain ⟨m, rfl⟩ : ∃ m, n = m + 1 := ⟨n - 1, by omega⟩
  simp [Builtin.clear_, run_underlying Tryz.underlying23, hz, hcl, hst]
def kpM (p : Mb → Bool) (l : List Mv) (j : Nat) : List Mv := (l.take j).filter fun x => !p x.1
theorem kpM_le (p : Mb → Bool) (l : List Mv) (j : Nat) : (kpM p l j).length ≤ j := Nat.le_trans (List.length_filter_le _ _) (by rw [List.length_take]; omega)
theorem kpM_succ (p : Mb → Bool) (l : List Mv) (j : Nat) (hj : j < l.length) : kpM p l (j + 1) = if p l[j].1 then kpM p l j else kpM p l j ++ [l[j]] := by
  unfold kpM
  rw [List.take_succ_eq_append_getElem hj, List.filter_append]
  cases h : p l[j].1
  · rw [List.filter_cons_of_pos (by simp [h])]; rfl
  · rw [List.filter_cons_of_neg (by simp [h])]; simp
theorem kpM_all (p : Mb → Bool) (l : List Mv) : kpM p l l.length = l.filter fun x => !p x.1 := by unfold kpM; rw [List.take_length]
/-- the row while it is done -/
structure DFM (p : Mb → Bool) (l ls : List Mv) (j : Nat) : Prop where
  sz : ls.length = l.length
  pre : ls.take (kpM p l j).length = kpM p l j
  post : ∀ m, j ≤ m → m < l.length → ls[m]? = l[m]?
theorem DFM.skip {p : Mb → Bool} {l ls : List Mv} {j : Nat} (h : DFM p l ls j) (hj : j < l.length) (hp : p l[j].1 = true) : DFM p l ls (j + 1) := by
  have hk := kpM_succ p l j hj
  rw [if_pos hp] at hk
  exact ⟨h.sz, by rw [hk]; exact h.pre, fun m hm hl => h.post m (by omega) hl⟩
theorem DFM.put {p : Mb → Bool} {l ls : List Mv} {j : Nat} (h : DFM p l ls j) (hj : j < l.length) (hp : p l[j].1 = false) : DFM p l (ls.set (kpM p l j).length l[j]) (j + 1) := by
  have hk := kpM_succ p l j hj
  rw [if_neg (by rw [hp]; decide)] at hk
  have hle := kpM_le p l j
  have hs := h.sz
  refine ⟨by simp [hs], ?_, fun m hm hml => ?_⟩
  · rw [hk, List.length_append, List.length_singleton, List.take_succ_eq_append_getElem (by rw [List.length_set]; omega), List.getElem_set_self, List.take_set_of_le (Nat.le_refl _), h.pre]
  · rw [List.getElem?_set_ne (by omega)]
    exact h.post m (by omega) hml
theorem layAt_take (cs xs : List Value) (j : Nat) (h : j + cs.length ≤ xs.length) : (layAt xs j cs).take j = xs.take j := by
  apply List.ext_getElem?
  intro i
  rw [List.getElem?_take, List.getElem?_take]
  split
  · rw [layAt_get _ _ _ _ h, if_neg (by omega)]
  · rfl
theorem owns_take {w : World} {base g n cap k : Nat} {e : TypeId} {xs ys : List Value} (h : w.ownsRow base e 9 (.slice (some ⟨g, 0, none⟩) n cap) n xs) (hk : k ≤ n) (hy : xs.take (k * 9) = ys) : w.ownsRow base e 9 (.slice (some ⟨g, 0, none⟩) k cap) k ys := by
  obtain ⟨h0, h⟩ := h
  rcases h with ⟨h1, _⟩ | ⟨g', cap', cur, h1, h2, h3, h4, h5, h6, h7⟩
  · cases h1
  · injection h1 with e1 e2 e3; injection e1 with e1; injection e1 with e1 _ _; subst e1 e3
    refine ⟨by rw [← hy, List.length_take]; omega, .inr ⟨g, cap, cur, rfl, h2, h3, by omega, h5, h6, ?_⟩⟩
    rw [← hy, ← h7, List.take_take, Nat.min_eq_left (by omega)]
theorem slice_mfrom_at (g n cap i : Nat) (hi : i ≤ n) (_hn : n ≤ cap) (hc : i < cap) (w : World) : (Instr.slice 23 (.slice (some ⟨g, 0, none⟩) n cap) (some (.int .i64 (i : Int))) none none).run Tryz.prog w = .ok (.slice (some ⟨g, i * 9, none⟩) (n - i) (cap - i)) w := by
  have he : Tryz.prog.elem 23 = 41 := by simp [Program.elem, Tryz.underlying23]
  have hs : ∀ w, (sizeOf 41).run Tryz.prog w = .ok 9 w := fun w => by kernel_rfl
  have hci : cap ≠ i := by omega
  rw [run_slice_l w 23 _ n cap (by rw [he]; exact Tryz.underlying23) .i64 (i : Int) (by omega) (by omega), he, hs]
  simp [Result.andThen, sliced, hci, Addr.add_mid]
theorem own_loadAt {base g cap n k : Nat} {w : World} {l : List Mv} (h : w.ownsRow base 41 9 (.slice (some ⟨g, 0, none⟩) n cap) n (mcells l)) (hn : n = l.length) {x : Mv} (hx : l[k]? = some x) : (Instr.loadAt 41 (.pointer (some ⟨g, k * 9, none⟩))).run Tryz.prog w = .ok (.agg (mcell x)) w := by
  have hk := (List.getElem?_eq_some_iff.1 hx).1
  have := run_loadAt_mid (P := Tryz.prog) w g (k * 9) 41 (mcell x).toList _ (fun j z hj => by
    have hlt := (List.getElem?_eq_some_iff.1 hj).1
    rw [mcell_len] at hlt
    rw [h.cellAt _ (by omega), mcells_at _ _ _ hlt, hx]
    exact hj) Tryz.underlying41 rfl (by rw [mcell_len]; exact aggM.i)
  simpa using this
theorem arm_setMb {ops : Array Oper} {rest : List Oper} {a : Act} {w : World} {Q : Exit → Act → World → Prop} {tp : TypeId} {dst : Option Tmp} {x y : Operand} {pos : String} {after : Array Edge} {base g cap n k : Nat} {ls : List Mv} (m : Mv)
    (ho : w.ownsRow base 41 9 (.slice (some ⟨g, 0, none⟩) n cap) n (mcells ls)) (hn : n = ls.length) (hk : k < ls.length) (h1 : (mcell m).all (·.oneCell') = true) (hx : a.eval x = .pointer (some ⟨g, k * 9, none⟩)) (hy : a.eval y = .agg (mcell m))
    (h : ∀ w', w'.ownsRow base 41 9 (.slice (some ⟨g, 0, none⟩) n cap) n (mcells (ls.set k m)) → w.grownBy w' (some g) → wpList Tryz.prog ops Q rest (a.put dst undef) w') :
    wpList Tryz.prog ops Q (⟨dst, .store 41 x y, tp, pos, after, none⟩ :: rest) a w :=
  wpList_skip rfl (run_swap hx hy (owns_there ho hn hk) h1) (h _ (owns_setMb ho m hk).1 (owns_setMb ho m hk).2)
theorem arm_sSt {P : Program} {ops : Array Oper} {rest : List Oper} {a : Act} {w : World} {Q : Exit → Act → World → Prop} {tp t : TypeId} {dst : Option Tmp} {x y : Operand} {pos : String} {after : Array Edge} (h : StM P ops rest a w Q ⟨dst, .store t x y, tp, pos, after, none⟩) : wpList P ops Q (⟨dst, .store t x y, tp, pos, after, none⟩ :: rest) a w := by cases h; assumption
set_option maxHeartbeats 4000000 in
set_option maxRecDepth 100000 in
theorem dfuncM (F : FuncId) (cs : Array Value) (p : Mb → Bool) (v : Value) (l : List Mv) (base : Nat) (K : Nat → Prop) (w : World) (hent : ∀ args w, (callFunc F args).run Tryz.prog w = .ok (.enter F args) w) (_hB : base ≤ w.heap.size) (hl : l.length ≤ 1000000000000)
    (hf : ∀ wx, Chg (fun b => v.ownBlock = some b) w.heap.size w wx → ∀ x ∈ l, Calls Tryz.prog F (#[.agg (mcell x)] ++ cs) wx fun e w' => e = .returned (.bool (p x.1)) ∧ Below wx.heap.size wx w') (h : RowM base K w v l) :
    Calls Tryz.prog 92 #[v, .func (.func F) #[] cs] w fun e w' => ∃ v', e = .returned v' ∧ RowM base K w' v' (l.filter fun x => !p x.1) ∧ v'.ownBlock = v.ownBlock ∧ Chg (fun b => v.ownBlock = some b) w.heap.size w w' := by
  have HI := Keep.keep (ifuncM F cs p v l w hent (fun wx hb x hx => hf wx (.of_below hb) x hx) (h.mbs.mono (fun b hb => hb.2) (fun b hb => hb.2.1)))
  have HF := Keep.keep hf
  have HM := Keep.keep h
  obtain ⟨hlen, hcase⟩ := h.own
  have HCASE := Keep.keep hcase
  clear hf hlen hcase
  by_cases hall : ∀ x ∈ l, p x.1 = false
  · have hi : idxM p l = -1 := idxM_none (fun j hj => hall _ (List.getElem_mem hj))
    have hfl : (l.filter fun x => !p x.1) = l := List.filter_eq_self.2 (fun x hx => by simp [hall x hx])
    obtain ⟨a, cap, rfl, -⟩ := (ownsV_reads HM.out.own).shape
    rw [hi] at HI
    rw [hfl]
    clear hi hfl hall h
    go_enter Tryz.func92, Tryz.ntmps92
    go_wp2_with fail
    refine HI.out.mono ?_
    rintro e w1 ⟨rfl, hb⟩
    have HB := Keep.keep hb
    clear hb
    go_wp2_with fail
    go_ret
    exact ⟨_, rfl, HM.out.below HB.out, rfl, .of_below HB.out⟩
  · obtain ⟨i, hi, hpi, hno⟩ : ∃ i, ∃ h : i < l.length, p l[i].1 = true ∧ ∀ j, (hj : j < i) → p (l[j]'(by omega)).1 = false := by
      cases hx : l.findIdx? (fun x => p x.1) with
      | none => exact absurd (fun x hx' => by simpa using List.findIdx?_eq_none_iff.1 hx x hx') hall
      | some i =>
        obtain ⟨h1, h2, h3⟩ := List.findIdx?_eq_some_iff_getElem.1 hx
        exact ⟨i, h1, h2, fun j hj => by simpa using h3 j hj⟩
    have hidx := idxM_hit hi hpi hno
    rw [hidx] at HI
    rcases HCASE.out with ⟨_, h0⟩ | ⟨g, cap, cur, rfl, hbase, hrow, hn, hmx, hsz, htk⟩
    · omega
    have hkp : kpM p l i = l.take i := by
      unfold kpM
      rw [List.filter_eq_self]
      intro x hx
      obtain ⟨j, hj, rfl⟩ := List.mem_iff_getElem.1 hx
      rw [List.length_take] at hj
      simp [hno j (by omega)]
    have hkl : (kpM p l i).length = i := by rw [hkp, List.length_take]; omega
    have hk1 := kpM_succ p l i hi
    rw [if_pos hpi] at hk1
    have HDF : Keep (DFM p l l (i + 1)) := ⟨⟨rfl, by rw [hk1, hkl, hkp], fun m _ _ => rfl⟩⟩
    have HKL : Keep ((kpM p l (i + 1)).length = i) := ⟨by rw [hk1]; exact hkl⟩
    have HTOT : Keep ((kpM p l l.length).length < l.length) := ⟨by
      rw [kpM_all]
      refine Nat.lt_of_le_of_ne (List.length_filter_le _ _) (fun e => ?_)
      have := List.length_filter_eq_length_iff.1 e l[i] (List.getElem_mem hi)
      simp [hpi] at this⟩
    have HGW : Keep (base ≤ g ∧ g < w.heap.size ∧ l.length ≤ cap ∧ cap ≤ maxLen) := ⟨hbase, (Array.getElem?_eq_some_iff.1 hrow).1, hn, hmx⟩
    unfold maxLen at hmx
    clear hidx hpi hno hall hkp hkl hk1 hsz htk hrow hbase HCASE h cur
    have hbig : l.length ≤ 9223372036854775807 := by omega
    go_enter Tryz.func92, Tryz.ntmps92
    go_wp2_with fail
    refine HI.out.mono ?_
    rintro e w1 ⟨rfl, hb⟩
    have HB := Keep.keep hb
    clear hb HI
    have hne : ((i : Int) == -1) = false := by rw [beq_eq_false_iff_ne]; omega
    go_wp2_with fail
    go_loopg [5, 6] (l.length - (i + 1)) (fun q u5 u6 wx => ∃ (j : Nat) (ls : List Mv), j + q = l.length ∧ u6 = .int .i64 (j : Int) ∧ u5 = .int .i64 ((kpM p l j).length : Int) ∧ wx.ownsRow base 41 9 (.slice (some ⟨g, 0, none⟩) l.length cap) l.length (mcells ls) ∧ DFM p l ls j ∧ Chg (fun b => b = g) w.heap.size w wx)
    case atStart => exact ⟨i + 1, l, by omega, by simp, by rw [HKL.out], (HM.out.below HB.out).own, HDF.out, .of_below HB.out⟩
    case round =>
      obtain ⟨j, ls, hjq, rfl, rfl, hown, hdf, hch⟩ := hrel
      have HO := Keep.keep hown; have HD := Keep.keep hdf; have HC := Keep.keep hch
      have hle := kpM_le p l j
      clear hown hdf hch
      cases gk with
      | zero =>
        obtain rfl : j = l.length := by omega
        have HFL : Keep (kpM p l l.length = l.filter fun x => !p x.1) := ⟨kpM_all p l⟩
        have htot := HTOT.out
        generalize hkk : (kpM p l l.length).length = i2 at *
        have HKK := Keep.keep hkk
        have hsz := HD.out.sz
        have hsl := slice_mfrom_at g l.length cap i2 (by omega) HGW.out.2.2.1 (by have := HGW.out.2.2.1; omega) wr
        obtain ⟨zs, hzl, hcl⟩ := run_clear_mbs wr g (i2 * 9) (l.length - i2) (cap - i2) (by omega) (fun m hm => by
          rw [HO.out.cellAt _ (by omega), List.getElem?_eq_getElem (by rw [mcells_length]; omega)]; rfl) (fun m hm => HO.out.frozenAt _)
        have hown2 := owns_setCells zs _ wr (i2 * 9) HO.out
        have hown3 := owns_take (k := i2) hown2.1 (by omega) (by rw [layAt_take _ _ _ (by rw [mcells_length]; omega), ← mcells_take, ← HKK.out, HD.out.pre])
        have HO3 := Keep.keep hown3
        have HC3 : Keep (Chg (fun b => b = g) w.heap.size w (wr.setCells g (i2 * 9) zs)) := ⟨HC.out.trans (((chg_grown hown2.2).mono (Nat.le_refl _) (fun b e => by injection e with e; exact e.symm)).lower HC.out.size)⟩
        clear hown2 hown3 hzl hkk hsz
        generalize wr.setCells g (i2 * 9) zs = w9 at *
        have hst := slice_mto (some ⟨g, 0, none⟩) l.length cap i2 .i64 (by have := HGW.out.2.2.1; omega) w9
        go_wp2_with fail
        go_ret
        refine ⟨_, rfl, ⟨?_, fun x hx => ?_⟩, rfl, HC3.out.mono (Nat.le_refl _) (fun b hb => by rw [hb]; rfl)⟩
        · rw [← HFL.out, HKK.out]; exact HO3.out
        · have hx2 := (List.mem_filter.1 hx).1
          refine ((HM.out.nd x hx2).loc (fun b e => HC3.out.block b e.2.1 (fun e2 => e.2.2 (by rw [e2]; rfl)))).mono (fun b e => ⟨e.1, Nat.lt_of_lt_of_le e.2.1 HC3.out.size, e.2.2⟩)
      | succ q =>
        have hj : j < l.length := by omega
        have hlj : ls[j]? = some l[j] := by rw [HD.out.post j (Nat.le_refl _) hj, List.getElem?_eq_getElem hj]
        have hld := own_loadAt HO.out HD.out.sz.symm hlj
        have HCF := Keep.keep (fun wx (hc : Chg (fun b => (Value.slice (some ⟨g, 0, none⟩) l.length cap).ownBlock = some b) w.heap.size w wx) => HF.out wx hc l[j] (List.getElem_mem hj))
        have HSK := Keep.keep (fun h => HD.out.skip hj h)
        have HPU := Keep.keep (fun h => HD.out.put hj h)
        have HK1 := Keep.keep (kpM_succ p l j hj)
        have HND := Keep.keep (HM.out.nd l[j] (List.getElem_mem hj))
        have HKT : Keep ((kpM p l j).length < l.length) := ⟨by omega⟩
        generalize hkk : (kpM p l j).length = k at *
        have HKK := Keep.keep hkk
        clear hkk hlj
        generalize p l[j].1 = pk at *
        generalize l[j] = x at *
        have HONE := Keep.keep (mcell_one HND.out)
        obtain ⟨⟨xp, ⟨kind, mode, uid, gid, time, attrs, data, link⟩⟩, av, dv⟩ := x
        obtain ⟨aa, la, ca, ad, ld, cd, e1, e2⟩ := HND.out.shape
        dsimp only at e1 e2
        subst e1 e2
        have HMC : Keep (mcell (((xp, ⟨kind, mode, uid, gid, time, attrs, data, link⟩), .slice aa la ca, .slice ad ld cd) : Mv) = #[.string ⟨xp.toArray⟩, .int .i64 kind, .int .u32 mode, .int .u32 uid, .int .u32 gid, .int .i64 time, .slice aa la ca, .slice ad ld cd, .string ⟨link.toArray⟩]) := ⟨rfl⟩
        have HSZ : Keep ((#[.string ⟨xp.toArray⟩, .int .i64 kind, .int .u32 mode, .int .u32 uid, .int .u32 gid, .int .i64 time, .slice aa la ca, .slice ad ld cd, .string ⟨link.toArray⟩] : Array Value).size = 9) := ⟨rfl⟩
        rw [HMC.out] at hld HCF
        clear HND
        go_upto_region 8 with ((with_reducible refine arm_loadM hld ?_ ?_); (focus rfl); simp only [Act.put, List.setIfInBounds_toArray, List.set_cons_succ, List.set_cons_zero])
        refine wp_world (R := fun wq => Hp NoM wr wq [rowA wr.heap.size 41 #[.string ⟨xp.toArray⟩, .int .i64 kind, .int .u32 mode, .int .u32 uid, .int .u32 gid, .int .i64 time, .slice aa la ca, .slice ad ld cd, .string ⟨link.toArray⟩]]) ((Hp.begin NoM wr).newRow _ _) ?_
        intro w2 H2
        have HRV := Keep.keep (H2.out.row 0 rfl)
        have HC2 := Keep.keep (HC.out.trans ((Chg.of_below (M := fun b => b = g) H2.out.below).lower HC.out.size))
        obtain ⟨b7, hb7⟩ : ∃ b7, wr.heap.size = b7 := ⟨_, rfl⟩
        have HB7 := Keep.keep hb7
        rw [hb7] at HRV ⊢
        clear hb7 hld
        go_wp2_with ((with_reducible refine arm_loadRow HRV.out aggM HSZ.out ?_ ?_); (focus rfl); simp only [Act.put, List.setIfInBounds_toArray, List.set_cons_succ, List.set_cons_zero])
        refine (HCF.out w2 (HC2.out.mono (Nat.le_refl _) (fun b hb => by rw [hb]; rfl))).mono ?_
        rintro e w3 ⟨rfl, hb3⟩
        have HB3 := Keep.keep (H2.out.below.trans (hb3.mono H2.out.below.size))
        have HRV3 := Keep.keep (HRV.out.below hb3 HRV.out.lt)
        have HO3 := Keep.keep (ownsRow_loc _ _ (fun b hb => HB3.out.block b (ownsV_lt HO.out b hb).2) HO.out)
        have HC3 := Keep.keep (HC2.out.trans ((Chg.of_below (M := fun b => b = g) hb3).lower HC2.out.size))
        clear hb3 HRV HCF
        cases pk with
        | true =>
          have HX := Keep.keep (HSK.out rfl)
          have HL : Keep ((kpM p l (j + 1)).length = k) := ⟨by rw [HK1.out, if_pos rfl]; exact HKK.out⟩
          go_wp2_with fail
          go_roundg q
          case measure => omega
          case rel => exact ⟨j + 1, ls, by omega, by simp, by rw [HL.out], HO3.out, HX.out, HC3.out⟩
        | false =>
          have HX := Keep.keep (HPU.out rfl)
          have HL : Keep ((kpM p l (j + 1)).length = k + 1) := ⟨by rw [HK1.out, if_neg (by decide), List.length_append, HKK.out]; rfl⟩
          have hkt := HKT.out
          clear HPU HSK
          go_upto_region 9 with fail
          go_wp2_with (first | ((with_reducible refine arm_loadRow HRV3.out aggM HSZ.out ?_ ?_); (focus rfl); simp only [Act.put, List.setIfInBounds_toArray, List.set_cons_succ, List.set_cons_zero]) | (with_reducible refine arm_sSt ?_))
          refine StM.out ?_
          refine arm_setMb (((xp, ⟨kind, mode, uid, gid, time, attrs, data, link⟩), .slice aa la ca, .slice ad ld cd) : Mv) HO3.out HD.out.sz.symm (by rw [HD.out.sz]; exact hkt) HONE.out rfl rfl ?_
          intro w4 ho4 hg4
          have HO4 := Keep.keep ho4
          have HC4 := Keep.keep (HC3.out.trans (((chg_grown hg4).mono (Nat.le_refl _) (fun b e => by injection e with e; exact e.symm)).lower HC3.out.size))
          clear ho4 hg4
          simp only [Act.put]
          go_wp2_with fail
          go_roundg q
          case measure => omega
          case rel => exact ⟨j + 1, _, by omega, by simp, by rw [HL.out]; simp, HO4.out, HX.out, HC4.out⟩
end Go.Proofs.YtmnknmpfkjhgbaaGreatDoor
/- differ.told's closure 'below': what is told below a Dir. -/
namespace Go.Proofs.YtmnknmpfkjhgbaaGreatDoor
open Go.RowKit
/-- the paths in a Dir of either tree, each once, rising -/
def ksT (A B : List Mb) (d : Tx) : List Tx := Lib.compact (((kids d A).map (·.1) ++ (kids d B).map (·.1)).mergeSort fun x y => decide (x ≤ y))
theorem ksT_kids {A B : List Mb} (hA : WellL A) (hB : WellL B) : KidsOf A B (ksT A B) :=
  kids_of hA hB (fun d => ⟨_, List.mergeSort_perm _ _, by
    have := List.pairwise_mergeSort (le := fun x y : Tx => decide (x ≤ y)) (fun a b c h1 h2 => decide_eq_true (List.le_trans (of_decide_eq_true h1) (of_decide_eq_true h2))) (fun a b => by
      rcases List.le_total a b with e | e
      · simp [e]
      · simp [e]) ((kids d A).map (·.1) ++ (kids d B).map (·.1))
    exact List.Pairwise.imp (fun h => of_decide_eq_true h) this, rfl⟩)
theorem ent_del1 : ∀ args w, (callFunc 122 args).run Tryz.prog w = .ok (.enter 122 args) w := enters_of Tryz.func122 (by kernel_rfl) rfl
set_option maxHeartbeats 1000000 in
set_option maxRecDepth 100000 in
theorem del1_any (x : Mv) (hsh : NdS x) (q : Tx) (bd : Nat) (w : World) (hc : w.cell? ⟨bd, 0, none⟩ = some (.string ⟨q.toArray⟩)) :
    Calls Tryz.prog 122 #[.agg (mcell x), .pointer (some ⟨bd, 0, none⟩)] w fun e w' => e = .returned (.bool (x.1.1 == q)) ∧ Below w.heap.size w w' := by
  obtain ⟨⟨xp, ⟨kind, mode, uid, gid, time, attrs, data, link⟩⟩, av, dv⟩ := x
  obtain ⟨aa, la, ca, ad, ld, cd, e1, e2⟩ := hsh
  dsimp only at e1 e2 ⊢
  subst e1 e2
  have HMC : Keep (mcell ((xp, ⟨kind, mode, uid, gid, time, attrs, data, link⟩), .slice aa la ca, .slice ad ld cd) = #[.string ⟨xp.toArray⟩, .int .i64 kind, .int .u32 mode, .int .u32 uid, .int .u32 gid, .int .i64 time, .slice aa la ca, .slice ad ld cd, .string ⟨link.toArray⟩]) := ⟨rfl⟩
  rw [HMC.out]
  have hlt : bd < w.heap.size := World.block_lt_of_cell? w _ hc
  have HC : Keep (∀ wx, Below w.heap.size w wx → wx.cell? ⟨bd, 0, none⟩ = some (.string ⟨q.toArray⟩)) := ⟨fun wx hb => by rw [hb.cell (p := ⟨bd, 0, none⟩) hlt]; exact hc⟩
  clear hc
  go_enter Tryz.func122, Tryz.ntmps122
  go_upto_region 1 with fail
  refine wp_world (R := fun w1 => Hp NoM w w1 [rowA w.heap.size 41 #[.string ⟨xp.toArray⟩, .int .i64 kind, .int .u32 mode, .int .u32 uid, .int .u32 gid, .int .i64 time, .slice aa la ca, .slice ad ld cd, .string ⟨link.toArray⟩]]) ((Hp.begin NoM w).newRow _ _) ?_
  intro w1 H1
  have hc := HC.out w1 H1.out.below
  have c0 := (H1.out.row 0 rfl).cell (i := 0) rfl
  have HB := Keep.keep H1.out.below
  go_wp2_with fail
  go_ret
  exact ⟨rfl, HB.out⟩
theorem flatF_take {A B : List Mb} {ks : List Tx} {F : Tx → List Mb} {k : Nat} (hk : k < ks.length) : flatF A B (ks.take (k + 1)) F = flatF A B (ks.take k) F ++ oneF A B (F ks[k]) ks[k] := by
  unfold flatF
  rw [List.take_succ_eq_append_getElem hk, List.flatMap_append]
  simp
set_option maxHeartbeats 8000000 in
set_option maxRecDepth 100000 in
theorem below_any (d : TD) (F : Tx → List Mb) (dir : Tx) (T : Nat) (w : World) (hT : Tabs T w) (_hA : WellL d.A) (hB : WellL d.B) (hLA : d.A.length ≤ 100000) (hLB : d.B.length ≤ 100000) (hdl : dir.length ≤ 400000) (hdir : dir = [] ∨ dirB d.B dir = true) (hF : ∀ c, (F c).length ≤ 1 + d.B.length) (h : TIn w d)
    (hone : ∀ c ∈ ksT d.A d.B dir, ∀ wx, Below w.heap.size w wx → Calls Tryz.prog 119 #[.string ⟨c.toArray⟩, .pointer (some ⟨d.ba, 0, none⟩), .pointer (some ⟨d.bb, 0, none⟩), .pointer (some ⟨d.bw, 0, none⟩)] wx (BelAns d (oneF d.A d.B (F c) c) wx)) :
    Calls Tryz.prog 120 #[.string ⟨dir.toArray⟩, .pointer (some ⟨d.ba, 0, none⟩), .pointer (some ⟨d.bb, 0, none⟩), .pointer (some ⟨d.bo, 0, none⟩)] w (BelAns d (bodyF d.A d.B (ksT d.A d.B dir) F dir) w) := by
  have HT := Keep.keep hT
  have HON : Keep (∀ wx, Below w.heap.size w wx → TIn wx d) := ⟨fun wx hb => h.below hb⟩
  have HLT : Keep (∀ b, d.Na b ∨ d.Nb b ∨ d.Bk b → b < w.heap.size) := ⟨h.lt⟩
  have HONE := Keep.keep hone
  have hlt4 : d.ba < w.heap.size ∧ d.bb < w.heap.size ∧ d.bo < w.heap.size := ⟨h.ra.lt, h.rb.lt, h.ro.lt⟩
  obtain ⟨MA, hma, hra⟩ := h.sa.names
  obtain ⟨MB, hmb, hrb⟩ := h.sb.names
  obtain ⟨Y, hmy, hy⟩ := h.sb.many
  obtain ⟨vA, hvA⟩ : ∃ v, (SM.look MA dir).getD nilV = v := ⟨_, rfl⟩
  obtain ⟨vB, hvB⟩ : ∃ v, (SM.look MB dir).getD nilV = v := ⟨_, rfl⟩
  have hrA := hra dir
  have hrB := hrb dir
  rw [hvA] at hrA
  rw [hvB] at hrB
  have HLA : Keep (∀ wx, Below w.heap.size w wx → (Instr.lookup 108 (.map (some d.ma)) (.string ⟨dir.toArray⟩) false).run Tryz.prog wx = .ok vA wx) := ⟨fun wx hb => by
    have := (hma.loc (hb.block _ hma.lt)).look1 Tryz.underlying9 Tryz.underlying108 (zeroSt wx) (p := dir) (by unfold maxLen; omega)
    rw [hvA] at this; exact this⟩
  have HLB : Keep (∀ wx, Below w.heap.size w wx → (Instr.lookup 108 (.map (some d.mb)) (.string ⟨dir.toArray⟩) false).run Tryz.prog wx = .ok vB wx) := ⟨fun wx hb => by
    have := (hmb.loc (hb.block _ hmb.lt)).look1 Tryz.underlying9 Tryz.underlying108 (zeroSt wx) (p := dir) (by unfold maxLen; omega)
    rw [hvB] at this; exact this⟩
  have HLY : Keep (∀ wx, Below w.heap.size w wx → (Instr.lookup 73 (.map (some d.yb)) (.string ⟨dir.toArray⟩) false).run Tryz.prog wx = .ok (.int .i64 ((cntM d.B dir : Nat) : Int)) wx) := ⟨fun wx hb => by
    have := (hmy.loc (hb.block _ hmy.lt)).look1 Tryz.underlying9 Tryz.underlying73 (zeroI wx) (p := dir) (by unfold maxLen; omega)
    rw [hy dir] at this; exact this⟩
  have hkA : ((kids dir d.A).map (·.1)).length ≤ 100000 := by
    rw [List.length_map]; unfold kids; exact Nat.le_trans (List.length_filter_le _ _) hLA
  have hkB : ((kids dir d.B).map (·.1)).length ≤ 100000 := by
    rw [List.length_map]; unfold kids; exact Nat.le_trans (List.length_filter_le _ _) hLB
  have HBO : Keep (∀ wx, Below w.heap.size w wx → Calls Tryz.prog 121 #[vA, vB] wx fun e w' => ∃ v, e = .returned v ∧ OwnS w' wx.heap.size v (ksT d.A d.B dir) ∧ Below wx.heap.size wx w') :=
    ⟨fun wx hb => both_any vA vB _ _ wx ((hrA.below hb (fun b hb' => h.lt b (.inl hb'))).mono (fun b hb' => Nat.lt_of_lt_of_le (h.lt b (.inl hb')) hb.size)) ((hrB.below hb (fun b hb' => h.lt b (.inr (.inl hb')))).mono (fun b hb' => Nat.lt_of_lt_of_le (h.lt b (.inr (.inl hb'))) hb.size)) (by omega) (by omega)⟩
  have HKL : Keep ((ksT d.A d.B dir).length ≤ 200000 ∧ ∀ c ∈ ksT d.A d.B dir, True) := ⟨by
    unfold ksT
    refine Nat.le_trans (compact_len _) ?_
    rw [List.length_mergeSort, List.length_append]; omega, fun _ _ => trivial⟩
  have HCN := Keep.keep (cnt_dir hB hdir)
  have hcb : cntM d.B dir ≤ 1000000 := by
    have h1 := cnt_all (fun q hq => hB.path hq) dir
    have h2 := List.countP_le_length (p := fun q : Mb => q.1 == dir) (l := d.B)
    have h3 := List.countP_le_length (p := fun q : Mb => underP dir q.1) (l := d.B)
    omega
  have HUN : Keep (∀ wx, Below w.heap.size w wx → Calls Tryz.prog 18 #[.pointer (some ⟨d.Tb, 0, none⟩), .string ⟨dir.toArray⟩] wx (BelAns d (underL dir d.B) wx)) := ⟨fun wx hb => by
    have ht := h.below hb
    refine (under_own d.Tb d.tb d.Bk d.f d.B dir wx hLB hdl ht.tr ⟨ht.tr.row.lt, ht.tr.map.lt, fun b hb => ht.lt b (.inr (.inr hb))⟩).mono ?_
    rintro e w' ⟨v, l, rfl, hl, ho, hb'⟩
    exact ⟨v, l, rfl, hl, RowM.ofOwn ho _, hb'⟩⟩
  have HMK : Keep (∀ wx, Below w.heap.size w wx → Calls Tryz.prog 16 #[.string ⟨dir.toArray⟩] wx fun e w' => e = .returned (.agg (mbC (mkM dir) nilV nilV)) ∧ Below wx.heap.size wx w') := ⟨fun wx hb => dmark_any dir (by omega) T wx (Nat.le_trans hT.b hb.size) (hT.m.on (hb.mono hT.b))⟩
  have HONL : Keep (∀ c, (oneF d.A d.B (F c) c).length ≤ 300000) := ⟨fun c => by
    have := one_len d.A d.B (F c) c
    have := hF c
    omega⟩
  have HBY : Keep (bodyF d.A d.B (ksT d.A d.B dir) F dir = if (flatF d.A d.B (ksT d.A d.B dir) F).length ≤ 1 + d.B.countP (fun q => underP dir q.1) then flatF d.A d.B (ksT d.A d.B dir) F else d.B.filter (fun q => underP dir q.1) ++ [mkM dir]) := ⟨rfl⟩
  have HFL : Keep ((underL dir d.B).filter (fun m => !(m.1 == dir)) = d.B.filter (fun q => underP dir q.1)) := ⟨by
    unfold underL
    rw [List.filter_filter]
    refine List.filter_congr (fun x _ => ?_)
    unfold hitU
    by_cases e : x.1 = dir
    · rw [e]
      have : underP dir dir = false := by
        cases hu : underP dir dir with
        | false => rfl
        | true => exact (under_asym hu hu).elim
      simp [this]
    · have : (x.1 == dir) = false := by simpa using e
      simp [this]⟩
  obtain ⟨aA, cA, hvA2, -⟩ := hrA.shape
  obtain ⟨aB, cB, hvB2, -⟩ := hrB.shape
  generalize ((kids dir d.A).map (·.1)).length = nA at *
  generalize ((kids dir d.B).map (·.1)).length = nB at *
  have ca1 : Keep (∀ wx, Below w.heap.size w wx → wx.cell? ⟨d.ba, 1, none⟩ = some (.map (some d.ma)) ∧ wx.cell? ⟨d.bb, 1, none⟩ = some (.map (some d.mb)) ∧ wx.cell? ⟨d.bb, 2, none⟩ = some (.map (some d.yb)) ∧ wx.cell? ⟨d.bb, 3, none⟩ = some (.func (.func 18) #[.pointer (some ⟨d.Tb, 0, none⟩)] #[]) ∧ wx.cell? ⟨d.bo, 0, none⟩ = some (.func (.func 119) #[] #[.pointer (some ⟨d.ba, 0, none⟩), .pointer (some ⟨d.bb, 0, none⟩), .pointer (some ⟨d.bw, 0, none⟩)])) := ⟨fun wx hb => by
    have ht := h.below hb
    exact ⟨ht.ra.cell rfl, ht.rb.cell rfl, ht.rb.cell rfl, ht.rb.cell rfl, ht.ro.cell rfl⟩⟩
  have hent1 := ent_undf
  have hent3 := ent_one
  clear hone h hma hra hmb hrb hmy hy hrA hrB hvA hvB hT hB hF
  subst hvA2 hvB2
  generalize bodyF d.A d.B (ksT d.A d.B dir) F dir = out at *
  generalize ksT d.A d.B dir = ks at *
  obtain ⟨qw, kw, hqw⟩ := signM_cells (opaqueP dir)
  have HMC : Keep (mbC (mkM dir) nilV nilV = #[.string ⟨qw.toArray⟩, .int .i64 kw, .int .u32 0, .int .u32 0, .int .u32 0, .int .i64 0, .slice none 0 0, .slice none 0 0, .string ⟨#[]⟩]) := ⟨hqw⟩
  rw [HMC.out] at HMK
  obtain ⟨cc, hcc⟩ : ∃ c, cntM d.B dir = c := ⟨_, rfl⟩
  rw [hcc] at HLY HCN hcb
  obtain ⟨cP, hcP⟩ : ∃ c, 1 + d.B.countP (fun q => underP dir q.1) = c := ⟨_, rfl⟩
  rw [hcP] at HCN HBY
  obtain ⟨nk, hnk⟩ : ∃ n, ks.length = n := ⟨_, rfl⟩
  have HNK := Keep.keep hnk
  have hnkb : nk ≤ 200000 := by rw [← hnk]; exact HKL.out.1
  clear hqw hcc hcP hnk
  go_enter Tryz.func120, Tryz.ntmps120
  go_upto_region 1 with fail
  refine wp_world (R := fun w1 => Hp NoM w w1 [rowA w.heap.size 9 #[.string ⟨dir.toArray⟩]]) ((Hp.begin NoM w).newRow _ _) ?_
  intro w1 H1
  have hla := HLA.out w1 H1.out.below
  have hlb := HLB.out w1 H1.out.below
  have cd := (H1.out.row 0 rfl).cell (i := 0) rfl
  obtain ⟨c1, c2, c3, c4, c5⟩ := ca1.out w1 H1.out.below
  go_wp2_with fail
  refine (HBO.out w1 H1.out.below).mono ?_
  rintro e w2 ⟨v19, rfl, ho19, hb2⟩
  have H2 := Keep.keep ((H1.out.push (slA w1.heap.size 9 1 v19 ks.length (ks.map strV)) (.of_below hb2) ho19 (fun b hb => World.ownsRow.lt ho19 b hb)).nilS w.heap.size 41 9)
  rw [HNK.out] at H2
  obtain ⟨a19, c19, hv19, -⟩ := (ownsV_reads ho19).shape
  rw [HNK.out] at hv19
  clear ho19 hb2 HBO hla hlb cd c1 c2 c3 c4 c5 HLA HLB H1
  subst hv19
  go_wp2_with fail
  go_loopg [6, 8, 21] nk (fun g u6 _ u21 wx => ∃ (k : Nat) (acc : List Mv), k + g = nk ∧ u21 = .int .i64 (k : Int) ∧ acc.map (·.1) = flatF d.A d.B (ks.take k) F ∧ acc.length ≤ k * 300000 ∧ RowM w.heap.size d.Nb wx u6 acc ∧ Hp NoM w wx [rowA w.heap.size 9 #[.string ⟨dir.toArray⟩], slA w1.heap.size 9 1 (.slice a19 nk c19) nk (ks.map strV), slA w.heap.size 41 9 u6 acc.length (mcells acc)])
  case atStart => exact ⟨0, [], by omega, rfl, rfl, Nat.zero_le _, RowM.nil _ _ _, H2.out⟩
  case round =>
    obtain ⟨k, acc, hkg, rfl, hmap, hal, hrow, hH⟩ := hrel
    have HM := Keep.keep hmap; have HR := Keep.keep hrow; have HH := Keep.keep hH
    obtain ⟨a6, c6, hv6, -⟩ := (ownsV_reads hrow.own).shape
    obtain ⟨n6, hn6⟩ : ∃ n, acc.length = n := ⟨_, rfl⟩
    have HN6 := Keep.keep hn6
    rw [hn6] at hv6 HH hal
    clear hmap hrow hH hn6 H2
    subst hv6
    cases gk with
    | zero =>
      obtain rfl : k = nk := by omega
      have HACC : Keep (acc.map (·.1) = flatF d.A d.B ks F) := ⟨by rw [HM.out, List.take_of_length_le (by rw [HNK.out]; exact Nat.le_refl _)]⟩
      have hb := HH.out.below
      obtain ⟨c1, c2, c3, c4, c5⟩ := ca1.out wr hb
      have cd := (HH.out.row 0 rfl).cell (i := 0) rfl
      have hly := HLY.out wr hb
      have HLEN : Keep ((flatF d.A d.B ks F).length = n6) := ⟨by rw [← HACC.out, List.length_map]; exact HN6.out⟩
      rw [HLEN.out] at HBY
      have HWB := Keep.keep hb
      clear c1 c2 c5 hb
      by_cases hz : dir = []
      focus
        have he : dir.isEmpty = true := by rw [hz]; rfl
        have HCC : Keep (1 + cc = cP) := ⟨by have := HCN.out; rw [if_pos hz] at this; exact this⟩
        clear hz
        cases hd : decide (n6 ≤ cP)
        case true =>
          have hle := of_decide_eq_true hd
          have HO : Keep (out = flatF d.A d.B ks F) := ⟨by rw [HBY.out, if_pos hle]⟩
          have hcP := HCC.out
          have g1 : decide ((n6 : Int) ≤ 1 + (cc : Int)) = true := decide_eq_true (by omega)
          clear hd hle hcP
          go_wp2_with fail
          go_ret
          exact ⟨_, acc, rfl, by rw [HO.out]; exact HACC.out, HR.out, HWB.out⟩
        have hle := of_decide_eq_false hd
        have HO : Keep (out = d.B.filter (fun q => underP dir q.1) ++ [mkM dir]) := ⟨by rw [HBY.out, if_neg hle]⟩
        have hcP := HCC.out
        have g1 : decide ((n6 : Int) ≤ 1 + (cc : Int)) = false := decide_eq_false (by omega)
        clear hd hle hcP
        go_upto_region 12 with fail
      rotate_left
      focus
        have he : dir.isEmpty = false := by simpa using hz
        have HCC : Keep (cc = cP) := ⟨by have := HCN.out; rw [if_neg hz] at this; exact this⟩
        clear hz
        cases hd : decide (n6 ≤ cP)
        case true =>
          have hle := of_decide_eq_true hd
          have HO : Keep (out = flatF d.A d.B ks F) := ⟨by rw [HBY.out, if_pos hle]⟩
          have hcP := HCC.out
          have g1 : decide ((n6 : Int) ≤ 1 + (cc : Int) - 1) = true := decide_eq_true (by omega)
          have g2 : decide (n6 ≤ cc) = true := decide_eq_true (by omega)
          clear hd hle hcP
          go_wp2_with fail
          go_ret
          exact ⟨_, acc, rfl, by rw [HO.out]; exact HACC.out, HR.out, HWB.out⟩
        have hle := of_decide_eq_false hd
        have HO : Keep (out = d.B.filter (fun q => underP dir q.1) ++ [mkM dir]) := ⟨by rw [HBY.out, if_neg hle]⟩
        have hcP := HCC.out
        have g1 : decide ((n6 : Int) ≤ 1 + (cc : Int) - 1) = false := decide_eq_false (by omega)
        have g2 : decide (n6 ≤ cc) = false := decide_eq_false (by omega)
        clear hd hle hcP
        go_upto_region 12 with fail
      all_goals
        go_wp2_with fail
        refine (HUN.out wr HWB.out).mono ?_
        rintro e w5 ⟨v5, l5, rfl, hl5, hr5, hb5⟩
        have HL5 := Keep.keep hl5
        have HW5 := Keep.keep (HWB.out.trans (hb5.mono HWB.out.size))
        have HR5 := Keep.keep (hr5.lower HWB.out.size (fun b hb => hb))
        have HLO : Keep (∀ b, v5.ownBlock = some b → wr.heap.size ≤ b) := ⟨fun b hb => (hr5.lt hb).1⟩
        have HBD : Keep (Row w5 w.heap.size 9 #[.string ⟨dir.toArray⟩] ∧ w.heap.size < wr.heap.size) := ⟨(HH.out.row 0 rfl).below hb5 (HH.out.row 0 rfl).lt, (HH.out.row 0 rfl).lt⟩
        have hn5 : l5.length ≤ 100000 := by
          rw [← List.length_map (f := fun x : Mv => x.1), hl5]
          exact Nat.le_trans (List.length_filter_le _ _) hLB
        have HDF := Keep.keep (dfuncM 122 #[.pointer (some ⟨w.heap.size, 0, none⟩)] (fun m => m.1 == dir) v5 l5 w.heap.size d.Nb w5 ent_del1 HW5.out.size (by omega) (fun wx hch x hx => by
          have := del1_any x (HR5.out.nd x hx).shape dir w.heap.size wx (by
            rw [hch.cell (p := ⟨w.heap.size, 0, none⟩) HBD.out.1.lt (fun e => by have := HLO.out w.heap.size e; have := HBD.out.2; omega)]
            exact HBD.out.1.cell rfl)
          simpa using this) HR5.out)
        obtain ⟨a5, c5, hv5, -⟩ := (ownsV_reads hr5.own).shape
        generalize l5.length = n5 at hv5
        clear hl5 hr5 hb5 c3 c4 cd hly HH HM HR
        subst hv5
        have cd := HBD.out.1.cell (i := 0) rfl
        go_wp2_with fail
        refine HDF.out.mono ?_
        rintro e w6 ⟨v6, rfl, hr6, ho6, hc6⟩
        have HR6 := Keep.keep hr6
        have HW6 : Keep (Below w.heap.size w w6) := ⟨HW5.out.trans ((hc6.lower HW5.out.size).below (fun b hb e => by have := HLO.out _ e; have := HBD.out.2; omega))⟩
        have HBD6 : Keep (Row w6 w.heap.size 9 #[.string ⟨dir.toArray⟩]) := ⟨HBD.out.1.chg hc6 HBD.out.1.lt (fun e => by have := HLO.out _ e; have := HBD.out.2; omega)⟩
        obtain ⟨a6', c6', hv6, -⟩ := (ownsV_reads hr6.own).shape
        have HL6 : Keep ((l5.filter fun x => !(x.1.1 == dir)).map (·.1) = d.B.filter (fun q => underP dir q.1)) := ⟨by
          rw [← HFL.out, ← HL5.out, List.filter_map]; rfl⟩
        have hn6' : (l5.filter fun x => !(x.1.1 == dir)).length ≤ 100000 := Nat.le_trans (List.length_filter_le _ _) hn5
        generalize (l5.filter fun x => !(x.1.1 == dir)) = l6 at *
        generalize hnl6 : l6.length = n6' at hv6
        have HNL6 := Keep.keep hnl6
        clear hr6 ho6 hc6 HDF cd hnl6 HBD HR5
        subst hv6
        have cd := HBD6.out.cell (i := 0) rfl
        go_wp2_with fail
        refine (HMK.out w6 HW6.out).mono ?_
        rintro e w7 ⟨rfl, hb7⟩
        have HR7 := Keep.keep (HR6.out.below hb7)
        have HW7 := Keep.keep (HW6.out.trans (hb7.mono HW6.out.size))
        clear hb7 cd HBD6 HR6
        go_wp2_with (with_reducible refine arm_stop ?_)
        refine Stopped.out ?_
        have hal : Below w7.heap.size w7 (w7.alloc (.cells #[.string ⟨qw.toArray⟩, .int .i64 kw, .int .u32 0, .int .u32 0, .int .u32 0, .int .i64 0, .slice none 0 0, .slice none 0 0, .string ⟨#[]⟩] 41)) := (Below.refl _ _).alloc (Nat.le_refl _) _
        have hrA := HR7.out.below hal
        have hs7 := HW7.out.size
        have hmN : Mbs (w7.alloc (.cells #[.string ⟨qw.toArray⟩, .int .i64 kw, .int .u32 0, .int .u32 0, .int .u32 0, .int .i64 0, .slice none 0 0, .slice none 0 0, .string ⟨#[]⟩] 41)) (fun _ => True) d.Nb (.slice (some ⟨w7.heap.size, 0, none⟩) 1 1) [((mkM dir, nilV, nilV) : Mv)] := ⟨by
          have := RdV.new (w := w7) (N := fun _ => True) 41 (mcells [((mkM dir, nilV, nilV) : Mv)]) 9 1 w7.heap.size rfl rfl (by unfold maxLen; omega) trivial
          have hmc : (mcells [((mkM dir, nilV, nilV) : Mv)]).toArray = #[.string ⟨qw.toArray⟩, .int .i64 kw, .int .u32 0, .int .u32 0, .int .u32 0, .int .i64 0, .slice none 0 0, .slice none 0 0, .string ⟨#[]⟩] := by
            rw [mcells_cons]
            show (mcell ((mkM dir, nilV, nilV) : Mv)).toList.toArray = _
            exact HMC.out
          rw [hmc] at this
          exact this, fun y hy => by
          obtain rfl : y = ((mkM dir, nilV, nilV) : Mv) := by simpa using hy
          exact ndR_nil (by unfold mkM signM; split <;> rfl) (by unfold mkM signM; split <;> rfl)⟩
        refine arm_appM (B := w.heap.size) hrA (Nat.le_trans hs7 hal.size) hmN (fun b hb => ⟨.inl hb, by have := HLT.out b (.inr (.inl hb)); have := hal.size; omega, fun e => by have := (hrA.lt e).1; have := HLT.out b (.inr (.inl hb)); omega⟩) (by rw [List.length_singleton]; omega) rfl rfl ?_
        intro v8 w8 hr8 hg8 hov8 hsh8
        obtain ⟨a8, c8, rfl⟩ := hsh8
        have HR8 := Keep.keep hr8
        have HB8 : Keep (Below w.heap.size w w8) := ⟨(HW7.out.trans (hal.mono HW7.out.size)).trans (hrA.chg (Nat.le_trans hs7 hal.size) hg8)⟩
        clear hr8 hg8 hov8 hmN hrA hal
        simp only [Act.put, List.setIfInBounds_toArray, List.set_cons_succ, List.set_cons_zero]
        go_wp2_with fail
        go_ret
        exact ⟨_, _, rfl, by rw [List.map_append, HL6.out, HO.out]; rfl, HR8.out, HB8.out⟩
    | succ g =>
      have hk : k < ks.length := by rw [HNK.out]; omega
      have hb := HH.out.below
      obtain ⟨c1, c2, c3, c4, c5⟩ := ca1.out wr hb
      have ho19 := HH.out.sl 1 rfl
      obtain ⟨g19, rfl⟩ : ∃ g, a19 = some ⟨g, 0, none⟩ := by
        rcases ho19.2 with ⟨_, h0⟩ | ⟨g, cap, cur, h, _⟩
        · omega
        · injection h with h; exact ⟨g, h⟩
      have hcell := (ownsV_reads ho19).cell g19 0 _ _ rfl k (strV ks[k]) (by simp [hk])
      have HC := Keep.keep (HONE.out ks[k] (List.getElem_mem hk) wr hb)
      have HTK := Keep.keep (flatF_take (A := d.A) (B := d.B) (F := F) hk)
      have hol := HONL.out ks[k]
      generalize oneF d.A d.B (F ks[k]) ks[k] = of1 at *
      generalize ks[k] = cq at *
      unfold strV at hcell
      rw [Nat.zero_add] at hcell
      clear hb c1 c2 c3 c4 ho19
      go_wp2_with fail
      refine HC.out.mono ?_
      rintro e w3 ⟨v3, l3, rfl, hl3, hr3, hb3⟩
      have HL3 := Keep.keep hl3; have HR3 := Keep.keep hr3
      have HH3 := Keep.keep (HH.out.call hb3)
      have HRA := Keep.keep (HR.out.below hb3)
      have HRLT := Keep.keep (fun b e => (HR.out.lt (b := b) e))
      have hn3 : l3.length ≤ 300000 := by rw [← List.length_map (f := fun x : Mv => x.1), hl3]; exact hol
      obtain ⟨a3, c3, hv3, -⟩ := (ownsV_reads hr3.own).shape
      have hsw := HH.out.size
      have hs3 := hb3.size
      clear hl3 hr3 hb3 HC hcell c5 HR HH
      subst hv3
      go_wp2_with (with_reducible refine arm_stop ?_)
      refine Stopped.out ?_
      have hkb : k * 300000 ≤ 200000 * 300000 := Nat.mul_le_mul_right _ (by omega)
      refine arm_appM (B := w.heap.size) HRA.out (Nat.le_trans hsw hs3) HR3.out.mbs (fun b hb => ⟨?_, hb.2.1, fun e => ?_⟩) (by rw [HN6.out]; omega) rfl rfl ?_
      · rcases hb.1 with h | h
        · exact .inl h
        · exact .inr (by omega)
      · have h1 := HRLT.out b e
        rcases hb.1 with h | h
        · have := HLT.out b (.inr (.inl h)); omega
        · omega
      intro v4 w4 hr4 hg4 hov4 hsh4
      have H4 := Keep.keep (HH3.out.grow 2 rfl hg4 hr4.own hov4)
      obtain ⟨a4, c4, rfl⟩ := hsh4
      have HR4 := Keep.keep hr4
      clear hr4 hg4 hov4 HH3 HRA
      simp only [Act.put, List.setIfInBounds_toArray, List.set_cons_succ, List.set_cons_zero]
      rw [HN6.out]
      go_wp2_with fail
      go_roundg g
      case measure => omega
      case rel =>
        refine ⟨k + 1, acc ++ l3, by omega, by simp, by rw [List.map_append, HM.out, HTK.out, HL3.out], ?_, ?_, ?_⟩
        · rw [List.length_append, HN6.out]; omega
        · have := HR4.out; rw [HN6.out] at this; exact this
        · have := H4.out; rw [HN6.out] at this; exact this
end Go.Proofs.YtmnknmpfkjhgbaaGreatDoor
/- A REGION THAT DRAWS ITS ORDER, ONE OPERATION OF WHICH CHANGES THE MEMORY, and so does the last one, which waits for all others: one fact an operation; what is known of slots and memory before that operation and behind it. -/
namespace Go.Proofs.YtmnknmpfkjhgbaaGreatDoor
open Go.RowKit
theorem wp_region_one {P : Program} {ops : Array Oper} {id : Nat} {Q : Exit → Act → World → Prop} {a : Act} {w : World} (n c : Nat) (D : List Nat) (C : Bool → (Nat → Value) → World → Prop) (T : Nat → Value → World → Prop) (St : World → World → Prop) (hm : P.follows .mixedOrders = true)
    (hsz : ops.size = n + 1) (hlen : D.length = n) (hnd : D.Nodup) (hds : ∀ d ∈ D, d < a.tmps.size) (hB : inOrderB ops = true) (hlast : ((List.range n).all fun i => Region.waitsFor .any ops n i) = true) (hcn : c < n) (h0 : C false (slot a) w.drew)
    (hst : ∀ i v w w', T i v w → St w w' → T i v w')
    (hs : ∀ i, i < n → i ≠ c → ∀ b a1 w1, Fr a D a1 → C b (slot a1) w1 → (∀ j, j < n → Region.waitsFor .any ops i j = true → T j (slot a1 (D.getD j 0)) w1) →
      wpOp P ops Q i (fun a2 w2 => ∃ v, a2 = a1.put (some (D.getD i 0)) v ∧ C b (slot a2) w2 ∧ St w1 w2 ∧ T i v w2) a1 w1)
    (h1 : ∀ a1 w1, Fr a D a1 → C false (slot a1) w1 → (∀ j, j < n → Region.waitsFor .any ops c j = true → T j (slot a1 (D.getD j 0)) w1) →
      wpOp P ops Q c (fun a2 w2 => ∃ v, a2 = a1.put (some (D.getD c 0)) v ∧ C true (slot a2) w2 ∧ St w1 w2 ∧ T c v w2) a1 w1)
    (he : ∀ a1 w1, a1 = D.foldl (fun b d => b.put (some d) (slot a1 d)) a → C true (slot a1) w1 → (∀ j, j < n → T j (slot a1 (D.getD j 0)) w1) → wpOp P ops Q n (fun a2 w2 => a2 = a1 ∧ Q .normal a2 w2) a1 w1) : (Code.region id ops true).wp P Q a w := by
  have hmem : ∀ i, i < n → D.getD i 0 ∈ D := fun i hi => by
    rw [List.getD_eq_getElem?_getD, List.getElem?_eq_getElem (by omega)]
    exact List.getElem_mem _
  have hinj : ∀ i j, i < n → j < n → D.getD i 0 = D.getD j 0 → i = j := fun i j hi hj h => by
    rw [List.getD_eq_getElem?_getD, List.getD_eq_getElem?_getD, List.getElem?_eq_getElem (by omega), List.getElem?_eq_getElem (by omega)] at h
    exact (List.getElem_inj hnd).1 h
  have hl : ∀ i, i < n → Region.waitsFor .any ops n i = true := fun i hi => List.all_eq_true.1 hlast i (List.mem_range.2 hi)
  refine wp_region_fr D (fun done s w1 => (done.getD n false = true → ∀ a2, Fr a D a2 → slot a2 = s → Q .normal a2 w1) ∧ (done.getD n false = false → C (done.getD c false) s w1 ∧ ∀ j, j < n → done.getD j false = true → T j (s (D.getD j 0)) w1)) hm ⟨fun h => ?_, fun _ => ⟨?_, fun j hj hd => ?_⟩⟩ ?_ ?_
  · rw [Array.getD_eq_getD_getElem?] at h
    simp [show n < ops.size by omega] at h
  · have : (Array.replicate ops.size false).getD c false = false := by
      rw [Array.getD_eq_getD_getElem?]; simp [show c < ops.size by omega]
    rw [this]; exact h0
  · rw [Array.getD_eq_getD_getElem?] at hd
    simp [show j < ops.size by omega] at hd
  · intro done a1 w1 hF hI hz hcl i hi
    have hlt := ready_lt hi
    have hu : done.getD i false = false := by
      have := (ready_at hi (Array.getElem?_eq_getElem hlt)).1
      rw [Array.getD_eq_getD_getElem?, Array.getElem?_eq_getElem (by omega)] at this ⊢
      exact this
    have hset : ∀ q, q ≠ i → (done.setIfInBounds i true).getD q false = done.getD q false := fun q hq => by
      simp [Array.getD_eq_getD_getElem?, Array.getElem?_setIfInBounds_ne (Ne.symm hq)]
    have hself : (done.setIfInBounds i true).getD i false = true := by
      have : i < done.size := by omega
      simp [Array.getD_eq_getD_getElem?, this]
    have hrdy : ∀ j, Region.waitsFor .any ops i j = true → done.getD j false = true := fun j hj => by
      obtain ⟨e, he1, he2, he3⟩ := waits_of (Array.getElem?_eq_getElem hlt) hj
      have hdn := (ready_at hi (Array.getElem?_eq_getElem hlt)).2 e he1 he2
      rw [he3] at hdn
      exact hdn
    by_cases hin : i = n
    · subst hin
      have hC := hI.2 hu
      have hT : ∀ j, j < i → T j (slot a1 (D.getD j 0)) w1 := fun j hj => hC.2 j hj (hrdy j (hl j hj))
      have hcd : done.getD c false = true := hrdy c (hl c hcn)
      rw [hcd] at hC
      refine wpOp_mono ?_ (he a1 w1 hF.eq hC.1 hT)
      rintro a2 w2 ⟨rfl, hQ⟩
      refine ⟨hF, fun _ a3 hF3 hs3 => ?_, fun h => by rw [hself] at h; cases h⟩
      have e3 := hF3.eq
      rw [hs3] at e3
      rw [e3, ← hF.eq]
      exact hQ
    · have hin' : i < n := by omega
      have hnd' : done.getD n false = false := by
        cases h : done.getD n false with
        | false => rfl
        | true =>
          obtain ⟨e, he1, he2, he3⟩ := waits_of (Array.getElem?_eq_getElem (show n < ops.size by omega)) (hl i hin')
          have := hcl n _ (Array.getElem?_eq_getElem (show n < ops.size by omega)) h e he1 he2
          rw [he3, hu] at this
          cases this
      obtain ⟨hC, hTs⟩ := hI.2 hnd'
      have hT : ∀ j, j < n → Region.waitsFor .any ops i j = true → T j (slot a1 (D.getD j 0)) w1 := fun j hj hw => hTs j hj (hrdy j hw)
      have fin : ∀ b, (done.setIfInBounds i true).getD c false = b → ∀ a2 w2, (∃ v, a2 = a1.put (some (D.getD i 0)) v ∧ C b (slot a2) w2 ∧ St w1 w2 ∧ T i v w2) → Fr a D a2 ∧ ((done.setIfInBounds i true).getD n false = true → ∀ a3, Fr a D a3 → slot a3 = slot a2 → Q .normal a3 w2) ∧
          ((done.setIfInBounds i true).getD n false = false → C ((done.setIfInBounds i true).getD c false) (slot a2) w2 ∧ ∀ j, j < n → (done.setIfInBounds i true).getD j false = true → T j (slot a2 (D.getD j 0)) w2) := by
        rintro b hb a2 w2 ⟨v, rfl, hC2, hSt, hTv⟩
        refine ⟨hF.put _ (hmem i hin') v, fun h => ?_, fun _ => ⟨by rw [hb]; exact hC2, fun j hj hd => ?_⟩⟩
        · rw [hset n (Ne.symm hin), hnd'] at h; cases h
        · by_cases e : i = j
          · subst e
            rw [slot_put_same _ _ _ (by rw [hF.size]; exact hds _ (hmem i hin'))]
            exact hTv
          · rw [hset j (Ne.symm e)] at hd
            rw [slot_put_ne _ _ _ _ (fun e2 => e (hinj i j hin' hj e2))]
            exact hst j _ _ _ (hTs j hj hd) hSt
      by_cases hic : i = c
      · subst hic
        rw [hu] at hC
        exact wpOp_mono (fin true hself) (h1 a1 w1 hF hC hT)
      · exact wpOp_mono (fin _ (hset c (Ne.symm hic))) (hs i hin' hic _ a1 w1 hF hC hT)
  · intro done a1 w1 ha hI hz hr
    refine hI.1 (all_done hB hz hr n (by omega)) a1 ?_ rfl
    rw [ha]
    have : ∀ (l : List Nat) (b : Act), (∀ d ∈ l, d ∈ D) → Fr a D b → Fr a D (l.foldl (fun b d => b.put (some d) (slot a1 d)) b) := by
      intro l
      induction l with
      | nil => intro b _ hb; exact hb
      | cons d l ih => intro b hd hb; exact ih _ (fun x hx => hd x (by simp [hx])) (hb.put d (hd d (by simp)) _)
    exact this D a (fun d hd => hd) (Fr.refl _ _)
section
variable {P : Program} {ops : Array Oper} {Q : Exit → Act → World → Prop} {C : (Nat → Value) → World → Prop} {T : Value → World → Prop} {St : World → World → Prop} {i d : Nat} {a1 : Act} {w1 w2 : World} {op : Op} {tp : TypeId} {pos : String} {af : Array Edge} {v : Value}
/-- an operation that yields a value at once -/
theorem one_val (hi : ops[i]? = some ⟨some d, op, tp, pos, af, none⟩) (hd : d < a1.tmps.size) (hr : (execOp a1.eval (⟨some d, op, tp, pos, af, none⟩ : Oper)).run P w1 = .ok (.value v) w2)
    (hC : ∀ s : Nat → Value, s d = v → (∀ j, j ≠ d → s j = slot a1 j) → C s w2) (hS : St w1 w2) (hT : T v w2) : wpOp P ops Q i (fun a2 w2 => ∃ v, a2 = a1.put (some d) v ∧ C (slot a2) w2 ∧ St w1 w2 ∧ T v w2) a1 w1 :=
  inv_op (o := ⟨some d, op, tp, pos, af, none⟩) hi rfl hr ⟨v, rfl, hC _ (slot_put_same _ _ _ hd) (fun _j hj => slot_put_ne _ _ _ _ (Ne.symm hj)), hS, hT⟩
/-- the last one, that yields nothing -/
theorem one_last {K : Act → World → Prop} (hi : ops[i]? = some ⟨none, op, tp, pos, af, none⟩) (hr : (execOp a1.eval (⟨none, op, tp, pos, af, none⟩ : Oper)).run P w1 = .ok .skip w2) (hK : K a1 w2) : wpOp P ops Q i K a1 w1 := by
  unfold wpOp
  rw [hi]
  simp only
  rw [if_pos (by simp [Region.wanted])]
  refine .inl ?_
  unfold Oper.wp
  rw [hr]
  exact hK
end
end Go.Proofs.YtmnknmpfkjhgbaaGreatDoor
