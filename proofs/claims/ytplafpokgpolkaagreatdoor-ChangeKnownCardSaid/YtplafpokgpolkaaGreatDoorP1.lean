/- PARTS OF ONE PROOF, set in one file: Keep, SM, Mem, Own, Sl, Hp, PathSpec, Law, Dec. Each part tells its own conditions. -/
import Derived.Test.YtplafpokgpolkaaGreatDoorRows
import Derived.WalkKit
import Derived.WalkSpells
import Derived.WalkLawsBesides
import Derived.Lib.Hide
import Derived.Deep.MidRow
import Derived.Deep.WholeRow
import Derived.Laws.CopyOwn
import Derived.Maps.AppendAt
import Derived.Lib.OthersKept
import Derived.Lib.SplitLaws
import Derived.Lib.IndexBytes
import Derived.Lib.Join
import Derived.Lib.LastIndexByte
import Derived.Lib.IndexAny
import Derived.Test.YtplafpokgpolkaaGreatDoorCards
import Derived.Test.YtplafpokgpolkaaGreatDoorTie
import Derived.ProofKit
import Derived.OpenShut
import Derived.Carry
import Derived.ChangeSame
import Derived.Deep.DeepHandedRow
import Derived.Lib.LaidTab
/- A fact kept out of the walk's sight. -/
namespace Go.Proofs.YtplafpokgpolkaaGreatDoor
structure Keep (p : Prop) : Prop where
  keep ::
  out : p
end Go.Proofs.YtplafpokgpolkaaGreatDoor
/- SORTED LISTS OF KEYS AND VALUES: the plain picture of a map that is keyed by texts. -/
namespace Go.Proofs.YtplafpokgpolkaaGreatDoor
abbrev Tx := List UInt8
theorem tx_irrefl (a : Tx) : ¬ a < a := List.lt_irrefl a
theorem tx_trans {a b c : Tx} (h : a < b) (k : b < c) : a < c := List.lt_trans h k
theorem tx_asymm {a b : Tx} (h : a < b) : ¬ b < a := fun k => tx_irrefl a (tx_trans h k)
theorem tx_tri (a b : Tx) : a < b ∨ a = b ∨ b < a := by
  by_cases h : a < b
  · exact .inl h
  · by_cases k : b < a
    · exact .inr (.inr k)
    · exact .inr (.inl (List.le_antisymm (List.not_lt.1 k) (List.not_lt.1 h)))
theorem less_lt : ∀ a b : Tx, Op.bytesLess a b = decide (a < b)
  | [], [] => by simp [Op.bytesLess]
  | [], _ :: _ => by simp [Op.bytesLess]
  | _ :: _, [] => by simp [Op.bytesLess]
  | x :: a, y :: b => by
    unfold Op.bytesLess
    rw [less_lt a b, Bool.eq_iff_iff]
    simp [List.cons_lt_cons_iff]
namespace SM
section
variable {α : Type}
/-- the keys rise -/
def Srt (L : List (Tx × α)) : Prop := L.Pairwise (fun a b => a.1 < b.1)
/-- what stands at a key -/
def look (L : List (Tx × α)) (p : Tx) : Option α := (L.find? (fun x => x.1 == p)).map (·.2)
def lo (L : List (Tx × α)) (p : Tx) : List (Tx × α) := L.filter (fun x => decide (x.1 < p))
def hi (L : List (Tx × α)) (p : Tx) : List (Tx × α) := L.filter (fun x => decide (p < x.1))
def put (L : List (Tx × α)) (m : Tx × α) : List (Tx × α) := lo L m.1 ++ m :: hi L m.1
theorem Srt.nil : Srt ([] : List (Tx × α)) := List.Pairwise.nil
theorem Srt.filter {L : List (Tx × α)} (h : Srt L) (f : Tx × α → Bool) : Srt (L.filter f) := List.Pairwise.filter f h
theorem Srt.put {L : List (Tx × α)} (h : Srt L) (m : Tx × α) : Srt (put L m) := by
  unfold SM.put Srt
  rw [List.pairwise_append]
  refine ⟨h.filter _, List.pairwise_cons.2 ⟨fun x hx => ?_, h.filter _⟩, fun a ha b hb => ?_⟩
  · simpa using (List.mem_filter.1 hx).2
  · have h1 : a.1 < m.1 := by simpa using (List.mem_filter.1 ha).2
    rcases List.mem_cons.1 hb with rfl | hb
    · exact h1
    · exact tx_trans h1 (by simpa using (List.mem_filter.1 hb).2)
/-- a sorted list has a key once -/
theorem Srt.one {L : List (Tx × α)} (h : Srt L) {p : Tx} {u v : α} (hu : (p, u) ∈ L) (hv : (p, v) ∈ L) : u = v := by
  induction L with
  | nil => cases hu
  | cons x r ih =>
    obtain ⟨h1, h2⟩ := List.pairwise_cons.1 h
    rcases List.mem_cons.1 hu with e | hu
    · rcases List.mem_cons.1 hv with e' | hv
      · rw [← e] at e'; injection e' with _ e'; exact e'.symm
      · have := h1 _ hv; rw [← e] at this; exact (tx_irrefl _ this).elim
    · rcases List.mem_cons.1 hv with e' | hv
      · have := h1 _ hu; rw [← e'] at this; exact (tx_irrefl _ this).elim
      · exact ih h2 hu hv
theorem look_mem {L : List (Tx × α)} {p : Tx} {v : α} (h : look L p = some v) : (p, v) ∈ L := by
  unfold look at h
  cases hf : L.find? (fun x => x.1 == p) with
  | none => rw [hf] at h; cases h
  | some x =>
    rw [hf] at h
    have e : x.1 = p := by simpa using List.find?_some hf
    have hm := List.mem_of_find?_eq_some hf
    obtain ⟨k, u⟩ := x
    injection h with h
    simp only at e h
    subst e h
    exact hm
theorem Srt.look {L : List (Tx × α)} (h : Srt L) {p : Tx} {v : α} : SM.look L p = some v ↔ (p, v) ∈ L := by
  refine ⟨look_mem, fun hm => ?_⟩
  cases hl : SM.look L p with
  | none =>
    unfold SM.look at hl
    rw [Option.map_eq_none_iff, List.find?_eq_none] at hl
    exact absurd (by simp) (hl _ hm)
  | some u => rw [h.one (look_mem hl) hm]
theorem look_none {L : List (Tx × α)} {p : Tx} : look L p = none ↔ ∀ x ∈ L, x.1 ≠ p := by
  unfold look
  rw [Option.map_eq_none_iff, List.find?_eq_none]
  simp
/-- two sorted lists that tell the same are the same -/
theorem Srt.ext {L K : List (Tx × α)} (h : Srt L) (k : Srt K) (he : ∀ p, SM.look L p = SM.look K p) : L = K := by
  have hm : ∀ x, x ∈ L ↔ x ∈ K := fun ⟨p, v⟩ => by rw [← h.look, ← k.look, he]
  have hp : L.Perm K := by
    refine (List.perm_ext_iff_of_nodup ?_ ?_).2 hm
    · exact List.Pairwise.imp (R := fun a b : Tx × α => a.1 < b.1) (fun {a b} hab (e : a = b) => tx_irrefl a.1 (by rw [← e] at hab; exact hab)) h
    · exact List.Pairwise.imp (R := fun a b : Tx × α => a.1 < b.1) (fun {a b} hab (e : a = b) => tx_irrefl a.1 (by rw [← e] at hab; exact hab)) k
  exact List.Perm.eq_of_pairwise (le := fun (a b : Tx × α) => a.1 < b.1) (fun a b _ _ h1 h2 => (tx_asymm h1 h2).elim) h k hp
theorem mem_put {L : List (Tx × α)} {m x : Tx × α} : x ∈ put L m ↔ x = m ∨ (x ∈ L ∧ x.1 ≠ m.1) := by
  unfold put lo hi
  simp only [List.mem_append, List.mem_cons, List.mem_filter, decide_eq_true_eq]
  constructor
  · rintro (⟨h, k⟩ | h | ⟨h, k⟩)
    · exact .inr ⟨h, fun e => tx_irrefl _ (e ▸ k)⟩
    · exact .inl h
    · exact .inr ⟨h, fun e => tx_irrefl _ (e ▸ k)⟩
  · rintro (h | ⟨h, k⟩)
    · exact .inr (.inl h)
    · rcases tx_tri x.1 m.1 with e | e | e
      · exact .inl ⟨h, e⟩
      · exact (k e).elim
      · exact .inr (.inr ⟨h, e⟩)
theorem Srt.look_put {L : List (Tx × α)} (h : Srt L) (m : Tx × α) (p : Tx) : SM.look (SM.put L m) p = if p = m.1 then some m.2 else SM.look L p := by
  by_cases e : p = m.1
  · subst e
    rw [if_pos rfl, (h.put m).look, mem_put]
    exact .inl rfl
  · rw [if_neg e]
    cases hl : SM.look L p with
    | none =>
      rw [look_none] at hl ⊢
      intro x hx
      rcases mem_put.1 hx with rfl | ⟨hx, _⟩
      · exact fun e' => e e'.symm
      · exact hl x hx
    | some v =>
      rw [(h.put m).look, mem_put]
      exact .inr ⟨h.look.1 hl, e⟩
theorem Srt.look_filter {L : List (Tx × α)} (h : Srt L) (f : Tx → Bool) (p : Tx) : SM.look (L.filter (fun x => f x.1)) p = if f p = true then SM.look L p else none := by
  split
  · rename_i hf
    cases hl : SM.look L p with
    | none =>
      rw [look_none] at hl ⊢
      exact fun x hx => hl x (List.mem_filter.1 hx).1
    | some v =>
      rw [(h.filter _).look, List.mem_filter]
      exact ⟨h.look.1 hl, hf⟩
  · rename_i hf
    rw [look_none]
    intro x hx e
    have := (List.mem_filter.1 hx).2
    rw [e] at this
    exact hf this
/-- in a sorted list the lesser keys stand ahead -/
theorem Srt.split {L : List (Tx × α)} (h : Srt L) (p : Tx) : L = lo L p ++ (L.filter (fun x => x.1 == p) ++ hi L p) := by
  induction L with
  | nil => rfl
  | cons x r ih =>
    obtain ⟨h1, h2⟩ := List.pairwise_cons.1 h
    have ih := ih h2
    rcases tx_tri x.1 p with e | e | e
    · unfold lo hi at *
      rw [List.filter_cons_of_pos (by simpa using e), List.filter_cons_of_neg (by simpa using fun e' : x.1 = p => tx_irrefl _ (e' ▸ e)), List.filter_cons_of_neg (by simpa using tx_asymm e), List.cons_append, ← ih]
    · have hl : lo (x :: r) p = [] := by
        unfold lo
        rw [List.filter_eq_nil_iff]
        intro y hy
        rcases List.mem_cons.1 hy with rfl | hy
        · rw [e]; simp [tx_irrefl p]
        · have := h1 y hy; rw [e] at this; simpa using tx_asymm this
      have hr : ∀ y ∈ r, p < y.1 := fun y hy => e ▸ h1 y hy
      have hf : r.filter (fun x => x.1 == p) = [] := by
        rw [List.filter_eq_nil_iff]
        intro y hy
        simpa using fun e' : y.1 = p => tx_irrefl _ (e' ▸ hr y hy)
      have hh : hi r p = r := by
        unfold hi
        rw [List.filter_eq_self]
        intro y hy
        simpa using hr y hy
      rw [hl, List.nil_append, List.filter_cons_of_pos (by simpa using e), hf]
      unfold hi at hh ⊢
      rw [List.filter_cons_of_neg (by rw [e]; simp [tx_irrefl p]), hh]
      rfl
    · have hr : ∀ y ∈ r, p < y.1 := fun y hy => tx_trans e (h1 y hy)
      have hl : lo (x :: r) p = [] := by
        unfold lo
        rw [List.filter_eq_nil_iff]
        intro y hy
        rcases List.mem_cons.1 hy with rfl | hy
        · simpa using tx_asymm e
        · simpa using tx_asymm (hr y hy)
      have hf : (x :: r).filter (fun x => x.1 == p) = [] := by
        rw [List.filter_eq_nil_iff]
        intro y hy
        rcases List.mem_cons.1 hy with rfl | hy
        · simpa using fun e' : y.1 = p => tx_irrefl _ (e' ▸ e)
        · simpa using fun e' : y.1 = p => tx_irrefl _ (e' ▸ hr y hy)
      have hh : hi (x :: r) p = x :: r := by
        unfold hi
        rw [List.filter_eq_self]
        intro y hy
        rcases List.mem_cons.1 hy with rfl | hy
        · simpa using e
        · simpa using hr y hy
      rw [hl, hf, hh]; rfl
theorem Srt.mid {L : List (Tx × α)} (h : Srt L) (p : Tx) : L.filter (fun x => x.1 == p) = (match SM.look L p with | some v => [(p, v)] | none => []) := by
  cases hl : SM.look L p with
  | none =>
    rw [look_none] at hl
    rw [List.filter_eq_nil_iff]
    intro y hy
    simpa using hl y hy
  | some v =>
    have hs : Srt (L.filter (fun x => x.1 == p)) := h.filter _
    refine hs.ext (List.pairwise_singleton _ _) (fun q => ?_)
    rw [h.look_filter (fun k => k == p)]
    by_cases e : q = p
    · subst e; rw [if_pos (by simp), hl]; unfold SM.look; simp
    · rw [if_neg (by simpa using e), eq_comm, look_none]
      intro x hx
      obtain rfl : x = (p, v) := by simpa using hx
      exact fun e' => e e'.symm
theorem Srt.length_put {L : List (Tx × α)} (h : Srt L) (m : Tx × α) : (SM.put L m).length = if (SM.look L m.1).isSome then L.length else L.length + 1 := by
  have key := congrArg List.length (h.split m.1)
  rw [List.length_append, List.length_append, h.mid] at key
  unfold SM.put
  rw [List.length_append, List.length_cons]
  cases hl : SM.look L m.1 with
  | none => rw [hl] at key; simp only [List.length_nil] at key; simp; omega
  | some v => rw [hl] at key; simp only [List.length_cons, List.length_nil] at key; simp; omega
/-- how many keys are less: the place -/
theorem Srt.takeWhile {L : List (Tx × α)} (h : Srt L) (p : Tx) : L.takeWhile (fun x => decide (x.1 < p)) = lo L p := by
  induction L with
  | nil => rfl
  | cons x r ih =>
    obtain ⟨h1, h2⟩ := List.pairwise_cons.1 h
    unfold lo at *
    by_cases e : x.1 < p
    · rw [List.takeWhile_cons_of_pos (by simpa using e), List.filter_cons_of_pos (by simpa using e), ih h2]
    · rw [List.takeWhile_cons_of_neg (by simpa using e), List.filter_cons_of_neg (by simpa using e)]
      symm
      rw [List.filter_eq_nil_iff]
      intro y hy
      simp only [decide_eq_true_eq]
      exact fun hyp => e (tx_trans (h1 y hy) hyp)
end
end SM
end Go.Proofs.YtplafpokgpolkaaGreatDoor
/- PLAIN FACTS ON BLOCKS OF CELLS: a row of cells under one name, and how a store, a new block, a draw and a call leave it. -/
namespace Go.Proofs.YtplafpokgpolkaaGreatDoor
open Go.RowKit

/-- block b is a row of cells, c, of element type e, none of them frozen -/
def Row (w : World) (b : Nat) (e : TypeId) (c : Array Value) : Prop := w.heap[b]? = some (.cells c e (0, 0))

theorem Row.cell {w : World} {b : Nat} {e : TypeId} {c : Array Value} (h : Row w b e c) {i : Nat} {v : Value} (hv : c[i]? = some v) : w.cell? ⟨b, i, none⟩ = some v := by
  rw [cell_of_row w b i c e (0, 0) h]; exact hv
theorem Row.frozen {w : World} {b : Nat} {e : TypeId} {c : Array Value} (h : Row w b e c) (i : Nat) : w.frozen? ⟨b, i, none⟩ = false := frozen_of_row w b i c e h
theorem Row.lt {w : World} {b : Nat} {e : TypeId} {c : Array Value} (h : Row w b e c) : b < w.heap.size := (Array.getElem?_eq_some_iff.1 h).1
theorem Row.set {w : World} {b : Nat} {e : TypeId} {c : Array Value} (h : Row w b e c) (i : Nat) (v : Value) : Row (w.setCell ⟨b, i, none⟩ v) b e (c.setIfInBounds i v) := heap_setCell_same w b i c e v h
theorem Row.other {w : World} {b : Nat} {e : TypeId} {c : Array Value} (h : Row w b e c) {a : Addr} (ha : b ≠ a.block) (v : Value) : Row (w.setCell a v) b e c := by
  unfold Row; rw [heap_setCell_other w a b v ha]; exact h
theorem Row.new (w : World) (e : TypeId) (c : Array Value) : Row (w.alloc (.cells c e)) w.heap.size e c := heap_alloc_new w _
theorem Row.new' {w : World} {e : TypeId} {c c' : Array Value} {n : Nat} (hn : n = w.heap.size) (hc : c = c') : Row (w.alloc (.cells c' e)) n e c := by
  subst hn; subst hc; exact heap_alloc_new w _
theorem Row.old {w : World} {b : Nat} {e : TypeId} {c : Array Value} (h : Row w b e c) (o : Obj) : Row (w.alloc o) b e c := by
  exact (Below.heap_alloc w o b h.lt).trans h
theorem Row.drew {w : World} {b : Nat} {e : TypeId} {c : Array Value} (h : Row w b e c) : Row w.drew b e c := h
theorem Row.drewN {w : World} {b : Nat} {e : TypeId} {c : Array Value} (h : Row w b e c) (n : Nat) : Row (w.drewN n) b e c := h
theorem Row.below {w w' : World} {b B : Nat} {e : TypeId} {c : Array Value} (h : Row w b e c) (hb : Below B w w') (hlt : b < B) : Row w' b e c := by
  unfold Row; rw [hb.block b hlt]; exact h
theorem Row.grown {w w' : World} {b : Nat} {e : TypeId} {c : Array Value} {r : Option Nat} (h : Row w b e c) (hg : w.grownBy w' r) (hne : some b ≠ r) : Row w' b e c := by
  unfold Row; rw [hg.block b h.lt hne]; exact h

theorem Row.set' {w : World} {b : Nat} {e : TypeId} {c c' : Array Value} (h : Row w b e c) (i : Nat) (v : Value) (hc : c.setIfInBounds i v = c') : Row (w.setCell ⟨b, i, none⟩ v) b e c' := by
  subst hc; exact h.set i v
theorem Row.setRow {w : World} {b : Nat} {e : TypeId} {c : Array Value} (h : Row w b e c) (c' : Array Value) : Row (w.setRow b c') b e c' := Go.setRow_heap w b c c' e _ h
theorem Row.setRow_apart {w : World} {b : Nat} {e : TypeId} {c : Array Value} (h : Row w b e c) {b' : Nat} (hb : b ≠ b') (c' : Array Value) : Row (w.setRow b' c') b e c := by
  unfold Row; rw [Go.setRow_other w b' b c' hb]; exact h
/-- the whole variable, read -/
theorem Row.loadAt {P : Program} {w : World} {b : Nat} {e : TypeId} {c : Array Value} (h : Row w b e c) (ty : TypeId) (d : TypeDesc) (hu : P.underlying ty = some d) (hd : d.isRow = true) (hi : (P.info? ty).map (·.size) = some c.size) :
    (Instr.loadAt ty (.pointer (some ⟨b, 0, none⟩))).run P w = .ok (.agg c) w := by
  simp only [Instr.loadAt, Instr.sureAddr, Sem.run_bind, Sem.run_pure, Result.andThen]
  exact run_loadVar_row w b e ty c (0, 0) d h hu (by cases d <;> simp_all [TypeDesc.isRow]) hi
/-- the whole variable, written -/
theorem Row.storeAt {P : Program} {w : World} {b : Nat} {e : TypeId} {c : Array Value} (h : Row w b e c) (ty : TypeId) (c' : Array Value) (hi : (P.info? ty).map (·.size) = some c'.size) (ho : c.size = c'.size) (h1 : c'.all (·.oneCell') = true) :
    (Instr.storeAt ty (.pointer (some ⟨b, 0, none⟩)) (.agg c')).run P w = .ok () (w.setRow b c') := by
  simp only [Instr.storeAt, Instr.sureAddr, Sem.run_bind, Sem.run_pure, Result.andThen]
  exact run_storeVar_row _ _ e ty c c' h hi ho h1
/-- ty is a struct or an array, of n cells -/
structure AggTy (P : Program) (ty : TypeId) (n : Nat) : Prop where
  u : ∃ d, P.underlying ty = some d ∧ d.isRow = true
  i : (P.info? ty).map (·.size) = some n
/-- the world under a new name, with what is known of it -/
theorem wpList_world {P : Program} {ops : Array Oper} {rest : List Oper} {a : Act} {W : World} {Q : Exit → Act → World → Prop} {R : World → Prop} (h : R W) (k : ∀ w2, Keep (R w2) → wpList P ops Q rest a w2) : wpList P ops Q rest a W := k W ⟨h⟩
theorem wp_world {P : Program} {c : Code} {a : Act} {W : World} {Q : Exit → Act → World → Prop} {R : World → Prop} (h : R W) (k : ∀ w2, Keep (R w2) → c.wp P Q a w2) : c.wp P Q a W := k W ⟨h⟩
/-- ARM: a whole variable is read -/
theorem arm_loadRow {P : Program} {ops : Array Oper} {rest : List Oper} {a : Act} {w : World} {Q : Exit → Act → World → Prop} {b n : Nat} {e ty tp : TypeId} {c : Array Value} {dst : Option Tmp} {x : Operand} {pos : String} {after : Array Edge}
    (hrow : Row w b e c) (hA : AggTy P ty n) (hs : c.size = n)
    (hx : a.eval x = .pointer (some ⟨b, 0, none⟩)) (h : wpList P ops Q rest (a.put dst (.agg c)) w) : wpList P ops Q (⟨dst, .load ty x, tp, pos, after, none⟩ :: rest) a w := by
  obtain ⟨d, hu, hd⟩ := hA.u
  exact wpList_load_row rfl ty x rfl b hx e c (0, 0) d hrow hu (by cases d <;> simp_all [TypeDesc.isRow]) (by rw [hs]; exact hA.i) h
/-- ARM: a whole variable is written -/
theorem arm_storeRow {P : Program} {ops : Array Oper} {rest : List Oper} {a : Act} {w : World} {Q : Exit → Act → World → Prop} {b n : Nat} {e ty tp : TypeId} {c c' : Array Value} {dst : Option Tmp} {x y : Operand} {pos : String} {after : Array Edge}
    (hrow : Row w b e c) (hA : AggTy P ty n) (hs : c.size = n) (hs' : c'.size = n) (h1 : c'.all (·.oneCell') = true)
    (hx : a.eval x = .pointer (some ⟨b, 0, none⟩)) (hy : a.eval y = .agg c') (h : wpList P ops Q rest (a.put dst undef) (w.setRow b c')) : wpList P ops Q (⟨dst, .store ty x y, tp, pos, after, none⟩ :: rest) a w :=
  wpList_plain rfl fun _ hK => by
    have hst := hrow.storeAt (P := P) ty c' (by rw [hs']; exact hA.i) (by rw [hs, hs']) h1
    unfold Oper.wp execOp
    simp only [hx, hy, Sem.run_bind, Sem.run_pure, Result.andThen_ok, hst]
    exact hK _ _ h
/-- ARM: copy within a row that is known -/
theorem arm_copyRow {P : Program} {ops : Array Oper} {rest : List Oper} {a : Act} {w : World} {Q : Exit → Act → World → Prop} {b off soff dLen dCap sLen sCap : Nat} {e elem dT sT tp : TypeId} {c : Array Value} {dst : Option Tmp} {d s : Operand} {pos : String} {after : Array Edge}
    (hrow : Row w b e c) (cs : List Value) (c' : Array Value) (hu : P.underlying dT = some (.slice elem)) (hsz : (P.info? elem).map (·.size) = some 1)
    (hd : a.eval d = .slice (some ⟨b, off, none⟩) dLen dCap) (hsv : a.eval s = .slice (some ⟨b, soff, none⟩) sLen sCap) (hn : cs.length = Nat.min sLen dLen)
    (hsrc : ∀ j v, cs[j]? = some v → c[soff + j]? = some v) (hfit : off + cs.length ≤ c.size) (h1 : ∀ v ∈ cs, v.oneCell' = true) (hc : c' = (c.toList.take off ++ (cs ++ c.toList.drop (off + cs.length))).toArray)
    (h : wpList P ops Q rest (a.put dst (goInt cs.length)) (w.setRow b c')) : wpList P ops Q (⟨dst, .call ⟨.builtin .copy, #[d, s], #[dT, sT]⟩, tp, pos, after, none⟩ :: rest) a w := by
  subst hc
  refine wpList_copy_own rfl d s dT sT rfl elem hu hsz b off dLen dCap ⟨b, soff, none⟩ sLen sCap hd hsv c e hrow cs hn (fun j v hv => ?_) hfit h1 h
  rw [Addr.add_mid]; exact hrow.cell (hsrc j v hv)
/-- the result lies in a variable -/
theorem results_row {P : Program} {fn : Func} {p : Tmp} {ty : TypeId} {n : Nat} {w : World} {b : Nat} {e : TypeId} {c : Array Value} {tmps : Array Value} (h : fn.results = #[.cell p ty]) (hrow : Row w b e c) (hA : AggTy P ty n) (hs : c.size = n)
    (hp : tmps.getD p undef = .pointer (some ⟨b, 0, none⟩)) : (results fn tmps).run P w = .ok (.agg c) w := by
  obtain ⟨d, hu, hd⟩ := hA.u
  exact results_cell_row h tmps w b e c (0, 0) d hp hrow hu (by cases d <;> simp_all [TypeDesc.isRow]) (by rw [hs]; exact hA.i)
theorem below_drewN' {B : Nat} {a w : World} (h : Below B a w) (n : Nat) : Below B a (w.drewN n) := ⟨h.os, h.tape, h.output, h.size, h.block⟩
theorem bcell {W w1 : World} (hb : Below W.heap.size W w1) : (∀ b o, b < W.heap.size → w1.cell? ⟨b, o, none⟩ = W.cell? ⟨b, o, none⟩) ∧ (∀ b o, b < W.heap.size → w1.frozen? ⟨b, o, none⟩ = W.frozen? ⟨b, o, none⟩) :=
  ⟨fun b o h => hb.cell (p := ⟨b, o, none⟩) h, fun b o h => hb.frozen (p := ⟨b, o, none⟩) h⟩


/-- below block number B nothing but the blocks of M has changed -/
structure Chg (M : Nat → Prop) (B : Nat) (w w' : World) : Prop where
  os : w'.os = w.os
  tape : w'.tape = w.tape
  output : w'.output = w.output
  size : w.heap.size ≤ w'.heap.size
  block : ∀ k, k < B → ¬ M k → w'.heap[k]? = w.heap[k]?
theorem Chg.refl (M : Nat → Prop) (B : Nat) (w : World) : Chg M B w w := ⟨rfl, rfl, rfl, Nat.le_refl _, fun _ _ _ => rfl⟩
theorem Chg.trans {M : Nat → Prop} {B : Nat} {a b c : World} (h : Chg M B a b) (k : Chg M B b c) : Chg M B a c :=
  ⟨k.os.trans h.os, k.tape.trans h.tape, k.output.trans h.output, Nat.le_trans h.size k.size, fun i hi hm => (k.block i hi hm).trans (h.block i hi hm)⟩
theorem Chg.mono {M M' : Nat → Prop} {B B' : Nat} {w w' : World} (h : Chg M B w w') (hB : B' ≤ B) (hM : ∀ k, M k → M' k) : Chg M' B' w w' := ⟨h.os, h.tape, h.output, h.size, fun k hk hm => h.block k (by omega) (fun hx => hm (hM k hx))⟩
theorem Chg.lower {M : Nat → Prop} {B B' : Nat} {w w' : World} (h : Chg M B w w') (hB : B' ≤ B) : Chg M B' w w' := h.mono hB (fun _ hx => hx)
theorem Chg.of_below {M : Nat → Prop} {B : Nat} {w w' : World} (h : Below B w w') : Chg M B w w' := ⟨h.os, h.tape, h.output, h.size, fun k hk _ => h.block k hk⟩
theorem Chg.below {M : Nat → Prop} {B : Nat} {w w' : World} (h : Chg M B w w') (hM : ∀ k, k < B → ¬ M k) : Below B w w' := ⟨h.os, h.tape, h.output, h.size, fun k hk => h.block k hk (hM k hk)⟩
theorem Chg.drewN {M : Nat → Prop} {B : Nat} {a w : World} (h : Chg M B a w) (n : Nat) : Chg M B a (w.drewN n) := ⟨h.os, h.tape, h.output, h.size, h.block⟩
theorem Chg.drew {M : Nat → Prop} {B : Nat} {a w : World} (h : Chg M B a w) : Chg M B a w.drew := ⟨h.os, h.tape, h.output, h.size, h.block⟩
theorem Chg.alloc {M : Nat → Prop} {B : Nat} {a w : World} (h : Chg M B a w) (hB : B ≤ w.heap.size) (o : Obj) : Chg M B a (w.alloc o) :=
  h.trans (.of_below ((Below.refl _ _).alloc hB o))
theorem Chg.setCell {M : Nat → Prop} {B : Nat} {a w : World} (h : Chg M B a w) {p : Addr} (hp : B ≤ p.block ∨ M p.block) (u : Value) : Chg M B a (w.setCell p u) :=
  h.trans ⟨rfl, rfl, rfl, by simp [World.setCell], fun k hk hm => Below.heap_setCell _ _ _ _ (fun e => by subst e; exact hp.elim (fun hp => by omega) hm)⟩
theorem Chg.setRow {M : Nat → Prop} {B : Nat} {a w : World} (h : Chg M B a w) {g : Nat} (hp : B ≤ g ∨ M g) (c : Array Value) : Chg M B a (w.setRow g c) :=
  h.trans ⟨rfl, rfl, rfl, by simp [World.setRow], fun k hk hm => Go.setRow_other w g k c (fun e => by subst e; exact hp.elim (fun hp => by omega) hm)⟩
theorem Chg.grown {M : Nat → Prop} {B : Nat} {a w w' : World} {row : Option Nat} (h : Chg M B a w) (hg : w.grownBy w' row) (hB : B ≤ w.heap.size) (hr : ∀ k, row = some k → B ≤ k ∨ M k) : Chg M B a w' :=
  h.trans ⟨hg.os, hg.tape, hg.output, hg.size, fun k hk hm => hg.block k (by omega) (fun e => by exact (hr k e.symm).elim (fun hp => by omega) hm)⟩
theorem Row.chg {M : Nat → Prop} {w w' : World} {b B : Nat} {e : TypeId} {c : Array Value} (h : Row w b e c) (hb : Chg M B w w') (hlt : b < B) (hm : ¬ M b) : Row w' b e c := by
  unfold Row; rw [hb.block b hlt hm]; exact h
theorem Chg.cell {M : Nat → Prop} {B : Nat} {w w' : World} (h : Chg M B w w') {p : Addr} (hp : p.block < B) (hm : ¬ M p.block) : w'.cell? p = w.cell? p := World.cell?_of_block (w := w) (h.block p.block hp hm)
/-- the bytes l can be read from v, a []byte; its block is one of N (what has no room at all may have any address) -/
structure Reads (w : World) (N : Nat → Prop) (v : Value) (l : List UInt8) : Prop where
  shape : ∃ a cap, v = .slice a l.length cap ∧ l.length ≤ cap ∧ cap ≤ maxLen ∧ (cap = 0 ∨ ∃ b off, a = some ⟨b, off, none⟩ ∧ N b)
  cell : ∀ b off n cap, v = .slice (some ⟨b, off, none⟩) n cap → ∀ j (h : j < l.length), w.cell? ⟨b, off + j, none⟩ = some (.int .u8 (l[j].toNat : Int))
theorem Reads.len {w : World} {N : Nat → Prop} {l : List UInt8} {a : Option Addr} {n cap : Nat} (h : Reads w N (.slice a n cap) l) : n = l.length ∧ l.length ≤ cap ∧ cap ≤ maxLen := by
  obtain ⟨⟨a, cap', e, h1, h2, h3⟩, _⟩ := h
  injection e with e1 e2 e3
  subst e1 e3
  exact ⟨e2, h1, h2⟩
theorem Reads.blk {w : World} {N : Nat → Prop} {l : List UInt8} {b off n cap : Nat} (h : Reads w N (.slice (some ⟨b, off, none⟩) n cap) l) (hc : 0 < cap) : N b ∧ n = l.length ∧ l.length ≤ cap ∧ cap ≤ maxLen := by
  obtain ⟨⟨a, cap', e, h1, h2, h3⟩, _⟩ := h
  injection e with e1 e2 e3
  subst e1 e3
  rcases h3 with h3 | ⟨b', off', e, hN⟩
  · omega
  · injection e with e; injection e with f1 _ _; subst f1; exact ⟨hN, e2, h1, h2⟩
theorem Reads.chg {M N : Nat → Prop} {w w' : World} {B : Nat} {v : Value} {l : List UInt8} (h : Reads w N v l) (hb : Chg M B w w') (hN : ∀ b, N b → b < B ∧ ¬ M b) : Reads w' N v l := by
  refine ⟨h.shape, fun b off n cap e j hj => ?_⟩
  subst e
  have := hN b (h.blk (by have := h.len.2.1; omega)).1
  rw [hb.cell (p := ⟨b, off + j, none⟩) this.1 this.2]
  exact h.cell b off n cap rfl j hj
theorem Reads.mono {N N' : Nat → Prop} {w : World} {v : Value} {l : List UInt8} (h : Reads w N v l) (hN : ∀ b, N b → N' b) : Reads w N' v l := by
  obtain ⟨⟨a, cap, e, h1, h2, h3⟩, hc⟩ := h
  exact ⟨⟨a, cap, e, h1, h2, h3.imp id (fun ⟨b, off, e, hb⟩ => ⟨b, off, e, hN b hb⟩)⟩, hc⟩
theorem Reads.below {N : Nat → Prop} {w w' : World} {B : Nat} {v : Value} {l : List UInt8} (h : Reads w N v l) (hb : Below B w w') (hN : ∀ b, N b → b < B) : Reads w' N v l :=
  h.chg (M := fun _ => False) (.of_below hb) (fun b hb' => ⟨hN b hb', fun h => h⟩)
theorem Reads.drewN {N : Nat → Prop} {w : World} {v : Value} {l : List UInt8} (h : Reads w N v l) (n : Nat) : Reads (w.drewN n) N v l := ⟨h.shape, h.cell⟩
/-- a slice's length, for a measure -/
def lenV : Value → Nat
  | .slice _ n _ => n
  | _ => 0
/-- what is not empty has an address -/
theorem Reads.has {N : Nat → Prop} {w : World} {v : Value} {l : List UInt8} (h : Reads w N v l) (hl : 0 < l.length) : ∃ b off cap, v = .slice (some ⟨b, off, none⟩) l.length cap ∧ l.length ≤ cap ∧ cap ≤ maxLen ∧ N b := by
  obtain ⟨⟨a, cap, e, h1, h2, h3⟩, _⟩ := h
  rcases h3 with h3 | ⟨b, off, rfl, hN⟩
  · omega
  · exact ⟨b, off, cap, e, h1, h2, hN⟩
/-- a part of it -/
theorem Reads.sub {N : Nat → Prop} {w : World} {l : List UInt8} {b off n cap : Nat} (h : Reads w N (.slice (some ⟨b, off, none⟩) n cap) l) (i m cap' : Nat) (l' : List UInt8) (hl : l' = (l.drop i).take m) (hm : l'.length ≤ cap') (hc : cap' ≤ cap) (k : Nat) (hk : k = l'.length) :
    Reads w N (.slice (some ⟨b, off + i, none⟩) k cap') l' := by
  obtain ⟨hn, h1, h2⟩ := h.len
  subst hk
  refine ⟨⟨_, _, rfl, hm, by omega, (Nat.eq_zero_or_pos cap').imp id (fun hp => ⟨_, _, rfl, (h.blk (by omega)).1⟩)⟩, fun b' off' n' c' e j hj => ?_⟩
  injection e with e1 e2 e3; injection e1 with e1; injection e1 with e1 e4 _; subst e1 e4
  have hj2 : i + j < l.length := by subst hl; simp at hj; omega
  have := h.cell b off n cap rfl (i + j) hj2
  rw [Nat.add_assoc, this]
  subst hl
  simp
/-- an empty part of it -/
theorem Reads.ofEmpty {N : Nat → Prop} {w : World} {b off cap : Nat} (hN : N b) (hc : cap ≤ maxLen) : Reads w N (.slice (some ⟨b, off, none⟩) 0 cap) [] :=
  ⟨⟨_, _, rfl, Nat.zero_le _, hc, .inr ⟨_, _, rfl, hN⟩⟩, fun _ _ _ _ _ j hj => by cases hj⟩
theorem Reads.ofNil {N : Nat → Prop} {w : World} : Reads w N (.slice none 0 0) [] :=
  ⟨⟨_, _, rfl, Nat.zero_le _, Nat.zero_le _, .inl rfl⟩, fun _ _ _ _ e j hj => by cases hj⟩
/-- no room: whatever the address -/
theorem Reads.ofNone {N : Nat → Prop} {w : World} {a : Option Addr} : Reads w N (.slice a 0 0) [] :=
  ⟨⟨_, _, rfl, Nat.zero_le _, Nat.zero_le _, .inl rfl⟩, fun _ _ _ _ e j hj => by cases hj⟩
end Go.Proofs.YtplafpokgpolkaaGreatDoor
/- APPEND ONTO A SLICE OF THE CALL's OWN, of whatever bytes; as arms of the walk. -/
namespace Go.Proofs.YtplafpokgpolkaaGreatDoor
open Go.RowKit
/-- t is a slice type, its elements, of type e, take one cell each -/
structure SlTy (P : Program) (t e : TypeId) (z : Value) (bytes : Nat) : Prop where
  u : P.underlying t = some (.slice e)
  i : ∃ i, P.info? e = some i ∧ i.zero = some z ∧ i.size = 1 ∧ i.bytes = bytes
  z : z.cells.size = 1
theorem SlTy.mk' {P : Program} {t e : TypeId} {z : Value} {bytes : Nat} (hu : P.underlying t = some (.slice e)) (hi : (P.info? e).map (fun i => (i.zero, i.size, i.bytes)) = some (some z, 1, bytes)) (hz : z.cells.size = 1) : SlTy P t e z bytes := by
  refine ⟨hu, ?_, hz⟩
  cases h : P.info? e with
  | none => simp [h] at hi
  | some i => simp [h] at hi; exact ⟨i, rfl, hi⟩
/-- bytes, as cells -/
def bcells (l : List UInt8) : List Value := l.map fun c => Value.int .u8 (c.toNat : Int)
theorem bcells_length (l : List UInt8) : (bcells l).length = l.length := by simp [bcells]
theorem bcells_append (l m : List UInt8) : bcells (l ++ m) = bcells l ++ bcells m := by simp [bcells]
theorem bcells_get (l : List UInt8) (j : Nat) (h : j < l.length) : (bcells l)[j]? = some (.int .u8 (l[j].toNat : Int)) := by simp [bcells, h]
theorem bcells_one (l : List UInt8) : ∀ u ∈ bcells l, u.oneCell' = true := by
  intro u hu
  obtain ⟨c, _, rfl⟩ := List.mem_map.1 hu
  rfl
/-- the slice v is the call's own, from block base on, and holds l -/
def Owns (w : World) (base : Nat) (e : TypeId) (v : Value) (l : List UInt8) : Prop := w.ownsRow base e 1 v l.length (bcells l)
theorem Owns.nil (w : World) (base : Nat) (e : TypeId) : Owns w base e (.slice none 0 0) [] := World.ownsRow_nil w base e 1
theorem Owns.reads {w : World} {base : Nat} {e : TypeId} {v : Value} {l : List UInt8} (h : Owns w base e v l) : Reads w (fun b => base ≤ b ∧ b < w.heap.size ∧ v.ownBlock = some b) v l := by
  obtain ⟨_, h⟩ := h
  rcases h with ⟨rfl, h0⟩ | ⟨g, cap, cur, rfl, hb, hh, hn, hm, hs, ht⟩
  · obtain rfl : l = [] := List.eq_nil_of_length_eq_zero h0
    exact Reads.ofNil
  · refine ⟨⟨_, cap, rfl, hn, hm, .inr ⟨g, 0, rfl, hb, (Array.getElem?_eq_some_iff.1 hh).1, rfl⟩⟩, fun b off n c he j hj => ?_⟩
    injection he with e1 _ _; injection e1 with e1; injection e1 with e1 e2 _; subst e1 e2
    rw [cell_of_row w g (0 + j) cur e (0, 0) hh, Nat.zero_add]
    have := bcells_get l j hj
    rw [← ht, List.getElem?_take] at this
    split at this
    · simpa using this
    · cases this
theorem Owns.lt {w : World} {base : Nat} {e : TypeId} {v : Value} {l : List UInt8} (h : Owns w base e v l) : ∀ k, v.ownBlock = some k → base ≤ k ∧ k < w.heap.size := World.ownsRow.lt h
theorem Owns.mono {w : World} {base base' : Nat} {e : TypeId} {v : Value} {l : List UInt8} (h : Owns w base e v l) (hb : base' ≤ base) : Owns w base' e v l := by
  obtain ⟨h0, h⟩ := h
  refine ⟨h0, h.imp id ?_⟩
  rintro ⟨g, cap, cur, rfl, hbb, rest⟩
  exact ⟨g, cap, cur, rfl, by omega, rest⟩
theorem Owns.rebase {w : World} {base base' : Nat} {e : TypeId} {v : Value} {l : List UInt8} (h : Owns w base e v l) (hb : ∀ k, v.ownBlock = some k → base' ≤ k) : Owns w base' e v l := by
  obtain ⟨h0, h⟩ := h
  refine ⟨h0, h.imp id ?_⟩
  rintro ⟨g, cap, cur, rfl, hbb, rest⟩
  exact ⟨g, cap, cur, rfl, hb g rfl, rest⟩
theorem Owns.chg {M : Nat → Prop} {w w' : World} {base B : Nat} {e : TypeId} {v : Value} {l : List UInt8} (h : Owns w base e v l) (hc : Chg M B w w') (hM : ∀ k, v.ownBlock = some k → k < B ∧ ¬ M k) : Owns w' base e v l := by
  obtain ⟨h0, h⟩ := h
  refine ⟨h0, h.imp id ?_⟩
  rintro ⟨g, cap, cur, rfl, hbb, hh, rest⟩
  have := hM g rfl
  exact ⟨g, cap, cur, rfl, hbb, (hc.block g this.1 this.2).trans hh, rest⟩
theorem Owns.drewN {w : World} {base : Nat} {e : TypeId} {v : Value} {l : List UInt8} (h : Owns w base e v l) (n : Nat) : Owns (w.drewN n) base e v l := h
/-- a slice of one byte, just made -/
theorem Reads.one (w : World) (e : TypeId) (n : Int) (c : UInt8) (hn : n = (c.toNat : Int)) (k : Nat) (hk : k = w.heap.size) : Reads (w.alloc (.cells #[.int .u8 n] e)) (fun b => b = w.heap.size) (.slice (some ⟨k, 0, none⟩) 1 1) [c] := by
  subst hn hk
  refine ⟨⟨_, 1, rfl, Nat.le_refl _, by unfold maxLen; omega, .inr ⟨_, _, rfl, rfl⟩⟩, fun b off m cap he j hj => ?_⟩
  injection he with e1 _ _; injection e1 with e1; injection e1 with e1 e2 _; subst e1 e2
  obtain rfl : j = 0 := by simp at hj; exact hj
  exact (Row.new w e _).cell rfl
/-- the walk stops here -/
inductive Stopped (P : Program) (ops : Array Oper) (rest : List Oper) (a : Act) (w : World) (Q : Exit → Act → World → Prop) (o : Oper) : Prop
  | mk (h : wpList P ops Q (o :: rest) a w)
theorem Stopped.out {P : Program} {ops : Array Oper} {rest : List Oper} {a : Act} {w : World} {Q : Exit → Act → World → Prop} {o : Oper} (h : wpList P ops Q (o :: rest) a w) : Stopped P ops rest a w Q o := .mk h
theorem arm_stop {P : Program} {ops : Array Oper} {rest : List Oper} {a : Act} {w : World} {Q : Exit → Act → World → Prop} {tp : TypeId} {dst : Option Tmp} {args : Array Operand} {ts : Array TypeId} {pos : String} {after : Array Edge}
  (h : Stopped P ops rest a w Q ⟨dst, .call ⟨.builtin .append, args, ts⟩, tp, pos, after, none⟩) : wpList P ops Q (⟨dst, .call ⟨.builtin .append, args, ts⟩, tp, pos, after, none⟩ :: rest) a w := by cases h; assumption
/-- ARM: append(v, x...), v the call's own -/
theorem arm_append {P : Program} {ops : Array Oper} {rest : List Oper} {a : Act} {w : World} {Q : Exit → Act → World → Prop} {t e tp : TypeId} {dst : Option Tmp} {s x : Operand} {pos : String} {after : Array Edge} {base : Nat} {v xv : Value} {l m : List UInt8} {N : Nat → Prop}
    (hT : SlTy P t e (.int .u8 0) 1) (hown : Owns w base e v l) (hrd : Reads w N xv m) (hbd : l.length + m.length ≤ 140737488355328) (hbase : base ≤ w.heap.size)
    (hs : a.eval s = v) (hx : a.eval x = xv)
    (h : ∀ v' w', Owns w' base e v' (l ++ m) → w.grownBy w' v.ownBlock → (v'.ownBlock = v.ownBlock ∨ v'.ownBlock = some w.heap.size) → wpList P ops Q rest (a.put dst v') w') :
    wpList P ops Q (⟨dst, .call ⟨.builtin .append, #[s, x], #[t, t]⟩, tp, pos, after, none⟩ :: rest) a w := by
  obtain ⟨i, hi, hz, hsize, hby⟩ := hT.i
  have key : ∃ v' w', (Builtin.append_ #[t, t] tp #[v, xv]).run P w = .ok v' w' ∧ Owns w' base e v' (l ++ m) ∧ w.grownBy w' v.ownBlock ∧ (v'.ownBlock = v.ownBlock ∨ v'.ownBlock = some w.heap.size) := by
    obtain ⟨⟨ad, cap, rfl, h1, h2, h3⟩, hc⟩ := hrd
    rcases h3 with h3 | ⟨b, off, rfl, _⟩
    · by_cases hm : m = []
      · subst hm
        refine ⟨v, w, ?_, by simpa using hown, ⟨rfl, rfl, rfl, Nat.le_refl _, fun _ _ _ => rfl⟩, .inl rfl⟩
        rcases hown.2 with ⟨rfl, h0⟩ | ⟨g, cap', cur, rfl, _, _, hnc, _⟩
        · cases ad <;> simp [Builtin.append_, run_underlying hT.u, sizeOf, typeInfo, hi, Builtin.lenOf, Builtin.firstCells, loadCells, loadCellsFrom]
        · cases ad <;> simp [Builtin.append_, run_underlying hT.u, sizeOf, typeInfo, hi, Builtin.lenOf, Builtin.firstCells, loadCells, loadCellsFrom, hnc, storeCells]
      · have := List.length_pos_iff.2 hm; omega
    · have hcells : ∀ j u, (bcells m)[j]? = some u → w.cell? ((⟨b, off, none⟩ : Addr).add j) = some u := by
        intro j u hu
        have hj : j < m.length := by rw [← bcells_length]; exact (List.getElem?_eq_some_iff.1 hu).1
        rw [bcells_get m j hj] at hu
        rw [Addr.add_mid, ← hu]
        exact hc b off _ _ rfl j hj
      obtain ⟨v', w', hrun, ho, hg, _, hb⟩ := run_append_own_at (P := P) w base t tp e i (.int .u8 0) 1 1 hT.u hi hz hsize hby rfl (by decide) v l.length (bcells l) hown ⟨b, off, none⟩ m.length cap (bcells m) (by rw [bcells_length]; omega) hcells (bcells_one m) (by unfold maxLen; omega) (by omega) hbase
      exact ⟨v', w', hrun, by unfold Owns; rw [List.length_append, bcells_append]; exact ho, hg, hb⟩
  obtain ⟨v', w', hrun, h1, h2, h3⟩ := key
  refine wpList_plain rfl fun _ hK => ?_
  unfold Oper.wp execOp
  simp only [resolve, invoke, builtin, Sem.run_bind, Sem.run_pure, Result.andThen_ok, List.map_toArray, List.map_cons, List.map_nil, hs, hx, hrun]
  exact hK _ _ (h v' w' h1 h2 h3)
end Go.Proofs.YtplafpokgpolkaaGreatDoor
/- SLICES OF ANY ELEMENTS, k CELLS EACH: what is read, what is owned; append as an arm. -/
namespace Go.Proofs.YtplafpokgpolkaaGreatDoor
open Go.RowKit
/-- t is a slice type, its elements, of type e, take k cells each -/
structure SlK (P : Program) (t e : TypeId) (z : Value) (k bytes : Nat) : Prop where
  u : P.underlying t = some (.slice e)
  i : ∃ i, P.info? e = some i ∧ i.zero = some z ∧ i.size = k ∧ i.bytes = bytes
  z : z.cells.size = k
  k : 0 < k
theorem SlK.mk' {P : Program} {t e : TypeId} {z : Value} {k bytes : Nat} (hu : P.underlying t = some (.slice e)) (hi : (P.info? e).map (fun i => (i.zero, i.size, i.bytes)) = some (some z, k, bytes)) (hz : z.cells.size = k) (hk : 0 < k) : SlK P t e z k bytes := by
  refine ⟨hu, ?_, hz, hk⟩
  cases h : P.info? e with
  | none => simp [h] at hi
  | some i => simp [h] at hi; exact ⟨i, rfl, hi⟩
/-- v, a slice of n elements of k cells, reads as the cells vs; its block is one of N -/
structure RdV (w : World) (N : Nat → Prop) (k : Nat) (v : Value) (n : Nat) (vs : List Value) : Prop where
  len : vs.length = n * k
  shape : ∃ a cap, v = .slice a n cap ∧ n ≤ cap ∧ cap ≤ maxLen ∧ (cap = 0 ∨ ∃ b off, a = some ⟨b, off, none⟩ ∧ N b)
  cell : ∀ b off m cap, v = .slice (some ⟨b, off, none⟩) m cap → ∀ j u, vs[j]? = some u → w.cell? ⟨b, off + j, none⟩ = some u
theorem RdV.lens {w : World} {N : Nat → Prop} {k n : Nat} {vs : List Value} {a : Option Addr} {m cap : Nat} (h : RdV w N k (.slice a m cap) n vs) : m = n ∧ n ≤ cap ∧ cap ≤ maxLen := by
  obtain ⟨_, ⟨a, cap', e, h1, h2, h3⟩, _⟩ := h
  injection e with e1 e2 e3
  subst e1 e3
  exact ⟨e2, h1, h2⟩
theorem RdV.blk {w : World} {N : Nat → Prop} {k n : Nat} {vs : List Value} {b off m cap : Nat} (h : RdV w N k (.slice (some ⟨b, off, none⟩) m cap) n vs) (hc : 0 < cap) : N b ∧ m = n ∧ n ≤ cap ∧ cap ≤ maxLen := by
  obtain ⟨_, ⟨a, cap', e, h1, h2, h3⟩, _⟩ := h
  injection e with e1 e2 e3
  subst e1 e3
  rcases h3 with h3 | ⟨b', off', e, hN⟩
  · omega
  · injection e with e; injection e with f1 _ _; subst f1; exact ⟨hN, e2, h1, h2⟩
theorem RdV.chg {M N : Nat → Prop} {w w' : World} {B k n : Nat} {v : Value} {vs : List Value} (h : RdV w N k v n vs) (hb : Chg M B w w') (hN : ∀ b, N b → b < B ∧ ¬ M b) : RdV w' N k v n vs := by
  refine ⟨h.len, h.shape, fun b off m cap e j u hu => ?_⟩
  subst e
  have hlt := (List.getElem?_eq_some_iff.1 hu).1
  have := hN b (h.blk (by
    have h1 := h.lens.2.1
    have h2 := h.len
    rcases Nat.eq_zero_or_pos cap with h0 | h0
    · obtain rfl : n = 0 := by omega
      rw [Nat.zero_mul] at h2; omega
    · exact h0)).1
  rw [hb.cell (p := ⟨b, off + j, none⟩) this.1 this.2]
  exact h.cell b off m cap rfl j u hu
theorem RdV.mono {N N' : Nat → Prop} {w : World} {k n : Nat} {v : Value} {vs : List Value} (h : RdV w N k v n vs) (hN : ∀ b, N b → N' b) : RdV w N' k v n vs := by
  obtain ⟨hl, ⟨a, cap, e, h1, h2, h3⟩, hc⟩ := h
  exact ⟨hl, ⟨a, cap, e, h1, h2, h3.imp id (fun ⟨b, off, e, hb⟩ => ⟨b, off, e, hN b hb⟩)⟩, hc⟩
theorem RdV.below {N : Nat → Prop} {w w' : World} {B k n : Nat} {v : Value} {vs : List Value} (h : RdV w N k v n vs) (hb : Below B w w') (hN : ∀ b, N b → b < B) : RdV w' N k v n vs :=
  h.chg (M := fun _ => False) (.of_below hb) (fun b hb' => ⟨hN b hb', fun h => h⟩)
theorem RdV.drewN {N : Nat → Prop} {w : World} {k n : Nat} {v : Value} {vs : List Value} (h : RdV w N k v n vs) (m : Nat) : RdV (w.drewN m) N k v n vs := ⟨h.len, h.shape, h.cell⟩
theorem RdV.has {N : Nat → Prop} {w : World} {k n : Nat} {v : Value} {vs : List Value} (h : RdV w N k v n vs) (hn : 0 < n) : ∃ b off cap, v = .slice (some ⟨b, off, none⟩) n cap ∧ n ≤ cap ∧ cap ≤ maxLen ∧ N b := by
  obtain ⟨a, cap, e, h1, h2, h3⟩ := h.shape
  rcases h3 with h3 | ⟨b, off, rfl, hN⟩
  · omega
  · exact ⟨b, off, cap, e, h1, h2, hN⟩
theorem RdV.bytes {N : Nat → Prop} {w : World} {v : Value} {l : List UInt8} (h : Reads w N v l) : RdV w N 1 v l.length (bcells l) := by
  refine ⟨by rw [bcells_length, Nat.mul_one], h.shape, fun b off m cap e j u hu => ?_⟩
  have hj : j < l.length := by rw [← bcells_length]; exact (List.getElem?_eq_some_iff.1 hu).1
  rw [bcells_get l j hj] at hu
  rw [← hu]
  exact h.cell b off m cap e j hj
theorem RdV.toBytes {N : Nat → Prop} {w : World} {v : Value} {l : List UInt8} (h : RdV w N 1 v l.length (bcells l)) : Reads w N v l :=
  ⟨h.shape, fun b off m cap e j hj => h.cell b off m cap e j _ (bcells_get l j hj)⟩
theorem RdV.ofNil {N : Nat → Prop} {w : World} {k : Nat} : RdV w N k (.slice none 0 0) 0 [] :=
  ⟨by simp, ⟨_, _, rfl, Nat.zero_le _, Nat.zero_le _, .inl rfl⟩, fun _ _ _ _ e j u hu => by cases hu⟩
/-- a row just made, read as a slice -/
theorem RdV.new {w : World} (e : TypeId) (vs : List Value) (k n : Nat) (b : Nat) (hb : b = w.heap.size) (hl : vs.length = n * k) (hn : n ≤ maxLen) {N : Nat → Prop} (hN : N b) : RdV (w.alloc (.cells vs.toArray e)) N k (.slice (some ⟨b, 0, none⟩) n n) n vs := by
  subst hb
  refine ⟨hl, ⟨_, n, rfl, Nat.le_refl _, hn, .inr ⟨_, _, rfl, hN⟩⟩, fun b off m cap he j u hu => ?_⟩
  injection he with e1 _ _; injection e1 with e1; injection e1 with e1 e2 _; subst e1 e2
  exact (Row.new w e _).cell (by simpa using hu)
/-- a part of a row, read as a slice -/
theorem RdV.ofRow {w : World} {b : Nat} {e : TypeId} {c : Array Value} (h : Row w b e c) {N : Nat → Prop} (hN : N b) (k off n cap : Nat) (vs : List Value) (hl : vs.length = n * k) (hn : n ≤ cap) (hc : cap ≤ maxLen) (hv : ∀ j u, vs[j]? = some u → c[off + j]? = some u) : RdV w N k (.slice (some ⟨b, off, none⟩) n cap) n vs := by
  refine ⟨hl, ⟨_, cap, rfl, hn, hc, .inr ⟨_, _, rfl, hN⟩⟩, fun b' off' m cap' he j u hu => ?_⟩
  injection he with e1 _ _; injection e1 with e1; injection e1 with e1 e2 _; subst e1 e2
  exact h.cell (hv j u hu)
/-- a part of it -/
theorem RdV.sub {N : Nat → Prop} {w : World} {k n : Nat} {vs : List Value} {b off m cap : Nat} (h : RdV w N k (.slice (some ⟨b, off, none⟩) m cap) n vs) (i n' cap' off' : Nat) (vs' : List Value) (hv : vs' = (vs.drop (i * k)).take (n' * k)) (hl : vs'.length = n' * k) (ho : off' = off + i * k) (hm : n' ≤ cap') (hc : cap' ≤ cap) :
    RdV w N k (.slice (some ⟨b, off', none⟩) n' cap') n' vs' := by
  obtain ⟨hn, h1, h2⟩ := h.lens
  subst ho
  refine ⟨hl, ⟨_, _, rfl, hm, by omega, (Nat.eq_zero_or_pos cap').imp id (fun hp => ⟨_, _, rfl, (h.blk (by omega)).1⟩)⟩, fun b' off' m' c' e j u hu => ?_⟩
  injection e with e1 e2 e3; injection e1 with e1; injection e1 with e1 e4 _; subst e1 e4
  rw [Nat.add_assoc]
  refine h.cell b off m cap rfl (i * k + j) u ?_
  subst hv
  rw [List.getElem?_take] at hu
  split at hu
  · rw [List.getElem?_drop] at hu; exact hu
  · cases hu
theorem ownsV_reads {w : World} {base k n : Nat} {e : TypeId} {v : Value} {vs : List Value} (h : w.ownsRow base e k v n vs) : RdV w (fun b => base ≤ b ∧ b < w.heap.size ∧ v.ownBlock = some b) k v n vs := by
  obtain ⟨hl, h⟩ := h
  rcases h with ⟨rfl, rfl⟩ | ⟨g, cap, cur, rfl, hb, hh, hn, hm, hs, ht⟩
  · obtain rfl : vs = [] := List.eq_nil_of_length_eq_zero (by omega)
    exact RdV.ofNil
  · refine ⟨hl, ⟨_, cap, rfl, hn, hm, .inr ⟨g, 0, rfl, hb, (Array.getElem?_eq_some_iff.1 hh).1, rfl⟩⟩, fun b off m c he j u hu => ?_⟩
    injection he with e1 _ _; injection e1 with e1; injection e1 with e1 e2 _; subst e1 e2
    rw [cell_of_row w g (0 + j) cur e (0, 0) hh, Nat.zero_add]
    rw [← ht, List.getElem?_take] at hu
    split at hu
    · simpa using hu
    · cases hu
theorem ownsV_lt {w : World} {base k n : Nat} {e : TypeId} {v : Value} {vs : List Value} (h : w.ownsRow base e k v n vs) : ∀ b, v.ownBlock = some b → base ≤ b ∧ b < w.heap.size := World.ownsRow.lt h
theorem ownsV_rebase {w : World} {base base' k n : Nat} {e : TypeId} {v : Value} {vs : List Value} (h : w.ownsRow base e k v n vs) (hb : ∀ b, v.ownBlock = some b → base' ≤ b) : w.ownsRow base' e k v n vs := by
  obtain ⟨h0, h⟩ := h
  refine ⟨h0, h.imp id ?_⟩
  rintro ⟨g, cap, cur, rfl, hbb, rest⟩
  exact ⟨g, cap, cur, rfl, hb g rfl, rest⟩
theorem ownsV_mono {w : World} {base base' k n : Nat} {e : TypeId} {v : Value} {vs : List Value} (h : w.ownsRow base e k v n vs) (hb : base' ≤ base) : w.ownsRow base' e k v n vs := ownsV_rebase h (fun b hb' => Nat.le_trans hb (ownsV_lt h b hb').1)
/-- a row just made, owned -/
theorem ownsV_new {w : World} (e : TypeId) (vs : List Value) (k n b base : Nat) (hb : b = w.heap.size) (hbase : base ≤ b) (hl : vs.length = n * k) (hn : n ≤ maxLen) : (w.alloc (.cells vs.toArray e)).ownsRow base e k (.slice (some ⟨b, 0, none⟩) n n) n vs := by
  subst hb
  exact ⟨hl, .inr ⟨_, n, vs.toArray, rfl, hbase, heap_alloc_new w _, Nat.le_refl _, hn, by simpa using hl, by rw [← hl]; simp⟩⟩
/-- ARM: append(v, x...), v the call's own -/
theorem arm_appendV {P : Program} {ops : Array Oper} {rest : List Oper} {a : Act} {w : World} {Q : Exit → Act → World → Prop} {t e tp : TypeId} {dst : Option Tmp} {s x : Operand} {pos : String} {after : Array Edge} {base k n m bytes : Nat} {z v xv : Value} {vs us : List Value} {N : Nat → Prop}
    (hT : SlK P t e z k bytes) (hown : w.ownsRow base e k v n vs) (hrd : RdV w N k xv m us) (h1 : ∀ u ∈ us, u.oneCell' = true) (hbd : n + m ≤ maxLen) (hbd2 : (n + m) * bytes ≤ 140737488355328) (hbase : base ≤ w.heap.size)
    (hs : a.eval s = v) (hx : a.eval x = xv)
    (h : ∀ v' w', w'.ownsRow base e k v' (n + m) (vs ++ us) → w.grownBy w' v.ownBlock → (v'.ownBlock = v.ownBlock ∨ v'.ownBlock = some w.heap.size) → (v' = .slice none 0 0 ↔ v = .slice none 0 0 ∧ m = 0) → wpList P ops Q rest (a.put dst v') w') :
    wpList P ops Q (⟨dst, .call ⟨.builtin .append, #[s, x], #[t, t]⟩, tp, pos, after, none⟩ :: rest) a w := by
  obtain ⟨i, hi, hz, hsize, hby⟩ := hT.i
  have key : ∃ v' w', (Builtin.append_ #[t, t] tp #[v, xv]).run P w = .ok v' w' ∧ w'.ownsRow base e k v' (n + m) (vs ++ us) ∧ w.grownBy w' v.ownBlock ∧ (v'.ownBlock = v.ownBlock ∨ v'.ownBlock = some w.heap.size) ∧ (v' = .slice none 0 0 ↔ v = .slice none 0 0 ∧ m = 0) := by
    have hlen := hrd.len
    obtain ⟨_, ⟨ad, cap, rfl, h1', h2, h3⟩, hc⟩ := hrd
    rcases h3 with h3 | ⟨b, off, rfl, _⟩
    · have hm : m = 0 := by omega
      subst hm
      obtain rfl : us = [] := List.eq_nil_of_length_eq_zero (by omega)
      refine ⟨v, w, ?_, by simpa using hown, ⟨rfl, rfl, rfl, Nat.le_refl _, fun _ _ _ => rfl⟩, .inl rfl, by simp⟩
      rcases hown.2 with ⟨rfl, h0⟩ | ⟨g, cap', cur, rfl, _, _, hnc, _⟩
      · cases ad <;> simp [Builtin.append_, run_underlying hT.u, sizeOf, typeInfo, hi, Builtin.lenOf, Builtin.firstCells, loadCells, loadCellsFrom]
      · cases ad <;> simp [Builtin.append_, run_underlying hT.u, sizeOf, typeInfo, hi, Builtin.lenOf, Builtin.firstCells, loadCells, loadCellsFrom, hnc, storeCells]
    · have hcells : ∀ j u, us[j]? = some u → w.cell? ((⟨b, off, none⟩ : Addr).add j) = some u := by
        intro j u hu
        rw [Addr.add_mid]
        exact hc b off _ _ rfl j u hu
      obtain ⟨v', w', hrun, ho, hg, hn, hb⟩ := run_append_own_at (P := P) w base t tp e i z k bytes hT.u hi hz hsize hby hT.z hT.k v n vs hown ⟨b, off, none⟩ m cap us hlen hcells h1 hbd hbd2 hbase
      exact ⟨v', w', hrun, ho, hg, hb, hn⟩
  obtain ⟨v', w', hrun, h1, h2, h3, h4⟩ := key
  refine wpList_plain rfl fun _ hK => ?_
  unfold Oper.wp execOp
  simp only [resolve, invoke, builtin, Sem.run_bind, Sem.run_pure, Result.andThen_ok, List.map_toArray, List.map_cons, List.map_nil, hs, hx, hrun]
  exact hK _ _ (h v' w' h1 h2 h3 h4)
end Go.Proofs.YtplafpokgpolkaaGreatDoor
/- THE CALL's OWN MEMORY AS A LIST OF ASSERTIONS, each on one block. -/
namespace Go.Proofs.YtplafpokgpolkaaGreatDoor
open Go.RowKit
/-- what is known of one block (or of none) -/
structure As where
  blk : Nat → Prop
  P : World → Prop
  loc : ∀ w w' : World, (∀ b, blk b → w'.heap[b]? = w.heap[b]?) → P w → P w'
/-- block b is the row c -/
def rowA (b : Nat) (e : TypeId) (c : Array Value) : As := ⟨fun k => k = b, fun w => Row w b e c, fun w w' h hr => by unfold Row; rw [h b rfl]; exact hr⟩
theorem ownsRow_loc {base k n : Nat} {e : TypeId} {v : Value} {vs : List Value} (w w' : World) (h : ∀ b, v.ownBlock = some b → w'.heap[b]? = w.heap[b]?) (ho : w.ownsRow base e k v n vs) : w'.ownsRow base e k v n vs := by
  obtain ⟨h0, ho⟩ := ho
  refine ⟨h0, ho.imp id ?_⟩
  rintro ⟨g, cap, cur, rfl, hbb, hh, rest⟩
  exact ⟨g, cap, cur, rfl, hbb, (h g rfl).trans hh, rest⟩
/-- the slice v is the call's own, of n elements of k cells: vs -/
def slA (base : Nat) (e : TypeId) (k : Nat) (v : Value) (n : Nat) (vs : List Value) : As := ⟨fun b => v.ownBlock = some b, fun w => w.ownsRow base e k v n vs, ownsRow_loc⟩
/-- the []byte v is the call's own: l -/
def byA (base : Nat) (e : TypeId) (v : Value) (l : List UInt8) : As := ⟨fun b => v.ownBlock = some b, fun w => Owns w base e v l, ownsRow_loc⟩
/-- what stands between the call's beginning, w, and now, wr: of the old blocks those of M alone may have changed; the assertions hold, each on a block of its own -/
structure Hp (M : Nat → Prop) (w wr : World) (ls : List As) : Prop where
  c : Chg M w.heap.size w wr
  p : ∀ A ∈ ls, A.P wr ∧ ∀ b, A.blk b → (w.heap.size ≤ b ∨ M b) ∧ b < wr.heap.size
  d : ∀ (i j : Nat) (A B : As), ls[i]? = some A → ls[j]? = some B → ∀ b, A.blk b → B.blk b → i = j
abbrev NoM : Nat → Prop := fun _ => False
theorem Hp.begin (M : Nat → Prop) (w : World) : Hp M w w [] := ⟨.refl _ _ _, fun A h => (List.not_mem_nil h).elim, fun i j A B h => by simp at h⟩
theorem Hp.get {M : Nat → Prop} {w wr : World} {ls : List As} (h : Hp M w wr ls) (i : Nat) {A : As} (hi : ls[i]? = some A) : A.P wr := (h.p A (List.mem_of_getElem? hi)).1
theorem Hp.row {M : Nat → Prop} {w wr : World} {ls : List As} (h : Hp M w wr ls) (i : Nat) {b : Nat} {e : TypeId} {c : Array Value} (hi : ls[i]? = some (rowA b e c)) : Row wr b e c := h.get i hi
theorem Hp.sl {M : Nat → Prop} {w wr : World} {ls : List As} (h : Hp M w wr ls) (i : Nat) {base k n : Nat} {e : TypeId} {v : Value} {vs : List Value} (hi : ls[i]? = some (slA base e k v n vs)) : wr.ownsRow base e k v n vs := h.get i hi
theorem Hp.bs {M : Nat → Prop} {w wr : World} {ls : List As} (h : Hp M w wr ls) (i : Nat) {base : Nat} {e : TypeId} {v : Value} {l : List UInt8} (hi : ls[i]? = some (byA base e v l)) : Owns wr base e v l := h.get i hi
theorem Hp.size {M : Nat → Prop} {w wr : World} {ls : List As} (h : Hp M w wr ls) : w.heap.size ≤ wr.heap.size := h.c.size
theorem Hp.below {w wr : World} {ls : List As} (h : Hp NoM w wr ls) : Below w.heap.size w wr := h.c.below (fun _ _ h => h)
/-- a block of the list lies above w's, where no old one may change -/
theorem Hp.new {w wr : World} {ls : List As} (h : Hp NoM w wr ls) (i : Nat) {A : As} (hi : ls[i]? = some A) {b : Nat} (hb : A.blk b) : w.heap.size ≤ b ∧ b < wr.heap.size :=
  ⟨((h.p A (List.mem_of_getElem? hi)).2 b hb).1.elim id (fun h => h.elim), ((h.p A (List.mem_of_getElem? hi)).2 b hb).2⟩
/-- nothing that was there changes -/
theorem Hp.keep {M : Nat → Prop} {w wr w' : World} {ls : List As} (h : Hp M w wr ls) (hc : Chg NoM wr.heap.size wr w') : Hp M w w' ls := by
  refine ⟨h.c.trans ((hc.lower h.c.size).mono (Nat.le_refl _) (fun _ h => h.elim)), fun A hA => ?_, h.d⟩
  have := h.p A hA
  exact ⟨A.loc wr w' (fun b hb => hc.block b (this.2 b hb).2 (fun h => h)) this.1, fun b hb => ⟨(this.2 b hb).1, Nat.lt_of_lt_of_le (this.2 b hb).2 hc.size⟩⟩
theorem Hp.call {M : Nat → Prop} {w wr w' : World} {ls : List As} (h : Hp M w wr ls) (hc : Below wr.heap.size wr w') : Hp M w w' ls := h.keep (.of_below hc)
theorem Hp.alloc {M : Nat → Prop} {w wr : World} {ls : List As} (h : Hp M w wr ls) (o : Obj) : Hp M w (wr.alloc o) ls := h.call ((Below.refl _ _).alloc (Nat.le_refl _) _)
theorem Hp.drewN {M : Nat → Prop} {w wr : World} {ls : List As} (h : Hp M w wr ls) (n : Nat) : Hp M w (wr.drewN n) ls := h.call (below_drewN' (Below.refl _ _) n)
theorem Hp.drew {M : Nat → Prop} {w wr : World} {ls : List As} (h : Hp M w wr ls) : Hp M w wr.drew ls := h.call (Below.refl _ _).drew
/-- one assertion more, on a new block or on none -/
theorem Hp.push {M : Nat → Prop} {w wr w' : World} {ls : List As} (h : Hp M w wr ls) (A : As) (hc : Chg NoM wr.heap.size wr w') (hP : A.P w') (hb : ∀ b, A.blk b → wr.heap.size ≤ b ∧ b < w'.heap.size) : Hp M w w' (ls ++ [A]) := by
  have hk := h.keep hc
  refine ⟨hk.c, fun B hB => ?_, fun i j A1 A2 h1 h2 b e1 e2 => ?_⟩
  · rcases List.mem_append.1 hB with hB | hB
    · exact hk.p B hB
    · obtain rfl := List.mem_singleton.1 hB
      exact ⟨hP, fun b e => ⟨.inl (Nat.le_trans h.c.size (hb b e).1), (hb b e).2⟩⟩
  · have key : ∀ (i : Nat) (A1 : As), (ls ++ [A])[i]? = some A1 → (ls[i]? = some A1 ∧ ∀ b, A1.blk b → b < wr.heap.size) ∨ (i = ls.length ∧ A1 = A) := by
      intro i A1 hi
      rcases Nat.lt_or_ge i ls.length with hl | hl
      · rw [List.getElem?_append_left hl] at hi
        exact .inl ⟨hi, fun b hb => ((h.p A1 (List.mem_of_getElem? hi)).2 b hb).2⟩
      · rw [List.getElem?_append_right hl] at hi
        have h1 := (List.getElem?_eq_some_iff.1 hi).1
        have h0 : i - ls.length = 0 := by simpa using h1
        rw [h0] at hi
        injection hi with hi
        exact .inr ⟨by omega, hi.symm⟩
    rcases key i A1 h1 with ⟨g1, g2⟩ | ⟨rfl, rfl⟩ <;> rcases key j A2 h2 with ⟨k1, k2⟩ | ⟨rfl, rfl⟩
    · exact h.d i j A1 A2 g1 k1 b e1 e2
    · have := g2 b e1; have := (hb b e2).1; omega
    · have := k2 b e2; have := (hb b e1).1; omega
    · rfl
/-- the i-th assertion turns; no other block that was there changes -/
theorem Hp.upd {M : Nat → Prop} {w wr w' : World} {ls : List As} (h : Hp M w wr ls) (i : Nat) {A : As} (hi : ls[i]? = some A) (A' : As) (hc : Chg (fun k => A.blk k) wr.heap.size wr w') (hP : A'.P w') (hb : ∀ b, A'.blk b → A.blk b ∨ (wr.heap.size ≤ b ∧ b < w'.heap.size)) : Hp M w w' (ls.set i A') := by
  have hil : i < ls.length := (List.getElem?_eq_some_iff.1 hi).1
  have hA := h.p A (List.mem_of_getElem? hi)
  have key : ∀ (j : Nat) (B : As), (ls.set i A')[j]? = some B → (j ≠ i ∧ ls[j]? = some B) ∨ (j = i ∧ B = A') := by
    intro j B hj
    by_cases e : j = i
    · subst e
      rw [List.getElem?_set_self hil] at hj
      injection hj with hj
      exact .inr ⟨rfl, hj.symm⟩
    · rw [List.getElem?_set_ne (Ne.symm e)] at hj
      exact .inl ⟨e, hj⟩
  have hno : ∀ (j : Nat) (B : As), j ≠ i → ls[j]? = some B → ∀ b, B.blk b → ¬ A.blk b := fun j B hji hj b e1 e2 => hji (h.d j i B A hj hi b e1 e2)
  have hlt : ∀ (j : Nat) (B : As), ls[j]? = some B → ∀ b, B.blk b → b < wr.heap.size := fun j B hj b e => ((h.p B (List.mem_of_getElem? hj)).2 b e).2
  refine ⟨h.c.trans ?_, fun B hB => ?_, fun j k B1 B2 h1 h2 b e1 e2 => ?_⟩
  · refine ⟨hc.os, hc.tape, hc.output, hc.size, fun k hk hm => hc.block k (Nat.lt_of_lt_of_le hk h.c.size) (fun e => ?_)⟩
    rcases (hA.2 k e).1 with h1 | h1
    · omega
    · exact hm h1
  · obtain ⟨j, hj⟩ := List.getElem?_of_mem hB
    rcases key j B hj with ⟨hji, hj⟩ | ⟨rfl, rfl⟩
    · have hB := h.p B (List.mem_of_getElem? hj)
      exact ⟨B.loc wr w' (fun b e => hc.block b (hB.2 b e).2 (hno j B hji hj b e)) hB.1, fun b e => ⟨(hB.2 b e).1, Nat.lt_of_lt_of_le (hB.2 b e).2 hc.size⟩⟩
    · refine ⟨hP, fun b e => ?_⟩
      rcases hb b e with e' | e'
      · exact ⟨(hA.2 b e').1, Nat.lt_of_lt_of_le (hA.2 b e').2 hc.size⟩
      · exact ⟨.inl (Nat.le_trans h.c.size e'.1), e'.2⟩
  · rcases key j B1 h1 with ⟨g1, g2⟩ | ⟨rfl, rfl⟩ <;> rcases key k B2 h2 with ⟨k1, k2⟩ | ⟨rfl, rfl⟩
    · exact h.d j k B1 B2 g2 k2 b e1 e2
    · rcases hb b e2 with e' | e'
      · exact (hno j B1 g1 g2 b e1 e').elim
      · have := hlt j B1 g2 b e1; omega
    · rcases hb b e1 with e' | e'
      · exact (hno k B2 k1 k2 b e2 e').elim
      · have := hlt k B2 k2 b e2; omega
    · rfl
/-- a new row -/
theorem Hp.newRow {M : Nat → Prop} {w wr : World} {ls : List As} (h : Hp M w wr ls) (e : TypeId) (c : Array Value) : Hp M w (wr.alloc (.cells c e)) (ls ++ [rowA wr.heap.size e c]) :=
  h.push _ (.of_below ((Below.refl _ _).alloc (Nat.le_refl _) _)) (Row.new wr e c) (fun b hb => by have hb : b = _ := hb; subst hb; simp)
theorem Hp.newRow' {M : Nat → Prop} {w wr : World} {ls : List As} (h : Hp M w wr ls) (e : TypeId) (c c' : Array Value) (n : Nat) (hn : n = wr.heap.size) (hc : c = c') : Hp M w (wr.alloc (.cells c' e)) (ls ++ [rowA n e c]) := by
  subst hn hc; exact h.newRow e c
theorem Hp.setCell {M : Nat → Prop} {w wr : World} {ls : List As} (h : Hp M w wr ls) (i : Nat) {b : Nat} {e : TypeId} {c : Array Value} (hi : ls[i]? = some (rowA b e c)) (j : Nat) (v : Value) {c' : Array Value} (hc : c.setIfInBounds j v = c') : Hp M w (wr.setCell ⟨b, j, none⟩ v) (ls.set i (rowA b e c')) := by
  subst hc
  exact h.upd i hi _ (Chg.setCell (M := fun k => k = b) (.refl _ _ _) (.inr rfl) _) ((h.row i hi).set j v) (fun _ hb => .inl hb)
theorem Hp.setRow {M : Nat → Prop} {w wr : World} {ls : List As} (h : Hp M w wr ls) (i : Nat) {b : Nat} {e : TypeId} {c : Array Value} (hi : ls[i]? = some (rowA b e c)) (c' : Array Value) : Hp M w (wr.setRow b c') (ls.set i (rowA b e c')) :=
  h.upd i hi _ (Chg.setRow (M := fun k => k = b) (.refl _ _ _) (.inr rfl) _) ((h.row i hi).setRow c') (fun _ hb => .inl hb)
theorem chg_grown {wr w' : World} {r : Option Nat} (hg : wr.grownBy w' r) : Chg (fun k => r = some k) wr.heap.size wr w' :=
  ⟨hg.os, hg.tape, hg.output, hg.size, fun k hk hm => hg.block k hk (fun e => hm e.symm)⟩
/-- an own slice has grown -/
theorem Hp.grow {M : Nat → Prop} {w wr w' : World} {ls : List As} (h : Hp M w wr ls) (i : Nat) {base k n n' : Nat} {e : TypeId} {v v' : Value} {vs vs' : List Value} (hi : ls[i]? = some (slA base e k v n vs)) (hg : wr.grownBy w' v.ownBlock) (ho : w'.ownsRow base e k v' n' vs') (hb : v'.ownBlock = v.ownBlock ∨ v'.ownBlock = some wr.heap.size) : Hp M w w' (ls.set i (slA base e k v' n' vs')) :=
  h.upd i hi _ (chg_grown hg) ho (fun b hb' => by
    have hb' : v'.ownBlock = some b := hb'
    rcases hb with e | e
    · exact .inl (show v.ownBlock = some b from e.symm.trans hb')
    · have : some wr.heap.size = some b := e.symm.trans hb'
      injection this with this
      subst this
      exact .inr ⟨Nat.le_refl _, (ownsV_lt ho _ e).2⟩)
theorem Hp.growB {M : Nat → Prop} {w wr w' : World} {ls : List As} (h : Hp M w wr ls) (i : Nat) {base : Nat} {e : TypeId} {v v' : Value} {l l' : List UInt8} (hi : ls[i]? = some (byA base e v l)) (hg : wr.grownBy w' v.ownBlock) (ho : Owns w' base e v' l') (hb : v'.ownBlock = v.ownBlock ∨ v'.ownBlock = some wr.heap.size) : Hp M w w' (ls.set i (byA base e v' l')) :=
  h.grow i (n := l.length) (vs := bcells l) hi hg ho hb
/-- a nil slice to begin with -/
theorem Hp.nilB {M : Nat → Prop} {w wr : World} {ls : List As} (h : Hp M w wr ls) (base : Nat) (e : TypeId) : Hp M w wr (ls ++ [byA base e (.slice none 0 0) []]) :=
  h.push _ (.refl _ _ _) (Owns.nil wr base e) (fun b hb => by cases hb)
theorem Hp.nilS {M : Nat → Prop} {w wr : World} {ls : List As} (h : Hp M w wr ls) (base : Nat) (e : TypeId) (k : Nat) : Hp M w wr (ls ++ [slA base e k (.slice none 0 0) 0 []]) :=
  h.push _ (.refl _ _ _) (World.ownsRow_nil wr base e k) (fun b hb => by cases hb)
/-- what the call was handed still reads -/
theorem Hp.reads {M N : Nat → Prop} {w wr : World} {ls : List As} (h : Hp M w wr ls) {v : Value} {l : List UInt8} (hr : Reads w N v l) (hN : ∀ b, N b → b < w.heap.size ∧ ¬ M b) : Reads wr N v l := hr.chg h.c hN
theorem Hp.rd {M N : Nat → Prop} {w wr : World} {ls : List As} (h : Hp M w wr ls) {v : Value} {k n : Nat} {vs : List Value} (hr : RdV w N k v n vs) (hN : ∀ b, N b → b < w.heap.size ∧ ¬ M b) : RdV wr N k v n vs := hr.chg h.c hN
/-- block k is a string's iterator -/
def itA (k : Nat) (s : ByteArray) (pos : Nat) : As := ⟨fun j => j = k, fun w => w.heap[k]? = some (.stringIter s pos), fun w w' h hr => by rw [h k rfl]; exact hr⟩
theorem Hp.newIt {M : Nat → Prop} {w wr : World} {ls : List As} (h : Hp M w wr ls) (s : ByteArray) (pos : Nat) : Hp M w (wr.iter s pos) (ls ++ [itA wr.heap.size s pos]) :=
  h.push _ (.of_below ((Below.refl _ _).alloc (Nat.le_refl _) _)) (World.iter_heap wr s pos) (fun b hb => by have hb : b = _ := hb; subst hb; simp [World.iter])
theorem Hp.setIt {M : Nat → Prop} {w wr : World} {ls : List As} (h : Hp M w wr ls) (i : Nat) {k : Nat} {s : ByteArray} {pos : Nat} (hi : ls[i]? = some (itA k s pos)) (pos' : Nat) : Hp M w (wr.iterAt k s pos') (ls.set i (itA k s pos')) := by
  have hk : wr.heap[k]? = some (.stringIter s pos) := h.get i hi
  refine h.upd i hi _ ⟨rfl, rfl, rfl, by simp [World.iterAt], fun j hj hm => ?_⟩ ?_ (fun _ hb => .inl hb)
  · have : k ≠ j := fun e => hm (by subst e; rfl)
    simp [World.iterAt, this]
  · exact Lib.iterAt_heap wr k s pos pos' hk
end Go.Proofs.YtplafpokgpolkaaGreatDoor
/- PATHS: plain lists: what is cut at slashes, joined, and the words of the chapter. -/
namespace Go.Proofs.YtplafpokgpolkaaGreatDoor
/-- cut at each slash -/
def spl : List UInt8 → List (List UInt8)
  | [] => [[]]
  | c :: l => if c = 47 then [] :: spl l else match spl l with | [] => [[c]] | h :: t => (c :: h) :: t
theorem spl_ne : ∀ l, spl l ≠ []
  | [] => by simp [spl]
  | c :: l => by
    unfold spl
    split
    · simp
    · split <;> simp
theorem spl_length : ∀ l, (spl l).length ≤ l.length + 1
  | [] => Nat.le_refl _
  | c :: l => by
    have ih := spl_length l
    unfold spl
    split
    · simp; omega
    · split
      · simp
      · rename_i h t he
        rw [he] at ih
        simp at ih ⊢; omega
theorem spl_none : ∀ {a : List UInt8}, (∀ x ∈ a, x ≠ 47) → spl a = [a]
  | [], _ => rfl
  | c :: a, h => by
    rw [spl, if_neg (h c (by simp)), spl_none (fun x hx => h x (by simp [hx]))]
theorem spl_cut : ∀ {a : List UInt8} (b : List UInt8), (∀ x ∈ a, x ≠ 47) → spl (a ++ 47 :: b) = a :: spl b
  | [], b, _ => by rw [List.nil_append, spl, if_pos rfl]
  | c :: a, b, h => by
    rw [List.cons_append, spl, if_neg (h c (by simp)), spl_cut b (fun x hx => h x (by simp [hx]))]
theorem first_of (c : UInt8) (s : List UInt8) : (Lib.indexByte s c = -1 ∧ ∀ x ∈ s, x ≠ c) ∨ ∃ o : Nat, Lib.indexByte s c = o ∧ o < s.length ∧ s = s.take o ++ c :: s.drop (o + 1) ∧ ∀ x ∈ s.take o, x ≠ c := by
  have h1 := Lib.indexByte_ge s c
  rcases (by omega : Lib.indexByte s c = -1 ∨ 0 ≤ Lib.indexByte s c) with h2 | h2
  · refine .inl ⟨h2, fun x hx e => ?_⟩
    obtain ⟨k, hk⟩ := List.getElem?_of_mem hx
    exact Lib.indexByte_none h2 k (by rw [hk, e])
  · obtain ⟨o, ho⟩ : ∃ o : Nat, Lib.indexByte s c = o := ⟨(Lib.indexByte s c).toNat, by omega⟩
    obtain ⟨h3, h4⟩ := Lib.indexByte_some ho
    have hlt : o < s.length := (List.getElem?_eq_some_iff.1 h3).1
    have e1 : s[o] = c := by rw [List.getElem?_eq_getElem hlt] at h3; injection h3
    refine .inr ⟨o, ho, hlt, ?_, fun x hx e => ?_⟩
    · conv => lhs; rw [← List.take_append_drop o s]
      rw [List.drop_eq_getElem_cons hlt, e1]
    · obtain ⟨k, hk⟩ := List.getElem?_of_mem hx
      have hk2 : k < o := by
        have := (List.getElem?_eq_some_iff.1 hk).1
        simp at this; omega
      rw [List.getElem?_take_of_lt hk2] at hk
      exact h4 k hk2 (by rw [hk, e])
theorem splitK_spl : ∀ (k : Nat) (l : List UInt8), l.count 47 = k → Lib.splitK [47] 0 k l = spl l
  | 0, l, h => by
    rw [spl_none (fun x hx e => by subst e; exact absurd hx (List.count_eq_zero.1 h))]; rfl
  | k + 1, l, h => by
    rcases first_of 47 l with ⟨h1, h2⟩ | ⟨o, h1, h2, h3, h4⟩
    · exfalso
      have : l.count 47 = 0 := List.count_eq_zero.2 (fun hm => h2 47 hm rfl)
      omega
    · have hc : (l.drop (o + 1)).count 47 = k := by
        rw [h3, List.count_append, List.count_cons_self, List.count_eq_zero.2 (fun hm => h4 47 hm rfl)] at h
        omega
      conv => rhs; rw [h3]
      rw [spl_cut _ h4, Lib.splitK, Lib.index_one, h1, if_neg (by simp), ← splitK_spl k _ hc]
      simp
theorem splitB_spl (l : List UInt8) : (Lib.splitB ⟨#[47]⟩ 0 (Lib.countB ⟨l.toArray⟩ ⟨#[47]⟩) ⟨l.toArray⟩) = (spl l).map fun x => ⟨x.toArray⟩ := by
  have h1 := Lib.splitB_data ⟨#[47]⟩ 0 (Lib.countB ⟨l.toArray⟩ ⟨#[47]⟩) ⟨l.toArray⟩
  have h2 : Lib.countB ⟨l.toArray⟩ ⟨#[47]⟩ = l.count 47 := Lib.count_one 47 l
  rw [h2] at h1 ⊢
  have h3 : (Lib.splitB ⟨#[47]⟩ 0 (l.count 47) ⟨l.toArray⟩).map (·.data.toList) = spl l := h1.trans (splitK_spl _ _ rfl)
  rw [← h3, List.map_map]
  conv => lhs; rw [← List.map_id (Lib.splitB _ _ _ _)]
  apply List.map_congr_left
  intro x _
  obtain ⟨⟨x⟩⟩ := x
  rfl
theorem count_spl (l : List UInt8) : Lib.countB ⟨l.toArray⟩ ⟨#[47]⟩ + 1 = (spl l).length := by
  have h := Lib.splitB_all ⟨#[47]⟩ (by decide) 0 _ ⟨l.toArray⟩ rfl
  rw [splitB_spl, List.length_map] at h
  exact h.symm
/-- Split -/
def splitP (p : List UInt8) : List (List UInt8) := if p = [] then [] else spl p
/-- names set side by side, a slash between -/
def joinS : List (List UInt8) → List UInt8
  | [] => []
  | [x] => x
  | x :: y :: r => x ++ 47 :: joinS (y :: r)
theorem joinS_cons (x : List UInt8) {r : List (List UInt8)} (hr : r ≠ []) : joinS (x :: r) = x ++ 47 :: joinS r := by
  cases r with
  | nil => exact absurd rfl hr
  | cons y r => rfl
theorem join_eq : ∀ l : List (List UInt8), Lib.join l [47] = joinS l
  | [] => rfl
  | [x] => Lib.join_one x [47]
  | x :: y :: r => by
    have ih := join_eq (y :: r)
    rw [Lib.join_cons] at ih ⊢
    rw [joinS, ← ih]
    simp [Lib.joinTail]
theorem joinS_spl : ∀ l, joinS (spl l) = l
  | [] => rfl
  | c :: l => by
    have ih := joinS_spl l
    have hne := spl_ne l
    unfold spl
    split
    · rename_i h
      subst h
      rw [joinS_cons _ hne, ih]; rfl
    · split
      · rename_i h; exact absurd h hne
      · rename_i h t he
        rw [he] at ih
        cases t with
        | nil => have ih : h = l := ih; show c :: h = c :: l; rw [ih]
        | cons y r => rw [joinS] at ih ⊢; rw [← ih]; rfl
/-- no name of the list has a slash -/
def NoSl (l : List (List UInt8)) : Prop := ∀ x ∈ l, ∀ c ∈ x, c ≠ 47
theorem spl_nosl : ∀ l, NoSl (spl l)
  | [] => fun x hx c hc => by simp [spl] at hx; subst hx; cases hc
  | a :: l => by
    have ih := spl_nosl l
    unfold spl
    split
    · intro x hx c hc
      rcases List.mem_cons.1 hx with rfl | hx
      · cases hc
      · exact ih x hx c hc
    · rename_i ha
      split
      · intro x hx c hc
        obtain rfl := List.mem_singleton.1 hx
        obtain rfl := List.mem_singleton.1 hc
        exact ha
      · rename_i h t he
        rw [he] at ih
        intro x hx c hc
        rcases List.mem_cons.1 hx with rfl | hx
        · rcases List.mem_cons.1 hc with rfl | hc
          · exact ha
          · exact ih h (by simp) c hc
        · exact ih x (by simp [hx]) c hc
theorem spl_joinS : ∀ l : List (List UInt8), l ≠ [] → NoSl l → spl (joinS l) = l
  | [], h, _ => absurd rfl h
  | [x], _, h => spl_none (fun c hc => h x (by simp) c hc)
  | x :: y :: r, _, h => by
    rw [joinS, spl_cut _ (fun c hc => h x (by simp) c hc), spl_joinS (y :: r) (by simp) (fun z hz => h z (by simp [hz]))]
/-- Join -/
def joinP (l : List (List UInt8)) : List UInt8 := joinS (l.filter fun x => !x.isEmpty)
/-- MayName -/
def mayN (s : List UInt8) : Bool := !s.isEmpty && decide (s.length ≤ 251) && s != [46] && s != [46, 46] && !(s.any fun c => c == 47 || c == 0) && !([46, 119, 104, 46] : List UInt8).isPrefixOf s
/-- May -/
def mayP (p : List UInt8) : Bool := decide (p.length ≤ 4080) && decide ((splitP p).length < 255) && (splitP p).all mayN
/-- the place of the last slash and one more; 0 without one -/
def cutAt : List UInt8 → Nat
  | [] => 0
  | c :: l => if 0 < cutAt l then cutAt l + 1 else if c = 47 then 1 else 0
def parentP (p : List UInt8) : List UInt8 := p.take (cutAt p - 1)
def baseP (p : List UInt8) : List UInt8 := p.drop (cutAt p)
theorem cutAt_le : ∀ p, cutAt p ≤ p.length
  | [] => Nat.le_refl _
  | c :: l => by
    have := cutAt_le l
    unfold cutAt
    rw [List.length_cons]
    split
    · omega
    · split <;> omega
theorem cutAt_snoc (c : UInt8) : ∀ l, cutAt (l ++ [c]) = if c = 47 then l.length + 1 else cutAt l
  | [] => by simp [cutAt]
  | a :: l => by
    rw [List.cons_append, cutAt, cutAt_snoc c l]
    by_cases h : c = 47
    · rw [if_pos h, if_pos h, if_pos (by omega)]; simp
    · rw [if_neg h, if_neg h]; rfl
theorem cutAt_take (p : List UInt8) (k : Nat) (hk : k < p.length) : cutAt (p.take (k + 1)) = if p[k] = 47 then k + 1 else cutAt (p.take k) := by
  rw [List.take_succ_eq_append_getElem hk, cutAt_snoc, List.length_take, Nat.min_eq_left (by omega)]
theorem lastIdx_cut (s : List UInt8) : ∀ k, k ≤ s.length → Lib.lastIdx ⟨s.toArray⟩ 47 k = (cutAt (s.take k) : Int) - 1
  | 0, _ => rfl
  | k + 1, h => by
    have hk : k < s.length := by omega
    have hg : (⟨s.toArray⟩ : ByteArray).data[k]! = s[k] := by
      show s.toArray[k]! = s[k]
      simp [hk]
    rw [Lib.lastIdx, hg, cutAt_take s k hk, lastIdx_cut s k (by omega)]
    by_cases h47 : s[k] = 47
    · rw [if_pos (by rw [h47]; rfl), if_pos h47]; omega
    · rw [if_neg (fun e => h47 (UInt8.toNat_inj.1 (by have : (s[k].toNat : Int) = ((47 : UInt8).toNat : Int) := e; omega))), if_neg h47]
theorem lastIndexByte_cut (s : List UInt8) : Lib.lastIndexByte ⟨s.toArray⟩ 47 = (cutAt s : Int) - 1 := by
  have := lastIdx_cut s s.length (Nat.le_refl _)
  rw [List.take_length] at this
  exact this
/-- what stands ahead of each slash -/
def aboveP (p : List UInt8) : List (List UInt8) := (List.range p.length).filterMap fun i => if p[i]? = some 47 then some (p.take i) else none
def underP (dir p : List UInt8) : Bool := !p.isEmpty && (dir.isEmpty || (dir ++ [47]).isPrefixOf p)
/-- Clean -/
def keptP (raw : List UInt8) : List (List UInt8) := (spl raw).filter fun s => !(s.isEmpty || s == [46])
def cleanP (raw : List UInt8) : List UInt8 × Int :=
  if raw.contains 0 || ([47] : List UInt8).isPrefixOf raw || (spl raw).contains [46, 46] then ([], 30)
  else if decide (255 < (keptP raw).length) || decide (4096 < (joinS (keptP raw)).length) || (keptP raw).any (fun s => decide (255 < s.length)) then ([], 3) else (joinS (keptP raw), 0)
end Go.Proofs.YtplafpokgpolkaaGreatDoor
/- WHAT IS ALIKE FROM LAW TO LAW: the post out of 'true, and nothing that was there has changed'; arguments opened; listed variables. -/
namespace Go.Proofs.YtplafpokgpolkaaGreatDoor
open Go.ChangeShapes Go.WideShapes Go.ChangeAt Go.RowKit
theorem laidOut : laidOutB Tryz.prog = true := by kernel_rfl
theorem own : ownKnob Tryz.prog.godebug = none := by kernel_rfl
theorem trodAll_below {H : Type} {enc : TypeId × Value → H} {W W' : World} (hb : Below W.heap.size W W') : ∀ (ts : List TypeId) (vs : List Value) (ds : List (DataW H)) (ps : List MemPlace),
    (∀ t ∈ ts, Tryz.prog.readableRec t = true ∧ t < Tryz.prog.types.size) → (∀ x ∈ ps, x.block < W.heap.size) → DataW.TrodAll enc Tryz.prog W 0 (fun _ => true) true ts vs ds ps → DataW.TrodAll enc Tryz.prog W' 0 (fun b => decide (b < W.heap.size)) true ts vs ds ps := by
  intro ts
  induction ts with
  | nil =>
    intro vs ds ps _ _ h
    cases vs <;> cases ds <;> first | exact h | cases h
  | cons t ts ih =>
    intro vs ds ps ht hp h
    obtain ⟨v, vs1, d, ds1, a, b, rfl, rfl, rfl, h1, h2⟩ := trodAll_cons h
    have htt := ht t (by simp)
    exact ⟨a, b, Below.trod laidOut htt.1 htt.2 h1 hb (fun x hx => hp x (by simp [hx])), ih vs1 ds1 b (fun t' ht' => ht t' (by simp [ht'])) (fun x hx => hp x (by simp [hx])) h2, rfl⟩
/-- THE POST OF A LAW -/
theorem law_post {H : Type} {enc : TypeId × Value → H} {f : Func} {s : ChangeSpec} {W W' : World} {args : Array Value} {ds gs : List (DataW H)} {before : List MemPlace} {tb : TypeId}
    (hW : DataW.Whole enc Tryz.prog f.params.toList s.vars false W args.toList ds gs before) (hb : Below W.heap.size W W')
    (hread : ∀ t ∈ f.params.toList, Tryz.prog.readableRec t = true ∧ t < Tryz.prog.types.size) (hvars : s.vars = [])
    (hres : f.resultTypes = #[tb]) (htb : Tryz.prog.underlying tb = some .bool) (hfn : s.fn H (ds ++ gs) = { results := [.lit (.bool true)], args := ds }) :
    s.post enc Tryz.prog f false true false false W args (.bool true) W' := by
  have hlt : ∀ p ∈ before, p.block < W.heap.size := fun p hp => hW.lt p hp
  have hW0 := hW
  obtain ⟨p, q, hA, hV, rfl, hz, hn⟩ := hW
  rw [hvars] at hV
  obtain ⟨rfl, rfl⟩ := trodVars_none hV
  have hA' := trodAll_below hb _ _ _ _ hread (fun x hx => hlt x (by simpa using hx)) hA
  refine ⟨ds, [], p ++ [], [], p, [], hW0, ?_, ?_, ?_, World.keptBut_mono (fun x hx => ⟨hx, ?_⟩) (hb.frame (· ∈ p ++ [])), fun h => by cases h⟩
  · rw [hres, hfn]
    exact trodAll_cons_mk (shut_bool htb _) trodAll_mk0
  · rw [hfn]; exact hA'
  · rw [hfn, hvars]; exact rfl
  · exact .inr (.inl (by simpa using hx))
theorem okSlice {P : Program} {w : World} {r : Reach} {base : Nat} {t e : TypeId} {v : Value} (ht : P.underlying t = some (.slice e)) (h : Value.okWide P w r base t v) :
    v = .slice none 0 0 ∨ ∃ b off len cap, v = .slice (some ⟨b, off, none⟩) len cap ∧ len ≤ cap ∧ cap ≤ maxLen ∧ b < w.heap.size := by
  obtain ⟨a, len, cap, rfl⟩ := okWide_slice ht h
  simp only [Value.okWide, ht, Cell.okWide] at h
  cases a with
  | none =>
    left
    simp only [Cell.ok, ht] at h
    split at h <;> simp_all
  | some a =>
    right
    obtain ⟨b, off, spot⟩ := a
    simp only [Cell.ok, ht] at h
    obtain ⟨h1, h2, _, h3, row, cells, h4, _⟩ := h
    simp only at h3 h4
    subst h3
    refine ⟨b, off, len, cap, rfl, h1, ?_, ?_⟩
    · have : IntKind.i64.max = 9223372036854775807 := rfl
      unfold maxLen; omega
    · unfold World.shape? at h4
      rcases Nat.lt_or_ge b w.heap.size with h | h
      · exact h
      · simp [Array.getElem?_eq_none h] at h4
/-- AN ARGUMENT OF TYPE []byte, OPENED -/
theorem opened_reads {P : Program} {H : Type} {enc : TypeId × Value → H} {t e : TypeId} {r : Reach} {base : Nat} (ht : P.underlying t = some (.slice e)) (he : P.underlying e = some (.int .u8)) (hc : P.cellsOf e = 1) {W : World} {v : Value} {d : DataW H} {p : List MemPlace}
    (hok : Value.okWide P W r base t v) (h0 : DataW.Trod enc P W 0 (fun _ => true) true t v d p) : ∃ l, Reads W (fun b => b < W.heap.size) v l := by
  obtain ⟨fuel, hf⟩ := h0
  rcases okSlice ht hok with rfl | ⟨b, off, len, cap, rfl, h1, h2, h3⟩
  · exact ⟨[], Reads.ofNil⟩
  · rcases open_ints ht he hc hf with ⟨hcs, hx⟩ | ⟨a', len', cap', zs, hcs, _, hl, hm, hz, hx, hcell, hwz⟩
    · cases hcs
    · have hcs : [Value.slice (some ⟨b, off, none⟩) len cap] = [Value.slice (some a') len' cap'] := hcs
      injection hcs with hcs _
      injection hcs with hc1 hc2 hc3
      injection hc1 with hc1
      subst hc1 hc2 hc3
      simp only [if_true] at hz
      refine ⟨(zs.take len).map fun x => UInt8.ofNat x.toNat, ⟨_, cap, ?_, ?_, hm, .inr ⟨b, off, rfl, h3⟩⟩, fun b' off' n' c' he' j hj => ?_⟩
      · congr 1; simp; omega
      · simp; omega
      · injection he' with e1 _ _; injection e1 with e1; injection e1 with e1 e2 _; subst e1 e2
        have hj' : j < len := by simp at hj; omega
        have hjz : j < zs.length := by omega
        have hc := hcell j hjz
        rw [Addr.add_mid] at hc
        rw [hc]
        have hw := hwz _ (List.getElem_mem hjz)
        have hm1 : IntKind.u8.min = 0 := rfl
        have hm2 : IntKind.u8.max = 255 := rfl
        simp only [Lit.wf, Bool.and_eq_true, decide_eq_true_eq, hm1, hm2] at hw
        simp only [List.getElem_map, List.getElem_take, List.getD_eq_getElem?_getD, List.getElem?_eq_getElem hjz, Option.getD_some, UInt8.toNat_ofNat']
        congr 2
        omega
theorem laid_drop {P : Program} {W : World} {x : String × DataW Unit} {rest : List (String × DataW Unit)} (h : ∃ ps, DataW.LaidVars P W (x :: rest) ps) : ∃ ps, DataW.LaidVars P W rest ps := by
  obtain ⟨ps, ⟨g', t', cs, fuel, p, q, hg', ht', hvar, hd, h2, _⟩⟩ := h
  exact ⟨q, h2⟩
theorem tab_of_laid {P : Program} {W : World} {name : String} {k : IntKind} {zs : List Int} {rest : List (String × DataW Unit)} {g : Nat} {t e : TypeId} {n : Nat}
    (hg : P.globalNamed name = some g) (hty : (P.globals[g]?).map (·.type) = some t) (ht : P.underlying t = some (.array n e)) (he : P.underlying e = some (.int k)) (hce : P.cellsOf e = 1) (hct : P.cellsOf t = n)
    (h : ∃ ps, DataW.LaidVars P W ((name, Lib.tabData k zs) :: rest) ps) : Lib.TabIs P W name k zs := by
  obtain ⟨ps, ⟨g', t', cs, fuel, p, q, hg', ht', hvar, hd, _, _⟩⟩ := h
  obtain rfl := Option.some.inj (hg.symm.trans hg')
  obtain rfl := Option.some.inj (hty.symm.trans ht')
  unfold Lib.TabIs
  rw [hvar, ← Lib.cells_of_tab ht he hce hct hd]
/-- an argument that is a text -/
theorem okStr {P : Program} {w : World} {r : Reach} {base : Nat} {t : TypeId} {v : Value} (ht : P.underlying t = some .string) (h : Value.okWide P w r base t v) : ∃ l : List UInt8, v = .string ⟨l.toArray⟩ ∧ l.length ≤ 9223372036854775807 := by
  obtain ⟨s, rfl⟩ := okWide_string ht h
  obtain ⟨⟨l⟩⟩ := s
  refine ⟨l, rfl, ?_⟩
  simp only [Value.okWide, ht, Cell.okWide, Cell.ok] at h
  have hm : IntKind.i64.max = 9223372036854775807 := rfl
  rw [hm] at h
  have : (ByteArray.mk ⟨l⟩).size = l.length := rfl
  rw [this] at h
  omega
/-- an argument that is an array of bytes -/
theorem okBytes {P : Program} {w : World} {r : Reach} {base : Nat} {t e : TypeId} {n : Nat} {v : Value} (ht : P.underlying t = some (.array n e)) (he : P.underlying e = some (.int .u8)) (hc : P.cellsOf t = n) (hts : P.cellTypes P.depth t = some (List.replicate n e)) (h : Value.okWide P w r base t v) :
    ∃ l : List UInt8, l.length = n ∧ v = .agg (bcells l).toArray := by
  simp only [Value.okWide, ht] at h
  obtain ⟨cs, rfl, hsz, ts, hts', _, hcell⟩ := h
  obtain rfl := Option.some.inj (hts.symm.trans hts')
  rw [hc] at hsz
  have hm1 : IntKind.u8.min = 0 := rfl
  have hm2 : IntKind.u8.max = 255 := rfl
  have key : ∀ v ∈ cs.toList, ∃ c : UInt8, v = .int .u8 (c.toNat : Int) := by
    intro v hv
    obtain ⟨i, hi⟩ := List.getElem?_of_mem hv
    obtain ⟨u, hu, hok⟩ := hcell i v (by simpa using hi)
    obtain rfl : u = e := by
      have := List.mem_of_getElem? hu
      exact (List.mem_replicate.1 this).2
    simp only [Cell.okWide, he] at hok
    cases v <;> simp only [Cell.ok, he] at hok
    rename_i k x
    obtain ⟨rfl, h1, h2⟩ := hok
    rw [hm1] at h1; rw [hm2] at h2
    refine ⟨UInt8.ofNat x.toNat, ?_⟩
    congr 1
    rw [UInt8.toNat_ofNat']
    omega
  refine ⟨cs.toList.map fun v => match v with | .int _ x => UInt8.ofNat x.toNat | _ => 0, by simpa using hsz, ?_⟩
  congr 1
  apply Array.ext'
  simp only [bcells, List.map_map]
  rw [List.map_congr_left (g := id), List.map_id]
  intro v hv
  obtain ⟨c, rfl⟩ := key v hv
  simp
theorem laidVars_append {P : Program} {w : World} : ∀ (l1 l2 : List (String × DataW Unit)) (ps : List MemPlace), DataW.LaidVars P w (l1 ++ l2) ps ↔ ∃ p1 p2, DataW.LaidVars P w l1 p1 ∧ DataW.LaidVars P w l2 p2 ∧ ps = p1 ++ p2
  | [], l2, ps => by
    constructor
    · intro h; exact ⟨[], ps, rfl, h, rfl⟩
    · rintro ⟨p1, p2, h1, h2, rfl⟩
      obtain rfl : p1 = [] := h1
      exact h2
  | (n, d) :: l1, l2, ps => by
    constructor
    · rintro ⟨g, t, cs, fuel, p, q, h1, h2, h3, h4, h5, rfl⟩
      obtain ⟨q1, q2, k1, k2, rfl⟩ := (laidVars_append l1 l2 q).1 h5
      exact ⟨_, q2, ⟨g, t, cs, fuel, p, q1, h1, h2, h3, h4, k1, rfl⟩, k2, by simp⟩
    · rintro ⟨p1, p2, ⟨g, t, cs, fuel, p, q1, h1, h2, h3, h4, k1, rfl⟩, k2, rfl⟩
      exact ⟨g, t, cs, fuel, p, q1 ++ p2, h1, h2, h3, h4, (laidVars_append l1 l2 _).2 ⟨q1, p2, k1, k2, rfl⟩, by simp⟩
/-- the last two listed variables, the other way round -/
theorem laid_swap {P : Program} {w : World} (l l1 l2 : List (String × DataW Unit)) (h : laidMet P (l ++ (l1 ++ l2)) w) : laidMet P (l ++ (l2 ++ l1)) w := by
  obtain ⟨ps, hv, hn, hc⟩ := h
  obtain ⟨p, q, k1, k2, rfl⟩ := (laidVars_append l _ _).1 hv
  obtain ⟨q1, q2, m1, m2, rfl⟩ := (laidVars_append l1 l2 _).1 k2
  refine ⟨p ++ (q2 ++ q1), (laidVars_append l _ _).2 ⟨p, q2 ++ q1, k1, (laidVars_append l2 l1 _).2 ⟨q2, q1, m2, m1, rfl⟩, rfl⟩, ?_, fun b off hm => hc b off (by simp only [List.mem_append] at hm ⊢; rcases hm with h | h | h <;> simp [h])⟩
  exact (List.Perm.append_left p List.perm_append_comm).nodup_iff.1 hn
end Go.Proofs.YtplafpokgpolkaaGreatDoor
/- RUNES BEYOND ASCII: decoding takes only bytes beyond ASCII; encoding ends with one. Plain facts. -/
namespace Go.Proofs.YtplafpokgpolkaaGreatDoor
open Go.RowKit
theorem decode_high (s : ByteArray) (i : Nat) (hi : i < s.size) (h0 : 128 ≤ (s.get! i).toNat) :
    128 ≤ (Utf8.decode s i).1 ∧ (Utf8.decode s i).1 ≤ 2097151 ∧ 1 ≤ (Utf8.decode s i).2 ∧ i + (Utf8.decode s i).2 ≤ s.size ∧ ∀ k, 0 < k → k < (Utf8.decode s i).2 → 128 ≤ (s.get! (i + k)).toNat := by
  have hre : Utf8.runeError = 65533 := rfl
  unfold Utf8.decode
  simp only [Nat.add_zero, hre]
  rw [if_neg (by omega)]
  have hb : ∀ k, (s.get! (i + k)).toNat < 256 := fun k => (s.get! (i + k)).toNat_lt
  have hb0 : (s.get! i).toNat < 256 := (s.get! i).toNat_lt
  have b1 := hb 1; have b2 := hb 2; have b3 := hb 3
  split
  · rename_i hc
    simp only [Bool.and_eq_true, beq_iff_eq, decide_eq_true_eq] at hc
    split
    · refine ⟨by simp only; omega, by simp only; omega, by simp only; omega, by simp only; omega, fun k hk hk2 => ?_⟩
      obtain rfl : k = 1 := by simp only at hk2; omega
      omega
    · exact ⟨by simp, by simp, by simp, by simp only; omega, fun k hk hk2 => by simp only at hk2; omega⟩
  · split
    · rename_i hc
      simp only [Bool.and_eq_true, beq_iff_eq, decide_eq_true_eq] at hc
      split
      · rename_i hv
        simp only [ge_iff_le, Bool.and_eq_true, decide_eq_true_eq] at hv
        refine ⟨by simp only; omega, by simp only; omega, by simp only; omega, by simp only; omega, fun k hk hk2 => ?_⟩
        simp only at hk2
        rcases (by omega : k = 1 ∨ k = 2) with rfl | rfl <;> omega
      · exact ⟨by simp, by simp, by simp, by simp only; omega, fun k hk hk2 => by simp only at hk2; omega⟩
    · split
      · rename_i hc
        simp only [Bool.and_eq_true, beq_iff_eq, decide_eq_true_eq] at hc
        split
        · rename_i hv
          simp only [ge_iff_le, Bool.and_eq_true, decide_eq_true_eq] at hv
          refine ⟨by simp only; omega, by simp only; omega, by simp only; omega, by simp only; omega, fun k hk hk2 => ?_⟩
          simp only at hk2
          rcases (by omega : k = 1 ∨ k = 2 ∨ k = 3) with rfl | rfl | rfl <;> omega
        · exact ⟨by simp, by simp, by simp, by simp only; omega, fun k hk hk2 => by simp only at hk2; omega⟩
      · exact ⟨by simp, by simp, by simp, by simp only; omega, fun k hk hk2 => by simp only at hk2; omega⟩
theorem encode_high (r : Nat) (h : 128 ≤ r) : ∃ (l : List UInt8) (z : UInt8), Utf8.encode (r : Int) = ⟨(l ++ [z]).toArray⟩ ∧ 1 ≤ l.length ∧ l.length ≤ 3 ∧ 128 ≤ z.toNat := by
  have hre : Utf8.runeError = 65533 := rfl
  have hz : ∀ c : Nat, 128 ≤ (UInt8.ofNat (128 + c % 64)).toNat := fun c => by
    rw [UInt8.toNat_ofNat']; omega
  unfold Utf8.encode
  simp only [hre, Int.toNat_natCast]
  split
  · rw [if_neg (by omega)]
    split
    · exact ⟨[_], _, rfl, by simp, by simp, hz _⟩
    · split
      · exact ⟨[_, _], _, rfl, by simp, by simp, hz _⟩
      · exact ⟨[_, _, _], _, rfl, by simp, by simp, hz _⟩
  · rw [if_neg (by omega), if_neg (by omega), if_pos (by omega)]
    exact ⟨[_, _], _, rfl, by simp, by simp, hz _⟩
end Go.Proofs.YtplafpokgpolkaaGreatDoor
