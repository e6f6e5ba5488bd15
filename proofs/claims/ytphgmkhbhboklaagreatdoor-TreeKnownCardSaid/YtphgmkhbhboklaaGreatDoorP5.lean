/- PARTS OF ONE PROOF, set in one file: SMap, TarMayB, Tree, TreeGet, MapArm, TreeDel, SpcO, TreePut. Each part tells its own conditions. -/
import Derived.Maps.OwnSet
import Derived.Maps.Range
import Derived.Sort.KeysCollected
import Derived.Test.YtphgmkhbhboklaaGreatDoorP1
import Derived.Test.YtphgmkhbhboklaaGreatDoorP3
import Derived.Test.YtphgmkhbhboklaaGreatDoorP4
/- A MAP KEYED BY TEXTS, its values whatever they are: a sorted list of keys and values stands for it. -/
namespace Go.Proofs.YtphgmkhbhboklaaGreatDoor
open Go.RowKit Go.Maps Go.WideMaps
def rawE (v : Value) : Option (DataW Value × List MemPlace) := some (.held v, [])
def dSe (x : Tx × Value) : Lit × DataW Value := (.string x.1, .held x.2)
def dS (M : List (Tx × Value)) : DataW Value := .map (M.map dSe)
theorem before_lt : ∀ a b : Tx, bytesBefore a b = decide (a < b)
  | [], [] => by simp [bytesBefore]
  | [], _ :: _ => by simp [bytesBefore]
  | _ :: _, [] => by simp [bytesBefore]
  | x :: a, y :: b => by
    unfold bytesBefore
    rw [before_lt a b, Bool.eq_iff_iff]
    simp [List.cons_lt_cons_iff]
theorem insert_dS {L : List (Tx × Value)} (h : SM.Srt L) (p : Tx) (v : Value) (hn : ∀ x ∈ L, x.1 ≠ p) : DataW.insert (Lit.string p, DataW.held v) (L.map dSe) = (SM.lo L p).map dSe ++ dSe (p, v) :: (SM.hi L p).map dSe := by
  induction L with
  | nil => rfl
  | cons y r ih =>
    obtain ⟨h1, h2⟩ := List.pairwise_cons.1 h
    rw [List.map_cons]
    unfold DataW.insert
    have hb : (Lit.string p).before (dSe y).1 = decide (p < y.1) := before_lt p y.1
    rw [hb]
    by_cases e : p < y.1
    · rw [if_pos (by simpa using e)]
      have hl : SM.lo (y :: r) p = [] := by
        unfold SM.lo
        rw [List.filter_eq_nil_iff]
        intro z hz
        rcases List.mem_cons.1 hz with rfl | hz
        · simpa using tx_asymm e
        · simpa using tx_asymm (tx_trans e (h1 z hz))
      have hh : SM.hi (y :: r) p = y :: r := by
        unfold SM.hi
        rw [List.filter_eq_self]
        intro z hz
        rcases List.mem_cons.1 hz with rfl | hz
        · simpa using e
        · simpa using tx_trans e (h1 z hz)
      rw [hl, hh]; rfl
    · have e' : y.1 < p := by
        rcases tx_tri y.1 p with h | h | h
        · exact h
        · exact (hn y (by simp) h).elim
        · exact (e h).elim
      rw [if_neg (by simpa using e), ih h2 (fun x hx => hn x (by simp [hx]))]
      have hl : SM.lo (y :: r) p = y :: SM.lo r p := by unfold SM.lo; rw [List.filter_cons_of_pos (by simpa using e')]
      have hh : SM.hi (y :: r) p = SM.hi r p := by unfold SM.hi; rw [List.filter_cons_of_neg (by simpa using e)]
      rw [hl, hh]; rfl
theorem filter_dS (M : List (Tx × Value)) (p : Tx) : (M.map dSe).filter (fun x => !x.1.sameKey (.string p)) = (M.filter (fun x => x.1 != p)).map dSe := by
  rw [List.filter_map]
  rfl
theorem dS_put {M : List (Tx × Value)} (h : SM.Srt M) (p : Tx) (v : Value) : (dS M).put (.string p) (.held v) = dS (SM.put M (p, v)) := by
  unfold dS DataW.put
  simp only
  rw [filter_dS, insert_dS (h.filter _) p v (fun x hx => by simpa using (List.mem_filter.1 hx).2)]
  have h1 : SM.lo (M.filter (fun x => x.1 != p)) p = SM.lo M p := by
    unfold SM.lo
    rw [List.filter_filter]
    refine List.filter_congr (fun x _ => ?_)
    by_cases e : x.1 < p
    · have : x.1 ≠ p := fun e' => tx_irrefl _ (e' ▸ e)
      simp [e, this]
    · simp [e]
  have h2 : SM.hi (M.filter (fun x => x.1 != p)) p = SM.hi M p := by
    unfold SM.hi
    rw [List.filter_filter]
    refine List.filter_congr (fun x _ => ?_)
    by_cases e : p < x.1
    · have : x.1 ≠ p := fun e' => tx_irrefl _ (e' ▸ e)
      simp [e, this]
    · simp [e]
  rw [h1, h2]
  unfold SM.put
  rw [List.map_append, List.map_cons]
theorem dS_del (M : List (Tx × Value)) (p : Tx) : (dS M).del (.string p) = dS (M.filter (fun x => x.1 != p)) := by
  unfold dS DataW.del
  simp only
  rw [filter_dS]
theorem has_dS (M : List (Tx × Value)) (p : Tx) : Maps.has (dS M) (.string p) = (SM.look M p).isSome := by
  unfold dS
  rw [Maps.has_eq, List.any_map]
  unfold SM.look
  rw [Option.isSome_map, Bool.eq_iff_iff, List.any_eq_true, List.find?_isSome]
  rfl
theorem atKey_dS (M : List (Tx × Value)) (p : Tx) (z : DataW Value) : (dS M).atKey (.string p) z = (match SM.look M p with | some v => .held v | none => z) := by
  unfold dS DataW.atKey SM.look
  simp only
  rw [List.find?_map]
  have : ((fun q : Lit × DataW Value => q.1.sameKey (.string p)) ∘ dSe) = fun x => x.1 == p := rfl
  rw [this]
  cases M.find? (fun x => x.1 == p) <;> rfl
theorem size_dS (M : List (Tx × Value)) : Maps.size (dS M) = M.length := by simp [dS, Maps.size]
/-- block b is a map that holds M -/
structure MapS (w : World) (k : TypeId) (b : Nat) (M : List (Tx × Value)) : Prop where
  s : SM.Srt M
  l : ∀ x ∈ M, x.1.length ≤ maxLen
  o : w.ownsMap Tryz.prog k rawE b M.length (dS M)
theorem owns_tight {w : World} {k : TypeId} {b n : Nat} {M : List (Tx × Value)} (h : w.ownsMap Tryz.prog k rawE b n (dS M)) : w.ownsMap Tryz.prog k rawE b M.length (dS M) := by
  obtain ⟨es, clock, hb, F, hs, hD⟩ := h
  refine ⟨es, clock, hb, F, ?_, hD⟩
  unfold dS at hD
  injection hD with hD
  have := congrArg List.length hD
  rw [List.length_map, Go.length_sorted, List.length_map, Array.length_toList] at this
  exact Nat.le_of_eq this.symm
theorem MapS.lt {w : World} {k : TypeId} {b : Nat} {M : List (Tx × Value)} (h : MapS w k b M) : b < w.heap.size := h.o.lt
theorem MapS.loc {w w' : World} {k : TypeId} {b : Nat} {M : List (Tx × Value)} (h : MapS w k b M) (hb : w'.heap[b]? = w.heap[b]?) : MapS w' k b M := by
  obtain ⟨es, clock, h1, rest⟩ := h.o
  exact ⟨h.s, h.l, es, clock, hb.trans h1, rest⟩
section
variable {k : TypeId} (hk : Tryz.prog.underlying k = some .string)
include hk in
theorem keyS {p : Tx} (hp : p.length ≤ maxLen) : keyOf Tryz.prog k (.string ⟨p.toArray⟩) = some (.string p) := by
  have := keyOf_string_mk hk (s := ⟨p.toArray⟩) hp
  simpa using this
omit hk in
theorem MapS.made (w : World) : MapS (w.alloc (.map #[] 0)) k w.heap.size [] := ⟨SM.Srt.nil, fun _ h => (List.not_mem_nil h).elim, World.ownsMap_made _ _ _ _⟩
variable {t e : TypeId} (ht : Tryz.prog.underlying t = some (.map k e))
include hk ht
set_option maxRecDepth 100000 in
theorem MapS.lookOk {w : World} {b : Nat} {M : List (Tx × Value)} (h : MapS w k b M) {z : Value} (hz : (zeroValue e).run Tryz.prog w = .ok z w) {p : Tx} (hp : p.length ≤ maxLen) :
    (Instr.lookup t (.map (some b)) (.string ⟨p.toArray⟩) true).run Tryz.prog w = .ok (.tuple #[(SM.look M p).getD z, .bool (SM.look M p).isSome]) w := by
  obtain ⟨v, ps, hr, hv⟩ := h.o.look_ok (string_keyed hk) ht hz (zd := .held z) (zp := []) rfl (keyS hk hp)
  rw [has_dS] at hr
  rw [hr, atKey_dS] at *
  unfold rawE at hv
  injection hv with hv
  injection hv with hv _
  cases hl : SM.look M p with
  | none => rw [hl] at hv; injection hv with hv; rw [hv]; rfl
  | some u => rw [hl] at hv; injection hv with hv; rw [hv]; rfl
set_option maxRecDepth 100000 in
theorem MapS.look1 {w : World} {b : Nat} {M : List (Tx × Value)} (h : MapS w k b M) {z : Value} (hz : (zeroValue e).run Tryz.prog w = .ok z w) {p : Tx} (hp : p.length ≤ maxLen) :
    (Instr.lookup t (.map (some b)) (.string ⟨p.toArray⟩) false).run Tryz.prog w = .ok ((SM.look M p).getD z) w := by
  obtain ⟨v, ps, hr, hv⟩ := h.o.lookup (string_keyed hk) ht hz (zd := .held z) (zp := []) rfl (keyS hk hp)
  rw [hr, atKey_dS] at *
  unfold rawE at hv
  injection hv with hv
  injection hv with hv _
  cases hl : SM.look M p with
  | none => rw [hl] at hv; injection hv with hv; rw [hv]; rfl
  | some u => rw [hl] at hv; injection hv with hv; rw [hv]; rfl
omit hk in
theorem MapS.len {w : World} {b : Nat} {M : List (Tx × Value)} (h : MapS w k b M) (ty : TypeId) : (Builtin.len_ #[t] ty #[.map (some b)]).run Tryz.prog w = .ok (.int .i64 (M.length : Int)) w := by
  rw [h.o.len ht ty, size_dS]
set_option maxRecDepth 100000 in
theorem MapS.put {w : World} {b : Nat} {M : List (Tx × Value)} (h : MapS w k b M) {p : Tx} (hp : p.length ≤ maxLen) (hn : M.length < maxLen) (v : Value) :
    ∃ w', (Instr.mapUpdate t (.map (some b)) (.string ⟨p.toArray⟩) v).run Tryz.prog w = .ok () w' ∧ MapS w' k b (SM.put M (p, v)) ∧ Chg (fun j => j = b) w.heap.size w w' := by
  obtain ⟨w', hr, ho, hg⟩ := h.o.update (string_keyed hk) ht hn (keyS hk hp) (val := v) (d := .held v) (ps := []) rfl
  rw [dS_put h.s] at ho
  refine ⟨w', hr, ⟨h.s.put _, fun x hx => ?_, owns_tight ho⟩, ⟨hg.os, hg.tape, hg.output, hg.size, fun j hj hm => hg.block j hj (fun e => hm (by injection e))⟩⟩
  rcases SM.mem_put.1 hx with rfl | ⟨hx, _⟩
  · exact hp
  · exact h.l x hx
set_option maxRecDepth 100000 in
theorem MapS.del {w : World} {b : Nat} {M : List (Tx × Value)} (h : MapS w k b M) {p : Tx} (hp : p.length ≤ maxLen) (ty : TypeId) :
    ∃ w', (Builtin.delete_ #[t, k] ty #[.map (some b), .string ⟨p.toArray⟩]).run Tryz.prog w = .ok (.tuple #[]) w' ∧ MapS w' k b (M.filter (fun x => x.1 != p)) ∧ Chg (fun j => j = b) w.heap.size w w' := by
  obtain ⟨w', hr, ho, hm⟩ := h.o.drop (string_keyed hk) ht (keyS hk hp) ty
  rw [dS_del] at ho
  have hg := hm.grown
  exact ⟨w', hr, ⟨h.s.filter _, fun x hx => h.l x (List.mem_filter.1 hx).1, owns_tight ho⟩, ⟨hg.os, hg.tape, hg.output, hg.size, fun j hj hm => hg.block j hj (fun e => hm (by injection e))⟩⟩
end
/-- a range over such a map is under way: block r is its iterator; todo: is the key still to come? -/
structure RgS (w : World) (k : TypeId) (b r : Nat) (M : List (Tx × Value)) (todo : Tx → Bool) (cnt : Nat) : Prop where
  s : SM.Srt M
  l : ∀ x ∈ M, x.1.length ≤ maxLen
  o : ∃ n left, w.ranges Tryz.prog k rawE b r n (dS M) left cnt ∧ ∀ p : Tx, left (.string p) = todo p
theorem RgS.map {w : World} {k : TypeId} {b r : Nat} {M : List (Tx × Value)} {todo : Tx → Bool} {cnt : Nat} (h : RgS w k b r M todo cnt) : MapS w k b M := by
  obtain ⟨n, left, ho, _⟩ := h.o
  exact ⟨h.s, h.l, owns_tight ho.owns⟩
theorem RgS.loc {w w' : World} {k : TypeId} {b r : Nat} {M : List (Tx × Value)} {todo : Tx → Bool} {cnt : Nat} (h : RgS w k b r M todo cnt) (hb : w'.heap[b]? = w.heap[b]?) (hr : w'.heap[r]? = w.heap[r]?) : RgS w' k b r M todo cnt := by
  obtain ⟨n, left, ⟨es, clock, since, seen, c0, h1, h2, h3, h4, h5, h6⟩, ht⟩ := h.o
  exact ⟨h.s, h.l, n, left, ⟨es, clock, since, seen, c0, hb.trans h1, h2, h3, h4, hr.trans h5, h6⟩, ht⟩
theorem RgS.lt {w : World} {k : TypeId} {b r : Nat} {M : List (Tx × Value)} {todo : Tx → Bool} {cnt : Nat} (h : RgS w k b r M todo cnt) : b < w.heap.size ∧ r < w.heap.size ∧ r ≠ b := by
  have := h.map.lt
  obtain ⟨n, left, ho, _⟩ := h.o
  exact ⟨this, ho.lt, ho.ne⟩
section
variable {k : TypeId} (hk : Tryz.prog.underlying k = some .string)
include hk
theorem MapS.range {t e : TypeId} (ht : Tryz.prog.underlying t = some (.map k e)) {w : World} {b : Nat} {M : List (Tx × Value)} (h : MapS w k b M) :
    ∃ w', (Instr.range t (.map (some b))).run Tryz.prog w = .ok (.pointer (some ⟨w.heap.size, 0, none⟩)) w' ∧ RgS w' k b w.heap.size M (fun p => (SM.look M p).isSome) M.length ∧ Below w.heap.size w w' ∧ w'.heap.size = w.heap.size + 1 := by
  obtain ⟨w', hr, ho, hg, hs⟩ := h.o.range (string_keyed hk) ht
  refine ⟨w', hr, ⟨h.s, h.l, _, _, by rw [size_dS] at ho; exact ho, fun p => has_dS M p⟩, ⟨hg.os, hg.tape, hg.output, hg.size, fun j hj => hg.block j hj (by simp)⟩, hs⟩
set_option maxRecDepth 100000 in
theorem RgS.next {w : World} {b r : Nat} {M : List (Tx × Value)} {todo : Tx → Bool} {cnt : Nat} (h : RgS w k b r M todo cnt) (ty : TypeId) :
    (cnt = 0 ∧ (∀ p, todo p = false) ∧ (Instr.next (.pointer (some ⟨r, 0, none⟩)) false ty).run Tryz.prog w = .ok (.tuple #[.bool false]) w) ∨
    ∃ p v w' cnt', todo p = true ∧ SM.look M p = some v ∧ (Instr.next (.pointer (some ⟨r, 0, none⟩)) false ty).run Tryz.prog w = .ok (.tuple #[.bool true, .string ⟨p.toArray⟩, v]) w' ∧
      RgS w' k b r M (fun q => todo q && q != p) cnt' ∧ cnt' < cnt ∧ Chg (fun j => j = r) w.heap.size w w' ∧ w'.heap.size = w.heap.size ∧ (Instr.entry (.pointer (some ⟨r, 0, none⟩))).run Tryz.prog w' = .ok (.tuple #[.string ⟨p.toArray⟩, v]) w' := by
  obtain ⟨n, left, ho, htd⟩ := h.o
  rcases ho.next (string_keyed hk) ty with ⟨h0, hl, hr⟩ | ⟨key, v, kl, y, w', cnt', hkey, hlk, hv, hat, hr, hrg, hlt, hg, hsz, hen⟩
  · exact .inl ⟨h0, fun p => by rw [← htd, hl], hr⟩
  · obtain ⟨p, rfl, rfl, hp⟩ := Maps.keyOf_str hk hkey
    unfold rawE at hv
    injection hv with hv
    refine .inr ⟨p, v, w', cnt', by rw [← htd]; exact hlk, ?_, hr, ⟨h.s, h.l, n, _, hrg, fun q => ?_⟩, hlt, ⟨hg.os, hg.tape, hg.output, hg.size, fun j hj hm => hg.block j hj (fun e => hm (by injection e))⟩, hsz, hen⟩
    · have h1 := hat .nil
      rw [atKey_dS, ← hv] at h1
      cases hl : SM.look M p with
      | none => rw [hl] at h1; cases h1
      | some u => rw [hl] at h1; injection h1 with h1; rw [h1]
    · simp only [htd]
      rfl
theorem RgS.del {t e : TypeId} (ht : Tryz.prog.underlying t = some (.map k e)) {w : World} {b r : Nat} {M : List (Tx × Value)} {todo : Tx → Bool} {cnt : Nat} (h : RgS w k b r M todo cnt) {p : Tx} (hp : p.length ≤ maxLen) (ty : TypeId) :
    ∃ w' cnt', (Builtin.delete_ #[t, k] ty #[.map (some b), .string ⟨p.toArray⟩]).run Tryz.prog w = .ok (.tuple #[]) w' ∧ RgS w' k b r (M.filter (fun x => x.1 != p)) (fun q => todo q && q != p) cnt' ∧ cnt' ≤ cnt ∧ Chg (fun j => j = b) w.heap.size w w' := by
  obtain ⟨n, left, ho, htd⟩ := h.o
  obtain ⟨w', cnt', hr, hrg, hle, hm⟩ := ho.drop (string_keyed hk) ht (keyS hk hp) ty
  rw [dS_del] at hrg
  have hg := hm.grown
  exact ⟨w', cnt', hr, ⟨h.s.filter _, fun x hx => h.l x (List.mem_filter.1 hx).1, n, _, hrg, fun q => by simp only [htd]; rfl⟩, hle, ⟨hg.os, hg.tape, hg.output, hg.size, fun j hj hm => hg.block j hj (fun e => hm (by injection e))⟩⟩
end
/-- what has come, when one more comes -/
theorem came_step {α : Type} {M : List (Tx × α)} (h : SM.Srt M) {todo : Tx → Bool} {p : Tx} {v : α} (hp : todo p = true) (hl : SM.look M p = some v) :
    (M.filter (fun x => !(todo x.1 && x.1 != p))).Perm (M.filter (fun x => !todo x.1) ++ [(p, v)]) := by
  refine (List.perm_ext_iff_of_nodup ?_ ?_).2 (fun x => ?_)
  · exact List.Pairwise.imp (R := fun a b : Tx × α => a.1 < b.1) (fun {a b} hab (e : a = b) => tx_irrefl a.1 (by rw [← e] at hab; exact hab)) (h.filter _)
  · have hs : SM.Srt (M.filter (fun x => !todo x.1)) := h.filter _
    have hnd := List.Pairwise.imp (R := fun a b : Tx × α => a.1 < b.1) (fun {a b} hab (e : a = b) => tx_irrefl a.1 (by rw [← e] at hab; exact hab)) hs
    refine List.nodup_append.2 ⟨hnd, by simp, fun a ha b hb e => ?_⟩
    obtain rfl : b = (p, v) := by simpa using hb
    subst e
    have := (List.mem_filter.1 ha).2
    simp [hp] at this
  · simp only [List.mem_filter, List.mem_append, List.mem_singleton]
    constructor
    · rintro ⟨hm, hx⟩
      by_cases e : x.1 = p
      · refine .inr ?_
        obtain ⟨q, u⟩ := x
        simp only at e
        subst e
        rw [h.one hm (SM.look_mem hl)]
      · refine .inl ⟨hm, ?_⟩
        simpa [e] using hx
    · rintro (⟨hm, hx⟩ | rfl)
      · refine ⟨hm, ?_⟩
        have : todo x.1 = false := by simpa using hx
        simp [this]
      · exact ⟨SM.look_mem hl, by simp⟩
theorem came_start {α : Type} (M : List (Tx × α)) : M.filter (fun x => !(SM.look M x.1).isSome) = [] := by
  rw [List.filter_eq_nil_iff]
  intro x hx
  cases hl : SM.look M x.1 with
  | none => exact absurd rfl (SM.look_none.1 hl x hx)
  | some v => simp
theorem came_all {α : Type} (M : List (Tx × α)) {todo : Tx → Bool} (h : ∀ p, todo p = false) : M.filter (fun x => !todo x.1) = M := by
  rw [List.filter_eq_self]
  intro x _
  simp [h]
/-- as assertions -/
def msA (k : TypeId) (b : Nat) (M : List (Tx × Value)) : As := ⟨fun j => j = b, fun w => MapS w k b M, fun _ _ h hp => hp.loc (h b rfl)⟩
def rgA (k : TypeId) (b r : Nat) (M : List (Tx × Value)) (todo : Tx → Bool) (cnt : Nat) : As := ⟨fun j => j = b ∨ j = r, fun w => RgS w k b r M todo cnt, fun _ _ h hp => hp.loc (h b (.inl rfl)) (h r (.inr rfl))⟩
theorem Hp.newMap {M : Nat → Prop} {w wr : World} {ls : List As} (h : Hp M w wr ls) (k : TypeId) : Hp M w (wr.alloc (.map #[] 0)) (ls ++ [msA k wr.heap.size []]) :=
  h.push _ (.of_below ((Below.refl _ _).alloc (Nat.le_refl _) _)) (MapS.made wr) (fun b hb => by have hb : b = _ := hb; subst hb; simp)
end Go.Proofs.YtphgmkhbhboklaaGreatDoor
/- tar.May; tree.May. -/
namespace Go.Proofs.YtphgmkhbhboklaaGreatDoor
open Go.RowKit
theorem kindT_zero (k : Int) : ((kindT k : Int) == 0) = !decide (1 ≤ k ∧ k ≤ 4) := by
  unfold kindT
  by_cases h1 : k = 1
  · subst h1; rfl
  · by_cases h2 : k = 2
    · subst h2; rfl
    · by_cases h3 : k = 3
      · subst h3; rfl
      · by_cases h4 : k = 4
        · subst h4; rfl
        · have : ¬ (1 ≤ k ∧ k ≤ 4) := by omega
          simp [h1, h2, h3, h4, this]
set_option maxHeartbeats 2000000 in
set_option maxRecDepth 100000 in
theorem may_any' (m : Mb) (av dv : Value) (hsm : Sm m) (B : Nat) (w : World) (hB : B ≤ w.heap.size) (hM : Mx B w) (hC : Cls B w) (hT : Typ B w) (hr : NdR w (· < w.heap.size) m.2 av dv) :
    Calls Tryz.prog 40 #[.agg (mbC m av dv)] w fun e w' => e = .returned (.bool (mayT m)) ∧ Below w.heap.size w w' := by
  obtain ⟨p, nd⟩ := m
  obtain ⟨kind, mode, uid, gid, time, attrs, data, link⟩ := nd
  obtain ⟨sp, sl, sd, sa, sn, sk⟩ := hsm
  simp only at sp sl sd sa sn sk
  obtain ⟨ra, rd⟩ := hr
  simp only at ra rd
  have HCL : Keep (∀ wx, Below w.heap.size w wx → Calls Tryz.prog 39 #[.string ⟨p.toArray⟩] wx fun e w' => e = .returned (.tuple #[.int .i64 (classP p).1, .string ⟨(classP p).2.toArray⟩]) ∧ Below wx.heap.size wx w') :=
    ⟨fun wx h => class_any p (by omega) B wx (Nat.le_trans hB h.size) (hM.on (h.mono hB)) (hC.on (h.mono hB))⟩
  have HMA : Keep (∀ wx, Below w.heap.size w wx → Calls Tryz.prog 71 #[av] wx fun e w' => e = .returned (.bool (mayA attrs)) ∧ Below wx.heap.size wx w') :=
    ⟨fun wx h => maya_any av attrs sa sn wx ((ra.below h (fun b hb => hb)).mono (fun b hb => Nat.lt_of_lt_of_le hb h.size))⟩
  have HML : Keep (∀ (wx : World) is, Calls Tryz.prog 72 #[.string ⟨link.toArray⟩, .bool is] wx fun e w' => e = .returned (.bool (mayL link is)) ∧ wx = w') := ⟨fun wx is => mayl_any link is wx⟩
  have HTY : Keep (∀ wx, Below w.heap.size w wx → ∃ b, wx.cell? ⟨1, 0, none⟩ = some (.map (some b)) ∧ (Instr.lookup 102 (.map (some b)) (.int .i64 kind) false).run Tryz.prog wx = .ok (.int .u8 (kindT kind : Int)) wx) := ⟨fun wx h => (hT.on (h.mono hB)).look kind sk⟩
  have HKZ := Keep.keep (kindT_zero kind)
  obtain ⟨ad, cd, hdv, hd1, hd2, -⟩ := rd.shape
  obtain ⟨aa, ca, hav, ha1, ha2, -⟩ := ra.shape
  have HMT : Keep (mayT (p, ⟨kind, mode, uid, gid, time, attrs, data, link⟩) = (decide (¬ (classP p).1 = 0) && decide (1 ≤ kind ∧ kind ≤ 4) && decide (mode ≤ 4095) && mayA attrs && mayL link (decide (kind = 3)) && decide (data.length ≤ 16777216) && (decide (kind = 2) || decide (data.length = 0)))) := ⟨rfl⟩
  generalize hmt : mayT (p, ⟨kind, mode, uid, gid, time, attrs, data, link⟩) = mt at *
  clear hmt ra rd hM hC hT hB
  generalize classP p = cp at *
  obtain ⟨cl, tg⟩ := cp
  generalize mayA attrs = ma at *
  unfold mbC strV
  simp only at HCL HMT ⊢
  go_enter Tryz.func40, Tryz.ntmps40
  go_wp2_with fail
  refine calls_at (R := fun w1 => Hp NoM w w1 [rowA w.heap.size 32 #[.string ⟨p.toArray⟩, .int .i64 kind, .int .u32 mode, .int .u32 uid, .int .u32 gid, .int .i64 time, av, dv, .string ⟨link.toArray⟩]]) ?_ ?_
  · subst hdv hav
    exact (Hp.begin NoM w).newRow _ _
  intro w1 H1
  refine (HCL.out w1 H1.out.below).mono ?_
  rintro e w2 ⟨rfl, hb2⟩
  have H2 := Keep.keep (H1.out.call hb2)
  have hrow := H2.out.row 0 rfl
  have c1 := hrow.cell (i := 1) rfl
  have c2 := hrow.cell (i := 2) rfl
  have c3 := hrow.cell (i := 3) rfl
  have c4 := hrow.cell (i := 4) rfl
  have c5 := hrow.cell (i := 5) rfl
  have c6 := hrow.cell (i := 6) rfl
  have c7 := hrow.cell (i := 7) rfl
  have c8 := hrow.cell (i := 8) rfl
  clear hrow hb2 H1
  subst hdv hav
  go_upto_region 3 with fail
  refine wp_world (R := fun w3 => Hp NoM w w3 [rowA w.heap.size 32 #[.string ⟨p.toArray⟩, .int .i64 kind, .int .u32 mode, .int .u32 uid, .int .u32 gid, .int .i64 time, .slice aa attrs.length ca, .slice ad data.length cd, .string ⟨link.toArray⟩],
    rowA w2.heap.size 30 #[.int .i64 kind, .int .u32 mode, .int .u32 uid, .int .u32 gid, .int .i64 time, .slice aa attrs.length ca, .slice ad data.length cd, .string ⟨link.toArray⟩]]) ?_ ?_
  · exact H2.out.newRow _ _
  intro w3 H3
  clear c1 c2 c3 c4 c5 c6 c7 c8
  have hrow := H3.out.row 1 rfl
  generalize w2.heap.size = T at *
  have c0 := hrow.cell (i := 0) rfl
  have c1 := hrow.cell (i := 1) rfl
  have c5 := hrow.cell (i := 5) rfl
  have c6 := hrow.cell (i := 6) rfl
  have c7 := hrow.cell (i := 7) rfl
  obtain ⟨bt, hct, hlk⟩ := HTY.out w3 H3.out.below
  clear hrow
  have HK0 := HKZ.out
  have HW : Keep (Below w.heap.size w w3) := ⟨H3.out.below⟩
  have hkz := HK0
  by_cases z0 : cl = 0
  · have hz0 : (cl == 0) = true := by rw [z0]; rfl
    have e0 : decide (¬ cl = 0) = false := by simp [z0]
    clear z0 hkz HK0
    go_wp2_with fail
    go_ret
    exact ⟨by rw [HMT.out, e0]; rfl, HW.out⟩
  have hz0 : (cl == 0) = false := by simpa using z0
  have e0 : decide (¬ cl = 0) = true := by simp [z0]
  clear z0
  by_cases z1 : 1 ≤ kind ∧ kind ≤ 4
  rotate_left
  · have e1 : decide (1 ≤ kind ∧ kind ≤ 4) = false := decide_eq_false z1
    rw [e1] at hkz HK0
    have hk1 : ((kindT kind : Int) == 0) = true := HK0
    clear hkz HK0 z1
    go_wp2_with fail
    go_ret
    exact ⟨by rw [HMT.out, e0, e1]; rfl, HW.out⟩
  have e1 : decide (1 ≤ kind ∧ kind ≤ 4) = true := decide_eq_true z1
  rw [e1] at hkz HK0
  have hk1 : ((kindT kind : Int) == 0) = false := HK0
  clear hkz HK0
  by_cases z2 : mode ≤ 4095
  rotate_left
  · have e2 : decide (mode ≤ 4095) = false := decide_eq_false z2
    have hm2 : decide (4095 < mode) = true := decide_eq_true (by omega)
    clear z2 z1
    go_wp2_with fail
    go_ret
    exact ⟨by rw [HMT.out, e0, e1, e2]; rfl, HW.out⟩
  have e2 : decide (mode ≤ 4095) = true := decide_eq_true z2
  have hm2 : decide (4095 < mode) = false := decide_eq_false (by omega)
  clear z2 z1
  have E := Keep.keep (And.intro e0 (And.intro e1 e2))
  clear e0 e1 e2
  go_wp2_with fail
  refine (HMA.out w3 HW.out).mono ?_
  rintro e w4 ⟨rfl, hb4⟩
  have H4 := Keep.keep (H3.out.call hb4)
  have HW4 := Keep.keep H4.out.below
  have hrow := H4.out.row 1 rfl
  clear c0 c1 c5 c6 c7 hct hlk hb4
  have c0 := hrow.cell (i := 0) rfl
  have c6 := hrow.cell (i := 6) rfl
  have c7 := hrow.cell (i := 7) rfl
  clear hrow
  cases ma with
  | false =>
    go_wp2_with fail
    go_ret
    exact ⟨by rw [HMT.out, E.out.1, E.out.2.1, E.out.2.2]; rfl, HW4.out⟩
  | true =>
    have h3 : (kind == 3) = decide (kind = 3) := by rw [Bool.eq_iff_iff]; simp
    have H3L := Keep.keep (HML.out w4 (decide (kind = 3)))
    obtain ⟨s3, hs3⟩ : ∃ s3, decide (kind = 3) = s3 := ⟨_, rfl⟩
    rw [hs3] at h3 H3L HMT
    clear hs3 HML
    obtain ⟨ml, hml⟩ : ∃ ml, mayL link s3 = ml := ⟨_, rfl⟩
    rw [hml] at H3L HMT
    clear hml
    go_wp2_with fail
    refine H3L.out.mono ?_
    rintro e w5 ⟨rfl, rfl⟩
    cases ml with
    | false =>
      go_wp2_with fail
      go_ret
      exact ⟨by rw [HMT.out, E.out.1, E.out.2.1, E.out.2.2]; rfl, HW4.out⟩
    | true =>
      have HM2 : Keep (mt = (decide (data.length ≤ 16777216) && (decide (kind = 2) || decide (data.length = 0)))) := ⟨by rw [HMT.out, E.out.1, E.out.2.1, E.out.2.2]; rfl⟩
      have hdl : decide ((data.length : Int) ≤ 16777216) = true := decide_eq_true (by omega)
      have hdn : decide (data.length ≤ 16777216) = true := decide_eq_true (by omega)
      have h2 : (kind == 2) = decide (kind = 2) := by rw [Bool.eq_iff_iff]; simp
      obtain ⟨s2, hs2⟩ : ∃ s2, decide (kind = 2) = s2 := ⟨_, rfl⟩
      have hz : ((data.length : Int) == 0) = decide (data.length = 0) := by rw [Bool.eq_iff_iff]; simp
      obtain ⟨z, hz2⟩ : ∃ z, decide (data.length = 0) = z := ⟨_, rfl⟩
      rw [hs2] at h2 HM2
      rw [hz2] at hz HM2
      rw [hdn] at HM2
      clear hs2 hz2 hdn HMT
      cases s2 <;> cases z
      all_goals
        go_wp2_with fail
        go_ret
        exact ⟨by rw [HM2.out]; rfl, HW4.out⟩
set_option maxHeartbeats 1000000 in
set_option maxRecDepth 100000 in
theorem tmay_any (m : Mb) (av dv : Value) (hsm : Sm m) (B : Nat) (w : World) (hB : B ≤ w.heap.size) (hM : Mx B w) (hC : Cls B w) (hT : Typ B w) (hr : NdR w (· < w.heap.size) m.2 av dv) :
    Calls Tryz.prog 17 #[.agg (mbC m av dv)] w fun e w' => e = .returned (.bool (mayM m)) ∧ Below w.heap.size w w' := by
  have HCL : Keep (∀ wx, Below w.heap.size w wx → Calls Tryz.prog 39 #[.string ⟨m.1.toArray⟩] wx fun e w' => e = .returned (.tuple #[.int .i64 (classP m.1).1, .string ⟨(classP m.1).2.toArray⟩]) ∧ Below wx.heap.size wx w') :=
    ⟨fun wx h => class_any m.1 (by have := hsm.p; omega) B wx (Nat.le_trans hB h.size) (hM.on (h.mono hB)) (hC.on (h.mono hB))⟩
  have HTM : Keep (∀ wx, Below w.heap.size w wx → Calls Tryz.prog 40 #[.agg (mbC m av dv)] wx fun e w' => e = .returned (.bool (mayT m)) ∧ Below wx.heap.size wx w') :=
    ⟨fun wx h => may_any' m av dv hsm B wx (Nat.le_trans hB h.size) (hM.on (h.mono hB)) (hC.on (h.mono hB)) (hT.on (h.mono hB)) ((hr.below h (fun b hb => hb)).mono (fun b hb => Nat.lt_of_lt_of_le hb h.size))⟩
  have HMM : Keep (mayM m = (decide ((classP m.1).1 = 1) && mayT m)) := ⟨rfl⟩
  obtain ⟨ad, cd, hdv, -⟩ := hr.dt.shape
  obtain ⟨aa, ca, hav, -⟩ := hr.at_.shape
  obtain ⟨p, nd⟩ := m
  obtain ⟨kind, mode, uid, gid, time, attrs, data, link⟩ := nd
  clear hr hM hC hT hB hsm
  simp only at hdv hav
  subst hdv hav
  have HMC : Keep (mbC (p, ⟨kind, mode, uid, gid, time, attrs, data, link⟩) (.slice aa attrs.length ca) (.slice ad data.length cd) = #[.string ⟨p.toArray⟩, .int .i64 kind, .int .u32 mode, .int .u32 uid, .int .u32 gid, .int .i64 time, .slice aa attrs.length ca, .slice ad data.length cd, .string ⟨link.toArray⟩]) := ⟨rfl⟩
  rw [HMC.out] at HTM ⊢
  generalize mayM (p, ⟨kind, mode, uid, gid, time, attrs, data, link⟩) = mm at *
  generalize mayT (p, ⟨kind, mode, uid, gid, time, attrs, data, link⟩) = mt at *
  simp only at HCL HMM
  generalize classP p = cp at *
  obtain ⟨cl, tg⟩ := cp
  simp only at HCL HMM
  go_enter Tryz.func17, Tryz.ntmps17
  go_wp2_with fail
  refine calls_at (R := fun w1 => Hp NoM w w1 [rowA w.heap.size 32 #[.string ⟨p.toArray⟩, .int .i64 kind, .int .u32 mode, .int .u32 uid, .int .u32 gid, .int .i64 time, .slice aa attrs.length ca, .slice ad data.length cd, .string ⟨link.toArray⟩]]) ((Hp.begin NoM w).newRow _ _) ?_
  intro w1 H1
  refine (HCL.out w1 H1.out.below).mono ?_
  rintro e w2 ⟨rfl, hb2⟩
  have H2 := Keep.keep (H1.out.call hb2)
  have HW := Keep.keep H2.out.below
  have HRW := Keep.keep (H2.out.row 0 rfl)
  have HSZ : Keep ((#[.string ⟨p.toArray⟩, .int .i64 kind, .int .u32 mode, .int .u32 uid, .int .u32 gid, .int .i64 time, .slice aa attrs.length ca, .slice ad data.length cd, .string ⟨link.toArray⟩] : Array Value).size = 9) := ⟨rfl⟩
  clear hb2 H1
  by_cases z0 : cl = 1
  · have hz0 : (cl == 1) = true := by rw [z0]; rfl
    have e0 : decide (cl = 1) = true := decide_eq_true z0
    rw [e0] at HMM
    clear z0 e0
    go_wp2_with (first | ((with_reducible refine arm_loadRow HRW.out aggM HSZ.out ?_ ?_); (focus rfl); simp only [Act.put, List.setIfInBounds_toArray, List.set_cons_succ, List.set_cons_zero]) | ((with_reducible refine arm_loadRowG ?_ HRW.out aggM HSZ.out ?_ ?_); (focus rfl); (focus rfl); simp only [Act.put, List.setIfInBounds_toArray, List.set_cons_succ, List.set_cons_zero]))
    refine (HTM.out w2 HW.out).mono ?_
    rintro e w3 ⟨rfl, hb3⟩
    have HW3 := Keep.keep (HW.out.trans (hb3.mono HW.out.size))
    clear hb3
    go_wp2_with fail
    go_ret
    exact ⟨by rw [HMM.out]; rfl, HW3.out⟩
  · have hz0 : (cl == 1) = false := by simpa using z0
    have e0 : decide (cl = 1) = false := decide_eq_false z0
    rw [e0] at HMM
    clear z0 e0
    go_wp2_with fail
    go_ret
    exact ⟨by rw [HMM.out]; rfl, HW.out⟩
end Go.Proofs.YtphgmkhbhboklaaGreatDoor
/- A TREE in memory; none, dir, Len, Get. -/
namespace Go.Proofs.YtphgmkhbhboklaaGreatDoor
open Go.RowKit
theorem cell_loc {w w' : World} {b o : Nat} (h : w'.heap[b]? = w.heap[b]?) : w'.cell? ⟨b, o, none⟩ = w.cell? ⟨b, o, none⟩ := World.cell?_of_block (w := w) h
theorem Reads.loc {N : Nat → Prop} {w w' : World} {v : Value} {l : List UInt8} (h : Reads w N v l) (hb : ∀ b, N b → w'.heap[b]? = w.heap[b]?) : Reads w' N v l := by
  refine ⟨h.shape, fun b off n cap e j hj => ?_⟩
  subst e
  have := (h.blk (by have := h.len.2.1; omega)).1
  rw [cell_loc (hb b this)]
  exact h.cell b off n cap rfl j hj
theorem RdV.loc {N : Nat → Prop} {w w' : World} {k n : Nat} {v : Value} {vs : List Value} (h : RdV w N k v n vs) (hb : ∀ b, N b → w'.heap[b]? = w.heap[b]?) : RdV w' N k v n vs := by
  refine ⟨h.len, h.shape, fun b off m cap e j u hj => ?_⟩
  subst e
  have hj2 := (List.getElem?_eq_some_iff.1 hj).1
  have hn : 0 < n := by
    rcases Nat.eq_zero_or_pos n with h0 | h0
    · rw [h.len, h0] at hj2; omega
    · exact h0
  have := (h.blk (by have := h.lens.2.1; omega)).1
  rw [cell_loc (hb b this)]
  exact h.cell b off m cap rfl j u hj
theorem NdR.loc {w w' : World} {N : Nat → Prop} {n : Nd} {av dv : Value} (h : NdR w N n av dv) (hb : ∀ b, N b → w'.heap[b]? = w.heap[b]?) : NdR w' N n av dv := ⟨h.at_.loc hb, h.dt.loc hb⟩
/-- the map's entries: each node with its two slices -/
def entries (f : Tx → Value × Value) (L : List Mb) : List (Tx × Value) := L.map fun m => (m.1, .agg (ndC m.2 (f m.1).1 (f m.1).2))
structure TreeIn (w : World) (T mb : Nat) (Bk : Nat → Prop) (f : Tx → Value × Value) (L : List Mb) : Prop where
  row : Row w T 65 #[.map (some mb)]
  map : MapS w 9 mb (entries f L)
  nd : ∀ m ∈ L, NdR w Bk m.2 (f m.1).1 (f m.1).2
  sm : ∀ m ∈ L, Sm m
  ne : T ≠ mb ∧ ¬ Bk T ∧ ¬ Bk mb
theorem srt_entries {f : Tx → Value × Value} {L : List Mb} : SM.Srt (entries f L) ↔ SM.Srt L := by
  unfold SM.Srt entries
  rw [List.pairwise_map]
theorem look_entries (f : Tx → Value × Value) (L : List Mb) (p : Tx) : SM.look (entries f L) p = (SM.look L p).map fun n => .agg (ndC n (f p).1 (f p).2) := by
  unfold SM.look entries
  rw [List.find?_map]
  have : ((fun x : Tx × Value => x.1 == p) ∘ fun m : Mb => (m.1, Value.agg (ndC m.2 (f m.1).1 (f m.1).2))) = fun m => m.1 == p := rfl
  rw [this]
  cases hf : L.find? (fun m => m.1 == p) with
  | none => rfl
  | some m =>
    have : m.1 = p := by simpa using List.find?_some hf
    subst this; rfl
theorem TreeIn.srt {w : World} {T mb : Nat} {Bk : Nat → Prop} {f : Tx → Value × Value} {L : List Mb} (h : TreeIn w T mb Bk f L) : SM.Srt L := srt_entries.1 h.map.s
theorem TreeIn.loc {w w' : World} {T mb : Nat} {Bk : Nat → Prop} {f : Tx → Value × Value} {L : List Mb} (h : TreeIn w T mb Bk f L) (hb : ∀ b, (b = T ∨ b = mb ∨ Bk b) → w'.heap[b]? = w.heap[b]?) : TreeIn w' T mb Bk f L :=
  ⟨by unfold Row; rw [hb T (.inl rfl)]; exact h.row, h.map.loc (hb mb (.inr (.inl rfl))), fun m hm => (h.nd m hm).loc (fun b hbk => hb b (.inr (.inr hbk))), h.sm, h.ne⟩
/-- as an assertion -/
def trA (T mb : Nat) (Bk : Nat → Prop) (f : Tx → Value × Value) (L : List Mb) : As := ⟨fun b => b = T ∨ b = mb ∨ Bk b, fun w => TreeIn w T mb Bk f L, fun _ _ h hp => hp.loc h⟩
theorem TreeIn.look {w : World} {T mb : Nat} {Bk : Nat → Prop} {f : Tx → Value × Value} {L : List Mb} (h : TreeIn w T mb Bk f L) {p : Tx} {n : Nd} (hl : SM.look L p = some n) : NdR w Bk n (f p).1 (f p).2 ∧ Sm (p, n) :=
  ⟨h.nd _ (SM.look_mem hl), h.sm _ (SM.look_mem hl)⟩
def nd0 : Nd := ⟨0, 0, 0, 0, 0, [], [], []⟩
def ndDir : Nd := ⟨1, 0, 0, 0, 0, [], [], []⟩
def nilV : Value := .slice none 0 0
theorem zeroN (w : World) : (zeroValue 30).run Tryz.prog w = .ok (.agg (ndC nd0 nilV nilV)) w := by kernel_rfl
def dirT (L : List Mb) (p : Tx) : Bool := p.isEmpty || (match SM.look L p with | some n => n.kind == 1 | none => false)
def getT (L : List Mb) (p : Tx) : Nd × Bool := if p = [] then (ndDir, true) else match SM.look L p with | some n => (n, true) | none => (nd0, false)
theorem look_node (f : Tx → Value × Value) (L : List Mb) (p : Tx) : ∃ n av dv, (SM.look (entries f L) p).getD (.agg (ndC nd0 nilV nilV)) = .agg (ndC n av dv) ∧ n = (SM.look L p).getD nd0 ∧ (∀ m, SM.look L p = some m → av = (f p).1 ∧ dv = (f p).2) ∧ (SM.look L p = none → av = nilV ∧ dv = nilV) := by
  rw [look_entries]
  cases hl : SM.look L p with
  | none => exact ⟨nd0, nilV, nilV, rfl, rfl, (fun m h => by cases h), fun _ => ⟨rfl, rfl⟩⟩
  | some n => exact ⟨n, _, _, rfl, rfl, (fun m h => ⟨rfl, rfl⟩), fun h => by cases h⟩
theorem mapNil (mb : Nat) (w : World) : (binOp .eql 63 (.map (some mb)) (.map none)).run Tryz.prog w = .ok (.bool false) w := by kernel_rfl
theorem mapNil' (w : World) : (binOp .eql 63 (.map none) (.map none)).run Tryz.prog w = .ok (.bool true) w := by kernel_rfl
theorem fieldN0 (kind mode uid gid time : Int) (av dv : Value) (link : Tx) (w : World) : (Instr.field 30 (.agg #[.int .i64 kind, .int .u32 mode, .int .u32 uid, .int .u32 gid, .int .i64 time, av, dv, .string ⟨link.toArray⟩]) 0).run Tryz.prog w = .ok (.int .i64 kind) w := by kernel_rfl
set_option maxHeartbeats 400000 in
set_option maxRecDepth 100000 in
theorem none_ok (T : Nat) (mb : Nat) (w : World) (hr : Row w T 65 #[.map (some mb)]) : Calls Tryz.prog 30 #[.pointer (some ⟨T, 0, none⟩)] w fun e w' => e = .returned (.bool false) ∧ w = w' := by
  have c0 := hr.cell (i := 0) rfl
  clear hr
  have hm := mapNil mb
  go_enter Tryz.func30, Tryz.ntmps30
  go_wp2_with fail
  go_ret
  exact ⟨rfl, rfl⟩
set_option maxHeartbeats 400000 in
set_option maxRecDepth 100000 in
theorem len_tree (T mb : Nat) (Bk : Nat → Prop) (f : Tx → Value × Value) (L : List Mb) (w : World) (h : TreeIn w T mb Bk f L) : Calls Tryz.prog 15 #[.pointer (some ⟨T, 0, none⟩)] w fun e w' => e = .returned (.int .i64 (L.length : Int)) ∧ w = w' := by
  have HN := Keep.keep (none_ok T mb w h.row)
  have c0 := h.row.cell (i := 0) rfl
  have hlen := fun ty => h.map.len Tryz.underlying63 ty
  have e1 : (entries f L).length = L.length := by simp [entries]
  rw [e1] at hlen
  clear h e1
  go_enter Tryz.func15, Tryz.ntmps15
  go_wp2_with fail
  refine HN.out.mono ?_
  rintro e w' ⟨rfl, rfl⟩
  go_wp2_with fail
  go_ret
  exact ⟨rfl, rfl⟩
set_option maxHeartbeats 400000 in
set_option maxRecDepth 100000 in
theorem dir_tree (T mb : Nat) (Bk : Nat → Prop) (f : Tx → Value × Value) (L : List Mb) (w : World) (h : TreeIn w T mb Bk f L) (p : Tx) (hp : p.length ≤ 1000000) : Calls Tryz.prog 33 #[.pointer (some ⟨T, 0, none⟩), .string ⟨p.toArray⟩] w fun e w' => e = .returned (.bool (dirT L p)) ∧ w = w' := by
  have c0 := h.row.cell (i := 0) rfl
  have hlk := h.map.look1 Tryz.underlying9 Tryz.underlying63 (zeroN w) (p := p) (by unfold maxLen; omega)
  obtain ⟨n, av, dv, hn, hn2, -⟩ := look_node f L p
  rw [hn] at hlk
  have HD : Keep (dirT L p = (p.isEmpty || n.kind == 1)) := ⟨by
    unfold dirT; rw [hn2]; cases SM.look L p <;> rfl⟩
  generalize dirT L p = db at *
  clear h hn hn2
  obtain ⟨kind, mode, uid, gid, time, attrs, data, link⟩ := n
  unfold ndC strV at hlk
  simp only at hlk HD
  have hfd := fieldN0 kind mode uid gid time av dv link w
  by_cases e : p = []
  · have he : p.isEmpty = true := by rw [e]; rfl
    clear e
    go_enter Tryz.func33, Tryz.ntmps33
    go_wp2_with fail
    go_ret
    exact ⟨by rw [HD.out, he]; rfl, rfl⟩
  · have he : p.isEmpty = false := by simpa using e
    clear e
    go_enter Tryz.func33, Tryz.ntmps33
    go_wp2_with fail
    go_ret
    exact ⟨by rw [HD.out, he]; rfl, rfl⟩
end Go.Proofs.YtphgmkhbhboklaaGreatDoor
/- tree.Get. -/
namespace Go.Proofs.YtphgmkhbhboklaaGreatDoor
open Go.RowKit
theorem buildN0 (w : World) : (Instr.build 30 #[(0, .int .i64 1)]).run Tryz.prog w = .ok (.agg (ndC ndDir nilV nilV)) w := by kernel_rfl
theorem buildN (w : World) : (Instr.build 30 #[]).run Tryz.prog w = .ok (.agg (ndC nd0 nilV nilV)) w := by kernel_rfl
theorem ndR_nil {w : World} {N : Nat → Prop} {n : Nd} (ha : n.attrs = []) (hd : n.data = []) : NdR w N n nilV nilV := ⟨by rw [ha]; exact RdV.ofNil, by rw [hd]; exact Reads.ofNil⟩
theorem sm_nd0 {p : Tx} (hp : p.length ≤ 400000) : Sm (p, nd0) := ⟨hp, by simp [nd0], by simp [nd0], by simp [nd0], by simp [nd0], by simp [nd0]⟩
set_option maxHeartbeats 1000000 in
set_option maxRecDepth 100000 in
theorem get_tree (T mb : Nat) (Bk : Nat → Prop) (f : Tx → Value × Value) (L : List Mb) (w : World) (h : TreeIn w T mb Bk f L) (hBk : ∀ b, Bk b → b < w.heap.size) (p : Tx) (hp : p.length ≤ 1000000) :
    Calls Tryz.prog 11 #[.pointer (some ⟨T, 0, none⟩), .string ⟨p.toArray⟩] w fun e w' => ∃ av dv, e = .returned (.tuple #[.agg (ndC (getT L p).1 av dv), .bool (getT L p).2]) ∧ NdR w' (Fresh w.heap.size w') (getT L p).1 av dv ∧ Below w.heap.size w w' := by
  have HN : Keep (∀ wx, Below w.heap.size w wx → Calls Tryz.prog 30 #[.pointer (some ⟨T, 0, none⟩)] wx fun e w' => e = .returned (.bool false) ∧ wx = w') := ⟨fun wx hb => none_ok T mb wx (h.row.below hb h.row.lt)⟩
  have HZ : Keep ((ndC nd0 nilV nilV).size = 8) := ⟨rfl⟩
  by_cases e : p = []
  · have he : p.isEmpty = true := by rw [e]; rfl
    have HG : Keep (getT L p = (ndDir, true)) := ⟨by unfold getT; rw [if_pos e]⟩
    rw [HG.out]
    have hbd := buildN0
    have HON : Keep ((ndC ndDir nilV nilV).all (·.oneCell') = true) := ⟨by simp [ndC, nilV, strV, Value.oneCell']⟩
    have HSD : Keep ((ndC ndDir nilV nilV).size = 8) := ⟨rfl⟩
    clear e h hBk HG
    go_enter Tryz.func11, Tryz.ntmps11
    go_wp2_with fail
    refine calls_at (R := fun w1 => Hp NoM w w1 [rowA w.heap.size 30 (ndC nd0 nilV nilV)]) ((Hp.begin NoM w).newRow _ _) ?_
    intro w1 H1
    refine (HN.out w1 H1.out.below).mono ?_
    rintro e w' ⟨rfl, rfl⟩
    have HRW := Keep.keep (H1.out.row 0 rfl)
    go_wp2_with (first | ((with_reducible refine arm_storeRow HRW.out aggN HZ.out HSD.out HON.out ?_ ?_ ?_); (focus rfl); (focus rfl); simp only [Act.put]))
    have hch : Below w.heap.size w (w1.setRow w.heap.size (ndC ndDir nilV nilV)) := ((Chg.of_below (M := NoM) H1.out.below).setRow (.inl (Nat.le_refl _)) _).below (fun _ _ h => h)
    exact bodyPost_ret (results_row2 (p := 4) (q := 5) (ty := 30) rfl (HRW.out.setRow _) aggN HSD.out rfl rfl) rfl ⟨nilV, nilV, rfl, ndR_nil rfl rfl, hch⟩
  · have he : p.isEmpty = false := by simpa using e
    have c0 := h.row.cell (i := 0) rfl
    have HROW := Keep.keep h.row
    have hmap := h.map
    obtain ⟨n, av, dv, hn, hn2, hn3, hn4⟩ := look_node f L p
    have HLK : Keep (∀ wx, Below w.heap.size w wx → (Instr.lookup 63 (.map (some mb)) (.string ⟨p.toArray⟩) true).run Tryz.prog wx = .ok (.tuple #[.agg (ndC n av dv), .bool (SM.look L p).isSome]) wx) := ⟨fun wx hb => by
      have := (hmap.loc (hb.block mb hmap.lt)).lookOk Tryz.underlying9 Tryz.underlying63 (zeroN wx) (p := p) (by unfold maxLen; omega)
      rw [hn, look_entries, Option.isSome_map] at this
      exact this⟩
    have HG : Keep (getT L p = (n, (SM.look L p).isSome)) := ⟨by
      unfold getT; rw [if_neg e, hn2]; cases SM.look L p <;> rfl⟩
    have HNR : Keep (NdR w (· < w.heap.size) n av dv ∧ n.attrs.length ≤ 1000000 ∧ n.data.length ≤ 16777216) := ⟨by
      cases hl : SM.look L p with
      | none =>
        obtain ⟨rfl, rfl⟩ := hn4 hl
        rw [hl] at hn2
        subst hn2
        exact ⟨ndR_nil rfl rfl, by simp [nd0], by simp [nd0]⟩
      | some m =>
        obtain ⟨rfl, rfl⟩ := hn3 m hl
        rw [hl] at hn2
        obtain rfl : n = m := hn2
        have := h.look hl
        exact ⟨this.1.mono hBk, this.2.a, Nat.le_trans this.2.d (by decide)⟩⟩
    rw [HG.out]
    generalize (SM.look L p).isSome = is at *
    clear e h hBk HG hmap hn hn2 hn3 hn4
    obtain ⟨aa, ca, hav, -⟩ := HNR.out.1.at_.shape
    obtain ⟨ad, cd, hdv, -⟩ := HNR.out.1.dt.shape
    generalize n.attrs.length = la at hav
    generalize n.data.length = ld at hdv
    have HAV := Keep.keep hav; have HDV := Keep.keep hdv
    subst hav hdv
    have HCN : Keep (∀ x y, ndC n x y = #[.int .i64 n.kind, .int .u32 n.mode, .int .u32 n.uid, .int .u32 n.gid, .int .i64 n.time, x, y, .string ⟨n.link.toArray⟩]) := ⟨fun _ _ => rfl⟩
    go_enter Tryz.func11, Tryz.ntmps11
    go_wp2_with fail
    refine calls_at (R := fun w1 => Hp NoM w w1 [rowA w.heap.size 30 (ndC nd0 nilV nilV)]) ((Hp.begin NoM w).newRow _ _) ?_
    intro w1 H1
    refine (HN.out w1 H1.out.below).mono ?_
    rintro e w' ⟨rfl, rfl⟩
    have HRW := Keep.keep (H1.out.row 0 rfl)
    have hlk := HLK.out w1 H1.out.below
    have c1 : w1.cell? ⟨T, 0, none⟩ = some (.map (some mb)) := (HROW.out.below H1.out.below HROW.out.lt).cell rfl
    clear c0
    rw [HCN.out] at hlk
    go_upto_region 6 with fail
    refine wp_world (R := fun w2 => Hp NoM w w2 [rowA w.heap.size 30 (ndC nd0 nilV nilV), rowA w1.heap.size 30 (ndC n (.slice aa la ca) (.slice ad ld cd))]) (by rw [HCN.out]; exact H1.out.newRow _ _) ?_
    intro w2 H2
    have HRA := Keep.keep (H2.out.row 0 rfl)
    have HRB := Keep.keep (H2.out.row 1 rfl)
    have HNS : Keep ((ndC n (.slice aa la ca) (.slice ad ld cd)).size = 8) := ⟨rfl⟩
    generalize w1.heap.size = T1 at *
    clear hlk c1 HRW H1
    go_wp2_with (first | ((with_reducible refine arm_loadRow HRB.out aggN HNS.out ?_ ?_); (focus rfl); simp only [Act.put, List.setIfInBounds_toArray, List.set_cons_succ, List.set_cons_zero]))
    have hnr := HNR.out.1.below H2.out.below (fun b hb => hb)
    refine (clone_node n _ _ w2 (hnr.mono (fun b hb => Nat.lt_of_lt_of_le hb H2.out.size)) HNR.out.2.1 HNR.out.2.2).mono ?_
    rintro e w3 ⟨av', dv', rfl, hn3, hb3⟩
    have H3 := Keep.keep (H2.out.call hb3)
    have HN3 := Keep.keep hn3
    obtain ⟨aa', ca', hav', -⟩ := hn3.at_.shape
    obtain ⟨ad', cd', hdv', -⟩ := hn3.dt.shape
    have HON : Keep ((ndC n av' dv').all (·.oneCell') = true) := ⟨by rw [hav', hdv']; simp [ndC, strV, Value.oneCell']⟩
    have HNS' : Keep ((ndC n av' dv').size = 8) := ⟨rfl⟩
    have HRA3 := Keep.keep (H3.out.row 0 rfl)
    clear hn3 hb3 hnr hav' hdv' HRA HRB
    go_wp2_with (first | ((with_reducible refine arm_storeRow HRA3.out aggN HZ.out HNS'.out HON.out ?_ ?_ ?_); (focus rfl); (focus rfl); simp only [Act.put]))
    have hch : Below w.heap.size w (w3.setRow w.heap.size (ndC n av' dv')) := ((Chg.of_below (M := NoM) H3.out.below).setRow (.inl (Nat.le_refl _)) _).below (fun _ _ h => h)
    refine bodyPost_ret (results_row2 (p := 4) (q := 5) (ty := 30) rfl (HRA3.out.setRow _) aggN HNS'.out rfl rfl) rfl ⟨av', dv', rfl, ?_, hch⟩
    have hc2 : Chg (fun x => x = w.heap.size) w3.heap.size w3 (w3.setRow w.heap.size (ndC n av' dv')) := Chg.setRow (M := fun x => x = w.heap.size) (.refl _ _ _) (.inr rfl) _
    have hlt := H2.out.size
    have hl1 := (H2.out.row 0 rfl).lt
    exact (HN3.out.chg hc2 (fun b hb => ⟨hb.2, by have := hb.1; omega⟩)).mono (fun b hb => ⟨by have := hb.1; omega, by have := hc2.size; have := hb.2; omega⟩)
end Go.Proofs.YtphgmkhbhboklaaGreatDoor
/- THE WALK AT A MAP KEYED BY TEXTS: it stops at range, next, delete and stores; what each does. -/
namespace Go.Proofs.YtphgmkhbhboklaaGreatDoor
open Go.RowKit Go.Maps
/-- the walk stops here -/
inductive StM (P : Program) (ops : Array Oper) (rest : List Oper) (a : Act) (w : World) (Q : Exit → Act → World → Prop) (o : Oper) : Prop
  | mk (h : wpList P ops Q (o :: rest) a w)
section
variable {P : Program} {ops : Array Oper} {rest : List Oper} {a : Act} {w : World} {Q : Exit → Act → World → Prop} {tp t kt : TypeId} {dst : Option Tmp} {m x v : Operand} {b : Bool} {pos : String} {after : Array Edge}
theorem StM.out {o : Oper} (h : wpList P ops Q (o :: rest) a w) : StM P ops rest a w Q o := .mk h
theorem arm_sRange (h : StM P ops rest a w Q ⟨dst, .range t m, tp, pos, after, none⟩) : wpList P ops Q (⟨dst, .range t m, tp, pos, after, none⟩ :: rest) a w := by cases h; assumption
theorem arm_sNext (h : StM P ops rest a w Q ⟨dst, .next m b, tp, pos, after, none⟩) : wpList P ops Q (⟨dst, .next m b, tp, pos, after, none⟩ :: rest) a w := by cases h; assumption
theorem arm_sDel (h : StM P ops rest a w Q ⟨dst, .call ⟨.builtin .delete, #[m, x], #[t, kt]⟩, tp, pos, after, none⟩) : wpList P ops Q (⟨dst, .call ⟨.builtin .delete, #[m, x], #[t, kt]⟩, tp, pos, after, none⟩ :: rest) a w := by cases h; assumption
theorem arm_sPut (h : StM P ops rest a w Q ⟨dst, .mapUpdate t m x v, tp, pos, after, none⟩) : wpList P ops Q (⟨dst, .mapUpdate t m x v, tp, pos, after, none⟩ :: rest) a w := by cases h; assumption
theorem arm_sIns (h : StM P ops rest a w Q ⟨dst, .insert t m x v, tp, pos, after, none⟩) : wpList P ops Q (⟨dst, .insert t m x v, tp, pos, after, none⟩ :: rest) a w := by cases h; assumption
theorem wpList_run {o : Oper} {u : Value} {w' : World} (hg : o.guard = none) (hr : (execOp a.eval o).run P w = .ok (.value u) w') (h : wpList P ops Q rest (a.put o.dst u) w') : wpList P ops Q (o :: rest) a w := by
  refine wpList_plain hg fun K hK => ?_
  unfold Oper.wp
  rw [hr]
  exact hK _ _ h
/-- ARM: a load that is known -/
theorem arm_loadM {ty : TypeId} {y : Operand} {ad : Addr} {u : Value} (hr : (Instr.loadAt ty (.pointer (some ad))).run P w = .ok u w) (hx : a.eval y = .pointer (some ad)) (h : wpList P ops Q rest (a.put dst u) w) : wpList P ops Q (⟨dst, .load ty y, tp, pos, after, none⟩ :: rest) a w := by
  refine wpList_run rfl (w' := w) (u := u) ?_ h
  unfold execOp
  simp only [hx, Sem.run_bind, Sem.run_pure, Result.andThen_ok, hr]
theorem wpList_skip {o : Oper} {w' : World} (hg : o.guard = none) (hr : (execOp a.eval o).run P w = .ok .skip w') (h : wpList P ops Q rest (a.put o.dst undef) w') : wpList P ops Q (o :: rest) a w := by
  refine wpList_plain hg fun K hK => ?_
  unfold Oper.wp
  rw [hr]
  exact hK _ _ h
end
section
variable {ops : Array Oper} {rest : List Oper} {a : Act} {w : World} {Q : Exit → Act → World → Prop} {tp t k e : TypeId} {dst : Option Tmp} {m x v it : Operand} {pos : String} {after : Array Edge}
theorem arm_rangeS (hk : Tryz.prog.underlying k = some .string) (ht : Tryz.prog.underlying t = some (.map k e)) {b : Nat} {M : List (Tx × Value)} (h : MapS w k b M) (hm : a.eval m = .map (some b))
    (K : ∀ w', RgS w' k b w.heap.size M (fun p => (SM.look M p).isSome) M.length → Below w.heap.size w w' → w'.heap.size = w.heap.size + 1 → wpList Tryz.prog ops Q rest (a.put dst (.pointer (some ⟨w.heap.size, 0, none⟩))) w') :
    wpList Tryz.prog ops Q (⟨dst, .range t m, tp, pos, after, none⟩ :: rest) a w := by
  obtain ⟨w', hr, h1, h2, h3⟩ := h.range hk ht
  refine wpList_run rfl (w' := w') (u := .pointer (some ⟨w.heap.size, 0, none⟩)) ?_ (K w' h1 h2 h3)
  simp [execOp, hm, hr, Result.andThen]
theorem arm_nextS (hk : Tryz.prog.underlying k = some .string) {b r cnt : Nat} {M : List (Tx × Value)} {todo : Tx → Bool} (h : RgS w k b r M todo cnt) (hit : a.eval it = .pointer (some ⟨r, 0, none⟩))
    (hD : cnt = 0 → (∀ p, todo p = false) → wpList Tryz.prog ops Q rest (a.put dst (.tuple #[.bool false])) w)
    (hM : ∀ p v w' cnt', todo p = true → SM.look M p = some v → RgS w' k b r M (fun q => todo q && q != p) cnt' → cnt' < cnt → Chg (fun j => j = r) w.heap.size w w' → w'.heap.size = w.heap.size →
      (Instr.entry (.pointer (some ⟨r, 0, none⟩))).run Tryz.prog w' = .ok (.tuple #[.string ⟨p.toArray⟩, v]) w' → wpList Tryz.prog ops Q rest (a.put dst (.tuple #[.bool true, .string ⟨p.toArray⟩, v])) w') :
    wpList Tryz.prog ops Q (⟨dst, .next it false, tp, pos, after, none⟩ :: rest) a w := by
  rcases h.next hk tp with ⟨h0, h1, hr⟩ | ⟨p, v, w', cnt', h1, h2, hr, h3, h4, h5, h6, h7⟩
  · refine wpList_run rfl (w' := w) (u := .tuple #[.bool false]) ?_ (hD h0 h1)
    simp [execOp, hit, hr, Result.andThen]
  · refine wpList_run rfl (w' := w') (u := .tuple #[.bool true, .string ⟨p.toArray⟩, v]) ?_ (hM p v w' cnt' h1 h2 h3 h4 h5 h6 h7)
    simp [execOp, hit, hr, Result.andThen]
theorem arm_delS (hk : Tryz.prog.underlying k = some .string) (ht : Tryz.prog.underlying t = some (.map k e)) {b : Nat} {M : List (Tx × Value)} (h : MapS w k b M) {p : Tx} (hp : p.length ≤ maxLen) (hm : a.eval m = .map (some b)) (hx : a.eval x = .string ⟨p.toArray⟩)
    (K : ∀ w', MapS w' k b (M.filter (fun x => x.1 != p)) → Chg (fun j => j = b) w.heap.size w w' → wpList Tryz.prog ops Q rest (a.put dst (.tuple #[])) w') :
    wpList Tryz.prog ops Q (⟨dst, .call ⟨.builtin .delete, #[m, x], #[t, k]⟩, tp, pos, after, none⟩ :: rest) a w := by
  obtain ⟨w', hr, h1, h2⟩ := h.del hk ht hp tp
  refine wpList_run rfl (w' := w') (u := .tuple #[]) ?_ (K w' h1 h2)
  simp [execOp, resolve, invoke, builtin, hm, hx, hr, Result.andThen]
theorem arm_delR (hk : Tryz.prog.underlying k = some .string) (ht : Tryz.prog.underlying t = some (.map k e)) {b r cnt : Nat} {M : List (Tx × Value)} {todo : Tx → Bool} (h : RgS w k b r M todo cnt) {p : Tx} (hp : p.length ≤ maxLen) (hm : a.eval m = .map (some b)) (hx : a.eval x = .string ⟨p.toArray⟩)
    (K : ∀ w' cnt', RgS w' k b r (M.filter (fun x => x.1 != p)) (fun q => todo q && q != p) cnt' → cnt' ≤ cnt → Chg (fun j => j = b) w.heap.size w w' → wpList Tryz.prog ops Q rest (a.put dst (.tuple #[])) w') :
    wpList Tryz.prog ops Q (⟨dst, .call ⟨.builtin .delete, #[m, x], #[t, k]⟩, tp, pos, after, none⟩ :: rest) a w := by
  obtain ⟨w', cnt', hr, h1, h2, h3⟩ := h.del hk ht hp tp
  refine wpList_run rfl (w' := w') (u := .tuple #[]) ?_ (K w' cnt' h1 h2 h3)
  simp [execOp, resolve, invoke, builtin, hm, hx, hr, Result.andThen]
theorem arm_putS (hk : Tryz.prog.underlying k = some .string) (ht : Tryz.prog.underlying t = some (.map k e)) {b : Nat} {M : List (Tx × Value)} (h : MapS w k b M) {p : Tx} (hp : p.length ≤ maxLen) (hn : M.length < maxLen) {u : Value} (hm : a.eval m = .map (some b)) (hx : a.eval x = .string ⟨p.toArray⟩) (hv : a.eval v = u)
    (K : ∀ w', MapS w' k b (SM.put M (p, u)) → Chg (fun j => j = b) w.heap.size w w' → wpList Tryz.prog ops Q rest (a.put dst undef) w') :
    wpList Tryz.prog ops Q (⟨dst, .mapUpdate t m x v, tp, pos, after, none⟩ :: rest) a w := by
  obtain ⟨w', hr, h1, h2⟩ := h.put hk ht hp hn u
  refine wpList_skip rfl (w' := w') ?_ (K w' h1 h2)
  simp [execOp, hm, hx, hv, hr, Result.andThen]
theorem arm_insS (hk : Tryz.prog.underlying k = some .string) (ht : Tryz.prog.underlying t = some (.map k e)) {b : Nat} {M : List (Tx × Value)} (h : MapS w k b M) {p : Tx} (hp : p.length ≤ maxLen) (hn : M.length < maxLen) {u : Value} (hm : a.eval m = .map (some b)) (hx : a.eval x = .string ⟨p.toArray⟩) (hv : a.eval v = u)
    (K : ∀ w', MapS w' k b (SM.put M (p, u)) → Chg (fun j => j = b) w.heap.size w w' → wpList Tryz.prog ops Q rest (a.put dst undef) w') :
    wpList Tryz.prog ops Q (⟨dst, .insert t m x v, tp, pos, after, none⟩ :: rest) a w := by
  obtain ⟨w', hr, h1, h2⟩ := h.put hk ht hp hn u
  refine wpList_skip rfl (w' := w') ?_ (K w' h1 h2)
  simp [execOp, hm, hx, hv, hr, Result.andThen]
end
end Go.Proofs.YtphgmkhbhboklaaGreatDoor
/- maps.DeleteFunc; tree.clear. -/
namespace Go.Proofs.YtphgmkhbhboklaaGreatDoor
open Go.RowKit
/-- an entry's value, its slices written out -/
def NdV (v : Value) : Prop := ∃ n aa la ca ad ld cd, v = .agg (ndC n (.slice aa la ca) (.slice ad ld cd))
set_option maxHeartbeats 1000000 in
set_option maxRecDepth 100000 in
theorem delf_map (F : FuncId) (cv : Value) (hent : ∀ args w, (callFunc F args).run Tryz.prog w = .ok (.enter F args) w) (M0 : List (Tx × Value)) (pred : Tx → Bool) (w : World) (mb : Nat) (hm : MapS w 9 mb M0) (hv : ∀ p v, SM.look M0 p = some v → NdV v)
    (hF : ∀ wx, Chg (fun j => j = mb) w.heap.size w wx → ∀ p v, SM.look M0 p = some v → Calls Tryz.prog F #[.string ⟨p.toArray⟩, v, cv] wx fun e w' => e = .returned (.bool (pred p)) ∧ Below wx.heap.size wx w') :
    Calls Tryz.prog 62 #[.map (some mb), .func (.func F) #[] #[cv]] w fun e w' => e = .returned (.tuple #[]) ∧ MapS w' 9 mb (M0.filter (fun x => !pred x.1)) ∧ Chg (fun j => j = mb) w.heap.size w w' := by
  have HM := Keep.keep hm; have HV := Keep.keep hv; have HF := Keep.keep hF
  clear hm hv hF
  go_enter Tryz.func62, Tryz.ntmps62
  go_wp2_with (first | (with_reducible refine arm_sRange ?_) | (with_reducible refine arm_sNext ?_) | (with_reducible refine arm_sDel ?_) | (with_reducible refine arm_sPut ?_) | (with_reducible refine arm_sIns ?_))
  refine StM.out ?_
  refine arm_rangeS Tryz.underlying9 Tryz.underlying63 HM.out rfl ?_
  intro w1 hrg hb1 hs1
  obtain ⟨r, hr⟩ : ∃ r, w.heap.size = r := ⟨_, rfl⟩
  have HR := Keep.keep hr
  have HRG := Keep.keep hrg; have HB1 := Keep.keep hb1
  rw [hr] at HRG ⊢
  clear hrg hb1 hs1 hr
  simp only [Act.put, List.setIfInBounds_toArray, List.set_cons_succ, List.set_cons_zero]
  go_wp2_with fail
  go_loopg [4, 5] M0.length (fun g _ _ wx => ∃ todo, RgS wx 9 mb r (M0.filter (fun x => todo x.1 || !pred x.1)) todo g ∧ (∀ p, todo p = true → (SM.look M0 p).isSome) ∧ Chg (fun j => j = mb) w.heap.size w wx)
  case atStart =>
    refine ⟨_, ?_, fun p h => h, .of_below HB1.out⟩
    have e : M0.filter (fun x => (SM.look M0 x.1).isSome || !pred x.1) = M0 := by
      rw [List.filter_eq_self]
      intro x hx
      cases hl : SM.look M0 x.1 with
      | none => exact absurd rfl (SM.look_none.1 hl x hx)
      | some v => rfl
    rw [e]
    exact HRG.out
  case round =>
    obtain ⟨todo, hrg, htd, hch⟩ := hrel
    have HRG2 := Keep.keep hrg; have HTD := Keep.keep htd; have HCH := Keep.keep hch
    clear hrg htd hch
    go_wp2_with (first | (with_reducible refine arm_sRange ?_) | (with_reducible refine arm_sNext ?_) | (with_reducible refine arm_sDel ?_) | (with_reducible refine arm_sPut ?_) | (with_reducible refine arm_sIns ?_))
    refine StM.out ?_
    refine arm_nextS Tryz.underlying9 HRG2.out rfl ?_ ?_
    · intro h0 hall
      have e : M0.filter (fun x => todo x.1 || !pred x.1) = M0.filter (fun x => !pred x.1) := List.filter_congr (fun x _ => by rw [hall]; rfl)
      have HFIN := HRG2.out.map
      rw [e] at HFIN
      have HFIN := Keep.keep HFIN
      clear h0 hall e
      simp only [Act.put, List.setIfInBounds_toArray, List.set_cons_succ, List.set_cons_zero]
      go_wp2_with fail
      go_end0
      exact ⟨rfl, HFIN.out, HCH.out⟩
    · intro p v w2 cnt' h1 h2 h3 h4 h5 h6 hen
      have hl0 : SM.look M0 p = some v := by
        rw [HM.out.s.look_filter (fun q => todo q || !pred q)] at h2
        split at h2
        · exact h2
        · cases h2
      have hpl : p.length ≤ maxLen := HM.out.l _ (SM.look_mem hl0)
      obtain ⟨n, aa, la, ca, ad, ld, cd, rfl⟩ := HV.out p v hl0
      have hch3 : Chg (fun j => j = mb) w.heap.size w w2 := by
        have hsz := HCH.out.size
        have hrr := HR.out
        exact HCH.out.trans ⟨h5.os, h5.tape, h5.output, h5.size, fun j hj hm => h5.block j (Nat.lt_of_lt_of_le hj hsz) (fun e => by omega)⟩
      have HCH3 := Keep.keep hch3
      have HRG3 := Keep.keep h3; have HLT := Keep.keep h4; have HPL := Keep.keep hpl
      have HCN : Keep (ndC n (.slice aa la ca) (.slice ad ld cd) = #[.int .i64 n.kind, .int .u32 n.mode, .int .u32 n.uid, .int .u32 n.gid, .int .i64 n.time, .slice aa la ca, .slice ad ld cd, .string ⟨n.link.toArray⟩]) := ⟨rfl⟩
      have HFP : Keep (∀ wx, Chg (fun j => j = mb) w.heap.size w wx → Calls Tryz.prog F #[.string ⟨p.toArray⟩, .agg #[.int .i64 n.kind, .int .u32 n.mode, .int .u32 n.uid, .int .u32 n.gid, .int .i64 n.time, .slice aa la ca, .slice ad ld cd, .string ⟨n.link.toArray⟩], cv] wx fun e w' => e = .returned (.bool (pred p)) ∧ Below wx.heap.size wx w') := ⟨fun wx h => by
        have := HF.out wx h p _ hl0
        rwa [HCN.out] at this⟩
      rw [HCN.out] at hen ⊢
      clear h1 h2 h3 h4 h5 h6 hl0 hpl hch3
      simp only [Act.put, List.setIfInBounds_toArray, List.set_cons_succ, List.set_cons_zero]
      go_upto_region 3 with fail
      refine wp_world (R := fun w3 => Chg (fun j => j = mb) w.heap.size w w3 ∧ RgS w3 9 mb r (M0.filter (fun x => todo x.1 || !pred x.1)) (fun q => todo q && q != p) cnt' ∧ Row w3 w2.heap.size 30 #[.int .i64 n.kind, .int .u32 n.mode, .int .u32 n.uid, .int .u32 n.gid, .int .i64 n.time, .slice aa la ca, .slice ad ld cd, .string ⟨n.link.toArray⟩]) ⟨?_, ?_, ?_⟩ ?_
      · exact HCH3.out.alloc HCH3.out.size _
      · exact HRG3.out.loc (Below.heap_alloc w2 _ mb HRG3.out.lt.1) (Below.heap_alloc w2 _ r HRG3.out.lt.2.1)
      · exact Row.new _ _ _
      intro w3 H3
      have HRW := Keep.keep H3.out.2.2
      have HSZ : Keep ((#[.int .i64 n.kind, .int .u32 n.mode, .int .u32 n.uid, .int .u32 n.gid, .int .i64 n.time, .slice aa la ca, .slice ad ld cd, .string ⟨n.link.toArray⟩] : Array Value).size = 8) := ⟨rfl⟩
      have hrlt : r < w3.heap.size := H3.out.2.1.lt.2.1
      clear hen
      go_wp2_with ((with_reducible refine arm_loadRow HRW.out aggN HSZ.out ?_ ?_); (focus rfl); simp only [Act.put, List.setIfInBounds_toArray, List.set_cons_succ, List.set_cons_zero])
      refine (HFP.out w3 H3.out.1).mono ?_
      rintro e w4 ⟨rfl, hb4⟩
      have HCH4 : Keep (Chg (fun j => j = mb) w.heap.size w w4) := ⟨H3.out.1.trans ((Chg.of_below hb4).lower H3.out.1.size)⟩
      have HRG4 : Keep (RgS w4 9 mb r (M0.filter (fun x => todo x.1 || !pred x.1)) (fun q => todo q && q != p) cnt') := ⟨H3.out.2.1.loc (hb4.block mb H3.out.2.1.lt.1) (hb4.block r hrlt)⟩
      clear hb4 hrlt
      have HTD' : Keep (∀ q, (todo q && q != p) = true → (SM.look M0 q).isSome) := ⟨fun q hq => HTD.out q (by simp at hq; exact hq.1)⟩
      cases hpp : pred p with
      | true =>
        have HPP := Keep.keep hpp
        clear hpp
        go_wp2_with (first | (with_reducible refine arm_sRange ?_) | (with_reducible refine arm_sNext ?_) | (with_reducible refine arm_sDel ?_) | (with_reducible refine arm_sPut ?_) | (with_reducible refine arm_sIns ?_))
        refine StM.out ?_
        refine arm_delR Tryz.underlying9 Tryz.underlying63 HRG4.out HPL.out rfl rfl ?_
        intro w5 cnt5 hrg5 hle5 hc5
        have e5 : (M0.filter (fun x => todo x.1 || !pred x.1)).filter (fun x => x.1 != p) = M0.filter (fun x => (todo x.1 && x.1 != p && x.1 != p) || !pred x.1) := by
          rw [List.filter_filter]
          refine List.filter_congr (fun x _ => ?_)
          by_cases e : x.1 = p
          · rw [e, HPP.out]; simp
          · have : (x.1 != p) = true := by simpa using e
            simp [this]
        rw [e5] at hrg5
        have HRG5 := Keep.keep hrg5
        have HCH5 : Keep (Chg (fun j => j = mb) w.heap.size w w5) := ⟨HCH4.out.trans (hc5.lower HCH4.out.size)⟩
        have hlt5 : cnt5 < gk := by have := HLT.out; omega
        clear e5 hrg5 hc5 hle5
        simp only [Act.put, List.setIfInBounds_toArray, List.set_cons_succ, List.set_cons_zero]
        go_wp2_with fail
        go_roundg cnt5
        case measure => exact hlt5
        case rel => exact ⟨fun q => todo q && q != p && q != p, HRG5.out, fun q hq => HTD'.out q (by simp at hq ⊢; exact hq), HCH5.out⟩
      | false =>
        have e5 : M0.filter (fun x => todo x.1 || !pred x.1) = M0.filter (fun x => (todo x.1 && x.1 != p) || !pred x.1) := by
          refine List.filter_congr (fun x _ => ?_)
          by_cases e : x.1 = p
          · rw [e, hpp]; simp
          · have : (x.1 != p) = true := by simpa using e
            simp [this]
        have hrg5 := HRG4.out
        rw [e5] at hrg5
        have HRG5 := Keep.keep hrg5
        have HPP := Keep.keep hpp
        clear e5 hrg5 hpp
        go_wp2_with fail
        go_roundg cnt'
        case measure => exact HLT.out
        case rel => exact ⟨fun q => todo q && q != p, HRG5.out, HTD'.out, HCH4.out⟩
/-- the tree's values, as map entries -/
theorem TreeIn.ndv {w : World} {T mb : Nat} {Bk : Nat → Prop} {f : Tx → Value × Value} {L : List Mb} (h : TreeIn w T mb Bk f L) (p : Tx) (v : Value) (hl : SM.look (entries f L) p = some v) : NdV v := by
  rw [look_entries] at hl
  cases hq : SM.look L p with
  | none => rw [hq] at hl; cases hl
  | some n =>
    rw [hq] at hl
    injection hl with hl
    have := (h.look hq).1
    obtain ⟨aa, ca, e1, -⟩ := this.at_.shape
    obtain ⟨ad, cd, e2, -⟩ := this.dt.shape
    rw [e1, e2] at hl
    exact ⟨n, aa, _, ca, ad, _, cd, hl.symm⟩
theorem entries_filter (f : Tx → Value × Value) (L : List Mb) (q : Tx → Bool) : (entries f L).filter (fun x => q x.1) = entries f (L.filter (fun m => q m.1)) := by
  unfold entries
  rw [List.filter_map]; rfl
/-- some members less -/
theorem TreeIn.filter {w w' : World} {T mb : Nat} {Bk : Nat → Prop} {f : Tx → Value × Value} {L : List Mb} (h : TreeIn w T mb Bk f L) (hBk : ∀ b, Bk b → b < w.heap.size) (q : Tx → Bool) (hm : MapS w' 9 mb ((entries f L).filter (fun x => q x.1))) (hc : Chg (fun j => j = mb) w.heap.size w w') : TreeIn w' T mb Bk f (L.filter (fun m => q m.1)) := by
  refine ⟨?_, by rw [← entries_filter]; exact hm, fun m hx => ?_, fun m hx => h.sm m (List.mem_filter.1 hx).1, h.ne⟩
  · unfold Row
    rw [hc.block T h.row.lt h.ne.1]; exact h.row
  · exact (h.nd m (List.mem_filter.1 hx).1).loc (fun b hb => hc.block b (hBk b hb) (fun e => h.ne.2.2 (e ▸ hb)))
def clearT (L : List Mb) (p : Tx) : List Mb := L.filter (fun m => !underP p m.1)
theorem ent_clr1 : ∀ args w, (callFunc 63 args).run Tryz.prog w = .ok (.enter 63 args) w := enters_of Tryz.func63 (by kernel_rfl) rfl
set_option maxHeartbeats 400000 in
set_option maxRecDepth 100000 in
theorem clr1_any (p q : Tx) (hp : p.length ≤ 1000000) (v : Value) (hv : NdV v) (B : Nat) (w : World) (hc : w.cell? ⟨B, 0, none⟩ = some (.string ⟨p.toArray⟩)) : Calls Tryz.prog 63 #[.string ⟨q.toArray⟩, v, .pointer (some ⟨B, 0, none⟩)] w fun e w' => e = .returned (.bool (underP p q)) ∧ Below w.heap.size w w' := by
  have hlt : B < w.heap.size := World.block_lt_of_cell? w _ hc
  have HU := Keep.keep (fun wx => under_any p q hp wx)
  obtain ⟨n, aa, la, ca, ad, ld, cd, rfl⟩ := hv
  have HCN : Keep (ndC n (.slice aa la ca) (.slice ad ld cd) = #[.int .i64 n.kind, .int .u32 n.mode, .int .u32 n.uid, .int .u32 n.gid, .int .i64 n.time, .slice aa la ca, .slice ad ld cd, .string ⟨n.link.toArray⟩]) := ⟨rfl⟩
  rw [HCN.out]
  go_enter Tryz.func63, Tryz.ntmps63
  go_wp2_with fail
  refine (HU.out _).mono ?_
  rintro e w1 ⟨rfl, rfl⟩
  go_wp2_with fail
  go_ret
  exact ⟨rfl, (Below.refl _ _).alloc (Nat.le_refl _) _⟩
set_option maxHeartbeats 1000000 in
set_option maxRecDepth 100000 in
theorem clear_tree (T mb : Nat) (Bk : Nat → Prop) (f : Tx → Value × Value) (L : List Mb) (w : World) (h : TreeIn w T mb Bk f L) (hBk : ∀ b, Bk b → b < w.heap.size) (p : Tx) (hp : p.length ≤ 1000000) :
    Calls Tryz.prog 35 #[.pointer (some ⟨T, 0, none⟩), .string ⟨p.toArray⟩] w fun e w' => e = .returned (.tuple #[]) ∧ TreeIn w' T mb Bk f (clearT L p) ∧ Chg (fun j => j = mb) w.heap.size w w' := by
  have HT := Keep.keep h
  have c0 := h.row.cell (i := 0) rfl
  have hTlt := h.row.lt
  clear h
  go_enter Tryz.func35, Tryz.ntmps35
  go_wp2_with fail
  refine calls_at (R := fun w1 => Hp NoM w w1 [rowA w.heap.size 9 #[.string ⟨p.toArray⟩]]) ((Hp.begin NoM w).newRow _ _) ?_
  intro w1 H1
  have hlt := (H1.out.row 0 rfl).lt
  have hb := H1.out.below
  have hmlt := HT.out.map.lt
  have hT1 : TreeIn w1 T mb Bk f L := HT.out.loc (fun b hb' => hb.block b (by rcases hb' with rfl | rfl | h; exact hTlt; exact hmlt; exact hBk b h))
  have hne : w.heap.size ≠ mb := by omega
  refine (delf_map 63 (.pointer (some ⟨w.heap.size, 0, none⟩)) ent_clr1 (entries f L) (underP p) w1 mb hT1.map hT1.ndv (fun wx hc q v hl => ?_)).mono ?_
  · exact clr1_any p q hp v (hT1.ndv q v hl) _ wx (by rw [hc.cell (p := ⟨w.heap.size, 0, none⟩) hlt hne]; exact (H1.out.row 0 rfl).cell rfl)
  · rintro e w2 ⟨rfl, hm2, hc2⟩
    have hfin := hT1.filter (fun b hb' => Nat.lt_of_lt_of_le (hBk b hb') hb.size) (fun q => !underP p q) hm2 hc2
    have HFIN := Keep.keep hfin
    have HC : Keep (Chg (fun j => j = mb) w.heap.size w w2) := ⟨(Chg.of_below hb).trans (hc2.lower hb.size)⟩
    clear hfin hm2 hc2 hT1 c0
    go_wp2_with fail
    go_end0
    exact ⟨rfl, HFIN.out, HC.out⟩
end Go.Proofs.YtphgmkhbhboklaaGreatDoor
/- A REGION THAT DRAWS ITS ORDER, one fact an operation; operations without a slot of their own (stores) among them. -/
namespace Go.Proofs.YtphgmkhbhboklaaGreatDoor
open Go.RowKit
def slO (a : Act) : Option Nat → Value
  | some d => slot a d
  | none => undef
def valO : Option Nat → Value → Value
  | some _, v => v
  | none, _ => undef
theorem wp_region_spcO {P : Program} {ops : Array Oper} {id : Nat} {Q : Exit → Act → World → Prop} {a : Act} {w : World} (D : List (Option Nat)) (C : World → Prop) (T : Nat → Value → World → Prop) (St : World → World → Prop) (hm : P.follows .mixedOrders = true)
    (hD : ops.toList.map (·.dst) = D) (hnd : ∀ i, i < D.length → ∀ j, j < D.length → D.getD i none = D.getD j none → D.getD i none ≠ none → i = j) (hds : ∀ d, some d ∈ D → d < a.tmps.size) (hB : inOrderB ops = true) (h0 : C w.drew)
    (hst : ∀ i v w w', T i v w → C w → St w w' → T i v w')
    (hs : ∀ i, i < ops.size → ∀ a1 w1, Fr a (D.filterMap (·)) a1 → C w1 → (∀ j, Region.waitsFor .any ops i j = true → T j (slO a1 (D.getD j none)) w1) →
      wpOp P ops Q i (fun a2 w2 => ∃ v, a2 = a1.put (D.getD i none) v ∧ C w2 ∧ St w1 w2 ∧ T i (valO (D.getD i none) v) w2) a1 w1)
    (he : ∀ a1 w1, a1 = (D.filterMap (·)).foldl (fun b d => b.put (some d) (slot a1 d)) a → C w1 → (∀ j, j < ops.size → T j (slO a1 (D.getD j none)) w1) → Q .normal a1 w1) : (Code.region id ops true).wp P Q a w := by
  have hlen : D.length = ops.size := by rw [← hD]; simp
  have hget : ∀ i, i < ops.size → D.getD i none ∈ D := fun i hi => by
    rw [List.getD_eq_getElem?_getD, List.getElem?_eq_getElem (by omega)]
    exact List.getElem_mem _
  refine wp_region_fr (D.filterMap (·)) (fun done s w1 => C w1 ∧ ∀ j, j < ops.size → done.getD j false = true → T j (match D.getD j none with | some d => s d | none => undef) w1) hm ⟨h0, fun j hj hd => ?_⟩ ?_ ?_
  · simp [Array.getD_eq_getD_getElem?, hj] at hd
  · intro done a1 w1 hF hI hz hcl i hi
    have hlt := ready_lt hi
    refine wpOp_mono ?_ (hs i hlt a1 w1 hF hI.1 (fun j hj => ?_))
    · rintro a2 w2 ⟨v, rfl, hC2, hb, hT⟩
      have hFr : Fr a (D.filterMap (·)) (a1.put (D.getD i none) v) := by
        cases hd : D.getD i none with
        | none => exact hF
        | some d =>
          refine hF.put d ?_ v
          rw [List.mem_filterMap]
          exact ⟨some d, hd ▸ hget i hlt, rfl⟩
      refine ⟨hFr, hC2, fun j hj hd => ?_⟩
      by_cases e : i = j
      · subst e
        cases hdi : D.getD i none with
        | none => rw [hdi] at hT; exact hT
        | some d =>
          rw [hdi] at hT
          simp only
          rw [slot_put_same _ _ _ (by rw [hF.size]; exact hds d (hdi ▸ hget i hlt))]
          exact hT
      · have hd' := (getD_set_iff hd).resolve_left e
        have hTj := hst j _ _ _ (hI.2 j hj hd') hI.1 hb
        cases hdj : D.getD j none with
        | none => rw [hdj] at hTj; exact hTj
        | some d =>
          rw [hdj] at hTj
          simp only at hTj ⊢
          cases hdi : D.getD i none with
          | none => exact hTj
          | some d' =>
            rw [slot_put_ne _ _ _ _ (fun e2 => e (hnd i (by omega) j (by omega) (by rw [hdi, hdj, e2]) (by rw [hdi]; exact fun h => by cases h)))]
            exact hTj
    · obtain ⟨e, he1, he2, he3⟩ := waits_of (Array.getElem?_eq_getElem hlt) hj
      have hdn := (ready_at hi (Array.getElem?_eq_getElem hlt)).2 e he1 he2
      rw [he3] at hdn
      have hjlt : j < ops.size := by
        rcases Nat.lt_or_ge j done.size with h | h
        · omega
        · simp [Array.getD_eq_getD_getElem?, Array.getElem?_eq_none h] at hdn
      have := hI.2 j hjlt hdn
      unfold slO
      exact this
  · intro done a1 w1 ha hI hz hr
    exact he a1 w1 ha hI.1 (fun j hj => hI.2 j hj (all_done hB hz hr j hj))
/-- an operation that yields a value at once -/
theorem spcO_val {P : Program} {ops : Array Oper} {Q : Exit → Act → World → Prop} {C : World → Prop} {T : Nat → Value → World → Prop} {St : World → World → Prop} {i d : Nat} {a1 : Act} {w1 w2 : World} {op : Op} {tp : TypeId} {pos : String} {af : Array Edge} {g : Option (Nat × Bool)} {v : Value}
    (hi : ops[i]? = some ⟨some d, op, tp, pos, af, g⟩) (hg : Region.wanted (⟨some d, op, tp, pos, af, g⟩ : Oper) (yielded ops a1.tmps) = true)
    (hr : (execOp a1.eval (⟨some d, op, tp, pos, af, g⟩ : Oper)).run P w1 = .ok (.value v) w2) (hC : C w2) (hb : St w1 w2) (hT : T i v w2) :
    wpOp P ops Q i (fun a2 w2 => ∃ v, a2 = a1.put (some d) v ∧ C w2 ∧ St w1 w2 ∧ T i (valO (some d) v) w2) a1 w1 := spcS_val hi hg hr hC hb hT
/-- an operation that calls -/
theorem spcO_call {P : Program} {ops : Array Oper} {Q : Exit → Act → World → Prop} {C : World → Prop} {T : Nat → Value → World → Prop} {St : World → World → Prop} {i d : Nat} {a1 : Act} {w1 : World} {f : FuncId} {args : Array Operand} {ts : Array TypeId} {tp : TypeId} {pos : String} {af : Array Edge} {g : Option (Nat × Bool)} {vs : Array Value}
    (hi : ops[i]? = some ⟨some d, .call ⟨.value (.func f), args, ts⟩, tp, pos, af, g⟩) (hg : Region.wanted (⟨some d, .call ⟨.value (.func f), args, ts⟩, tp, pos, af, g⟩ : Oper) (yielded ops a1.tmps) = true)
    (hent : Enters P f) (hargs : args.map a1.eval = vs) (hc : Calls P f vs w1 fun e w2 => ∃ v, e = .returned v ∧ C w2 ∧ St w1 w2 ∧ T i v w2) :
    wpOp P ops Q i (fun a2 w2 => ∃ v, a2 = a1.put (some d) v ∧ C w2 ∧ St w1 w2 ∧ T i (valO (some d) v) w2) a1 w1 := spcS_call hi hg hent hargs hc
/-- a store -/
theorem spcO_skip {P : Program} {ops : Array Oper} {Q : Exit → Act → World → Prop} {C : World → Prop} {T : Nat → Value → World → Prop} {St : World → World → Prop} {i : Nat} {a1 : Act} {w1 w2 : World} {op : Op} {tp : TypeId} {pos : String} {af : Array Edge} {g : Option (Nat × Bool)}
    (hi : ops[i]? = some ⟨none, op, tp, pos, af, g⟩) (hg : Region.wanted (⟨none, op, tp, pos, af, g⟩ : Oper) (yielded ops a1.tmps) = true)
    (hr : (execOp a1.eval (⟨none, op, tp, pos, af, g⟩ : Oper)).run P w1 = .ok .skip w2) (hC : C w2) (hb : St w1 w2) (hT : T i undef w2) :
    wpOp P ops Q i (fun a2 w2 => ∃ v, a2 = a1.put none v ∧ C w2 ∧ St w1 w2 ∧ T i (valO none v) w2) a1 w1 := by
  unfold wpOp
  rw [hi]
  simp only
  rw [if_pos hg]
  refine .inl ?_
  unfold Oper.wp
  rw [hr]
  exact ⟨undef, rfl, hC, hb, hT⟩
end Go.Proofs.YtphgmkhbhboklaaGreatDoor
/- tree.Remove, tree.Put. -/
namespace Go.Proofs.YtphgmkhbhboklaaGreatDoor
open Go.RowKit
theorem run_newN (w : World) : (Instr.alloc 30 true (.tuple #[])).run Tryz.prog w = .ok (.pointer (some ⟨w.heap.size, 0, none⟩)) (w.alloc (.cells zeroNd 30)) := by kernel_rfl
def removeT (L : List Mb) (p : Tx) : Int × List Mb := match SM.look L p with | none => (6, L) | some _ => (0, (clearT L p).filter (fun m => m.1 != p))
def putT (L : List Mb) (m : Mb) : Int × List Mb :=
  if !mayM m then (1, L) else if !dirT L (parentP m.1) then (33, L) else if (SM.look L m.1).isNone && decide (4096 ≤ L.length) then (42, L)
  else (0, SM.put (if m.2.kind = 1 then L else clearT L m.1) m)
theorem parent_len (p : Tx) : (parentP p).length ≤ p.length := by unfold parentP; rw [List.length_take]; omega
set_option maxHeartbeats 1000000 in
set_option maxRecDepth 100000 in
theorem remove_tree (T mb : Nat) (Bk : Nat → Prop) (f : Tx → Value × Value) (L : List Mb) (w : World) (h : TreeIn w T mb Bk f L) (hBk : ∀ b, Bk b → b < w.heap.size) (p : Tx) (hp : p.length ≤ 1000000) :
    Calls Tryz.prog 13 #[.pointer (some ⟨T, 0, none⟩), .string ⟨p.toArray⟩] w fun e w' => e = .returned (.int .i64 (removeT L p).1) ∧ TreeIn w' T mb Bk f (removeT L p).2 ∧ Chg (fun j => j = mb) w.heap.size w w' := by
  have HT := Keep.keep h
  have HN := Keep.keep (none_ok T mb w h.row)
  have c0 := h.row.cell (i := 0) rfl
  obtain ⟨n, av, dv, hn, hn2, hn3, hn4⟩ := look_node f L p
  have hlk := h.map.lookOk Tryz.underlying9 Tryz.underlying63 (zeroN w) (p := p) (by unfold maxLen; omega)
  rw [hn, look_entries, Option.isSome_map] at hlk
  have hsh : ∃ aa la ca ad ld cd, av = .slice aa la ca ∧ dv = .slice ad ld cd := by
    cases hl : SM.look L p with
    | none => obtain ⟨rfl, rfl⟩ := hn4 hl; exact ⟨_, _, _, _, _, _, rfl, rfl⟩
    | some m =>
      obtain ⟨rfl, rfl⟩ := hn3 m hl
      have := (h.look hl).1
      obtain ⟨aa, ca, e1, -⟩ := this.at_.shape
      obtain ⟨ad, cd, e2, -⟩ := this.dt.shape
      exact ⟨aa, _, ca, ad, _, cd, e1, e2⟩
  obtain ⟨aa, la, ca, ad, ld, cd, rfl, rfl⟩ := hsh
  have HCN : Keep (ndC n (.slice aa la ca) (.slice ad ld cd) = #[.int .i64 n.kind, .int .u32 n.mode, .int .u32 n.uid, .int .u32 n.gid, .int .i64 n.time, .slice aa la ca, .slice ad ld cd, .string ⟨n.link.toArray⟩]) := ⟨rfl⟩
  rw [HCN.out] at hlk
  have hTlt := h.row.lt
  have hmlt := h.map.lt
  clear h hn hn2 hn3 hn4
  cases hl : SM.look L p with
  | none =>
    rw [hl] at hlk
    have HR : Keep (removeT L p = (6, L)) := ⟨by unfold removeT; rw [hl]⟩
    rw [HR.out]
    clear hl HR
    simp only [Option.isSome_none] at hlk
    go_enter Tryz.func13, Tryz.ntmps13
    go_wp2_with fail
    refine HN.out.mono ?_
    rintro e w' ⟨rfl, rfl⟩
    go_wp2_with fail
    go_ret
    refine ⟨rfl, HT.out.loc (fun b hb => ?_), .of_below ((Below.refl _ _).alloc (Nat.le_refl _) _)⟩
    refine Below.heap_alloc w _ b ?_
    rcases hb with rfl | rfl | h
    · exact hTlt
    · exact hmlt
    · exact hBk b h
  | some m =>
    rw [hl] at hlk
    have HR : Keep (removeT L p = (0, (clearT L p).filter (fun m => m.1 != p))) := ⟨by unfold removeT; rw [hl]⟩
    rw [HR.out]
    clear hl HR
    simp only [Option.isSome_some] at hlk
    go_enter Tryz.func13, Tryz.ntmps13
    go_wp2_with fail
    refine HN.out.mono ?_
    rintro e w' ⟨rfl, rfl⟩
    go_wp2_with fail
    refine calls_at (R := fun w1 => Below w.heap.size w w1) ((Below.refl _ _).alloc (Nat.le_refl _) _) ?_
    intro w1 H1
    have hT1 : TreeIn w1 T mb Bk f L := HT.out.loc (fun b hb' => H1.out.block b (by rcases hb' with rfl | rfl | h; exact hTlt; exact hmlt; exact hBk b h))
    refine (clear_tree T mb Bk f L w1 hT1 (fun b hb => Nat.lt_of_lt_of_le (hBk b hb) H1.out.size) p hp).mono ?_
    rintro e w2 ⟨rfl, hT2, hc2⟩
    have HT2 := Keep.keep hT2
    have HC2 : Keep (Chg (fun j => j = mb) w.heap.size w w2) := ⟨(Chg.of_below H1.out).trans (hc2.lower H1.out.size)⟩
    have c2 := hT2.row.cell (i := 0) rfl
    clear hT1 hT2 hc2 hlk c0
    go_wp2_with (first | (with_reducible refine arm_sRange ?_) | (with_reducible refine arm_sNext ?_) | (with_reducible refine arm_sDel ?_) | (with_reducible refine arm_sPut ?_) | (with_reducible refine arm_sIns ?_))
    refine StM.out ?_
    refine arm_delS Tryz.underlying9 Tryz.underlying63 HT2.out.map (p := p) (by unfold maxLen; omega) rfl rfl ?_
    intro w3 hm3 hc3
    have hfin := HT2.out.filter (fun b hb => Nat.lt_of_lt_of_le (hBk b hb) HC2.out.size) (fun q => q != p) hm3 hc3
    have HFIN := Keep.keep hfin
    have HC3 : Keep (Chg (fun j => j = mb) w.heap.size w w3) := ⟨HC2.out.trans (hc3.lower HC2.out.size)⟩
    clear hfin hm3 hc3 c2
    simp only [Act.put, List.setIfInBounds_toArray, List.set_cons_succ, List.set_cons_zero]
    go_wp2_with fail
    go_ret
    exact ⟨rfl, HFIN.out, HC3.out⟩
end Go.Proofs.YtphgmkhbhboklaaGreatDoor
