/- PARTS OF ONE PROOF, set in one file: TreeWellL, DifMay, RTree, RTreeB, RTreeC, NilT, Fld19, App19, RFold, Wak19, CkClo, CkRow, CkMany1, CkMany, CkErr. Each part tells its own conditions. -/
import Derived.Laws.MakeOwn
import Derived.Test.YtplafpokgpolkaaGreatDoorW7
/- TreeWell, plainly: what calls do, what is refused; all Members in any order make the same tree. -/
namespace Go.Proofs.YtplafpokgpolkaaGreatDoor
theorem mem_growT : ∀ (n : Nat) (P : List Mb), P.length = n → (P.map (·.1)).Nodup → ∀ x, x ∈ growT P ↔ x ∈ P := by
  intro n
  induction n with
  | zero =>
    intro P h _ x
    obtain rfl := List.eq_nil_of_length_eq_zero h
    exact Iff.rfl
  | succ n ih =>
    intro P h hd x
    obtain ⟨Q, m, rfl⟩ : ∃ Q m, P = Q ++ [m] := ⟨P.dropLast, P.getLast (by intro e; rw [e] at h; cases h), (List.dropLast_concat_getLast _).symm⟩
    rw [growT_snoc, SM.mem_put]
    rw [List.map_append, List.nodup_append] at hd
    have hq := ih Q (by simpa using h) hd.1 x
    rw [hq, List.mem_append, List.mem_singleton]
    constructor
    · rintro (rfl | ⟨h1, _⟩)
      · exact .inr rfl
      · exact .inl h1
    · rintro (h1 | rfl)
      · exact .inr ⟨h1, fun e => hd.2.2 x.1 (List.mem_map.2 ⟨x, h1, rfl⟩) m.1 (by simp) e⟩
      · exact .inl rfl
theorem srt_nodup {L : List Mb} (h : SM.Srt L) : (L.map (·.1)).Nodup := by
  have : (L.map (·.1)).Pairwise (· < ·) := by rw [List.pairwise_map]; exact h
  exact List.Pairwise.imp (R := fun a b : Tx => a < b) (fun {a b} hab (e : a = b) => tx_irrefl a (by rw [← e] at hab; exact hab)) this
theorem srt_mem {L K : List Mb} (h : SM.Srt L) (k : SM.Srt K) (hm : ∀ x, x ∈ L ↔ x ∈ K) : L = K := by
  refine h.ext k (fun p => ?_)
  cases hl : SM.look L p with
  | none =>
    symm
    rw [SM.look_none]
    intro x hx e
    exact SM.look_none.1 hl x ((hm x).2 hx) e
  | some n => exact (k.look.2 ((hm _).1 (h.look.1 hl))).symm
end Go.Proofs.YtplafpokgpolkaaGreatDoor
/- CHANGESETS, plainly: change.May: the first error; what each change to a changeset brings (ChangeMay). -/
namespace Go.Proofs.YtplafpokgpolkaaGreatDoor
theorem mayFrom_all {S : List Mb} : ∀ (l : List Mb) (k : Nat), S.drop k = l → (mayFrom S k l = 0 ↔ (∀ j, ∀ hj : j < S.length, k ≤ j → errC S j S[j] = 0) ∧ S.length ≤ 4096)
  | [], k, h => by
    have hk : S.length ≤ k := List.drop_eq_nil_iff.1 h
    unfold mayFrom
    constructor
    · intro e
      refine ⟨fun j hj h1 => by omega, ?_⟩
      split at e
      · cases e
      · omega
    · rintro ⟨_, e⟩
      rw [if_neg (by omega)]
  | m :: r, k, h => by
    have hkl : k < S.length := by
      refine Nat.lt_of_not_le fun e => ?_
      rw [List.drop_eq_nil_of_le e] at h; cases h
    rw [List.drop_eq_getElem_cons hkl] at h
    injection h with h1 h2
    have ih := mayFrom_all r (k + 1) h2
    unfold mayFrom
    rw [← h1]
    by_cases he : errC S k S[k] = 0
    · rw [if_neg (by rw [he]; simp), ih]
      constructor
      · rintro ⟨a, b⟩
        refine ⟨fun j hj hk => ?_, b⟩
        rcases Nat.eq_or_lt_of_le hk with e | e
        · subst e; exact he
        · exact a j hj e
      · rintro ⟨a, b⟩
        exact ⟨fun j hj hk => a j hj (by omega), b⟩
    · rw [if_pos he]
      exact ⟨fun e => (he e).elim, fun ⟨a, _⟩ => (he (a k hkl (Nat.le_refl _))).elim⟩
theorem mayC_zero {S : List Mb} : mayC S = 0 ↔ (∀ j, ∀ hj : j < S.length, errC S j S[j] = 0) ∧ S.length ≤ 4096 := by
  unfold mayC
  rw [mayFrom_all S 0 rfl]
  exact ⟨fun ⟨a, b⟩ => ⟨fun j hj => a j hj (Nat.zero_le _), b⟩, fun ⟨a, b⟩ => ⟨fun j hj _ => a j hj, b⟩⟩
end Go.Proofs.YtplafpokgpolkaaGreatDoor
/- portolanref18's tree, a sorted row of Members: how it lies; Place, dir, set. -/
namespace Go.Proofs.YtplafpokgpolkaaGreatDoor
open Go.RowKit
/-- block R is the document's tree: its row is v, which reads as l -/
structure RefIn (w : World) (R : Nat) (N : Nat → Prop) (v : Value) (l : List Mv) : Prop where
  row : Row w R 103 #[v]
  mbs : Mbs w N N v l
  srt : SM.Srt (l.map (·.1))
  sm : ∀ x ∈ l, Sm x.1
  ne : ¬ N R
theorem RefIn.loc {w w' : World} {R : Nat} {N : Nat → Prop} {v : Value} {l : List Mv} (h : RefIn w R N v l) (hb : ∀ b, b = R ∨ N b → w'.heap[b]? = w.heap[b]?) : RefIn w' R N v l :=
  ⟨by unfold Row; rw [hb R (.inl rfl)]; exact h.row, h.mbs.loc (fun b hb' => hb b (.inr hb')) (fun b hb' => hb b (.inr hb')), h.srt, h.sm, h.ne⟩
theorem RefIn.below {w w' : World} {R B : Nat} {N : Nat → Prop} {v : Value} {l : List Mv} (h : RefIn w R N v l) (hb : Below B w w') (hR : R < B) (hN : ∀ b, N b → b < B) : RefIn w' R N v l :=
  h.loc (fun b hb' => hb.block b (by rcases hb' with rfl | h; exact hR; exact hN b h))
theorem RefIn.mono {w : World} {R : Nat} {N N' : Nat → Prop} {v : Value} {l : List Mv} (h : RefIn w R N v l) (hN : ∀ b, N b → N' b) (hR : ¬ N' R) : RefIn w R N' v l := ⟨h.row, h.mbs.mono hN hN, h.srt, h.sm, hR⟩
end Go.Proofs.YtplafpokgpolkaaGreatDoor
/- portolanref18's tree: clear, Put, Remove. -/
namespace Go.Proofs.YtplafpokgpolkaaGreatDoor
open Go.RowKit
/-- the document's tree behind a call: what it leads to is old, or new -/
def RefTo (w w' : World) (R : Nat) (N : Nat → Prop) (L : List Mb) : Prop := ∃ v' l', RefIn w' R (fun b => N b ∨ Fresh w.heap.size w' b) v' l' ∧ l'.map (·.1) = L
theorem RefTo.of {w w' : World} {R : Nat} {N : Nat → Prop} {v : Value} {l : List Mv} (h : RefIn w R N v l) (hR : R < w.heap.size) (hN : ∀ b, N b → b < w.heap.size) (hb : Below w.heap.size w w') : RefTo w w' R N (l.map (·.1)) :=
  ⟨v, l, (h.below hb hR hN).mono (fun b hb => .inl hb) (fun e => by
    rcases e with e | e
    · exact h.ne e
    · have := e.1; omega), rfl⟩
/-- upon a tree that the call itself left there -/
theorem RefTo.trans {w w1 w' : World} {R : Nat} {N : Nat → Prop} {L : List Mb} (h : RefTo w1 w' R (fun b => N b ∨ Fresh w.heap.size w1 b) L) (h1 : w.heap.size ≤ w1.heap.size) (h2 : w1.heap.size ≤ w'.heap.size) (hR : R < w.heap.size) (hNR : ¬ N R) : RefTo w w' R N L := by
  obtain ⟨v', l', h, e⟩ := h
  refine ⟨v', l', h.mono (fun b hb => ?_) (fun e => ?_), e⟩
  · rcases hb with (hb | hb) | hb
    · exact .inl hb
    · exact .inr ⟨hb.1, by have := hb.2; omega⟩
    · exact .inr ⟨by have := hb.1; omega, hb.2⟩
  · rcases e with e | e
    · exact hNR e
    · have := e.1; omega
end Go.Proofs.YtplafpokgpolkaaGreatDoor
/- portolanref18's tree: New, Get, Under. -/
namespace Go.Proofs.YtplafpokgpolkaaGreatDoor
open Go.RowKit
/-- what portolanref18.New answers: no tree, or one of its own, its Members' slices shared with those that it was handed -/
def RNewIs (w w' : World) (N : Nat → Prop) (pv : Value) : Option (List Mb) → Prop
  | none => pv = .pointer none
  | some L => ∃ R N' v l, pv = .pointer (some ⟨R, 0, none⟩) ∧ RefIn w' R N' v l ∧ l.map (·.1) = L ∧ w.heap.size ≤ R ∧ R < w'.heap.size ∧ ∀ b, N' b → N b ∨ Fresh w.heap.size w' b
end Go.Proofs.YtplafpokgpolkaaGreatDoor
/- A tree that is none: nil, or without a map. -/
namespace Go.Proofs.YtplafpokgpolkaaGreatDoor
open Go.RowKit Go.Shelf
/-- a pointer to no tree -/
def IsNone (w : World) (pv : Value) : Prop := ∃ a, pv = .pointer a ∧ ∀ wx, Below w.heap.size w wx → Calls Tryz.prog 65 #[.pointer a] wx fun e w' => e = .returned (.bool true) ∧ wx = w'
theorem IsNone.on {w w' : World} {pv : Value} (h : IsNone w pv) (hb : Below w.heap.size w w') : IsNone w' pv := by
  obtain ⟨a, e, h⟩ := h
  exact ⟨a, e, fun wx hx => h wx (hb.trans (hx.mono hb.size))⟩
set_option maxHeartbeats 400000 in
set_option maxRecDepth 100000 in
theorem none_nil (w : World) : IsNone w (.pointer none) := ⟨none, rfl, fun wx _ => by
  go_enter Tryz.func65, Tryz.ntmps65
  go_wp2_with fail
  go_ret
  exact ⟨rfl, rfl⟩⟩
set_option maxHeartbeats 1000000 in
set_option maxRecDepth 100000 in
theorem copy_none (pv : Value) (w : World) (h : IsNone w pv) :
    Calls Tryz.prog 31 #[pv] w fun e w' => e = .returned (.pointer none) ∧ Below w.heap.size w w' := by
  obtain ⟨a, rfl, hn⟩ := h
  have HN := Keep.keep (hn w (Below.refl _ _))
  clear hn
  go_enter Tryz.func31, Tryz.ntmps31
  go_wp2_with fail
  refine HN.out.mono ?_
  rintro e w2 ⟨rfl, rfl⟩
  go_wp2_with fail
  go_ret
  exact ⟨rfl, Below.refl _ _⟩
end Go.Proofs.YtplafpokgpolkaaGreatDoor
/- portolanlaw19: Of, Same, Set; a tree, the document's tree, or none. -/
namespace Go.Proofs.YtplafpokgpolkaaGreatDoor
open Go.RowKit
def RfL (w : World) (R : Nat) (t : List Mb) : Prop := ∃ N v l, RefIn w R N v l ∧ l.map (·.1) = t ∧ R < w.heap.size ∧ ∀ b, N b → b < w.heap.size
theorem RfL.on {w w' : World} {R : Nat} {t : List Mb} (h : RfL w R t) (hb : Below w.heap.size w w') : RfL w' R t := by
  obtain ⟨N, v, l, h1, h2, h3, h4⟩ := h
  exact ⟨N, v, l, h1.below hb h3 h4, h2, Nat.lt_of_lt_of_le h3 hb.size, fun b h => Nat.lt_of_lt_of_le (h4 b h) hb.size⟩
def TrO (w : World) (pv : Value) : Option (List Mb) → Prop
  | none => pv = .pointer none
  | some t => ∃ T, pv = .pointer (some ⟨T, 0, none⟩) ∧ TrL w T t
def RfO (w : World) (pv : Value) : Option (List Mb) → Prop
  | none => pv = .pointer none
  | some t => ∃ R, pv = .pointer (some ⟨R, 0, none⟩) ∧ RfL w R t
theorem TrO.on {w w' : World} {pv : Value} {r : Option (List Mb)} (h : TrO w pv r) (hb : Below w.heap.size w w') : TrO w' pv r := by
  cases r with
  | none => exact h
  | some t => obtain ⟨T, e, h⟩ := h; exact ⟨T, e, h.on hb⟩
theorem RfO.on {w w' : World} {pv : Value} {r : Option (List Mb)} (h : RfO w pv r) (hb : Below w.heap.size w w') : RfO w' pv r := by
  cases r with
  | none => exact h
  | some t => obtain ⟨T, e, h⟩ := h; exact ⟨T, e, h.on hb⟩
theorem TrO.ofNew {w w' : World} {pv : Value} {r : Option (List Mb)} (h : NewIs w w' pv r) : TrO w' pv r := by
  cases r with
  | none => exact h
  | some t => exact TrL.ofNew h
theorem RfO.ofNew {w w' : World} {N : Nat → Prop} {pv : Value} {r : Option (List Mb)} (h : RNewIs w w' N pv r) (hN : ∀ b, N b → b < w.heap.size) : RfO w' pv r := by
  cases r with
  | none => exact h
  | some t =>
    obtain ⟨R, N', v, l, e, h1, h2, h3, h4, h5⟩ := h
    exact ⟨R, e, N', v, l, h1, h2, h4, fun b hb => by
      rcases h5 b hb with h | h
      · have := hN b h; omega
      · exact h.2⟩
theorem TrL.srt {w : World} {T : Nat} {t : List Mb} (h : TrL w T t) : SM.Srt t := by
  obtain ⟨mb, Bk, f, h1, -⟩ := h
  exact srt_entries.1 h1.map.s
theorem copy_tr19 {w : World} {T : Nat} {A : List Mb} (h : TrL w T A) (hA : A.length ≤ 100000) :
    Calls Tryz.prog 31 #[.pointer (some ⟨T, 0, none⟩)] w fun e w' => ∃ T2, e = .returned (.pointer (some ⟨T2, 0, none⟩)) ∧ TrL w' T2 A ∧ Below w.heap.size w w' := by
  obtain ⟨mb, Bk, f, h1, h2⟩ := h
  refine (copy_tree T mb Bk f A w h1 h2 hA).mono ?_
  rintro e w' ⟨T2, m2, Bk2, f2, rfl, g1, g2, g3⟩
  exact ⟨T2, rfl, ⟨m2, Bk2, f2, g1, fun b hb => (g2.2.2 b hb).2⟩, g3⟩
end Go.Proofs.YtplafpokgpolkaaGreatDoor
/- What applying changesets gives, one behind the other: a tree or an error, never both. -/
namespace Go.Proofs.YtplafpokgpolkaaGreatDoor
theorem newT_or (P : List Mb) : ((newT P).1 ≠ 0 ∧ (newT P).2 = none) ∨ ∃ t, newT P = (0, some t) ∧ t.length ≤ P.length := by
  unfold newT
  split
  · exact .inl ⟨by decide, rfl⟩
  · split
    · exact .inl ⟨by decide, rfl⟩
    · split
      · exact .inl ⟨by decide, rfl⟩
      · split
        · exact .inl ⟨by decide, rfl⟩
        · exact .inr ⟨_, rfl, growT_len P⟩
theorem apply_or (A S : List Mb) : ((applyC A S).1 ≠ 0 ∧ (applyC A S).2 = none) ∨ ∃ U, applyC A S = (0, some U) ∧ U.length ≤ A.length + S.length := by
  unfold applyC
  split
  · rename_i h; exact .inl ⟨h, rfl⟩
  · rcases newT_or (A.filter (fun m => staysC S m.1) ++ plainC S) with h | ⟨t, h1, h2⟩
    · exact .inl h
    · refine .inr ⟨t, h1, Nat.le_trans h2 ?_⟩
      rw [List.length_append]
      have h3 := List.length_filter_le (fun m => staysC S m.1) A
      have h4 : (plainC S).length ≤ S.length := List.length_filter_le _ S
      omega
/-- changesets, one behind the other -/
def foldC (A : List Mb) : List (List Mb) → Int × Option (List Mb)
  | [] => (0, some A)
  | S :: r => match (applyC A S).2 with
    | none => ((applyC A S).1, none)
    | some U => foldC U r
theorem foldC_fail {A S : List Mb} {r : List (List Mb)} (h : (applyC A S).2 = none) : foldC A (S :: r) = ((applyC A S).1, none) := by
  show (match (applyC A S).2 with | none => _ | some U => _) = _
  rw [h]
theorem foldC_step {A S U : List Mb} {r : List (List Mb)} (h : applyC A S = (0, some U)) : foldC A (S :: r) = foldC U r := by
  show (match (applyC A S).2 with | none => _ | some U => foldC U r) = _
  rw [h]
end Go.Proofs.YtplafpokgpolkaaGreatDoor
/- change.Fold, portolanref19.Fold, change.Stays. -/
namespace Go.Proofs.YtplafpokgpolkaaGreatDoor
open Go.RowKit
/-- a row of slices of Members -/
def SetsL (w : World) (b : Nat) (vs : List (Value × List Mv)) : Prop := Row w b 35 (vs.map (·.1)).toArray ∧ ∀ x ∈ vs, MbL w x.1 x.2
theorem SetsL.on {w w' : World} {b : Nat} {vs : List (Value × List Mv)} (h : SetsL w b vs) (hb : Below w.heap.size w w') : SetsL w' b vs :=
  ⟨h.1.below hb h.1.lt, fun x hx => (h.2 x hx).on hb⟩
abbrev setsC (vs : List (Value × List Mv)) : List (List Mb) := vs.map fun x => x.2.map (·.1)
theorem apply_o {w : World} {T : Nat} {A : List Mb} {v : Value} {l : List Mv} (B : Nat) (hT : Tabs B w) (h : TrL w T A) (hA : A.length ≤ 100000) (hr : MbL w v l) (hs : ∀ x ∈ l, Sm x.1) (hl : l.length ≤ 100000) :
    Calls Tryz.prog 12 #[.pointer (some ⟨T, 0, none⟩), v] w fun e w' => (∃ pv, e = .returned (.tuple #[pv, .int .i64 (applyC A (l.map (·.1))).1]) ∧ TrO w' pv (applyC A (l.map (·.1))).2) ∧ Below w.heap.size w w' := by
  obtain ⟨mb, Bk, f, h1, h2⟩ := h
  refine (apply_any T mb Bk f A v l B w hT h1 h2 hA hr hs hl).mono ?_
  rintro e w' ⟨⟨pv, rfl, hn⟩, hb⟩
  exact ⟨⟨pv, rfl, TrO.ofNew hn⟩, hb⟩
set_option maxHeartbeats 2000000 in
set_option maxRecDepth 100000 in
theorem fold_any (B T : Nat) (A : List Mb) (b n : Nat) (vs : List (Value × List Mv)) (w : World) (hT : Tabs B w) (hR : TrL w T A) (hr : SetsL w b vs) (hs : ∀ x ∈ vs, x.2.length ≤ 600 ∧ ∀ y ∈ x.2, Sm y.1) (hA : A.length ≤ 600) (hn : vs.length = n) (hn4 : n ≤ 4) :
    Calls Tryz.prog 17 #[.pointer (some ⟨T, 0, none⟩), .slice (some ⟨b, 0, none⟩) n n] w fun e w' => (∃ pv, e = .returned (.tuple #[pv, .int .i64 (foldC A (setsC vs)).1]) ∧ TrO w' pv (foldC A (setsC vs)).2) ∧ Below w.heap.size w w' := by
  obtain ⟨res, hres⟩ : ∃ r, foldC A (setsC vs) = r := ⟨_, rfl⟩
  have HRES : Keep (foldC A ((setsC vs).drop 0) = res) := ⟨hres⟩
  rw [hres]
  have HR := Keep.keep hR; have HST := Keep.keep hr; have HS := Keep.keep hs; have HN := Keep.keep hn; have HT := Keep.keep hT
  clear hT hR hr hs hn hres
  go_enter Tryz.func17, Tryz.ntmps17
  go_wp2_with fail
  refine (copy_tr19 HR.out (by omega)).mono ?_
  rintro e w1 ⟨T2, rfl, ht2, hb1⟩
  have HT2 := Keep.keep ht2; have HB1 := Keep.keep hb1
  clear ht2 hb1 HR
  go_wp2_with fail
  go_loopg [6, 16] n (fun g u6 u16 wx => ∃ (k : Nat) (U : List Mb) (Q : Nat), k + g = n ∧ u16 = .int .i64 (k : Int) ∧ u6 = .pointer (some ⟨Q, 0, none⟩) ∧ TrL wx Q U ∧ U.length ≤ 600 + 600 * k ∧ foldC U ((setsC vs).drop k) = res ∧ Below w.heap.size w wx)
  case atStart => exact ⟨0, A, T2, by omega, rfl, rfl, HT2.out, by omega, HRES.out, HB1.out⟩
  case round =>
    obtain ⟨k, U, Q, hkg, rfl, rfl, hU, hul, hfo, hb⟩ := hrel
    have HU := Keep.keep hU; have HFO := Keep.keep hfo; have HB := Keep.keep hb
    clear hU hfo hb
    cases gk with
    | zero =>
      obtain rfl : k = n := by omega
      have HE : Keep (res = (0, some U)) := ⟨by rw [← HFO.out, List.drop_eq_nil_of_le (by rw [List.length_map]; exact Nat.le_of_eq HN.out)]; rfl⟩
      clear HFO HRES
      go_wp2_with fail
      go_ret2
      exact ⟨⟨.pointer (some ⟨Q, 0, none⟩), by rw [HE.out]; rfl, by rw [HE.out]; exact ⟨_, rfl, HU.out⟩⟩, HB.out⟩
    | succ g =>
      have hk : k < n := by omega
      have hkv : k < vs.length := by rw [HN.out]; exact hk
      have hd : decide ((k : Int) < (n : Int)) = true := decide_eq_true (by omega)
      have hst := HST.out.on HB.out
      have hcc := hst.1.cell (i := k) (v := vs[k].1) (by simp [hkv])
      have HX := Keep.keep (hst.2 vs[k] (List.getElem_mem hkv))
      have HXS := Keep.keep (HS.out vs[k] (List.getElem_mem hkv))
      have HDR : Keep ((setsC vs).drop k = (vs[k].2.map (·.1)) :: (setsC vs).drop (k + 1)) := ⟨by
        rw [List.drop_eq_getElem_cons (by rw [List.length_map]; exact hkv), List.getElem_map]⟩
      generalize vs[k] = x at *
      obtain ⟨xv, xl⟩ := x
      dsimp only at hcc HX HXS HDR
      obtain ⟨ax, cx, hxv, -, -, -⟩ := HX.out.rd.shape
      obtain ⟨xn, hxn⟩ : ∃ m, xl.length = m := ⟨_, rfl⟩
      have HXN := Keep.keep hxn
      rw [hxn] at hxv
      have HAP := Keep.keep (apply_o B (HT.out.on (HB.out.mono HT.out.b)) HU.out (by omega) HX.out HXS.out.2 (by have := HXS.out.1; omega))
      have HOR := Keep.keep (apply_or U (xl.map (·.1)))
      have HF1 : Keep ((applyC U (xl.map (·.1))).2 = none → res = ((applyC U (xl.map (·.1))).1, none)) := ⟨fun h => by rw [← HFO.out, HDR.out, foldC_fail h]⟩
      have HF2 : Keep (∀ V, applyC U (xl.map (·.1)) = (0, some V) → foldC V ((setsC vs).drop (k + 1)) = res) := ⟨fun V h => by rw [← HFO.out, HDR.out, foldC_step h]⟩
      have HXL : Keep ((xl.map (·.1)).length ≤ 600) := ⟨by rw [List.length_map]; exact HXS.out.1⟩
      generalize xl.map (·.1) = X at *
      subst hxv
      clear hst HFO HDR hxn
      go_wp2_with fail
      refine HAP.out.mono ?_
      rintro e w2 ⟨⟨pv, rfl, hpv⟩, hb2⟩
      have HB2 := Keep.keep (HB.out.trans (hb2.mono HB.out.size))
      clear hb2 HAP hcc
      rcases HOR.out with ⟨h1, h2⟩ | ⟨V, h1, h2⟩
      · have HRE := Keep.keep (HF1.out h2)
        rw [h2] at hpv
        obtain rfl : pv = .pointer none := hpv
        generalize (applyC U X).1 = e0 at *
        have hz1 : (e0 == 0) = false := by rw [beq_eq_false_iff_ne]; exact h1
        have hz2 : (e0 != 0) = true := by rw [bne, hz1]; rfl
        clear HF1 HF2 HRES h1 h2 HOR
        go_wp2_with fail
        go_ret2
        exact ⟨⟨.pointer none, by rw [HRE.out]; rfl, by rw [HRE.out]; rfl⟩, HB2.out⟩
      · have HRE := Keep.keep (HF2.out V h1)
        rw [h1] at hpv ⊢
        obtain ⟨Q2, rfl, hv2⟩ := hpv
        have HV2 := Keep.keep hv2
        have hvl : V.length ≤ 600 + 600 * (k + 1) := by have := HXL.out; omega
        clear HF1 HF2 HRES h1 hv2 HOR h2
        go_wp2_with fail
        go_roundg g
        case measure => omega
        case rel => exact ⟨k + 1, V, Q2, by omega, by simp, rfl, HV2.out, hvl, HRE.out, HB2.out⟩
set_option maxHeartbeats 1000000 in
set_option maxRecDepth 100000 in
theorem cstays_any (B : Nat) (v : Value) (l : List Mv) (p : Tx) (w : World) (hT : Tabs B w) (hr : MbL w v l) (hs : ∀ x ∈ l, Sm x.1) (hl : l.length ≤ 1000000) (hp : p.length ≤ 1000000) :
    Calls Tryz.prog 19 #[v, .string ⟨p.toArray⟩] w fun e w' => e = .returned (.bool (staysC (l.map (·.1)) p)) ∧ Below w.heap.size w w' := by
  obtain ⟨a, c, hv, -, -, -⟩ := hr.rd.shape
  have HOF := Keep.keep (of_any v l B w hT hr hs hl)
  generalize l.map (·.1) = S at *
  clear hr hs hT
  subst hv
  go_enter Tryz.func19, Tryz.ntmps19
  go_wp2_with fail
  refine HOF.out.mono ?_
  rintro e w1 ⟨b1, b2, b3, rfl, hE, -, hb⟩
  have HE := Keep.keep hE; have HB := Keep.keep hb
  clear hE hb HOF
  go_wp2_with fail
  refine (stays_any b1 b2 b3 S p hp w1 HE.out).mono ?_
  rintro e w2 ⟨rfl, hb⟩
  have HB2 := Keep.keep (HB.out.trans (hb.mono HB.out.size))
  clear hb
  go_wp2_with fail
  go_ret
  exact ⟨rfl, HB2.out⟩
end Go.Proofs.YtplafpokgpolkaaGreatDoor
/- portolanlaw19.wakes. -/
namespace Go.Proofs.YtplafpokgpolkaaGreatDoor
open Go.RowKit
def wT : List Mb := [([97], dirM 448), ([97, 47, 120], fileD [49]), ([97, 47, 121], fileD [50]), ([98], fileD [51])]
def wS1 : List Mb := [([97], dirM 493), ([97, 47, 46, 119, 104, 46, 120], fileD []), ([97, 47, 122], fileD [52]), ([98], dirM 0), ([98, 47, 99], fileD [53])]
def wS2 : List Mb := [([97], dirM 493), ([97, 47, 46, 119, 104, 46, 46, 119, 104, 46, 46, 111, 112, 113], fileD []), ([97, 47, 122], fileD [52]), ([98], dirM 0), ([98, 47, 99], fileD [53])]
def wU : List Mb := [([97], dirM 493), ([97, 47, 121], fileD [50]), ([97, 47, 122], fileD [52]), ([98], dirM 0), ([98, 47, 99], fileD [53])]
def wV : List Mb := [([97], dirM 493), ([97, 47, 122], fileD [52]), ([98], dirM 0), ([98, 47, 99], fileD [53])]
set_option maxRecDepth 100000 in
theorem wn1 : newT wT = (0, some wT) := by kernel_rfl
set_option maxRecDepth 100000 in
theorem wa1 : applyC wT wS1 = (0, some wU) := by kernel_rfl
set_option maxRecDepth 100000 in
theorem wa2 : applyC wT wS2 = (0, some wV) := by kernel_rfl
set_option maxRecDepth 100000 in
theorem wg1 : getT wU [97] = (⟨1, 493, 0, 0, 0, [], [], []⟩, true) := by kernel_rfl
set_option maxHeartbeats 8000000 in
set_option maxRecDepth 100000 in
theorem wakes19_any (B : Nat) (w : World) (hT : Tabs B w) : Calls Tryz.prog 20 #[] w fun e w' => e = .returned (.bool true) ∧ Below w.heap.size w w' := by
  have HT := Keep.keep hT
  have HW0 : Keep (Below w.heap.size w w) := ⟨Below.refl _ _⟩
  clear hT
  go_enter Tryz.func20, Tryz.ntmps20
  go_wp2_with fail
  refine (dir_any [97] 448 _).mono ?_
  rintro e w1 ⟨rfl, hb⟩
  have HW1 := Keep.keep (HW0.out.trans (hb.mono HW0.out.size))
  clear hb
  go_wp2_with fail
  refine (file_any [97, 47, 120] [49] 1 rfl (by decide) _).mono ?_
  rintro e w2 ⟨a0, c0, rfl, hn, hb⟩
  have HW2 := Keep.keep (HW1.out.trans (hb.mono HW1.out.size))
  have HN0 := Keep.keep hn
  clear hn hb
  go_wp2_with fail
  refine (file_any [97, 47, 121] [50] 1 rfl (by decide) _).mono ?_
  rintro e w3 ⟨a1, c1, rfl, hn, hb⟩
  have HW3 := Keep.keep (HW2.out.trans (hb.mono HW2.out.size))
  have HN0' := Keep.keep (HN0.out.on hb)
  clear HN0
  have HN0 := HN0'
  clear HN0'
  have HN1 := Keep.keep hn
  clear hn hb
  go_wp2_with fail
  refine (file_any [98] [51] 1 rfl (by decide) _).mono ?_
  rintro e w4 ⟨a2, c2, rfl, hn, hb⟩
  have HW4 := Keep.keep (HW3.out.trans (hb.mono HW3.out.size))
  have HN0' := Keep.keep (HN0.out.on hb)
  clear HN0
  have HN0 := HN0'
  clear HN0'
  have HN1' := Keep.keep (HN1.out.on hb)
  clear HN1
  have HN1 := HN1'
  clear HN1'
  have HN2 := Keep.keep hn
  clear hn hb
  go_wp2_with fail
  refine calls_at (R := fun wq => Below w4.heap.size w4 wq ∧ SetL wq w4.heap.size ([(([97], dirM 448), nilV, nilV), (([97, 47, 120], fileD [49]), nilV, .slice a0 1 c0), (([97, 47, 121], fileD [50]), nilV, .slice a1 1 c1), (([98], fileD [51]), nilV, .slice a2 1 c2)] : List Mv)) ⟨(Below.refl _ _).alloc (Nat.le_refl _) _, SetL.new (fun x hx => ?_) rfl⟩ ?_
  · simp only [List.mem_cons, List.not_mem_nil, or_false] at hx
    rcases hx with rfl | rfl | rfl | rfl
    · exact dirL _ _
    · exact HN0.out
    · exact HN1.out
    · exact HN2.out
  intro w5 Hq
  have hbq := Hq.out.1
  have HW5 := Keep.keep (HW4.out.trans (hbq.mono HW4.out.size))
  have HN0' := Keep.keep (HN0.out.on hbq)
  clear HN0
  have HN0 := HN0'
  clear HN0'
  have HN1' := Keep.keep (HN1.out.on hbq)
  clear HN1
  have HN1 := HN1'
  clear HN1'
  have HN2' := Keep.keep (HN2.out.on hbq)
  clear HN2
  have HN2 := HN2'
  clear HN2'
  refine (new_tr B (HT.out.on (HW5.out.mono HT.out.b)) (Hq.out.2.mb (n := 4) rfl (by decide)) (fun x hx => ?_) (by simp) wn1).mono ?_
  · simp only [List.mem_cons, List.not_mem_nil, or_false] at hx
    rcases hx with rfl | rfl | rfl | rfl
    · exact sm_dirM _ _ (by decide)
    · exact sm_fileD _ _ (by decide) (by decide)
    · exact sm_fileD _ _ (by decide) (by decide)
    · exact sm_fileD _ _ (by decide) (by decide)
  rintro e w6 ⟨T1, rfl, ht, hb⟩
  have HW6 := Keep.keep (HW5.out.trans (hb.mono HW5.out.size))
  have HN0' := Keep.keep (HN0.out.on hb)
  clear HN0
  have HN0 := HN0'
  clear HN0'
  have HN1' := Keep.keep (HN1.out.on hb)
  clear HN1
  have HN1 := HN1'
  clear HN1'
  have HN2' := Keep.keep (HN2.out.on hb)
  clear HN2
  have HN2 := HN2'
  clear HN2'
  have HT1 := Keep.keep ht
  clear ht hb hbq Hq
  clear HN0
  clear HN1
  clear HN2
  go_wp2_with fail
  refine (dir_any [97] 493 _).mono ?_
  rintro e w7 ⟨rfl, hb⟩
  have HW7 := Keep.keep (HW6.out.trans (hb.mono HW6.out.size))
  have HT1' := Keep.keep (HT1.out.on hb)
  clear HT1
  have HT1 := HT1'
  clear HT1'
  clear hb
  go_wp2_with fail
  refine (file_any [97, 47, 46, 119, 104, 46, 120] [] 0 rfl (by decide) _).mono ?_
  rintro e w8 ⟨a3, c3, rfl, hn, hb⟩
  have HW8 := Keep.keep (HW7.out.trans (hb.mono HW7.out.size))
  have HT1' := Keep.keep (HT1.out.on hb)
  clear HT1
  have HT1 := HT1'
  clear HT1'
  have HN3 := Keep.keep hn
  clear hn hb
  go_wp2_with fail
  refine (file_any [97, 47, 122] [52] 1 rfl (by decide) _).mono ?_
  rintro e w9 ⟨a4, c4, rfl, hn, hb⟩
  have HW9 := Keep.keep (HW8.out.trans (hb.mono HW8.out.size))
  have HT1' := Keep.keep (HT1.out.on hb)
  clear HT1
  have HT1 := HT1'
  clear HT1'
  have HN3' := Keep.keep (HN3.out.on hb)
  clear HN3
  have HN3 := HN3'
  clear HN3'
  have HN4 := Keep.keep hn
  clear hn hb
  go_wp2_with fail
  refine (dir_any [98] 0 _).mono ?_
  rintro e w10 ⟨rfl, hb⟩
  have HW10 := Keep.keep (HW9.out.trans (hb.mono HW9.out.size))
  have HT1' := Keep.keep (HT1.out.on hb)
  clear HT1
  have HT1 := HT1'
  clear HT1'
  have HN3' := Keep.keep (HN3.out.on hb)
  clear HN3
  have HN3 := HN3'
  clear HN3'
  have HN4' := Keep.keep (HN4.out.on hb)
  clear HN4
  have HN4 := HN4'
  clear HN4'
  clear hb
  go_wp2_with fail
  refine (file_any [98, 47, 99] [53] 1 rfl (by decide) _).mono ?_
  rintro e w11 ⟨a5, c5, rfl, hn, hb⟩
  have HW11 := Keep.keep (HW10.out.trans (hb.mono HW10.out.size))
  have HT1' := Keep.keep (HT1.out.on hb)
  clear HT1
  have HT1 := HT1'
  clear HT1'
  have HN3' := Keep.keep (HN3.out.on hb)
  clear HN3
  have HN3 := HN3'
  clear HN3'
  have HN4' := Keep.keep (HN4.out.on hb)
  clear HN4
  have HN4 := HN4'
  clear HN4'
  have HN5 := Keep.keep hn
  clear hn hb
  go_wp2_with fail
  refine calls_at (R := fun wq => Below w11.heap.size w11 wq ∧ SetL wq w11.heap.size ([(([97], dirM 493), nilV, nilV), (([97, 47, 46, 119, 104, 46, 120], fileD []), nilV, .slice a3 0 c3), (([97, 47, 122], fileD [52]), nilV, .slice a4 1 c4), (([98], dirM 0), nilV, nilV), (([98, 47, 99], fileD [53]), nilV, .slice a5 1 c5)] : List Mv)) ⟨(Below.refl _ _).alloc (Nat.le_refl _) _, SetL.new (fun x hx => ?_) rfl⟩ ?_
  · simp only [List.mem_cons, List.not_mem_nil, or_false] at hx
    rcases hx with rfl | rfl | rfl | rfl | rfl
    · exact dirL _ _
    · exact HN3.out
    · exact HN4.out
    · exact dirL _ _
    · exact HN5.out
  have HX1 := Keep.keep (HT1.out.x (Nat.le_refl _))
  have hbw : w.heap.size ≤ w11.heap.size := HW11.out.size
  obtain ⟨b3, hb3⟩ : ∃ b3, b3 = w11.heap.size := ⟨_, rfl⟩
  have HB3 : Keep (w.heap.size ≤ b3) := ⟨by rw [hb3]; exact hbw⟩
  rw [← hb3] at HX1 ⊢
  clear hbw
  intro w12 Hq
  have hbq := Hq.out.1
  rw [hb3] at hbq
  clear hb3
  clear HN3
  clear HN4
  clear HN5
  clear HT1
  have HW12 := Keep.keep (HW11.out.trans (hbq.mono HW11.out.size))
  have HX1' := Keep.keep (HX1.out.on hbq)
  clear HX1
  have HX1 := HX1'
  clear HX1'
  have HS1 := Keep.keep Hq.out.2
  clear Hq hbq
  refine (apply_tr B (HT.out.on (HW12.out.mono HT.out.b)) HX1.out.tr (by decide) (HS1.out.mb (n := 5) rfl (by decide)) (fun x hx => ?_) (by simp) wa1).mono ?_
  · simp only [List.mem_cons, List.not_mem_nil, or_false] at hx
    rcases hx with rfl | rfl | rfl | rfl | rfl
    · exact sm_dirM _ _ (by decide)
    · exact sm_fileD _ _ (by decide) (by decide)
    · exact sm_fileD _ _ (by decide) (by decide)
    · exact sm_dirM _ _ (by decide)
    · exact sm_fileD _ _ (by decide) (by decide)
  rintro e w13 ⟨U1, rfl, -, hu, hb⟩
  have HU1 := Keep.keep (hu b3 HS1.out.1.lt)
  have HW13 := Keep.keep (HW12.out.trans (hb.mono HW12.out.size))
  have HX1' := Keep.keep (HX1.out.on hb)
  clear HX1
  have HX1 := HX1'
  clear HX1'
  have HS1' := Keep.keep (HS1.out.on hb)
  clear HS1
  have HS1 := HS1'
  clear HS1'
  clear hb hu
  have k9 := HS1.out.1.cell (i := 9) rfl
  have f9 := HS1.out.1.frozen 9
  go_wp2_with fail
  refine calls_at (R := fun wq => Below w.heap.size w wq ∧ SetL wq b3 ([(([97], dirM 493), nilV, nilV), (([97, 47, 46, 119, 104, 46, 46, 119, 104, 46, 46, 111, 112, 113], fileD []), nilV, .slice a3 0 c3), (([97, 47, 122], fileD [52]), nilV, .slice a4 1 c4), (([98], dirM 0), nilV, nilV), (([98, 47, 99], fileD [53]), nilV, .slice a5 1 c5)] : List Mv) ∧ TrX b3 wq T1 wT ∧ TrX b3 wq U1 wU) ⟨?_, HS1.out.set (i := 9) (v := .string ⟨([97, 47, 46, 119, 104, 46, 46, 119, 104, 46, 46, 111, 112, 113] : Tx).toArray⟩) rfl (fun x hx => ?_), HX1.out.set, HU1.out.set⟩ ?_
  · exact ((Chg.of_below (M := NoM) HW13.out).setCell (.inl HB3.out) _).below (fun _ _ h => h)
  · simp only [List.mem_cons, List.not_mem_nil, or_false] at hx
    rcases hx with rfl | rfl | rfl | rfl | rfl
    · exact ⟨(([97], dirM 493), nilV, nilV), by simp, rfl, rfl⟩
    · exact ⟨(([97, 47, 46, 119, 104, 46, 120], fileD []), nilV, .slice a3 0 c3), by simp, rfl, rfl⟩
    · exact ⟨(([97, 47, 122], fileD [52]), nilV, .slice a4 1 c4), by simp, rfl, rfl⟩
    · exact ⟨(([98], dirM 0), nilV, nilV), by simp, rfl, rfl⟩
    · exact ⟨(([98, 47, 99], fileD [53]), nilV, .slice a5 1 c5), by simp, rfl, rfl⟩
  intro w14 Hq
  clear k9 f9 HX1 HU1 HS1 HW13
  have HW14 := Keep.keep Hq.out.1
  have HS1 := Keep.keep Hq.out.2.1
  have HX1 := Keep.keep Hq.out.2.2.1
  have HU1 := Keep.keep Hq.out.2.2.2
  clear Hq
  refine (apply_tr B (HT.out.on (HW14.out.mono HT.out.b)) HX1.out.tr (by decide) (HS1.out.mb (n := 5) rfl (by decide)) (fun x hx => ?_) (by simp) wa2).mono ?_
  · simp only [List.mem_cons, List.not_mem_nil, or_false] at hx
    rcases hx with rfl | rfl | rfl | rfl | rfl
    · exact sm_dirM _ _ (by decide)
    · exact sm_fileD _ _ (by decide) (by decide)
    · exact sm_fileD _ _ (by decide) (by decide)
    · exact sm_dirM _ _ (by decide)
    · exact sm_fileD _ _ (by decide) (by decide)
  rintro e w15 ⟨V1, rfl, hv, -, hb⟩
  clear HX1 HS1
  have HV1 := Keep.keep hv
  have HW15 := Keep.keep (HW14.out.trans (hb.mono HW14.out.size))
  have HU1' := Keep.keep (HU1.out.on hb)
  clear HU1
  have HU1 := HU1'
  clear HU1'
  clear hb hv
  go_wp2_with fail
  refine (get_tr HU1.out.tr [97] (by decide) wg1).mono ?_
  rintro e w16 ⟨aa, la, ca, ad, ld, cd, rfl, -, hb⟩
  have HW16 := Keep.keep (HW15.out.trans (hb.mono HW15.out.size))
  have HU1' := Keep.keep (HU1.out.on hb)
  clear HU1
  have HU1 := HU1'
  clear HU1'
  have HV1' := Keep.keep (HV1.out.on hb)
  clear HV1
  have HV1 := HV1'
  clear HV1'
  clear hb
  go_upto_region 7 with fail
  refine wp_world (R := fun wq => Hp NoM w16 wq [rowA w16.heap.size 30 #[.int .i64 1, .int .u32 493, .int .u32 0, .int .u32 0, .int .i64 0, .slice aa la ca, .slice ad ld cd, .string ⟨(([] : Tx)).toArray⟩]]) ((Hp.begin NoM w16).newRow _ _) ?_
  intro w17 Hq
  have hbq := Hq.out.below
  have HW17 := Keep.keep (HW16.out.trans (hbq.mono HW16.out.size))
  have HU1' := Keep.keep (HU1.out.on hbq)
  clear HU1
  have HU1 := HU1'
  clear HU1'
  have HV1' := Keep.keep (HV1.out.on hbq)
  clear HV1
  have HV1 := HV1'
  clear HV1'
  have c81 := (Hq.out.row 0 rfl).cell (i := 1) rfl
  obtain ⟨b8, hb8⟩ : ∃ b8, b8 = w16.heap.size := ⟨_, rfl⟩
  rw [← hb8] at c81 ⊢
  clear hb8 Hq hbq
  go_wp2_with fail
  refine (paths_any HU1.out.tr (by decide)).mono ?_
  rintro e w18 ⟨vp, rfl, ho, hb⟩
  have HW18 := Keep.keep (HW17.out.trans (hb.mono HW17.out.size))
  have HU1' := Keep.keep (HU1.out.on hb)
  clear HU1
  have HU1 := HU1'
  clear HU1'
  have HV1' := Keep.keep (HV1.out.on hb)
  clear HV1
  have HV1 := HV1'
  clear HV1'
  obtain ⟨ap, cp, hvp, -⟩ := (ownsV_reads ho).shape
  replace hvp : vp = .slice ap 5 cp := hvp
  have HP := Keep.keep ho.rd'
  clear ho hb c81
  subst hvp
  go_wp2_with fail
  refine calls_at (R := fun wq => Below w18.heap.size w18 wq ∧ RdS wq (· < wq.heap.size) (.slice (some ⟨w18.heap.size, 0, none⟩) 5 5) [[97], [97, 47, 121], [97, 47, 122], [98], [98, 47, 99]]) ⟨(Below.refl _ _).alloc (Nat.le_refl _) _, RdV.new 9 (([[97], [97, 47, 121], [97, 47, 122], [98], [98, 47, 99]] : List Tx).map strV) 1 5 _ rfl rfl (by unfold maxLen; omega) (by simp)⟩ ?_
  intro w19 Hq
  have hbq := Hq.out.1
  have HP' := Keep.keep (RdS.on' HP.out hbq)
  clear HP
  have HW19 := Keep.keep (HW18.out.trans (hbq.mono HW18.out.size))
  have HU1' := Keep.keep (HU1.out.on hbq)
  clear HU1
  have HU1 := HU1'
  clear HU1'
  have HV1' := Keep.keep (HV1.out.on hbq)
  clear HV1
  have HV1 := HV1'
  clear HV1'
  refine (sequal_any _ _ _ _ _ HP'.out Hq.out.2 (by decide) (by decide)).mono ?_
  rw [show decide ((wU).map (·.1) = [[97], [97, 47, 121], [97, 47, 122], [98], [98, 47, 99]]) = true from by decide]
  rintro e w20 ⟨rfl, hb⟩
  have HW20 := Keep.keep (HW19.out.trans (hb.mono HW19.out.size))
  have HU1' := Keep.keep (HU1.out.on hb)
  clear HU1
  have HU1 := HU1'
  clear HU1'
  have HV1' := Keep.keep (HV1.out.on hb)
  clear HV1
  have HV1 := HV1'
  clear HV1'
  clear hb Hq hbq HP'
  go_wp2_with fail
  refine (paths_any HV1.out (by decide)).mono ?_
  rintro e w21 ⟨vp, rfl, ho, hb⟩
  have HW21 := Keep.keep (HW20.out.trans (hb.mono HW20.out.size))
  have HV1' := Keep.keep (HV1.out.on hb)
  clear HV1
  have HV1 := HV1'
  clear HV1'
  obtain ⟨ap, cp, hvp, -⟩ := (ownsV_reads ho).shape
  replace hvp : vp = .slice ap 4 cp := hvp
  have HP := Keep.keep ho.rd'
  clear ho hb
  subst hvp
  go_wp2_with fail
  refine calls_at (R := fun wq => Below w21.heap.size w21 wq ∧ RdS wq (· < wq.heap.size) (.slice (some ⟨w21.heap.size, 0, none⟩) 4 4) [[97], [97, 47, 122], [98], [98, 47, 99]]) ⟨(Below.refl _ _).alloc (Nat.le_refl _) _, RdV.new 9 (([[97], [97, 47, 122], [98], [98, 47, 99]] : List Tx).map strV) 1 4 _ rfl rfl (by unfold maxLen; omega) (by simp)⟩ ?_
  intro w22 Hq
  have hbq := Hq.out.1
  have HP' := Keep.keep (RdS.on' HP.out hbq)
  clear HP
  have HW22 := Keep.keep (HW21.out.trans (hbq.mono HW21.out.size))
  have HV1' := Keep.keep (HV1.out.on hbq)
  clear HV1
  have HV1 := HV1'
  clear HV1'
  refine (sequal_any _ _ _ _ _ HP'.out Hq.out.2 (by decide) (by decide)).mono ?_
  rw [show decide ((wV).map (·.1) = [[97], [97, 47, 122], [98], [98, 47, 99]]) = true from by decide]
  rintro e w23 ⟨rfl, hb⟩
  have HW23 := Keep.keep (HW22.out.trans (hb.mono HW22.out.size))
  have HV1' := Keep.keep (HV1.out.on hb)
  clear HV1
  have HV1 := HV1'
  clear HV1'
  clear hb Hq hbq HP'
  go_wp2_with fail
  go_ret
  exact ⟨rfl, HW23.out⟩
end Go.Proofs.YtplafpokgpolkaaGreatDoor
/- portolanlaw19.ChangeKnown's closures. -/
namespace Go.Proofs.YtplafpokgpolkaaGreatDoor
open Go.RowKit
/-- the boxed tree -/
def BoxT (w : World) (b T : Nat) (A : List Mb) : Prop := w.cell? ⟨b, 0, none⟩ = some (.pointer (some ⟨T, 0, none⟩)) ∧ TrL w T A
theorem BoxT.on {w w' : World} {b T : Nat} {A : List Mb} (h : BoxT w b T A) (hb : Below w.heap.size w w') : BoxT w' b T A :=
  ⟨by rw [hb.cell (p := ⟨b, 0, none⟩) (World.block_lt_of_cell? w _ h.1)]; exact h.1, h.2.on hb⟩
set_option maxHeartbeats 1000000 in
set_option maxRecDepth 100000 in
theorem k1_any (B b T : Nat) (A : List Mb) (v : Value) (l : List Mv) (w : World) (hT : Tabs B w) (hB : BoxT w b T A) (hA : A.length ≤ 100000) (hr : MbL w v l) (hs : ∀ x ∈ l, Sm x.1) (hl : l.length ≤ 100000) {c : Int} (hc : (applyC A (l.map (·.1))).1 = c) :
    Calls Tryz.prog 11 #[v, .pointer (some ⟨b, 0, none⟩)] w fun e w' => e = .returned (.int .i64 c) ∧ Below w.heap.size w w' := by
  obtain ⟨a, cp, hv, -, -, -⟩ := hr.rd.shape
  have HAP := Keep.keep (apply_o B hT hB.2 hA hr hs hl)
  rw [hc] at HAP
  have c0 := hB.1
  clear hT hB hr hs hc
  subst hv
  go_enter Tryz.func11, Tryz.ntmps11
  go_wp2_with fail
  refine HAP.out.mono ?_
  rintro e w1 ⟨⟨pv, rfl, -⟩, hb⟩
  have HB := Keep.keep hb
  clear hb HAP c0
  go_wp2_with fail
  go_ret
  exact ⟨rfl, HB.out⟩
set_option maxHeartbeats 1000000 in
set_option maxRecDepth 100000 in
theorem k2_any (B b T : Nat) (A U : List Mb) (v : Value) (l : List Mv) (w : World) (hT : Tabs B w) (hB : BoxT w b T A) (hA : A.length ≤ 100000) (hr : MbL w v l) (hs : ∀ x ∈ l, Sm x.1) (hl : l.length ≤ 100000) (hU : U.length ≤ 100000) (hc : applyC A (l.map (·.1)) = (0, some U)) :
    Calls Tryz.prog 13 #[v, .pointer (some ⟨b, 0, none⟩)] w fun e w' => ∃ v', e = .returned v' ∧ OwnS w' w.heap.size v' (U.map (·.1)) ∧ Below w.heap.size w w' := by
  obtain ⟨a, cp, hv, -, -, -⟩ := hr.rd.shape
  have HAP := Keep.keep (apply_o B hT hB.2 hA hr hs hl)
  rw [hc] at HAP
  dsimp only at HAP
  have c0 := hB.1
  obtain ⟨ps, hps⟩ : ∃ ps, U.map (·.1) = ps := ⟨_, rfl⟩
  have HPS := Keep.keep hps
  rw [hps]
  clear hps
  clear hT hB hr hs hc
  subst hv
  go_enter Tryz.func13, Tryz.ntmps13
  go_wp2_with fail
  refine HAP.out.mono ?_
  rintro e w1 ⟨⟨pv, rfl, hp⟩, hb⟩
  obtain ⟨T2, rfl, ht⟩ := hp
  have HT2 := Keep.keep ht
  have HB := Keep.keep hb
  clear hb HAP c0 ht
  go_wp2_with fail
  refine (paths_any HT2.out hU).mono ?_
  rw [HPS.out]
  rintro e w2 ⟨v2, rfl, ho, hb⟩
  have HO := Keep.keep (ownsRow_base ho HB.out.size)
  have HB2 := Keep.keep (HB.out.trans (hb.mono HB.out.size))
  obtain ⟨a2, c2, hv2, -⟩ := (ownsV_reads ho).shape
  clear ho hb
  subst hv2
  go_wp2_with fail
  go_ret
  exact ⟨_, rfl, HO.out, HB2.out⟩
set_option maxHeartbeats 1000000 in
set_option maxRecDepth 100000 in
theorem k3_any (v u : Value) (l l2 : List Tx) (w : World) (h1 : RdS w (· < w.heap.size) v l) (h2 : RdS w (· < w.heap.size) u l2) (hn : l.length ≤ 1000) (hn2 : l2.length ≤ 1000) (he : l = l2) :
    Calls Tryz.prog 15 #[v, u] w fun e w' => e = .returned (.bool true) ∧ Below w.heap.size w w' := by
  obtain ⟨a1, c1, hv1, -, -, -⟩ := h1.shape
  obtain ⟨a2, c2, hv2, -, -, -⟩ := h2.shape
  have HSE := Keep.keep (sequal_any _ _ l l2 w h1 h2 (by omega) (by omega))
  rw [decide_eq_true he] at HSE
  clear h1 h2 he
  subst hv1 hv2
  go_enter Tryz.func15, Tryz.ntmps15
  go_wp2_with fail
  refine HSE.out.mono ?_
  rintro e w1 ⟨rfl, hb⟩
  have HB := Keep.keep hb
  clear hb HSE
  go_wp2_with fail
  go_ret
  exact ⟨rfl, HB.out⟩
set_option maxHeartbeats 1000000 in
set_option maxRecDepth 100000 in
theorem apply_nil (v : Value) (w : World) (hv : v = .slice none 0 0) : Calls Tryz.prog 12 #[.pointer none, v] w fun e w' => e = .returned (.tuple #[.pointer none, .int .i64 2]) ∧ Below w.heap.size w w' := by
  subst hv
  go_enter Tryz.func12, Tryz.ntmps12
  go_wp2_with fail
  refine (copy_none _ w (none_nil w)).mono ?_
  rintro e w1 ⟨rfl, hb⟩
  have HB := Keep.keep hb
  clear hb
  go_wp2_with fail
  go_ret2
  exact ⟨rfl, HB.out⟩
set_option maxHeartbeats 1000000 in
set_option maxRecDepth 100000 in
theorem fold_nil (v : Value) (w : World) (hv : v = .slice none 0 0) : Calls Tryz.prog 17 #[.pointer none, v] w fun e w' => e = .returned (.tuple #[.pointer none, .int .i64 2]) ∧ Below w.heap.size w w' := by
  subst hv
  go_enter Tryz.func17, Tryz.ntmps17
  go_wp2_with fail
  refine (copy_none _ w (none_nil w)).mono ?_
  rintro e w1 ⟨rfl, hb⟩
  have HB := Keep.keep hb
  clear hb
  go_wp2_with fail
  go_ret2
  exact ⟨rfl, HB.out⟩
set_option maxHeartbeats 1000000 in
set_option maxRecDepth 100000 in
theorem fold_none (T : Nat) (A : List Mb) (w : World) (h : TrL w T A) (hA : A.length ≤ 100000) : Calls Tryz.prog 17 #[.pointer (some ⟨T, 0, none⟩), .slice none 0 0] w fun e w' => ∃ T2, e = .returned (.tuple #[.pointer (some ⟨T2, 0, none⟩), .int .i64 0]) ∧ TrL w' T2 A ∧ Below w.heap.size w w' := by
  have HCP := Keep.keep (copy_tr19 h hA)
  clear h
  go_enter Tryz.func17, Tryz.ntmps17
  go_wp2_with fail
  refine HCP.out.mono ?_
  rintro e w1 ⟨T2, rfl, ht, hb⟩
  have HT2 := Keep.keep ht
  have HB := Keep.keep hb
  clear hb ht HCP
  go_wp2_with fail
  go_loopg [6, 16] 0 (fun g u6 u16 wx => g = 0 ∧ u6 = .pointer (some ⟨T2, 0, none⟩) ∧ u16 = .int .i64 0 ∧ TrL wx T2 A ∧ Below w.heap.size w wx)
  case atStart => exact ⟨rfl, rfl, rfl, HT2.out, HB.out⟩
  case round =>
    obtain ⟨rfl, rfl, rfl, ht2, hb2⟩ := hrel
    have HT3 := Keep.keep ht2
    have HB3 := Keep.keep hb2
    clear ht2 hb2 HT2 HB
    go_wp2_with fail
    go_ret2
    exact ⟨_, rfl, HT3.out, HB3.out⟩
end Go.Proofs.YtplafpokgpolkaaGreatDoor
/- A row of Members just made; a Member laid into a row of one's own. -/
namespace Go.Proofs.YtplafpokgpolkaaGreatDoor
open Go.RowKit
def z9 : Mv := (([], nd0), nilV, nilV)
theorem made_mbs (n : Nat) : madeCells (Value.agg (mbC ([], nd0) nilV nilV)).cells (n * 9) = (mcells (List.replicate n z9)).toArray := by
  have hl : (mcells (List.replicate n z9)).length = n * 9 := by rw [mcells_length, List.length_replicate]
  refine Array.ext (by rw [size_madeCells, List.size_toArray, hl]) fun i h1 h2 => ?_
  rw [size_madeCells] at h1
  have hi : i = i / 9 * 9 + i % 9 := by omega
  have hm : i % 9 < 9 := Nat.mod_lt _ (by omega)
  have e1 : (mcells (List.replicate n z9))[i]? = (mcell z9).toList[i % 9]? := by
    conv => lhs; rw [hi, mcells_at _ _ _ hm, List.getElem?_replicate, if_pos (by omega)]
    rfl
  have e2 : (mcells (List.replicate n z9)).toArray[i] = (mcells (List.replicate n z9))[i]'(by rw [hl]; exact h1) := by simp
  rw [e2]
  rw [List.getElem?_eq_getElem (by rw [hl]; exact h1)] at e1
  have e3 : (madeCells (Value.agg (mbC ([], nd0) nilV nilV)).cells (n * 9))[i]'(by rw [size_madeCells]; exact h1) = (mbC ([], nd0) nilV nilV)[i % 9]! := by
    simp only [madeCells, Array.getElem_map, Array.getElem_range]
    rfl
  rw [e3]
  have e4 : (mcell z9).toList[i % 9]? = some ((mbC ([], nd0) nilV nilV)[i % 9]!) := by
    generalize i % 9 = j at hm
    match j, hm with
    | 0, _ => rfl
    | 1, _ => rfl
    | 2, _ => rfl
    | 3, _ => rfl
    | 4, _ => rfl
    | 5, _ => rfl
    | 6, _ => rfl
    | 7, _ => rfl
    | 8, _ => rfl
    | j + 9, h => omega
  rw [e4] at e1
  exact (Option.some.inj e1).symm
theorem mk_mbs (n : Nat) (a : Int) (ha : a = (n : Int)) (hn : n ≤ 100000) (w : World) : (Instr.makeSlice 35 (.int .i64 a) (.int .i64 a)).run Tryz.prog w = .ok (.slice (some ⟨w.heap.size, 0, none⟩) n n) (w.alloc (.cells (mcells (List.replicate n z9)).toArray 32)) := by
  subst ha
  obtain ⟨i, hq, h1, h2, h3⟩ := slMb.i
  have hr := run_make (P := Tryz.prog) w 35 32 i _ slMb.u hq h1 .i64 .i64 (n : Int) (n : Int) (by omega) (Int.le_refl _) (by rw [h3]; omega) (by omega)
  rw [hr, Int.toNat_natCast, h2, made_mbs]
theorem new_mbs (B : Nat) (K : Nat → Prop) (w : World) (n : Nat) (hn : n ≤ 100000) (hB : B ≤ w.heap.size) : RowM B K (w.alloc (.cells (mcells (List.replicate n z9)).toArray 32)) (.slice (some ⟨w.heap.size, 0, none⟩) n n) (List.replicate n z9) := by
  refine ⟨?_, fun x hx => ?_⟩
  · have := ownsV_new (w := w) 32 (mcells (List.replicate n z9)) 9 n w.heap.size B rfl hB (by rw [mcells_length, List.length_replicate]) (by unfold maxLen; omega)
    rw [List.length_replicate]
    exact this
  · obtain rfl := List.eq_of_mem_replicate hx
    exact ndR_nil rfl rfl
/-- ARM: a Member laid into a row of one's own -/
theorem arm_setMbK {ops : Array Oper} {rest : List Oper} {a : Act} {w : World} {Q : Exit → Act → World → Prop} {tp : TypeId} {dst : Option Tmp} {x y : Operand} {pos : String} {after : Array Edge} {B g cap n k : Nat} {K N : Nat → Prop} {l : List Mv} (m : Mv)
    (hB : B ≤ w.heap.size) (h : RowM B K w (.slice (some ⟨g, 0, none⟩) n cap) l) (hn : n = l.length) (hk : k < l.length) (hm : NdR w N m.1.2 m.2.1 m.2.2) (hN : ∀ b, N b → (K b ∨ B ≤ b) ∧ b < w.heap.size ∧ b ≠ g) (hx : a.eval x = .pointer (some ⟨g, k * 9, none⟩)) (hy : a.eval y = .agg (mcell m))
    (hc : ∀ w', RowM B K w' (.slice (some ⟨g, 0, none⟩) n cap) (l.set k m) → Below B w w' → wpList Tryz.prog ops Q rest (a.put dst undef) w') :
    wpList Tryz.prog ops Q (⟨dst, .store 32 x y, tp, pos, after, none⟩ :: rest) a w := by
  subst hn
  have ht := owns_there h.own rfl hk
  have h2 := owns_setCells (mcell m).toList _ w (k * 9) h.own
  rw [layAt_mcells l k m hk] at h2
  have hgl := h.lt (b := g) rfl
  refine wpList_skip rfl (run_swap hx hy ht (mcell_one hm)) (hc _ ⟨?_, fun y hy => ?_⟩ ?_)
  · rw [List.length_set]; exact h2.1
  · have key : ∀ (q : Mv) (N : Nat → Prop), (∀ b, N b → (K b ∨ B ≤ b) ∧ b < w.heap.size ∧ b ≠ g) → NdR w N q.1.2 q.2.1 q.2.2 → NdR (w.setCells g (k * 9) (mcell m).toList) (fun b => (K b ∨ B ≤ b) ∧ b < (w.setCells g (k * 9) (mcell m).toList).heap.size ∧ (Value.slice (some ⟨g, 0, none⟩) l.length cap).ownBlock ≠ some b) q.1.2 q.2.1 q.2.2 := fun q N hN hq =>
      (hq.loc (fun b e => h2.2.block b (hN b e).2.1 (fun e2 => (hN b e).2.2 (Option.some.inj e2)))).mono (fun b e => ⟨(hN b e).1, Nat.lt_of_lt_of_le (hN b e).2.1 h2.2.size, fun e2 => (hN b e).2.2 (by simp only [Value.ownBlock, Option.some.injEq] at e2; exact e2.symm)⟩)
    rcases List.mem_or_eq_of_mem_set hy with hy | rfl
    · exact key y _ (fun b e => ⟨e.1, e.2.1, fun e2 => e.2.2 (by rw [e2]; rfl)⟩) (h.nd y hy)
    · exact key y N hN hm
  · exact (Chg.grown (M := NoM) (.refl _ _ _) h2.2 hB (fun j e => .inl (by injection e with e; omega))).below (fun _ _ h => h)
theorem file_fresh (p data : Tx) (n : Nat) (hn : data.length = n) (hd : n ≤ 1000) (w : World) : Calls Tryz.prog 10 #[.string ⟨p.toArray⟩, .string ⟨data.toArray⟩] w fun e w' => ∃ a c, e = .returned (.agg #[.string ⟨p.toArray⟩, .int .i64 2, .int .u32 0, .int .u32 0, .int .u32 0, .int .i64 0, .slice none 0 0, .slice a n c, .string ⟨#[]⟩]) ∧ NdR w' (Fresh w.heap.size w') (fileD data) nilV (.slice a n c) ∧ Below w.heap.size w w' := by
  refine (file_any0 p data (by omega) w).mono ?_
  rintro e w' ⟨dv, rfl, hn', hb⟩
  obtain ⟨a, c, he, -⟩ := hn'.dt.shape
  have he : dv = .slice a n c := by rw [he, ← hn]; rfl
  subst he
  exact ⟨a, c, rfl, hn', hb⟩
end Go.Proofs.YtplafpokgpolkaaGreatDoor
/- ChangeKnown: 4094 Members more: what the kernel says of each. -/
namespace Go.Proofs.YtplafpokgpolkaaGreatDoor
def nmX (k : Nat) : Tx := [120, UInt8.ofNat (97 + k / 676), UInt8.ofNat (97 + k / 26 % 26), UInt8.ofNat (97 + k % 26)]
def mX (k : Nat) : Mb := (nmX k, fileD [])
def rowX (n : Nat) : List Mb := (List.range n).map mX
def kT : List Mb := [([97], dirM 0), ([97, 47, 98], dirM 0), ([97, 47, 98, 47, 99], fileD [49]), ([100], fileD [50])]
theorem thr26 {P : Nat → Prop} (h : ∀ a, a < 7 → ∀ b, b < 26 → ∀ c, c < 26 → P (a * 676 + b * 26 + c)) : ∀ k, k < 4097 → P k := fun k hk => by
  have := h (k / 676) (by omega) (k / 26 % 26) (by omega) (k % 26) (by omega)
  rwa [show k / 676 * 676 + k / 26 % 26 * 26 + k % 26 = k by omega] at this
theorem mX_may : ∀ k, k < 4097 → mayM (mX k) = true := thr26 (by decide +kernel)
theorem mX_rise : ∀ k, k < 4097 → (mX k).1 < (mX (k + 1)).1 := thr26 (P := fun k => (mX k).1 < (mX (k + 1)).1) (by decide +kernel)
theorem mX_par : ∀ k, k < 4097 → parentP (mX k).1 = [] := thr26 (by decide +kernel)
theorem mX_cls : ∀ k, k < 4097 → cls (mX k) = 1 := thr26 (by decide +kernel)
theorem mX_abv : ∀ k, k < 4097 → aboveP (mX k).1 = [] := thr26 (by decide +kernel)
theorem mX_hit : ∀ k, k < 4097 → (kT.all fun x => !hits (mX k) x.1) = true := thr26 (by decide +kernel)
theorem mX_gt : ∀ k, k < 4097 → (kT.all fun x => decide (x.1 < (mX k).1)) = true := thr26 (by decide +kernel)
end Go.Proofs.YtplafpokgpolkaaGreatDoor
/- ChangeKnown: 4094 Members more, plainly. -/
namespace Go.Proofs.YtplafpokgpolkaaGreatDoor
theorem rowX_len (n : Nat) : (rowX n).length = n := by simp [rowX]
theorem rowX_mem {n : Nat} {x : Mb} : x ∈ rowX n ↔ ∃ k, k < n ∧ mX k = x := by
  unfold rowX
  rw [List.mem_map]
  constructor
  · rintro ⟨k, hk, e⟩; exact ⟨k, List.mem_range.1 hk, e⟩
  · rintro ⟨k, hk, e⟩; exact ⟨k, List.mem_range.2 hk, e⟩
theorem rowX_get (n j : Nat) (h : j < (rowX n).length) : (rowX n)[j] = mX j := by simp [rowX]
theorem rowX_succ (n : Nat) : rowX (n + 1) = rowX n ++ [mX n] := by unfold rowX; rw [List.range_succ, List.map_append]; rfl
theorem mX_lt : ∀ n, n ≤ 4097 → ∀ k, k < n → (mX k).1 < (mX n).1 := by
  intro n
  induction n with
  | zero => intro _ k hk; omega
  | succ n ih =>
    intro hn k hk
    rcases Nat.lt_succ_iff_lt_or_eq.1 hk with h1 | rfl
    · exact List.lt_trans (ih (by omega) k h1) (mX_rise n (by omega))
    · exact mX_rise k (by omega)
theorem mayT_file : mayT ([97], fileD []) = true := by kernel_rfl
theorem many_may : mayC (rowX 4094) = 0 := mayC_zero.2 ⟨fun j hj => by
  have hj' : j < 4094 := by rw [rowX_len] at hj; exact hj
  rw [rowX_get]
  have hn : notUp (rowX 4094) j (mX j) = false := by
    cases j with
    | zero => rfl
    | succ i =>
      have h1 : (rowX 4094)[i]? = some (mX i) := by
        unfold rowX
        rw [List.getElem?_map, List.getElem?_range (by omega)]; rfl
      unfold notUp
      simp only
      rw [h1]
      simp only
      have h2 := mX_rise i (by omega)
      exact decide_eq_false (fun h => absurd h2 (List.not_lt.2 h))
  unfold errC
  rw [if_neg (by rw [show (mX j).2 = fileD [] from rfl, mayT_file, hn]; decide), if_neg (by rw [mX_cls j (by omega)]; decide), if_neg (by rw [mX_cls j (by omega)]; simp), if_neg (by rw [mX_abv j (by omega)]; simp)], by rw [rowX_len]; decide⟩
theorem newT_over {L : List Mb} (h : WellL L) (hl : 4096 < L.length) : newT L = (42, none) := by
  have hp : L.Perm L := List.Perm.refl _
  have hnd : (L.map (·.1)).Nodup := (hp.map _).nodup_iff.2 (srt_nodup h.s)
  have hg : growT L = L := srt_mem (growT_srt L) h.s (fun x => by rw [mem_growT _ L rfl hnd])
  unfold newT
  rw [if_neg (by
    rw [List.any_eq_true]
    rintro ⟨x, hx, h1⟩
    have := h.m x hx
    rw [this] at h1; cases h1), hg, if_neg (by omega), if_neg (by
    rw [List.any_eq_true]
    rintro ⟨x, hx, h1⟩
    have := h.p x hx
    rw [this] at h1; cases h1), if_pos hl]
theorem kT_app (R : List Mb) (p : Tx) (n : Nd) (h : SM.look kT p = some n) : SM.look (kT ++ R) p = some n := by
  unfold SM.look at h ⊢
  rw [List.find?_append]
  cases hf : kT.find? (fun x => x.1 == p) with
  | none => rw [hf] at h; cases h
  | some y => rw [hf] at h; exact h
theorem many_well : WellL (kT ++ rowX 4094) := by
  refine ⟨?_, fun x hx => ?_, fun x hx => ?_⟩
  · unfold SM.Srt
    rw [List.pairwise_append]
    refine ⟨by decide +kernel, ?_, fun a ha b hb => ?_⟩
    · unfold rowX
      rw [List.pairwise_map]
      refine List.Pairwise.imp_of_mem (fun {a b} ha hb hab => ?_) (List.pairwise_lt_range (n := 4094))
      exact mX_lt b (by have := List.mem_range.1 hb; omega) a hab
    · obtain ⟨k, hk, rfl⟩ := rowX_mem.1 hb
      have := List.all_eq_true.1 (mX_gt k (by omega)) a ha
      exact of_decide_eq_true this
  · rcases List.mem_append.1 hx with hx | hx
    · exact List.all_eq_true.1 (show (kT.all mayM) = true by decide +kernel) x hx
    · obtain ⟨k, hk, rfl⟩ := rowX_mem.1 hx
      exact mX_may k (by omega)
  · rcases List.mem_append.1 hx with hx | hx
    · have h1 : dirT kT (parentP x.1) = true := List.all_eq_true.1 (show (kT.all fun x => dirT kT (parentP x.1)) = true by decide +kernel) x hx
      unfold dirT at h1 ⊢
      rw [Bool.or_eq_true] at h1 ⊢
      rcases h1 with h1 | h1
      · exact .inl h1
      · right
        cases hl : SM.look kT (parentP x.1) with
        | none => rw [hl] at h1; cases h1
        | some n => rw [kT_app _ _ _ hl]; rw [hl] at h1; exact h1
    · obtain ⟨k, hk, rfl⟩ := rowX_mem.1 hx
      rw [mX_par k (by omega)]
      simp [dirT]
theorem many_apply : applyC kT (rowX 4094) = (42, none) := by
  unfold applyC
  rw [if_neg (by rw [many_may]; decide)]
  have h1 : kT.filter (fun m => staysC (rowX 4094) m.1) = kT := List.filter_eq_self.2 (fun a ha => by
    unfold staysC
    rw [Bool.and_eq_true]
    refine ⟨List.all_eq_true.1 (show (kT.all fun x => x.1 != []) = true by decide +kernel) a ha, List.all_eq_true.2 (fun x hx => ?_)⟩
    obtain ⟨k, hk, rfl⟩ := rowX_mem.1 hx
    exact List.all_eq_true.1 (mX_hit k (by omega)) a ha)
  have h2 : plainC (rowX 4094) = rowX 4094 := List.filter_eq_self.2 (fun a ha => by
    obtain ⟨k, hk, rfl⟩ := rowX_mem.1 ha
    exact decide_eq_true (mX_cls k (by omega)))
  rw [h1, h2]
  exact newT_over many_well (by rw [List.length_append, rowX_len]; decide)
end Go.Proofs.YtplafpokgpolkaaGreatDoor
/- ChangeKnown: what each set gives. -/
namespace Go.Proofs.YtplafpokgpolkaaGreatDoor
set_option maxRecDepth 100000 in
theorem ck0 : (applyC kT [([], fileD [])]).1 = 32 := by kernel_rfl
set_option maxRecDepth 100000 in
theorem ck1 : (applyC kT [([46, 119, 104, 46, 46, 119, 104, 46, 116, 111, 99], fileD [])]).1 = 32 := by kernel_rfl
set_option maxRecDepth 100000 in
theorem ck2 : (applyC kT [([46, 119, 104, 46, 46, 119, 104, 46, 120], fileD [])]).1 = 32 := by kernel_rfl
set_option maxRecDepth 100000 in
theorem ck3 : (applyC kT [([46, 119, 104, 46, 100], fileD [49])]).1 = 31 := by kernel_rfl
set_option maxRecDepth 100000 in
theorem ck4 : (applyC kT [([46, 119, 104, 46, 100], dirM 0)]).1 = 31 := by kernel_rfl
set_option maxRecDepth 100000 in
theorem ck5 : (applyC kT [([97, 47, 120], fileD [])]).1 = 33 := by kernel_rfl
set_option maxRecDepth 100000 in
theorem ck6 : (applyC kT [([97], fileD []), ([97, 47, 120], fileD [])]).1 = 33 := by kernel_rfl
set_option maxRecDepth 100000 in
theorem ck7 : (applyC kT [([98], fileD []), ([97], fileD [])]).1 = 1 := by kernel_rfl
set_option maxRecDepth 100000 in
theorem ck8 : (applyC kT [([122], nd0)]).1 = 1 := by kernel_rfl
set_option maxRecDepth 100000 in
theorem ck9 : applyC kT [] = (0, some [([97], dirM 0), ([97, 47, 98], dirM 0), ([97, 47, 98, 47, 99], fileD [49]), ([100], fileD [50])]) := by kernel_rfl
set_option maxRecDepth 100000 in
theorem ck10 : applyC kT [([46, 119, 104, 46, 46, 119, 104, 46, 46, 111, 112, 113], fileD [])] = (0, some []) := by kernel_rfl
set_option maxRecDepth 100000 in
theorem ck11 : applyC kT [([46, 119, 104, 46, 46, 119, 104, 46, 46, 111, 112, 113], fileD []), ([100], fileD [51])] = (0, some [([100], fileD [51])]) := by kernel_rfl
set_option maxRecDepth 100000 in
theorem ck12 : applyC kT [([46, 119, 104, 46, 97], fileD []), ([97], dirM 0)] = (0, some [([97], dirM 0), ([100], fileD [50])]) := by kernel_rfl
set_option maxRecDepth 100000 in
theorem ck13 : applyC kT [([97], fileD [110, 111, 119, 32, 97, 32, 70, 105, 108, 101])] = (0, some [([97], fileD [110, 111, 119, 32, 97, 32, 70, 105, 108, 101]), ([100], fileD [50])]) := by kernel_rfl
set_option maxRecDepth 100000 in
theorem ck14 : applyC kT [([97], dirM 0), ([97, 47, 98], dirM 0)] = (0, some [([97], dirM 0), ([97, 47, 98], dirM 0), ([97, 47, 98, 47, 99], fileD [49]), ([100], fileD [50])]) := by kernel_rfl
set_option maxRecDepth 100000 in
theorem ck15 : applyC kT [([97], dirM 0), ([97, 47, 46, 119, 104, 46, 98], fileD []), ([97, 47, 98], fileD [])] = (0, some [([97], dirM 0), ([97, 47, 98], fileD []), ([100], fileD [50])]) := by kernel_rfl
set_option maxRecDepth 100000 in
theorem ck16 : applyC kT [([46, 119, 104, 46, 110, 111, 110, 101], fileD [])] = (0, some [([97], dirM 0), ([97, 47, 98], dirM 0), ([97, 47, 98, 47, 99], fileD [49]), ([100], fileD [50])]) := by kernel_rfl
set_option maxRecDepth 100000 in
theorem ckn : newT kT = (0, some kT) := by kernel_rfl
set_option maxRecDepth 100000 in
theorem ckf : (foldC kT [[], [([97, 47, 120], fileD [])]]).1 = 33 := by kernel_rfl
end Go.Proofs.YtplafpokgpolkaaGreatDoor
