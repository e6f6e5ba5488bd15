/- PARTS OF ONE PROOF, set in one file: DifT, DifN, DifP, DifQ, DifR, DifK, DifC, ChBare, PathFnC. Each part tells its own conditions. -/
import Derived.Lib.SlicesCompact
import Derived.Test.YtmnknmpfkjhgbaaGreatDoorP3
import Derived.Test.YtmnknmpfkjhgbaaGreatDoorP5
import Derived.Test.YtmnknmpfkjhgbaaGreatDoorP9
/- CHANGESETS, plainly: what is told of two trees; nothing that leads there has fewer Members. -/
namespace Go.Proofs.YtmnknmpfkjhgbaaGreatDoor
deriving instance DecidableEq for Nd
def dirB (L : List Mb) (p : Tx) : Bool := match SM.look L p with | some n => decide (n.kind = 1) | none => false
def signM (p : Tx) : Mb := if p = [] then ([], nd0) else (p, bareN)
def whM (p : Tx) : Mb := signM (whiteoutP p)
def mkM (d : Tx) : Mb := signM (opaqueP d)
/-- what is in each Dir of either tree, each once -/
structure KidsOf (A B : List Mb) (ks : Tx → List Tx) : Prop where
  nd : ∀ d, (ks d).Nodup
  mem : ∀ d p, p ∈ ks d ↔ parentP p = d ∧ ((SM.look A p).isSome = true ∨ (SM.look B p).isSome = true)
/-- what is told of a path, bl of what is below it -/
def oneF (A B bl : List Mb) (p : Tx) : List Mb :=
  match SM.look B p with
  | none => [whM p]
  | some y => if y.kind = 1 ∧ dirB A p = false then underL p B else
      if y.kind = 1 then (if bl ≠ [] ∨ SM.look A p ≠ some y then bl ++ [(p, y)] else bl) else if SM.look A p ≠ some y then [(p, y)] else []
/-- what is told below a Dir -/
def belF (A B : List Mb) (ks : Tx → List Tx) : Nat → Tx → List Mb
  | 0, _ => []
  | n + 1, d => if ((ks d).flatMap fun c => oneF A B (belF A B ks n c) c).length ≤ 1 + B.countP (fun q => underP d q.1) then (ks d).flatMap fun c => oneF A B (belF A B ks n c) c else B.filter (fun q => underP d q.1) ++ [mkM d]
theorem bel_len (A B : List Mb) (ks : Tx → List Tx) : ∀ n d, (belF A B ks n d).length ≤ 1 + B.countP (fun q => underP d q.1)
  | 0, _ => Nat.zero_le _
  | n + 1, d => by
    unfold belF
    split
    · assumption
    · rw [List.length_append, ← List.countP_eq_length_filter, List.length_singleton]; omega
theorem bel_plain (A B : List Mb) (ks : Tx → List Tx) (n : Nat) (d : Tx) : (belF A B ks (n + 1) d).length ≤ ((ks d).flatMap fun c => oneF A B (belF A B ks n c) c).length := by
  rw [show belF A B ks (n + 1) d = if ((ks d).flatMap fun c => oneF A B (belF A B ks n c) c).length ≤ 1 + B.countP (fun q => underP d q.1) then (ks d).flatMap fun c => oneF A B (belF A B ks n c) c else B.filter (fun q => underP d q.1) ++ [mkM d] from rfl]
  split
  · exact Nat.le_refl _
  · rw [List.length_append, ← List.countP_eq_length_filter, List.length_singleton]; omega
theorem dirB_iff {L : List Mb} {p : Tx} : dirB L p = true ↔ ∃ n, SM.look L p = some n ∧ n.kind = 1 := by
  unfold dirB
  cases SM.look L p with
  | none => simp
  | some n => simp
theorem hitT_self (c : Tx) : hitT c c = true := by unfold hitT; simp
theorem hit_tri {a c x : Tx} (ha : a ≠ []) (hc : c ≠ []) (h1 : hitT a x = true) (h2 : hitT c x = true) : a = c ∨ underP c a = true ∨ underP a c = true := by
  have g1 := (hitT_iff ha).1 h1
  have g2 := (hitT_iff hc).1 h2
  rcases Nat.le_total (a ++ [47]).length (c ++ [47]).length with hl | hl
  · have := (hitT_iff ha).2 (List.prefix_of_prefix_length_le g1 g2 hl)
    unfold hitT at this
    rcases Bool.or_eq_true_iff.1 this with h | h
    · exact .inl (beq_iff_eq.1 h).symm
    · exact .inr (.inr h)
  · have := (hitT_iff hc).2 (List.prefix_of_prefix_length_le g2 g1 hl)
    unfold hitT at this
    rcases Bool.or_eq_true_iff.1 this with h | h
    · exact .inl (by simpa using h)
    · exact .inr (.inl h)
theorem hit_under {c x y : Tx} (h : underP c x = true) (k : hitT x y = true) : underP c y = true := by
  unfold hitT at k
  rcases Bool.or_eq_true_iff.1 k with k | k
  · have k : y = x := by simpa using k
    rw [k]; exact h
  · exact under_trans h k
theorem hits_iff {m : Mb} {p : Tx} : hits m p = true ↔ (cls m = 1 ∧ (tgt m = p ∨ (m.2.kind ≠ 1 ∧ underP (tgt m) p = true))) ∨ (cls m = 2 ∧ (tgt m = p ∨ underP (tgt m) p = true)) ∨ (cls m = 3 ∧ underP (tgt m) p = true) := by
  unfold hits
  simp only [Bool.or_eq_true, Bool.and_eq_true, decide_eq_true_eq, beq_iff_eq, or_assoc]
theorem mem_plainC {S : List Mb} {x : Mb} : x ∈ plainC S ↔ x ∈ S ∧ cls x = 1 := by unfold plainC; simp
theorem stays_iff {S : List Mb} {p : Tx} : staysC S p = true ↔ p ≠ [] ∧ ∀ m ∈ S, hits m p = false := by unfold staysC; simp
/-- what hits a child of d, or below: it stands at that child, or below -/
theorem hit_at {S : List Mb} (hv : ValidC S) {d c x : Tx} (hU : ∀ m ∈ S, ∀ x, underP d x = true → hits m x = true → underP d m.1 = true) (hno : ¬ ∃ m ∈ S, cls m = 3 ∧ tgt m = d)
    (hc : mayP c = true) (h0 : c ≠ []) (hd : parentP c = d) {m : Mb} (hm : m ∈ S) (hx : hitT c x = true) (h : hits m x = true) : underP c m.1 = true ∨ (tgt m = c ∧ (cls m = 2 ∨ (cls m = 1 ∧ (x = c ∨ m.2.kind ≠ 1)))) := by
  have hdc : underP d c = true := by rw [← hd]; exact under_parent hc h0
  have hud := hU m hm x (hit_under hdc hx) h
  have hno2 : ∀ t : Tx, underP d t = true → underP t c = true → False := by
    intro t h1 h2
    have l1 := under_len h1
    rw [under_rec hc h0, hd] at h2
    rcases Bool.or_eq_true_iff.1 h2 with h2 | h2
    · have h2 : d = t := by simpa using h2
      rw [h2] at l1; omega
    · have := under_len h2; omega
  rcases at_of (hv.cl m hm) with ⟨hk, ht, hmm, hm0⟩ | ⟨hk, hmm, hm0, hu⟩ | ⟨hk, hmm, hu⟩
  · rw [hits_iff, hk] at h
    rcases h with ⟨_, h⟩ | ⟨h, _⟩ | ⟨h, _⟩
    · rw [ht] at h ⊢
      rcases h with h | ⟨hkd, h⟩
      · subst h
        unfold hitT at hx
        rcases Bool.or_eq_true_iff.1 hx with hx | hx
        · have hx : m.1 = c := by simpa using hx
          exact .inr ⟨hx, .inr ⟨hk, .inl hx⟩⟩
        · exact .inl hx
      · rcases hit_tri hm0 h0 (show hitT m.1 x = true by unfold hitT; rw [h]; simp) hx with e | e | e
        · exact .inr ⟨e, .inr ⟨hk, .inr hkd⟩⟩
        · exact .inl e
        · exact (hno2 _ hud e).elim
    · omega
    · omega
  · rw [hits_iff, hk] at h
    rcases h with ⟨h, _⟩ | ⟨_, h⟩ | ⟨h, _⟩
    · omega
    · have hh : hitT (tgt m) x = true := by
        unfold hitT
        rcases h with h | h
        · rw [h]; simp
        · rw [h]; simp
      rcases hit_tri hm0 h0 hh hx with e | e | e
      · exact .inr ⟨e, .inl hk⟩
      · rw [hu]; exact .inl e
      · rw [hu] at hud
        exact (hno2 _ hud e).elim
    · omega
  · rw [hits_iff, hk] at h
    rcases h with ⟨h, _⟩ | ⟨h, _⟩ | ⟨_, h⟩
    · omega
    · omega
    · rw [hu] at hud
      rcases Bool.or_eq_true_iff.1 hud with e | e
      · exact (hno ⟨m, hm, hk, by simpa using e⟩).elim
      · have ht0 : tgt m ≠ [] := by intro e2; rw [e2] at e; cases e
        rw [hu]
        rcases hit_tri ht0 h0 (show hitT (tgt m) x = true by unfold hitT; rw [h]; simp) hx with e2 | e2 | e2
        · left; rw [e2]; simp
        · left; rw [e2]; simp
        · exact (hno2 _ e e2).elim
theorem tell_ge {B S : List Mb} (hs : SM.Srt B) (P : Tx → Bool) (h : ∀ y ∈ B, P y.1 = true → y ∈ plainC S) : B.countP (fun y => P y.1) ≤ S.countP (fun m => decide (cls m = 1) && P m.1) := by
  rw [List.countP_eq_length_filter, List.countP_eq_length_filter]
  refine nodup_le _ _ ((mb_nodup hs).filter _) (fun x hx => ?_)
  obtain ⟨h1, h2⟩ := List.mem_filter.1 hx
  obtain ⟨h3, h4⟩ := mem_plainC.1 (h x h1 h2)
  exact List.mem_filter.2 ⟨h3, by rw [h4]; simpa using h2⟩
theorem count_two {S : List Mb} {p q r : Mb → Bool} (hp : ∀ m ∈ S, p m = true → r m = true) (hq : ∀ m ∈ S, q m = true → r m = true) (hn : ∀ m, p m = true → q m = false) : S.countP p + S.countP q ≤ S.countP r := by
  rw [← countP_or p q hn S]
  refine List.countP_mono_left (fun m hm h => ?_)
  rcases Bool.or_eq_true_iff.1 h with h | h
  · exact hp m hm h
  · exact hq m hm h
theorem tgt_plain {S : List Mb} (hv : ValidC S) {m : Mb} (hm : m ∈ S) (h : cls m = 1) : tgt m = m.1 := by
  rcases at_of (hv.cl m hm) with ⟨_, ht, _, _⟩ | ⟨hk, _⟩ | ⟨hk, _⟩
  · exact ht
  · omega
  · omega
theorem under_tgt {S : List Mb} (hv : ValidC S) {m : Mb} (hm : m ∈ S) {c : Tx} (h : underP c m.1 = true) : hitT c (tgt m) = true := by
  unfold hitT
  rcases at_of (hv.cl m hm) with ⟨_, ht, _, _⟩ | ⟨_, _, _, hu⟩ | ⟨_, _, hu⟩
  · rw [ht, h]; simp
  · rw [hu] at h; rw [h]; simp
  · rw [hu] at h; exact h
theorem tgt_under {S : List Mb} (hv : ValidC S) {m : Mb} (hm : m ∈ S) {d : Tx} (h : underP d (tgt m) = true) : underP d m.1 = true := by
  rcases at_of (hv.cl m hm) with ⟨_, ht, _, _⟩ | ⟨_, _, _, hu⟩ | ⟨_, _, hu⟩
  · rw [ht] at h; exact h
  · rw [hu]; exact h
  · rw [hu, h]; simp
theorem KidsOf.path {A B : List Mb} {ks : Tx → List Tx} (hk : KidsOf A B ks) (hA : WellL A) (hB : WellL B) {d c : Tx} (hc : c ∈ ks d) : mayP c = true ∧ c ≠ [] ∧ parentP c = d := by
  obtain ⟨h1, h2⟩ := (hk.mem d c).1 hc
  rcases h2 with h2 | h2
  · obtain ⟨v, hv⟩ := Option.isSome_iff_exists.1 h2
    obtain ⟨g1, g2⟩ := hA.path (SM.look_mem hv)
    exact ⟨g1, g2, h1⟩
  · obtain ⟨v, hv⟩ := Option.isSome_iff_exists.1 h2
    obtain ⟨g1, g2⟩ := hB.path (SM.look_mem hv)
    exact ⟨g1, g2, h1⟩
end Go.Proofs.YtmnknmpfkjhgbaaGreatDoor
/- CHANGESETS, plainly: nothing that leads there has fewer Members than what is told. -/
namespace Go.Proofs.YtmnknmpfkjhgbaaGreatDoor
theorem Leads.told {A B S : List Mb} (h : Leads A B S) {y : Mb} (hy : y ∈ B) (hn : ¬ (y ∈ A ∧ staysC S y.1 = true)) : y ∈ plainC S := ((h.res y).1 hy).resolve_left hn
theorem Leads.hit {A B S : List Mb} (h : Leads A B S) {y m : Mb} (hy : y ∈ B) (hm : m ∈ S) (hh : hits m y.1 = true) : y ∈ plainC S := h.told hy (fun k => by
  have := (stays_iff.1 k.2).2 m hm
  rw [hh] at this; cases this)
theorem one_le {A B S : List Mb} {ks : Tx → List Tx} (hA : WellL A) (hB : WellL B) (hk : KidsOf A B ks) (h : Leads A B S) (n : Nat)
    (ih : ∀ c, mayP c = true → c ≠ [] → (∀ m ∈ S, ∀ x, underP c x = true → hits m x = true → underP c m.1 = true) → (belF A B ks n c).length ≤ S.countP (fun m => underP c m.1))
    {d : Tx} (hU : ∀ m ∈ S, ∀ x, underP d x = true → hits m x = true → underP d m.1 = true) (hno : ¬ ∃ m ∈ S, cls m = 3 ∧ tgt m = d) {c : Tx} (hc : c ∈ ks d) :
    (oneF A B (belF A B ks n c) c).length ≤ S.countP (fun m => hitT c (tgt m)) := by
  obtain ⟨hmc, hc0, hd⟩ := hk.path hA hB hc
  have hone : ∀ y, SM.look B c = some y → SM.look A c ≠ some y → 1 ≤ S.countP (fun m => hitT c (tgt m)) := by
    intro y hy hne
    have hyB := SM.look_mem hy
    have hp := mem_plainC.1 (h.told hyB (fun k => hne (hA.s.look.2 k.1)))
    refine List.countP_pos_iff.2 ⟨(c, y), hp.1, ?_⟩
    rw [tgt_plain h.v hp.1 hp.2]
    exact hitT_self c
  unfold oneF
  cases hl : SM.look B c with
  | none =>
    show 1 ≤ _
    have hla : (SM.look A c).isSome = true := by
      rcases ((hk.mem d c).1 hc).2 with e | e
      · exact e
      · rw [hl] at e; cases e
    obtain ⟨v, hv⟩ := Option.isSome_iff_exists.1 hla
    have hnb : (c, v) ∉ B := fun e => by rw [hB.s.look.2 e] at hl; cases hl
    have hns : staysC S c = false := by
      cases hs : staysC S c with
      | false => rfl
      | true => exact (hnb ((h.res (c, v)).2 (.inl ⟨SM.look_mem hv, hs⟩))).elim
    have hex : ∃ m ∈ S, hits m c = true := by
      refine Classical.byContradiction fun hn => ?_
      have : staysC S c = true := stays_iff.2 ⟨hc0, fun m hm => by
        cases hh : hits m c with
        | false => rfl
        | true => exact (hn ⟨m, hm, hh⟩).elim⟩
      rw [hns] at this; cases this
    obtain ⟨m, hm, hh⟩ := hex
    refine List.countP_pos_iff.2 ⟨m, hm, ?_⟩
    rcases hit_at h.v hU hno hmc hc0 hd hm (hitT_self c) hh with e | ⟨e, _⟩
    · exact under_tgt h.v hm e
    · rw [e]; exact hitT_self c
  | some y =>
    simp only
    have hyB := SM.look_mem hl
    have htp : (∀ z ∈ B, hitT c z.1 = true → z ∈ plainC S) → (underL c B).length ≤ S.countP (fun m => decide (cls m = 1) && hitT c m.1) := by
      intro hz
      have := tell_ge (S := S) hB.s (hitT c) hz
      unfold underL
      rw [← List.countP_eq_length_filter]
      exact this
    have hle : ∀ m ∈ S, (decide (cls m = 1) && hitT c m.1) = true → hitT c (tgt m) = true := by
      intro m hm e
      simp only [Bool.and_eq_true, decide_eq_true_eq] at e
      rw [tgt_plain h.v hm e.1]; exact e.2
    by_cases hd1 : y.kind = 1 ∧ dirB A c = false
    · rw [if_pos hd1]
      refine Nat.le_trans (htp (fun z hz hh => h.told hz (fun k => ?_))) (List.countP_mono_left hle)
      have : dirB A c = true := by
        rw [dirB_iff]
        unfold hitT at hh
        rcases Bool.or_eq_true_iff.1 hh with e | e
        · have e : z.1 = c := by simpa using e
          have h1 := hA.s.look.2 k.1
          have h2 := hB.s.look.2 hz
          rw [e] at h1 h2
          rw [hl] at h2
          injection h2 with h2
          exact ⟨_, h1, by rw [← h2]; exact hd1.1⟩
        · exact dir_above hA hc0 _ z rfl k.1 e
      rw [hd1.2] at this; cases this
    · rw [if_neg hd1]
      by_cases hkd : y.kind = 1
      · rw [if_pos hkd]
        have hlen : ∀ bl : List Mb, (if bl ≠ [] ∨ SM.look A c ≠ some y then bl ++ [(c, y)] else bl).length ≤ bl.length + 1 := by
          intro bl; split
          · simp
          · omega
        by_cases hg : ∃ g ∈ S, cls g = 2 ∧ tgt g = c
        · obtain ⟨g, hgS, hg2, hgc⟩ := hg
          have h1 := htp (fun z hz hh => h.hit hz hgS (by
            rw [hits_iff]
            refine .inr (.inl ⟨hg2, ?_⟩)
            rw [hgc]
            unfold hitT at hh
            rcases Bool.or_eq_true_iff.1 hh with e | e
            · exact .inl (by simpa using e : z.1 = c).symm
            · exact .inr e))
          have h2 : 1 ≤ S.countP (fun m => decide (cls m = 2) && tgt m == c) := List.countP_pos_iff.2 ⟨g, hgS, by rw [hg2, hgc]; simp⟩
          have h3 := count_two (S := S) (p := fun m => decide (cls m = 1) && hitT c m.1) (q := fun m => decide (cls m = 2) && tgt m == c) (r := fun m => hitT c (tgt m)) hle
            (fun m _ e => by
              simp only [Bool.and_eq_true, decide_eq_true_eq, beq_iff_eq] at e
              rw [e.2]; exact hitT_self c)
            (fun m e => by
              simp only [Bool.and_eq_true, decide_eq_true_eq] at e
              rw [e.1]; rfl)
          have h4 : (underL c B).length = 1 + B.countP (fun q => underP c q.1) := by
            have e1 := many_dir hB hyB
            rw [many_kids hB] at e1
            have e1 : (underL c B).length = B.countP (fun q => underP c q.1) + 1 := e1
            rw [e1, Nat.add_comm]
          have h5 := bel_len A B ks n c
          have h6 := hlen (belF A B ks n c)
          omega
        · have hU2 : ∀ m ∈ S, ∀ x, underP c x = true → hits m x = true → underP c m.1 = true := by
            intro m hm x hx hh
            rcases hit_at h.v hU hno hmc hc0 hd hm (show hitT c x = true by unfold hitT; rw [hx]; simp) hh with e | ⟨e, e2 | ⟨e2, e3 | e3⟩⟩
            · exact e
            · exact (hg ⟨m, hm, e2, e⟩).elim
            · rw [e3, under_self] at hx; cases hx
            · have ht := tgt_plain h.v hm e2
              have hmB := (h.res m).2 (.inr (mem_plainC.2 ⟨hm, e2⟩))
              have := hB.s.look.2 (show (m.1, m.2) ∈ B from hmB)
              rw [← ht, e, hl] at this
              injection this with this
              rw [← this] at e3
              exact (e3 hkd).elim
          have h1 := ih c hmc hc0 hU2
          by_cases hb : belF A B ks n c = []
          · rw [hb]
            split
            · rename_i hs
              exact hone y hl (hs.resolve_left (fun e => e rfl))
            · exact Nat.zero_le _
          · have h2 := hlen (belF A B ks n c)
            have h3 : 0 < (belF A B ks n c).length := List.length_pos_iff.2 hb
            obtain ⟨m, hm, hu⟩ := List.countP_pos_iff.1 (Nat.lt_of_lt_of_le h3 h1)
            obtain ⟨x, hx, hx1, hx2⟩ := h.v.ab m hm c ((under_above hc0).1 hu)
            have hx3 : cls x = 1 := by
              refine Classical.byContradiction fun e => ?_
              have := h.v.br x hx e
              rw [this] at hx2; cases hx2
            have h4 : 1 ≤ S.countP (fun m => decide (cls m = 1) && m.1 == c) := List.countP_pos_iff.2 ⟨x, hx, by rw [hx3, hx1]; simp⟩
            have h5 := count_two (S := S) (p := fun m => underP c m.1) (q := fun m => decide (cls m = 1) && m.1 == c) (r := fun m => hitT c (tgt m)) (fun m hm e => under_tgt h.v hm e)
              (fun m hm e => by
                simp only [Bool.and_eq_true, decide_eq_true_eq, beq_iff_eq] at e
                rw [tgt_plain h.v hm e.1, e.2]; exact hitT_self c)
              (fun m e => by
                have : m.1 ≠ c := fun e2 => by rw [e2, under_self] at e; cases e
                simp [this])
            omega
      · rw [if_neg hkd]
        split
        · rename_i hs
          exact hone y hl hs
        · exact Nat.zero_le _
theorem count_le_one {α : Type} (p : α → Bool) : ∀ l : List α, l.Nodup → (∀ a ∈ l, ∀ b ∈ l, p a = true → p b = true → a = b) → l.countP p ≤ 1
  | [], _, _ => Nat.zero_le _
  | a :: l, hn, h => by
    have hn := List.nodup_cons.1 hn
    rw [List.countP_cons]
    by_cases ha : p a = true
    · rw [if_pos ha]
      have : l.countP p = 0 := List.countP_eq_zero.2 (fun b hb e => hn.1 (by rw [h a (by simp) b (by simp [hb]) ha e]; exact hb))
      omega
    · rw [if_neg ha]
      have := count_le_one p l hn.2 (fun x hx y hy => h x (by simp [hx]) y (by simp [hy]))
      omega
theorem sum_le {α : Type} (f g : α → Nat) : ∀ l : List α, (∀ x ∈ l, f x ≤ g x) → (l.map f).sum ≤ (l.map g).sum
  | [], _ => Nat.le_refl _
  | a :: l, h => by
    have := sum_le f g l (fun x hx => h x (by simp [hx]))
    have := h a (by simp)
    simp only [List.map_cons, List.sum_cons]; omega
theorem flat_len {α β : Type} (f : α → List β) : ∀ l : List α, (l.flatMap f).length = (l.map fun c => (f c).length).sum
  | [] => rfl
  | a :: l => by rw [List.flatMap_cons, List.length_append, flat_len f l]; rfl
/-- IT IS LEAST -/
theorem least_below {A B S : List Mb} {ks : Tx → List Tx} (hA : WellL A) (hB : WellL B) (hk : KidsOf A B ks) (h : Leads A B S) : ∀ n d, (∀ m ∈ S, ∀ x, underP d x = true → hits m x = true → underP d m.1 = true) → (belF A B ks n d).length ≤ S.countP (fun m => underP d m.1) := by
  intro n
  induction n with
  | zero => intro d _; exact Nat.zero_le _
  | succ n ih =>
    intro d hU
    by_cases hm : ∃ m ∈ S, cls m = 3 ∧ tgt m = d
    · obtain ⟨g, hgS, hg3, hgd⟩ := hm
      refine Nat.le_trans (bel_len A B ks (n + 1) d) ?_
      have h1 := tell_ge (S := S) hB.s (underP d) (fun z hz hu => h.hit hz hgS (by
        rw [hits_iff]
        exact .inr (.inr ⟨hg3, by rw [hgd]; exact hu⟩)))
      have h2 : 1 ≤ S.countP (fun m => decide (cls m = 3) && tgt m == d) := List.countP_pos_iff.2 ⟨g, hgS, by rw [hg3, hgd]; simp⟩
      have h3 := count_two (S := S) (p := fun m => decide (cls m = 1) && underP d m.1) (q := fun m => decide (cls m = 3) && tgt m == d) (r := fun m => underP d m.1)
        (fun m _ e => by simp only [Bool.and_eq_true] at e; exact e.2)
        (fun m hm e => by
          simp only [Bool.and_eq_true, decide_eq_true_eq, beq_iff_eq] at e
          rcases at_of (h.v.cl m hm) with ⟨hk, _⟩ | ⟨hk, _⟩ | ⟨_, _, hu⟩
          · omega
          · omega
          · rw [hu, e.2]; simp)
        (fun m e => by
          simp only [Bool.and_eq_true, decide_eq_true_eq] at e
          rw [e.1]; rfl)
      omega
    · refine Nat.le_trans (bel_plain A B ks n d) ?_
      rw [flat_len]
      refine Nat.le_trans (sum_le _ (fun c => S.countP (fun m => hitT c (tgt m))) _ (fun c hc => one_le hA hB hk h n (fun c _ _ => ih c) hU hm hc)) ?_
      rw [sum_countP (fun (c : Tx) (m : Mb) => hitT c (tgt m)), ← sum_ite (fun m : Mb => underP d m.1)]
      refine sum_le _ _ _ (fun m hmS => ?_)
      split
      · exact count_le_one _ _ (hk.nd d) (fun a ha b hb e1 e2 => by
          obtain ⟨a1, a2, a3⟩ := hk.path hA hB ha
          obtain ⟨b1, b2, b3⟩ := hk.path hA hB hb
          exact hit_one a1 a2 a3 b1 b2 b3 e1 e2)
      · rename_i hu
        rw [Nat.le_zero, List.countP_eq_zero]
        intro c hc e
        obtain ⟨a1, a2, a3⟩ := hk.path hA hB hc
        exact hu (tgt_under h.v hmS (hit_under (by rw [← a3]; exact under_parent a1 a2) e))
theorem least {A B S : List Mb} {ks : Tx → List Tx} (hA : WellL A) (hB : WellL B) (hk : KidsOf A B ks) (h : applyC A S = (0, some B)) (n : Nat) : (belF A B ks n []).length ≤ S.length := by
  have hl := leads_of h
  refine Nat.le_trans (least_below hA hB hk hl n [] (fun m hm _ _ _ => ?_)) List.countP_le_length
  rw [under_nil]
  rcases at_of (hl.v.cl m hm) with ⟨_, _, _, h0⟩ | ⟨_, _, h0, hu⟩ | ⟨_, _, hu⟩
  · simp [h0]
  · rw [← under_nil, hu, under_nil]; simp [h0]
  · rw [← under_nil, hu, under_nil]; cases tgt m <;> simp
end Go.Proofs.YtmnknmpfkjhgbaaGreatDoor
/- CHANGESETS, plainly: what is told leads there. -/
namespace Go.Proofs.YtmnknmpfkjhgbaaGreatDoor
theorem may_head {t : Tx} (h : mayP t = true) : ¬ [47] <+: t := by
  rintro ⟨r, rfl⟩
  obtain ⟨-, -, h3⟩ := may_parts h
  have e : splitP ([47] ++ r) = [] :: spl r := by
    unfold splitP
    rw [if_neg (by simp)]
    show spl (47 :: r) = _
    rw [spl, if_pos rfl]
  rw [e] at h3
  simp [mayN_nil] at h3
theorem join_head {e b : Tx} (he : ¬ [47] <+: e) (hb : ∀ x ∈ b, x ≠ 47) : ¬ [47] <+: (if e = [] then b else e ++ 47 :: b) := by
  split
  · rintro ⟨r, rfl⟩
    exact hb 47 (by simp) rfl
  · rename_i h0
    rintro ⟨r, hr⟩
    cases e with
    | nil => exact h0 rfl
    | cons c e =>
      simp at hr
      exact he ⟨e, by rw [hr.1]; rfl⟩
theorem no_head {m : Mb} (h : cls m = 1 ∨ cls m = 2 ∨ cls m = 3) : [] ∉ aboveP m.1 := by
  rw [mem_above, List.nil_append]
  rcases told m.1 with ⟨hc, _⟩ | ⟨_, hm, _⟩ | ⟨t, hc, hw, _, _⟩ | ⟨t, hc, ho, _, _⟩ | ⟨hc, _, _⟩
  · unfold cls at h; rw [hc] at h; omega
  · exact may_head hm
  · have hp0 : m.1 ≠ [] := by
      intro e; rw [e] at hc; have h4 := kn_c4; rw [hc] at h4; cases h4
    have hg : ¬ (t.isEmpty || !mayP t) = true := by
      intro e
      unfold whiteoutP at hw
      rw [if_pos e] at hw
      exact hp0 hw.symm
    have h2 : mayP t = true ∧ t ≠ [] := by simpa [and_comm] using hg
    have hbn := mayN_ne (may_base h2.1 h2.2)
    unfold whiteoutP at hw
    rw [if_neg hg, joinP_two, if_neg (c := whiteB ++ baseP t = []) (by simp [whiteB])] at hw
    rw [← hw]
    refine join_head (fun hp => ?_) (white_noSl hbn.2)
    have e1 := path_join h2.1 h2.2
    split at e1
    · rename_i e2; rw [e2] at hp; simp at hp
    · exact may_head h2.1 (by rw [e1]; exact hp.trans (List.prefix_append _ _))
  · have hp0 : m.1 ≠ [] := by
      intro e; rw [e] at hc; have h4 := kn_c4; rw [hc] at h4; cases h4
    have hg : ¬ (!mayP t) = true := by
      intro e
      unfold opaqueP at ho
      rw [if_pos e] at ho
      exact hp0 ho.symm
    have h2 : mayP t = true := by simpa using hg
    unfold opaqueP at ho
    rw [if_neg hg, joinP_two, if_neg (c := markB = []) markB_ne.1] at ho
    rw [← ho]
    exact join_head (may_head h2) markB_ne.2
  · unfold cls at h; rw [hc] at h; omega
theorem under_tgt' {m : Mb} (h : At m) {c : Tx} (hu : underP c m.1 = true) : hitT c (tgt m) = true := by
  unfold hitT
  rcases h with ⟨_, ht, _, _⟩ | ⟨_, _, _, h⟩ | ⟨_, _, h⟩
  · rw [ht, hu]; simp
  · rw [h] at hu; rw [hu]; simp
  · rw [h] at hu; exact hu
theorem tgt_under' {m : Mb} (h : At m) {d : Tx} (hu : underP d (tgt m) = true) : underP d m.1 = true := by
  rcases h with ⟨_, ht, _, _⟩ | ⟨_, _, _, h⟩ | ⟨_, _, h⟩
  · rw [ht] at hu; exact hu
  · rw [h]; exact hu
  · rw [h, hu]; simp
theorem hits_tgt {m : Mb} {x : Tx} (h : hits m x = true) : hitT (tgt m) x = true := by
  unfold hitT
  rcases hits_iff.1 h with ⟨_, h | ⟨_, h⟩⟩ | ⟨_, h | h⟩ | ⟨_, h⟩
  · rw [h]; simp
  · rw [h]; simp
  · rw [h]; simp
  · rw [h]; simp
  · rw [h]; simp
theorem hits_under {m : Mb} (ha : At m) {d x : Tx} (hu : underP d m.1 = true) (h : hits m x = true) : underP d x = true := by
  rcases ha with ⟨_, ht, _, _⟩ | ⟨_, _, _, hh⟩ | ⟨hc, _, hh⟩
  · have := hits_tgt h
    rw [ht] at this
    exact hit_under hu this
  · rw [hh] at hu
    exact hit_under hu (hits_tgt h)
  · rw [hh] at hu
    rcases hits_iff.1 h with ⟨e, _⟩ | ⟨e, _⟩ | ⟨_, e⟩
    · omega
    · omega
    · rcases Bool.or_eq_true_iff.1 hu with hu | hu
      · have hu : tgt m = d := by simpa using hu
        rw [← hu]; exact e
      · exact under_trans hu e
theorem hit_trans {a b c : Tx} (h : hitT a b = true) (k : hitT b c = true) : hitT a c = true := by
  unfold hitT at h
  rcases Bool.or_eq_true_iff.1 h with h | h
  · have h : b = a := by simpa using h
    rw [← h]; exact k
  · unfold hitT; rw [hit_under h k]; simp
theorem cls_may {p : Tx} {n : Nd} (hm : mayP p = true) (h0 : p ≠ []) : cls (p, n) = 1 ∧ tgt (p, n) = p := by unfold cls tgt; rw [class_may hm h0]; exact ⟨rfl, rfl⟩
theorem wh_eq {c : Tx} (hm : mayP c = true) (h0 : c ≠ []) : (whM c).2 = bareN ∧ cls (whM c) = 2 ∧ tgt (whM c) = c := by
  have h1 := (class_whiteout hm h0).1
  have hp0 : whiteoutP c ≠ [] := by
    intro e; rw [e] at h1; have h4 := kn_c4; rw [h1] at h4; cases h4
  have e : whM c = (whiteoutP c, bareN) := by unfold whM signM; rw [if_neg hp0]
  rw [e]
  unfold cls tgt
  rw [h1]; exact ⟨rfl, rfl, rfl⟩
theorem mk_eq {d : Tx} (hm : mayP d = true) : (mkM d).2 = bareN ∧ cls (mkM d) = 3 ∧ tgt (mkM d) = d := by
  have h1 := class_opaque hm
  have hp0 : opaqueP d ≠ [] := by
    intro e; rw [e] at h1; have h4 := kn_c4; rw [h1] at h4; cases h4
  have e : mkM d = (opaqueP d, bareN) := by unfold mkM signM; rw [if_neg hp0]
  rw [e]
  unfold cls tgt
  rw [h1]; exact ⟨rfl, rfl, rfl⟩
/-- WHAT IS TOLD of a region: of paths p with R p -/
structure Good (A B l : List Mb) (R : Tx → Bool) (Q : Mb → Prop) : Prop where
  cl : ∀ m ∈ l, (cls m = 1 ∧ m ∈ B) ∨ (m.2 = bareN ∧ (cls m = 2 ∨ cls m = 3))
  rg : ∀ m ∈ l, Q m
  ab : ∀ m ∈ l, ∀ q ∈ aboveP m.1, R q = true → ∃ x ∈ l, x.1 = q ∧ x.2.kind = 1
  nd : l.Pairwise (fun x y => x.1 ≠ y.1)
  inn : ∀ p y, R p = true → (p, y) ∈ B → (p, y) ∈ l ∨ ((p, y) ∈ A ∧ ∀ m ∈ l, hits m p = false)
  out : ∀ p, R p = true → SM.look B p = none → SM.look A p = none ∨ ∃ m ∈ l, hits m p = true
theorem Good.at {A B l : List Mb} {R : Tx → Bool} {Q : Mb → Prop} (h : Good A B l R Q) {m : Mb} (hm : m ∈ l) : At m := at_of (by rcases h.cl m hm with ⟨e, _⟩ | ⟨_, e | e⟩ <;> omega)
theorem srt_pair {L : List Mb} (h : SM.Srt L) : L.Pairwise (fun x y => x.1 ≠ y.1) := List.Pairwise.imp (R := fun a b : Mb => a.1 < b.1) (S := fun x y : Mb => x.1 ≠ y.1) (fun hab e => tx_irrefl _ (by rw [e] at hab; exact hab)) h
theorem under_ne {d q : Tx} (h : underP d q = true) : q ≠ [] := by rintro rfl; cases h
theorem hit_ne {c q : Tx} (h0 : c ≠ []) (h : hitT c q = true) : q ≠ [] := by
  unfold hitT at h
  rcases Bool.or_eq_true_iff.1 h with h | h
  · have h : q = c := by simpa using h
    rw [h]; exact h0
  · exact under_ne h
theorem under_asym {a b : Tx} (h : underP a b = true) (k : underP b a = true) : False := by
  have := under_len h
  have := under_len k
  omega
theorem under_hit {a b : Tx} (h : underP a b = true) (k : hitT b a = true) : False := by
  unfold hitT at k
  rcases Bool.or_eq_true_iff.1 k with k | k
  · have k : a = b := by simpa using k
    rw [k, under_self] at h; cases h
  · exact under_asym h k
theorem look_some {L : List Mb} {p : Tx} (hn : SM.look L p ≠ none) : ∃ v, (p, v) ∈ L := by
  cases hc : SM.look L p with
  | none => exact (hn hc).elim
  | some v => exact ⟨v, SM.look_mem hc⟩
/-- of one path -/
theorem good_one {A B bl : List Mb} (hA : WellL A) (hB : WellL B) {c : Tx} (hc : mayP c = true) (h0 : c ≠ [])
    (hb : dirB A c = true → dirB B c = true → Good A B bl (underP c) (fun m => underP c m.1 = true)) : Good A B (oneF A B bl c) (hitT c) (fun m => hitT c (tgt m) = true) := by
  unfold oneF
  cases hl : SM.look B c with
  | none =>
    obtain ⟨w1, w2, w3⟩ := wh_eq hc h0
    have hw : At (whM c) := at_of (by omega)
    have hnB : ∀ p y, hitT c p = true → (p, y) ∈ B → False := by
      intro p y h1 h2
      unfold hitT at h1
      rcases Bool.or_eq_true_iff.1 h1 with h1 | h1
      · have h1 : p = c := by simpa using h1
        rw [h1] at h2
        rw [hB.s.look.2 h2] at hl; cases hl
      · obtain ⟨v, hv, _⟩ := dir_above hB h0 _ (p, y) rfl h2 h1
        rw [hv] at hl; cases hl
    refine ⟨fun m hm => ?_, fun m hm => ?_, fun m hm q hq hR => ?_, List.pairwise_singleton _ _, fun p y h1 h2 => (hnB p y h1 h2).elim, fun p h1 _ => .inr ⟨whM c, by simp, ?_⟩⟩
    · obtain rfl := List.mem_singleton.1 hm
      exact .inr ⟨w1, .inl w2⟩
    · obtain rfl := List.mem_singleton.1 hm
      show hitT c (tgt (whM c)) = true
      rw [w3]; exact hitT_self c
    · obtain rfl := List.mem_singleton.1 hm
      have hu := (under_above (hit_ne h0 hR)).2 hq
      rcases hw with ⟨e, _⟩ | ⟨_, _, _, e⟩ | ⟨e, _⟩
      · omega
      · rw [e, w3] at hu
        exact (under_hit hu hR).elim
      · omega
    · rw [hits_iff]
      refine .inr (.inl ⟨w2, ?_⟩)
      rw [w3]
      unfold hitT at h1
      rcases Bool.or_eq_true_iff.1 h1 with h1 | h1
      · exact .inl (by simpa using h1 : p = c).symm
      · exact .inr h1
  | some y =>
    simp only
    have hyB := SM.look_mem hl
    obtain ⟨cy1, cy2⟩ := cls_may (n := y) hc h0
    have hcB : ∀ m ∈ B, cls m = 1 ∧ tgt m = m.1 := fun m hm => cls_may (n := m.2) (hB.path hm).1 (hB.path hm).2
    split
    · rename_i hd
      refine ⟨fun m hm => ?_, fun m hm => ?_, fun m hm q hq hR => ?_, srt_pair (hB.s.filter _), fun p v h1 h2 => .inl (List.mem_filter.2 ⟨h2, h1⟩), fun p h1 h2 => .inl ?_⟩
      · obtain ⟨h1, _⟩ := List.mem_filter.1 hm
        exact .inl ⟨(hcB m h1).1, h1⟩
      · obtain ⟨h1, h2⟩ := List.mem_filter.1 hm
        show hitT c (tgt m) = true
        rw [(hcB m h1).2]; exact h2
      · obtain ⟨h1, _⟩ := List.mem_filter.1 hm
        have hq0 := hit_ne h0 hR
        obtain ⟨v, hv, hk⟩ := dir_above hB hq0 _ m rfl h1 ((under_above hq0).2 hq)
        exact ⟨(q, v), List.mem_filter.2 ⟨SM.look_mem hv, hR⟩, rfl, hk⟩
      · refine Classical.byContradiction fun hn => ?_
        obtain ⟨v, hv⟩ := look_some hn
        unfold hitT at h1
        rcases Bool.or_eq_true_iff.1 h1 with h1 | h1
        · have h1 : p = c := by simpa using h1
          rw [h1, hl] at h2; cases h2
        · have := dirB_iff.2 (dir_above hA h0 _ (p, v) rfl hv h1)
          rw [hd.2] at this; cases this
    · rename_i hd
      split
      · rename_i hk
        have hdA : dirB A c = true := by
          cases e : dirB A c with
          | true => rfl
          | false => exact (hd ⟨hk, e⟩).elim
        have G := hb hdA (dirB_iff.2 ⟨y, hl, hk⟩)
        have hcut : ∀ p, hitT c p = true → p = c ∨ underP c p = true := by
          intro p h1
          unfold hitT at h1
          rcases Bool.or_eq_true_iff.1 h1 with h1 | h1
          · exact .inl (by simpa using h1)
          · exact .inr h1
        split
        · rename_i ht
          refine ⟨fun m hm => ?_, fun m hm => ?_, fun m hm q hq hR => ?_, ?_, fun p v h1 h2 => ?_, fun p h1 h2 => ?_⟩
          · rcases List.mem_append.1 hm with hm | hm
            · exact G.cl m hm
            · obtain rfl := List.mem_singleton.1 hm
              exact .inl ⟨cy1, hyB⟩
          · rcases List.mem_append.1 hm with hm | hm
            · exact under_tgt' (G.at hm) (G.rg m hm)
            · obtain rfl := List.mem_singleton.1 hm
              show hitT c (tgt (c, y)) = true
              rw [cy2]; exact hitT_self c
          · rcases hcut q hR with rfl | hR2
            · exact ⟨(q, y), by simp, rfl, hk⟩
            · rcases List.mem_append.1 hm with hm | hm
              · obtain ⟨x, hx, e⟩ := G.ab m hm q hq hR2
                exact ⟨x, List.mem_append_left _ hx, e⟩
              · obtain rfl := List.mem_singleton.1 hm
                exact (under_asym ((under_above (hit_ne h0 hR)).2 hq) hR2).elim
          · refine List.pairwise_append.2 ⟨G.nd, List.pairwise_singleton _ _, fun a ha b hb e => ?_⟩
            obtain rfl := List.mem_singleton.1 hb
            have := G.rg a ha
            rw [e] at this
            simp only [under_self] at this; cases this
          · rcases hcut p h1 with rfl | h1
            · have := hB.s.look.2 h2
              rw [hl] at this
              injection this with this
              rw [← this]; exact .inl (by simp)
            · rcases G.inn p v h1 h2 with e | ⟨e1, e2⟩
              · exact .inl (List.mem_append_left _ e)
              · refine .inr ⟨e1, fun m hm => ?_⟩
                rcases List.mem_append.1 hm with hm | hm
                · exact e2 m hm
                · obtain rfl := List.mem_singleton.1 hm
                  rw [Bool.eq_false_iff]
                  intro e
                  rcases hits_iff.1 e with ⟨_, e | ⟨e, _⟩⟩ | ⟨e, _⟩ | ⟨e, _⟩
                  · rw [cy2] at e
                    rw [e, under_self] at h1; cases h1
                  · exact e hk
                  · omega
                  · omega
          · rcases hcut p h1 with rfl | h1
            · rw [hl] at h2; cases h2
            · rcases G.out p h1 h2 with e | ⟨m, hm, e⟩
              · exact .inl e
              · exact .inr ⟨m, List.mem_append_left _ hm, e⟩
        · rename_i ht
          have ht1 : bl = [] := Classical.byContradiction fun e => ht (.inl e)
          have ht2 : SM.look A c = some y := Classical.byContradiction fun e => ht (.inr e)
          subst ht1
          refine ⟨fun m hm => (List.not_mem_nil hm).elim, fun m hm => (List.not_mem_nil hm).elim, fun m hm => (List.not_mem_nil hm).elim, List.Pairwise.nil, fun p v h1 h2 => ?_, fun p h1 h2 => ?_⟩
          · rcases hcut p h1 with rfl | h1
            · have := hB.s.look.2 h2
              rw [hl] at this
              injection this with this
              rw [← this]; exact .inr ⟨SM.look_mem ht2, fun m hm => (List.not_mem_nil hm).elim⟩
            · exact G.inn p v h1 h2
          · rcases hcut p h1 with rfl | h1
            · rw [hl] at h2; cases h2
            · exact G.out p h1 h2
      · rename_i hk
        have hnB : ∀ p v, hitT c p = true → (p, v) ∈ B → p = c ∧ v = y := by
          intro p v h1 h2
          unfold hitT at h1
          rcases Bool.or_eq_true_iff.1 h1 with h1 | h1
          · have h1 : p = c := by simpa using h1
            subst h1
            have := hB.s.look.2 h2
            rw [hl] at this
            injection this with this
            exact ⟨rfl, this.symm⟩
          · obtain ⟨v, hv, hvk⟩ := dir_above hB h0 _ (p, v) rfl h2 h1
            rw [hl] at hv
            injection hv with hv
            rw [hv] at hk; exact (hk hvk).elim
        split
        · rename_i ht
          refine ⟨fun m hm => ?_, fun m hm => ?_, fun m hm q hq hR => ?_, List.pairwise_singleton _ _, fun p v h1 h2 => ?_, fun p h1 h2 => .inr ⟨(c, y), by simp, ?_⟩⟩
          · obtain rfl := List.mem_singleton.1 hm
            exact .inl ⟨cy1, hyB⟩
          · obtain rfl := List.mem_singleton.1 hm
            show hitT c (tgt (c, y)) = true
            rw [cy2]; exact hitT_self c
          · obtain rfl := List.mem_singleton.1 hm
            exact (under_hit ((under_above (hit_ne h0 hR)).2 hq) hR).elim
          · obtain ⟨rfl, rfl⟩ := hnB p v h1 h2
            exact .inl (by simp)
          · rw [hits_iff]
            refine .inl ⟨cy1, ?_⟩
            rw [cy2]
            unfold hitT at h1
            rcases Bool.or_eq_true_iff.1 h1 with h1 | h1
            · exact .inl (by simpa using h1 : p = c).symm
            · exact .inr ⟨hk, h1⟩
        · rename_i ht
          have ht2 : SM.look A c = some y := Classical.byContradiction fun e => ht e
          refine ⟨fun m hm => (List.not_mem_nil hm).elim, fun m hm => (List.not_mem_nil hm).elim, fun m hm => (List.not_mem_nil hm).elim, List.Pairwise.nil, fun p v h1 h2 => ?_, fun p h1 h2 => .inl ?_⟩
          · obtain ⟨rfl, rfl⟩ := hnB p v h1 h2
            exact .inr ⟨SM.look_mem ht2, fun m hm => (List.not_mem_nil hm).elim⟩
          · refine Classical.byContradiction fun hn => ?_
            obtain ⟨v, hv⟩ := look_some hn
            unfold hitT at h1
            rcases Bool.or_eq_true_iff.1 h1 with h1 | h1
            · have h1 : p = c := by simpa using h1
              rw [h1, hl] at h2; cases h2
            · obtain ⟨z, hz, hzk⟩ := dir_above hA h0 _ (p, v) rfl hv h1
              rw [ht2] at hz
              injection hz with hz
              rw [hz] at hk; exact hk hzk
end Go.Proofs.YtmnknmpfkjhgbaaGreatDoor
/- CHANGESETS, plainly: all that is told leads there. -/
namespace Go.Proofs.YtmnknmpfkjhgbaaGreatDoor
theorem kid_of {L : List Mb} (h : WellL L) {d p : Tx} {v : Nd} (hp : (p, v) ∈ L) (hu : underP d p = true) : ∃ c, parentP c = d ∧ (SM.look L c).isSome = true ∧ hitT c p = true := by
  have h1 := kids_hit h d _ (p, v) rfl hp
  rw [if_pos hu] at h1
  obtain ⟨c, hc, hh⟩ := List.countP_pos_iff.1 (show 0 < _ by rw [h1]; exact Nat.one_pos)
  obtain ⟨hcL, hcd⟩ := mem_kids.1 hc
  refine ⟨c.1, hcd, ?_, hh⟩
  have : SM.look L c.1 = some c.2 := h.s.look.2 hcL
  rw [this]; rfl
/-- of all below a Dir -/
theorem good_below {A B : List Mb} {ks : Tx → List Tx} (hA : WellL A) (hB : WellL B) (hk : KidsOf A B ks) : ∀ n d, mayP d = true → (∀ x, x ∈ A ∨ x ∈ B → x.1.length < n + d.length) → Good A B (belF A B ks n d) (underP d) (fun m => underP d m.1 = true) := by
  intro n
  induction n with
  | zero =>
    intro d _ hf
    have hno : ∀ p v, underP d p = true → ((p, v) ∈ A ∨ (p, v) ∈ B) → False := by
      intro p v h1 h2
      have := hf (p, v) h2
      have := under_len h1
      simp at *; omega
    refine ⟨fun m hm => (List.not_mem_nil hm).elim, fun m hm => (List.not_mem_nil hm).elim, fun m hm => (List.not_mem_nil hm).elim, List.Pairwise.nil, fun p v h1 h2 => (hno p v h1 (.inr h2)).elim, fun p h1 h2 => .inl ?_⟩
    refine Classical.byContradiction fun hn => ?_
    obtain ⟨v, hv⟩ := look_some hn
    exact hno p v h1 (.inl hv)
  | succ n ih =>
    intro d hd hf
    have hcB : ∀ m ∈ B, cls m = 1 ∧ tgt m = m.1 := fun m hm => cls_may (n := m.2) (hB.path hm).1 (hB.path hm).2
    unfold belF
    split
    · have G : ∀ c ∈ ks d, Good A B (oneF A B (belF A B ks n c) c) (hitT c) (fun m => hitT c (tgt m) = true) := by
        intro c hc
        obtain ⟨h1, h2, h3⟩ := hk.path hA hB hc
        refine good_one hA hB h1 h2 (fun _ _ => ih c h1 (fun x hx => ?_))
        have := hf x hx
        have := parent_lt h2
        rw [h3] at this
        omega
      have hone : ∀ c ∈ ks d, ∀ c' ∈ ks d, ∀ t, hitT c t = true → hitT c' t = true → c = c' := by
        intro c hc c' hc' t h1 h2
        obtain ⟨a1, a2, a3⟩ := hk.path hA hB hc
        obtain ⟨b1, b2, b3⟩ := hk.path hA hB hc'
        exact hit_one a1 a2 a3 b1 b2 b3 h1 h2
      have hdc : ∀ c ∈ ks d, underP d c = true := by
        intro c hc
        obtain ⟨a1, a2, a3⟩ := hk.path hA hB hc
        rw [← a3]; exact under_parent a1 a2
      refine ⟨fun m hm => ?_, fun m hm => ?_, fun m hm q hq hR => ?_, ?_, fun p v h1 h2 => ?_, fun p h1 h2 => ?_⟩
      · obtain ⟨c, hc, hm⟩ := List.mem_flatMap.1 hm
        exact (G c hc).cl m hm
      · obtain ⟨c, hc, hm⟩ := List.mem_flatMap.1 hm
        exact tgt_under' ((G c hc).at hm) (hit_under (hdc c hc) ((G c hc).rg m hm))
      · obtain ⟨c, hc, hm⟩ := List.mem_flatMap.1 hm
        obtain ⟨a1, a2, a3⟩ := hk.path hA hB hc
        have hq0 := under_ne hR
        have hqt := under_tgt' ((G c hc).at hm) ((under_above hq0).2 hq)
        have hcq : hitT c q = true := by
          rcases hit_tri hq0 a2 hqt ((G c hc).rg m hm) with e | e | e
          · rw [e]; exact hitT_self c
          · unfold hitT; rw [e]; simp
          · rw [under_rec a1 a2, a3] at e
            rcases Bool.or_eq_true_iff.1 e with e | e
            · have e : d = q := by simpa using e
              rw [e, under_self] at hR; cases hR
            · exact (under_asym e hR).elim
        obtain ⟨x, hx, e⟩ := (G c hc).ab m hm q hq hcq
        exact ⟨x, List.mem_flatMap.2 ⟨c, hc, hx⟩, e⟩
      · rw [List.pairwise_flatMap]
        refine ⟨fun c hc => (G c hc).nd, List.Pairwise.imp_of_mem ?_ (hk.nd d)⟩
        intro c c' hc hc' hne x hx y hy e
        have e1 : tgt x = tgt y := by unfold tgt; rw [e]
        have h1 := (G c hc).rg x hx
        have h2 := (G c' hc').rg y hy
        rw [e1] at h1
        exact hne (hone c hc c' hc' _ h1 h2)
      · obtain ⟨c, hcd, hcs, hcp⟩ := kid_of hB h2 h1
        have hc := (hk.mem d c).2 ⟨hcd, .inr hcs⟩
        rcases (G c hc).inn p v hcp h2 with e | ⟨e1, e2⟩
        · exact .inl (List.mem_flatMap.2 ⟨c, hc, e⟩)
        · refine .inr ⟨e1, fun m hm => ?_⟩
          obtain ⟨c', hc', hm⟩ := List.mem_flatMap.1 hm
          rw [Bool.eq_false_iff]
          intro e
          have e3 := hit_trans ((G c' hc').rg m hm) (hits_tgt e)
          have := hone c hc c' hc' p hcp e3
          subst this
          rw [e2 m hm] at e; cases e
      · cases hla : SM.look A p with
        | none => exact .inl rfl
        | some v =>
          right
          obtain ⟨c, hcd, hcs, hcp⟩ := kid_of hA (SM.look_mem hla) h1
          have hc := (hk.mem d c).2 ⟨hcd, .inl hcs⟩
          rcases (G c hc).out p hcp h2 with e | ⟨m, hm, e⟩
          · rw [hla] at e; cases e
          · exact ⟨m, List.mem_flatMap.2 ⟨c, hc, hm⟩, e⟩
    · obtain ⟨k1, k2, k3⟩ := mk_eq hd
      have hka : At (mkM d) := at_of (by omega)
      have hku : ∀ q, underP q (mkM d).1 = (d == q || underP q d) := by
        intro q
        rcases hka with ⟨e, _⟩ | ⟨e, _⟩ | ⟨_, _, e⟩
        · omega
        · omega
        · rw [e, k3]
      refine ⟨fun m hm => ?_, fun m hm => ?_, fun m hm q hq hR => ?_, ?_, fun p v h1 h2 => ?_, fun p h1 h2 => ?_⟩
      · rcases List.mem_append.1 hm with hm | hm
        · obtain ⟨h1, _⟩ := List.mem_filter.1 hm
          exact .inl ⟨(hcB m h1).1, h1⟩
        · obtain rfl := List.mem_singleton.1 hm
          exact .inr ⟨k1, .inr k2⟩
      · rcases List.mem_append.1 hm with hm | hm
        · exact (List.mem_filter.1 hm).2
        · obtain rfl := List.mem_singleton.1 hm
          show underP d (mkM d).1 = true
          rw [hku]; simp
      · rcases List.mem_append.1 hm with hm | hm
        · obtain ⟨h1, _⟩ := List.mem_filter.1 hm
          have hq0 := under_ne hR
          obtain ⟨v, hv, hvk⟩ := dir_above hB hq0 _ m rfl h1 ((under_above hq0).2 hq)
          exact ⟨(q, v), List.mem_append_left _ (List.mem_filter.2 ⟨SM.look_mem hv, hR⟩), rfl, hvk⟩
        · obtain rfl := List.mem_singleton.1 hm
          have hu := (under_above (under_ne hR)).2 hq
          rw [hku] at hu
          rcases Bool.or_eq_true_iff.1 hu with hu | hu
          · have hu : d = q := by simpa using hu
            rw [hu, under_self] at hR; cases hR
          · exact (under_asym hu hR).elim
      · refine List.pairwise_append.2 ⟨srt_pair (hB.s.filter _), List.pairwise_singleton _ _, fun a ha b hb e => ?_⟩
        obtain rfl := List.mem_singleton.1 hb
        have h1 := (hcB a (List.mem_filter.1 ha).1).1
        have h2 : cls a = cls (mkM d) := by unfold cls; rw [e]
        omega
      · exact .inl (List.mem_append_left _ (List.mem_filter.2 ⟨h2, h1⟩))
      · exact .inr ⟨mkM d, by simp, hits_iff.2 (.inr (.inr ⟨k2, by rw [k3]; exact h1⟩))⟩
theorem mayT_path {p : Tx} {n : Nd} (h : mayM (p, n) = true) : mayT ([97], n) = true := by
  unfold mayM mayT at *
  simp only [Bool.and_eq_true] at *
  obtain ⟨_, ⟨⟨⟨⟨⟨⟨_, h2⟩, h3⟩, h4⟩, h5⟩, h6⟩, h7⟩⟩ := h
  exact ⟨⟨⟨⟨⟨⟨show decide (¬ (classP [97]).1 = 0) = true by decide, h2⟩, h3⟩, h4⟩, h5⟩, h6⟩, h7⟩
theorem mayT_bare : mayT ([97], bareN) = true := by decide
theorem pre_lt {q p : Tx} (h : q ++ [47] <+: p) : q < p := by
  obtain ⟨r, rfl⟩ := h
  have := bytesLess_pre q (47 :: r) (by simp)
  rw [less_lt] at this
  simpa using this
/-- A CHANGESET: rising, and good -/
theorem may_good {A B T S : List Mb} (hB : WellL B) (hg : Good A B T (underP []) (fun m => underP [] m.1 = true)) (hp : S.Perm T) (hs : SM.Srt S) (hl : S.length ≤ 4096) : mayC S = 0 := by
  have hS : ∀ m ∈ S, m ∈ T := fun m hm => hp.mem_iff.1 hm
  have key : ∀ (k : Nat) (hk : k < S.length), errC S k S[k] = 0 := by
    intro k hk
    have hm := List.getElem_mem hk
    have hcl := hg.cl _ (hS _ hm)
    have h1 : mayT ([97], S[k].2) = true := by
      rcases hcl with ⟨_, h⟩ | ⟨h, _⟩
      · exact mayT_path (p := S[k].1) (hB.m _ h)
      · rw [h]; exact mayT_bare
    have h2 : notUp S k S[k] = false := by
      unfold notUp
      cases k with
      | zero => rfl
      | succ j =>
        show (match S[j]? with | some x => decide (S[j + 1].1 ≤ x.1) | none => false) = false
        rw [List.getElem?_eq_getElem (show j < S.length by omega)]
        simp only [decide_eq_false_iff_not]
        intro e
        have := (List.pairwise_iff_getElem.1 hs) j (j + 1) (by omega) hk (Nat.lt_succ_self j)
        exact (List.not_lt.2 e) this
    have hcls : cls S[k] = 1 ∨ cls S[k] = 2 ∨ cls S[k] = 3 := by rcases hcl with ⟨e, _⟩ | ⟨_, e | e⟩ <;> omega
    unfold errC
    rw [if_neg (by rw [h1, h2]; decide), if_neg (by omega), if_neg (by
      rintro ⟨e1, e2⟩
      rcases hcl with ⟨e, _⟩ | ⟨e, _⟩
      · exact e1 e
      · rw [bare_iff.2 e] at e2; cases e2), if_neg]
    rw [Bool.not_eq_true, List.any_eq_false]
    intro q hq
    have hq0 : q ≠ [] := by rintro rfl; exact no_head hcls hq
    obtain ⟨x, hx, e1, e2⟩ := hg.ab _ (hS _ hm) q hq (by rw [under_nil]; simp [hq0])
    obtain ⟨j, hj, rfl⟩ := List.getElem_of_mem (hp.mem_iff.2 hx)
    have hlt : q < S[k].1 := pre_lt (mem_above.1 hq)
    have hjk : j < k := by
      refine Nat.lt_of_not_le fun e => ?_
      rcases Nat.eq_or_lt_of_le e with e | e
      · subst e; rw [e1] at hlt; exact tx_irrefl _ hlt
      · have := (List.pairwise_iff_getElem.1 hs) k j hk hj e
        rw [e1] at this
        exact tx_asymm hlt this
    simp only [Bool.not_eq_true', Bool.not_eq_false, List.any_eq_true, Bool.and_eq_true, beq_iff_eq, decide_eq_true_eq]
    exact ⟨S[j], List.mem_take_iff_getElem.2 ⟨j, by omega, rfl⟩, e1, e2⟩
  have hfr : ∀ (l : List Mb) (k : Nat), S.drop k = l → mayFrom S k l = 0 := by
    intro l
    induction l with
    | nil => intro k _; unfold mayFrom; rw [if_neg (by omega)]
    | cons m r ih =>
      intro k hk
      have hkl : k < S.length := by
        refine Nat.lt_of_not_le fun e => ?_
        rw [List.drop_eq_nil_of_le e] at hk; cases hk
      rw [List.drop_eq_getElem_cons hkl] at hk
      injection hk with hk1 hk2
      unfold mayFrom
      rw [← hk1, if_neg (by rw [key k hkl]; simp)]
      exact ih (k + 1) hk2
  exact hfr S 0 rfl
/-- IT LEADS THERE -/
theorem leads_there {A B T S : List Mb} (hA : WellL A) (hB : WellL B) (hg : Good A B T (underP []) (fun m => underP [] m.1 = true)) (hp : S.Perm T) (hs : SM.Srt S) (hl : S.length ≤ 4096) (hbl : B.length ≤ 4096) : applyC A S = (0, some B) := by
  have hm := may_good hB hg hp hs hl
  unfold applyC
  rw [if_neg (by rw [hm]; simp)]
  have hcB : ∀ m ∈ B, cls m = 1 ∧ tgt m = m.1 := fun m hm => cls_may (n := m.2) (hB.path hm).1 (hB.path hm).2
  have hself : ∀ m ∈ S, cls m = 1 → hits m m.1 = true := by
    intro m hm hc
    have h1 : m ∈ B := by
      rcases hg.cl m (hp.mem_iff.1 hm) with ⟨_, e⟩ | ⟨_, e⟩
      · exact e
      · omega
    exact hits_iff.2 (.inl ⟨hc, .inl (hcB m h1).2⟩)
  refine newT_perm hB ?_ hbl
  refine (List.perm_ext_iff_of_nodup ?_ (mb_nodup hB.s)).2 (fun x => ?_)
  · refine List.nodup_append.2 ⟨(mb_nodup hA.s).filter _, (mb_nodup hs).filter _, fun a ha b hb e => ?_⟩
    subst e
    obtain ⟨_, h1⟩ := List.mem_filter.1 ha
    obtain ⟨h2, h3⟩ := mem_plainC.1 hb
    have := (stays_iff.1 h1).2 a h2
    rw [hself a h2 h3] at this; cases this
  · rw [List.mem_append, List.mem_filter, mem_plainC]
    constructor
    · rintro (⟨h1, h2⟩ | ⟨h1, h2⟩)
      · have hst := stays_iff.1 h2
        have hR : underP [] x.1 = true := by rw [under_nil]; simp [hst.1]
        cases hlb : SM.look B x.1 with
        | none =>
          rcases hg.out x.1 hR hlb with e | ⟨m, hm, e⟩
          · have := hA.s.look.2 (show (x.1, x.2) ∈ A from h1)
            rw [e] at this; cases this
          · have := hst.2 m (hp.mem_iff.2 hm)
            rw [e] at this; cases this
        | some y =>
          have hyB := SM.look_mem hlb
          rcases hg.inn x.1 y hR hyB with e | ⟨e, _⟩
          · have h3 := hp.mem_iff.2 e
            have := hst.2 _ h3
            rw [hself _ h3 (hcB _ hyB).1] at this; cases this
          · have := hA.s.one (show (x.1, x.2) ∈ A from h1) e
            have : x = (x.1, y) := by rw [← this]
            rw [this]; exact hyB
      · rcases hg.cl x (hp.mem_iff.1 h1) with ⟨_, e⟩ | ⟨_, e⟩
        · exact e
        · omega
    · intro h
      have h0 := (hB.path h).2
      rcases hg.inn x.1 x.2 (by rw [under_nil]; simp [h0]) h with e | ⟨e1, e2⟩
      · exact .inr ⟨hp.mem_iff.2 e, (hcB x h).1⟩
      · exact .inl ⟨e1, stays_iff.2 ⟨h0, fun m hm => e2 m (hp.mem_iff.1 hm)⟩⟩
end Go.Proofs.YtmnknmpfkjhgbaaGreatDoor
/- CHANGESETS, plainly: in whichever order a Dir's paths are gone along, the same is told; sorted it is one list. -/
namespace Go.Proofs.YtmnknmpfkjhgbaaGreatDoor
theorem one_perm (A B : List Mb) {bl bl' : List Mb} (h : bl.Perm bl') (c : Tx) : (oneF A B bl c).Perm (oneF A B bl' c) := by
  have he : bl ≠ [] ↔ bl' ≠ [] := by
    constructor
    · rintro h1 rfl; exact h1 h.eq_nil
    · rintro h1 rfl; exact h1 h.symm.eq_nil
  unfold oneF
  split
  · exact List.Perm.refl _
  · rename_i y _
    split
    · exact List.Perm.refl _
    · split
      · by_cases hs : bl ≠ [] ∨ SM.look A c ≠ some y
        · rw [if_pos hs, if_pos (by rw [← he]; exact hs)]
          exact h.append_right _
        · rw [if_neg hs, if_neg (by rw [← he]; exact hs)]
          exact h
      · exact List.Perm.refl _
theorem flat_perm {α β : Type} (f g : α → List β) : ∀ l : List α, (∀ x ∈ l, (f x).Perm (g x)) → (l.flatMap f).Perm (l.flatMap g)
  | [], _ => List.Perm.refl _
  | a :: l, h => by
    rw [List.flatMap_cons, List.flatMap_cons]
    exact (h a (by simp)).append (flat_perm f g l (fun x hx => h x (by simp [hx])))
theorem bel_perm {A B : List Mb} {ks ks' : Tx → List Tx} (hk : KidsOf A B ks) (hk' : KidsOf A B ks') : ∀ n d, (belF A B ks n d).Perm (belF A B ks' n d)
  | 0, _ => List.Perm.refl _
  | n + 1, d => by
    have hp : (ks d).Perm (ks' d) := (List.perm_ext_iff_of_nodup (hk.nd d) (hk'.nd d)).2 (fun p => by rw [hk.mem, hk'.mem])
    have hf : ((ks d).flatMap fun c => oneF A B (belF A B ks n c) c).Perm ((ks' d).flatMap fun c => oneF A B (belF A B ks' n c) c) :=
      (flat_perm _ _ _ (fun c _ => one_perm A B (bel_perm hk hk' n c) c)).trans (hp.flatMap_right _)
    unfold belF
    rw [hf.length_eq]
    split
    · exact hf
    · exact List.Perm.refl _
theorem srt_perm {S T : List Mb} (hs : SM.Srt S) (ht : SM.Srt T) (h : S.Perm T) : S = T := srt_mem hs ht (fun _ => h.mem_iff)
/-- of distinct paths, sorted: rising -/
theorem srt_of {T : List Mb} (h : T.Pairwise (fun x y => x.1 ≠ y.1)) : ∃ S, SM.Srt S ∧ S.Perm T ∧ ∀ K : List Mb, K.Perm T → K.Pairwise (fun x y => x.1 ≤ y.1) → K = S := by
  have key : ∀ K : List Mb, K.Perm T → K.Pairwise (fun x y => x.1 ≤ y.1) → SM.Srt K := by
    intro K hK hs
    have hne : K.Pairwise (fun x y => x.1 ≠ y.1) := (hK.pairwise_iff (fun h => Ne.symm h)).2 h
    refine List.Pairwise.imp (R := fun a b : Mb => a.1 ≤ b.1 ∧ a.1 ≠ b.1) (S := fun a b : Mb => a.1 < b.1) (fun {a b} hab => ?_) (hs.and hne)
    rcases tx_tri a.1 b.1 with e | e | e
    · exact e
    · exact (hab.2 e).elim
    · exact ((List.not_lt.2 hab.1) e).elim
  have hm := List.mergeSort_perm T (fun x y => decide (x.1 ≤ y.1))
  have hps : (T.mergeSort (fun x y => decide (x.1 ≤ y.1))).Pairwise (fun x y => x.1 ≤ y.1) := by
    have := List.pairwise_mergeSort (le := fun x y : Mb => decide (x.1 ≤ y.1)) (fun a b c h1 h2 => decide_eq_true (List.le_trans (of_decide_eq_true h1) (of_decide_eq_true h2))) (fun a b => by
      rcases List.le_total a.1 b.1 with e | e
      · simp [e]
      · simp [e]) T
    exact List.Pairwise.imp (fun h => of_decide_eq_true h) this
  refine ⟨_, key _ hm hps, hm, fun K hK hs => srt_perm (key K hK hs) (key _ hm hps) (hK.trans hm.symm)⟩
end Go.Proofs.YtmnknmpfkjhgbaaGreatDoor
/- CHANGESETS, plainly: what is in a Dir of either tree, sorted and each once. -/
namespace Go.Proofs.YtmnknmpfkjhgbaaGreatDoor
theorem cmp_inv (zs : List Tx) (hs : zs.Pairwise (· ≤ ·)) : ∀ m, m ≤ zs.length → (Lib.compactUpTo zs.toArray m).Pairwise (· < ·) ∧ (∀ x, x ∈ Lib.compactUpTo zs.toArray m ↔ ∃ j, ∃ _ : j < m, ∃ h : j < zs.length, zs[j] = x) := by
  intro m
  induction m with
  | zero => intro _; exact ⟨List.Pairwise.nil, fun x => ⟨fun h => (List.not_mem_nil h).elim, fun ⟨j, hj, _⟩ => by omega⟩⟩
  | succ m ih =>
    intro hm
    obtain ⟨h1, h2⟩ := ih (by omega)
    have hg : ∀ j (hj : j < zs.length), zs.toArray[j]! = zs[j] := fun j hj => by simp [hj]
    have hle : ∀ i j (hi : i < zs.length) (hj : j < zs.length), i ≤ j → zs[i] ≤ zs[j] := by
      intro i j hi hj hij
      rcases Nat.eq_or_lt_of_le hij with e | e
      · subst e; exact List.le_refl _
      · exact (List.pairwise_iff_getElem.1 hs) i j hi hj e
    rw [Lib.compactUpTo_succ]
    cases hk : Lib.keeps zs.toArray m with
    | false =>
      rw [if_neg (by decide), List.append_nil]
      refine ⟨h1, fun x => ?_⟩
      rw [h2]
      constructor
      · rintro ⟨j, hj, hl, e⟩; exact ⟨j, by omega, hl, e⟩
      · rintro ⟨j, hj, hl, e⟩
        rcases Nat.lt_or_ge j m with hjm | hjm
        · exact ⟨j, hjm, hl, e⟩
        · obtain rfl : j = m := by omega
          unfold Lib.keeps at hk
          simp only [decide_eq_false_iff_not, not_or, ne_eq, Classical.not_not] at hk
          rw [hg j hl, hg (j - 1) (by omega)] at hk
          exact ⟨j - 1, by omega, by omega, by rw [← hk.2]; exact e⟩
    | true =>
      rw [if_pos rfl, hg m (by omega)]
      unfold Lib.keeps at hk
      have hk : m = 0 ∨ zs.toArray[m]! ≠ zs.toArray[m - 1]! := by simpa using hk
      refine ⟨List.pairwise_append.2 ⟨h1, List.pairwise_singleton _ _, fun a ha b hb => ?_⟩, fun x => ?_⟩
      · obtain rfl := List.mem_singleton.1 hb
        obtain ⟨j, hj, hl, rfl⟩ := (h2 a).1 ha
        have hk := hk.resolve_left (by omega)
        rw [hg m (by omega), hg (m - 1) (by omega)] at hk
        have g1 := hle j (m - 1) hl (by omega) (by omega)
        have g2 := hle (m - 1) m (by omega) (by omega) (by omega)
        have g3 : zs[m - 1] < zs[m] := by
          rcases tx_tri zs[m - 1] zs[m] with e | e | e
          · exact e
          · exact (hk e.symm).elim
          · exact ((List.not_lt.2 g2) e).elim
        rcases tx_tri zs[j] zs[m] with e | e | e
        · exact e
        · rw [e] at g1
          exact ((List.not_lt.2 g1) g3).elim
        · exact ((List.not_lt.2 g1) (tx_trans g3 e)).elim
      · rw [List.mem_append, h2, List.mem_singleton]
        constructor
        · rintro (⟨j, hj, hl, e⟩ | rfl)
          · exact ⟨j, by omega, hl, e⟩
          · exact ⟨m, by omega, by omega, rfl⟩
        · rintro ⟨j, hj, hl, e⟩
          rcases Nat.lt_or_ge j m with hjm | hjm
          · exact .inl ⟨j, hjm, hl, e⟩
          · obtain rfl : j = m := by omega
            exact .inr e.symm
theorem compact_rise {zs : List Tx} (hs : zs.Pairwise (· ≤ ·)) : (Lib.compact zs).Pairwise (· < ·) := (cmp_inv zs hs zs.length (Nat.le_refl _)).1
theorem mem_compact {zs : List Tx} (hs : zs.Pairwise (· ≤ ·)) {x : Tx} : x ∈ Lib.compact zs ↔ x ∈ zs := by
  unfold Lib.compact
  rw [(cmp_inv zs hs zs.length (Nat.le_refl _)).2]
  constructor
  · rintro ⟨j, _, hl, rfl⟩; exact List.getElem_mem hl
  · intro h
    obtain ⟨j, hl, e⟩ := List.getElem_of_mem h
    exact ⟨j, hl, hl, e⟩
/-- any sorted row of what both have, each once -/
theorem kids_of {A B : List Mb} (hA : WellL A) (hB : WellL B) {ks : Tx → List Tx} (h : ∀ d, ∃ zs : List Tx, zs.Perm ((kids d A).map (·.1) ++ (kids d B).map (·.1)) ∧ zs.Pairwise (· ≤ ·) ∧ ks d = Lib.compact zs) : KidsOf A B ks := by
  refine ⟨fun d => ?_, fun d p => ?_⟩
  · obtain ⟨zs, _, hs, e⟩ := h d
    rw [e]
    exact List.Pairwise.imp (R := fun a b : Tx => a < b) (S := fun a b : Tx => a ≠ b) (fun hab e => tx_irrefl _ (by rw [e] at hab; exact hab)) (compact_rise hs)
  · obtain ⟨zs, hp, hs, e⟩ := h d
    rw [e, mem_compact hs, hp.mem_iff, List.mem_append, List.mem_map, List.mem_map]
    have hi : ∀ {L : List Mb}, WellL L → ((∃ a ∈ kids d L, a.1 = p) ↔ parentP p = d ∧ (SM.look L p).isSome = true) := by
      intro L hL
      constructor
      · rintro ⟨a, ha, rfl⟩
        obtain ⟨h1, h2⟩ := mem_kids.1 ha
        have : SM.look L a.1 = some a.2 := hL.s.look.2 h1
        exact ⟨h2, by rw [this]; rfl⟩
      · rintro ⟨h1, h2⟩
        obtain ⟨v, hv⟩ := Option.isSome_iff_exists.1 h2
        exact ⟨(p, v), mem_kids.2 ⟨SM.look_mem hv, h1⟩, rfl⟩
    rw [hi hA, hi hB]
    constructor
    · rintro (⟨a, b⟩ | ⟨a, b⟩)
      · exact ⟨a, .inl b⟩
      · exact ⟨a, .inr b⟩
    · rintro ⟨a, b | b⟩
      · exact .inl ⟨a, b⟩
      · exact .inr ⟨a, b⟩
end Go.Proofs.YtmnknmpfkjhgbaaGreatDoor
/- CHANGESETS, plainly: how many Members a side counts at a path; what is told below a Dir, one step. -/
namespace Go.Proofs.YtmnknmpfkjhgbaaGreatDoor
def keysM (m : Mb) : List Tx := m.1 :: (aboveP m.1 ++ [[]])
def cntM (L : List Mb) (t : Tx) : Nat := (L.flatMap keysM).count t
theorem above_nodup (p : Tx) : (aboveP p).Nodup := by
  unfold aboveP List.Nodup
  rw [List.pairwise_filterMap]
  refine List.Pairwise.imp_of_mem (R := fun a b : Nat => a < b) ?_ List.pairwise_lt_range
  intro a b ha hb hab x hx y hy e
  have ha := List.mem_range.1 ha
  have hb := List.mem_range.1 hb
  split at hx
  · injection hx with hx
    split at hy
    · injection hy with hy
      have := congrArg List.length (hx.trans (e.trans hy.symm))
      rw [List.length_take, List.length_take] at this
      omega
    · cases hy
  · cases hx
theorem count_nodup {α : Type} [BEq α] [LawfulBEq α] [DecidableEq α] (a : α) : ∀ l : List α, l.Nodup → l.count a = if a ∈ l then 1 else 0
  | [], _ => rfl
  | x :: l, h => by
    obtain ⟨h1, h2⟩ := List.nodup_cons.1 h
    rw [List.count_cons, count_nodup a l h2]
    by_cases e : x = a
    · subst e
      rw [if_neg h1, if_pos (show (x == x) = true by simp), if_pos (List.mem_cons_self)]
    · have e1 : (x == a) = false := by simpa using e
      have e3 : a ∈ x :: l ↔ a ∈ l := ⟨fun h => (List.mem_cons.1 h).resolve_left (fun h => e h.symm), List.mem_cons_of_mem _⟩
      rw [e1]
      by_cases e2 : a ∈ l
      · rw [if_pos e2, if_pos (e3.2 e2)]; rfl
      · rw [if_neg e2, if_neg (fun h => e2 (e3.1 h))]; rfl
theorem keys_count {q : Mb} (hm : mayP q.1 = true) (h0 : q.1 ≠ []) (d : Tx) : (keysM q).count d = (if (q.1 == d) = true then 1 else 0) + (if underP d q.1 = true then 1 else 0) := by
  unfold keysM
  rw [List.count_cons, List.count_append, count_nodup d _ (above_nodup q.1)]
  by_cases hd : d = []
  · subst hd
    have hu : underP [] q.1 = true := by rw [under_nil]; simpa using h0
    rw [if_neg (by rw [mem_above]; exact may_head hm), if_pos hu]
    simp [h0]
  · rw [List.count_cons, List.count_nil, if_neg (show ¬ (([] : Tx) == d) = true by simpa using fun e : [] = d => hd e.symm)]
    by_cases hu : underP d q.1 = true
    · rw [if_pos ((under_above hd).1 hu), if_pos hu]; omega
    · rw [if_neg (fun e => hu ((under_above hd).2 e)), if_neg hu]; omega
theorem cnt_all : ∀ {L : List Mb}, (∀ q ∈ L, mayP q.1 = true ∧ q.1 ≠ []) → ∀ d, cntM L d = L.countP (fun q => q.1 == d) + L.countP (fun q => underP d q.1)
  | [], _, _ => rfl
  | q :: L, h, d => by
    have ih := cnt_all (L := L) (fun x hx => h x (by simp [hx])) d
    have h1 := keys_count (h q (by simp)).1 (h q (by simp)).2 d
    unfold cntM at ih ⊢
    rw [List.flatMap_cons, List.count_append, ih, h1, List.countP_cons, List.countP_cons]
    omega
theorem cnt_dir {B : List Mb} (hB : WellL B) {d : Tx} (h : d = [] ∨ dirB B d = true) : (if d = [] then 1 + cntM B d else cntM B d) = 1 + B.countP (fun q => underP d q.1) := by
  rw [cnt_all (fun q hq => hB.path hq)]
  by_cases hd : d = []
  · subst hd
    have : B.countP (fun q => q.1 == ([] : Tx)) = 0 := by
      rw [List.countP_eq_zero]
      intro q hq
      simpa using (hB.path hq).2
    rw [if_pos rfl, this]; omega
  · rw [if_neg hd]
    obtain ⟨n, hn, _⟩ := dirB_iff.1 (h.resolve_left hd)
    have h1 := hB.s.mid d
    rw [hn] at h1
    have h2 : B.countP (fun q => q.1 == d) = 1 := by rw [List.countP_eq_length_filter, h1]; rfl
    rw [h2]
/-- told's below, one step -/
def flatF (A B : List Mb) (ks : List Tx) (F : Tx → List Mb) : List Mb := ks.flatMap fun c => oneF A B (F c) c
def bodyF (A B : List Mb) (ks : List Tx) (F : Tx → List Mb) (d : Tx) : List Mb := if (flatF A B ks F).length ≤ 1 + B.countP (fun q => underP d q.1) then flatF A B ks F else B.filter (fun q => underP d q.1) ++ [mkM d]
theorem bel_step {A B : List Mb} (hA : WellL A) (hB : WellL B) {ks : Tx → List Tx} (hk : KidsOf A B ks) (n : Nat) (d : Tx) (hf : ∀ x, x ∈ A ∨ x ∈ B → x.1.length < n + d.length) : belF A B ks n d = bodyF A B (ks d) (belF A B ks (n - 1)) d := by
  cases n with
  | succ n => rfl
  | zero =>
    have h0 : ks d = [] := by
      rw [List.eq_nil_iff_forall_not_mem]
      intro p hp
      obtain ⟨h1, h2, h3⟩ := hk.path hA hB hp
      have hl : p.length < 0 + d.length := by
        rcases ((hk.mem d p).1 hp).2 with h4 | h4
        · obtain ⟨v, hv⟩ := Option.isSome_iff_exists.1 h4
          exact hf (p, v) (.inl (SM.look_mem hv))
        · obtain ⟨v, hv⟩ := Option.isSome_iff_exists.1 h4
          exact hf (p, v) (.inr (SM.look_mem hv))
      have := parent_lt h2
      rw [h3] at this
      omega
    unfold bodyF flatF
    rw [h0]
    rfl
theorem one_len (A B bl : List Mb) (p : Tx) : (oneF A B bl p).length ≤ bl.length + 1 + B.length := by
  unfold oneF
  have h := List.length_filter_le (hitU p) B
  unfold underL
  split
  · rw [List.length_singleton]; omega
  · split
    · omega
    · split
      · split
        · rw [List.length_append, List.length_singleton]; omega
        · omega
      · split
        · rw [List.length_singleton]; omega
        · simp
end Go.Proofs.YtmnknmpfkjhgbaaGreatDoor
/- change.bare. -/
namespace Go.Proofs.YtmnknmpfkjhgbaaGreatDoor
open Go.RowKit
set_option maxHeartbeats 4000000 in
set_option maxRecDepth 100000 in
theorem bare_any (n : Nd) (av dv : Value) (w : World) (hr : NdR w (· < w.heap.size) n av dv) : Calls Tryz.prog 43 #[.agg (ndC n av dv)] w fun e w' => e = .returned (.bool (bareB n)) ∧ Below w.heap.size w w' := by
  obtain ⟨aa, ca, e1, -⟩ := hr.at_.shape
  obtain ⟨ad, cd, e2, -⟩ := hr.dt.shape
  subst e1 e2
  clear hr
  obtain ⟨kind, mode, uid, gid, time, attrs, data, link⟩ := n
  have HX : Keep (bareB ⟨kind, mode, uid, gid, time, attrs, data, link⟩ = ((kind == 2) && (mode == 0) && (uid == 0) && (gid == 0) && (time == 0) && ((attrs.length : Int) == 0) && ((data.length : Int) == 0) && (link == []))) := ⟨by
    unfold bareB
    have g : ∀ x : Nat, ((x : Int) == 0) = decide (x = 0) := fun x => by
      rw [Bool.eq_iff_iff, beq_iff_eq, decide_eq_true_eq]; omega
    rw [g, g]
    rfl⟩
  generalize bareB ⟨kind, mode, uid, gid, time, attrs, data, link⟩ = out at *
  have HNC : Keep (ndC ⟨kind, mode, uid, gid, time, attrs, data, link⟩ (.slice aa attrs.length ca) (.slice ad data.length cd) = #[.int .i64 kind, .int .u32 mode, .int .u32 uid, .int .u32 gid, .int .i64 time, .slice aa attrs.length ca, .slice ad data.length cd, .string ⟨link.toArray⟩]) := ⟨rfl⟩
  simp only
  rw [HNC.out]
  generalize attrs.length = la at *
  generalize data.length = ld at *
  obtain ⟨b0, h0⟩ : ∃ b, (kind == 2) = b := ⟨_, rfl⟩
  obtain ⟨b1, h1⟩ : ∃ b, (mode == 0) = b := ⟨_, rfl⟩
  obtain ⟨b2, h2⟩ : ∃ b, (uid == 0) = b := ⟨_, rfl⟩
  obtain ⟨b3, h3⟩ : ∃ b, (gid == 0) = b := ⟨_, rfl⟩
  obtain ⟨b4, h4⟩ : ∃ b, (time == 0) = b := ⟨_, rfl⟩
  obtain ⟨b5, h5⟩ : ∃ b, ((la : Int) == 0) = b := ⟨_, rfl⟩
  obtain ⟨b6, h6⟩ : ∃ b, ((ld : Int) == 0) = b := ⟨_, rfl⟩
  obtain ⟨b7, h7⟩ : ∃ b, (link == []) = b := ⟨_, rfl⟩
  rw [h0, h1, h2, h3, h4, h5, h6, h7] at HX
  have HB : Keep (∀ c, Below w.heap.size w (w.alloc (.cells c 39))) := ⟨fun c => (Below.refl _ _).alloc (Nat.le_refl _) _⟩
  cases b0
  case false =>
    go_enter Tryz.func43, Tryz.ntmps43
    go_wp2_with fail
    go_ret
    exact ⟨by rw [HX.out]; rfl, HB.out _⟩
  cases b1
  case false =>
    go_enter Tryz.func43, Tryz.ntmps43
    go_wp2_with fail
    go_ret
    exact ⟨by rw [HX.out]; rfl, HB.out _⟩
  cases b2
  case false =>
    go_enter Tryz.func43, Tryz.ntmps43
    go_wp2_with fail
    go_ret
    exact ⟨by rw [HX.out]; rfl, HB.out _⟩
  cases b3
  case false =>
    go_enter Tryz.func43, Tryz.ntmps43
    go_wp2_with fail
    go_ret
    exact ⟨by rw [HX.out]; rfl, HB.out _⟩
  cases b4
  case false =>
    go_enter Tryz.func43, Tryz.ntmps43
    go_wp2_with fail
    go_ret
    exact ⟨by rw [HX.out]; rfl, HB.out _⟩
  cases b5
  case false =>
    go_enter Tryz.func43, Tryz.ntmps43
    go_wp2_with fail
    go_ret
    exact ⟨by rw [HX.out]; rfl, HB.out _⟩
  cases b6
  case false =>
    go_enter Tryz.func43, Tryz.ntmps43
    go_wp2_with fail
    go_ret
    exact ⟨by rw [HX.out]; rfl, HB.out _⟩
  cases b7
  case false =>
    go_enter Tryz.func43, Tryz.ntmps43
    go_wp2_with fail
    go_ret
    exact ⟨by rw [HX.out]; rfl, HB.out _⟩
  go_enter Tryz.func43, Tryz.ntmps43
  go_wp2_with fail
  go_ret
  exact ⟨by rw [HX.out]; rfl, HB.out _⟩
end Go.Proofs.YtmnknmpfkjhgbaaGreatDoor
/- slices.IndexFunc, ContainsFunc over names; the predicate is a closure (values ahead, captures behind). -/
namespace Go.Proofs.YtmnknmpfkjhgbaaGreatDoor
open Go.RowKit
set_option maxHeartbeats 1000000 in
set_option maxRecDepth 100000 in
theorem ifuncC (f : FuncId) (fi cs : Array Value) (p : List UInt8 → Bool) (v : Value) (l : List (List UInt8)) (w : World) (hent : ∀ args w, (callFunc f args).run Tryz.prog w = .ok (.enter f args) w)
    (hf : ∀ wx, Below w.heap.size w wx → ∀ x ∈ l, Calls Tryz.prog f (fi ++ #[.string ⟨x.toArray⟩] ++ cs) wx fun e w' => e = .returned (.bool (p x)) ∧ Below wx.heap.size wx w') (hr : RdS w (· < w.heap.size) v l) :
    Calls Tryz.prog 91 #[v, .func (.func f) fi cs] w fun e w' => e = .returned (.int .i64 (idxF p l)) ∧ Below w.heap.size w w' := by
  obtain ⟨a, cap, rfl, hcap, hmx, h3⟩ := hr.shape
  have HR := Keep.keep hr; have HF := Keep.keep hf; have H3 := Keep.keep h3
  unfold maxLen at hmx
  clear hr hf h3
  go_enter Tryz.func91, Tryz.ntmps91
  go_wp2_with fail
  go_loopg [5, 8] l.length (fun g _ u8 wx => ∃ k : Nat, k + g = l.length ∧ u8 = .int .i64 (k : Int) ∧ (∀ j, (hj : j < k) → (hl : j < l.length) → p l[j] = false) ∧ Below w.heap.size w wx)
  case atStart => exact ⟨0, by omega, rfl, fun j hj => by omega, Below.refl _ _⟩
  case round =>
    obtain ⟨k, hkg, rfl, hno, hb⟩ := hrel
    have HNO := Keep.keep hno; have HB := Keep.keep hb
    clear hno hb
    cases gk with
    | zero =>
      obtain rfl : k = l.length := by omega
      have hx : Keep (idxF p l = -1) := ⟨idxF_none (fun j hj => HNO.out j hj hj)⟩
      go_wp2_with fail
      go_ret
      exact ⟨by rw [hx.out]; rfl, HB.out⟩
    | succ g =>
      have hk : k < l.length := by omega
      rcases H3.out with h3 | ⟨b, off, rfl, hbl⟩
      · omega
      have hcell := (HR.out.below HB.out (fun b hb => hb)).cell b off _ _ rfl k (strV l[k]) (by simp [hk])
      have HC := Keep.keep (HF.out wr HB.out l[k] (List.getElem_mem hk))
      have HSTEP : Keep (p l[k] = false → ∀ j, (hj : j < k + 1) → (hl : j < l.length) → p l[j] = false) := ⟨fun he j hj hl => by
        rcases Nat.lt_succ_iff_lt_or_eq.1 hj with h | rfl
        · exact HNO.out j h hl
        · exact he⟩
      have HHIT : Keep (p l[k] = true → idxF p l = (k : Int)) := ⟨fun he => idxF_hit hk he (fun j hj => HNO.out j hj (by omega))⟩
      generalize p l[k] = pk at *
      generalize l[k] = x at *
      unfold strV at hcell
      go_wp2_with fail
      refine HC.out.mono ?_
      rintro e w2 ⟨rfl, hb2⟩
      have HB2 := Keep.keep (HB.out.trans (hb2.mono HB.out.size))
      clear hb2
      cases pk with
      | true =>
        have hi := HHIT.out rfl
        go_wp2_with fail
        go_ret
        exact ⟨by rw [hi]; rfl, HB2.out⟩
      | false =>
        have HST2 := Keep.keep (HSTEP.out rfl)
        go_wp2_with fail
        go_roundg g
        case measure => omega
        case rel => exact ⟨k + 1, by omega, by simp, HST2.out, HB2.out⟩
set_option maxHeartbeats 1000000 in
theorem cfuncC (f : FuncId) (fi cs : Array Value) (p : List UInt8 → Bool) (v : Value) (l : List (List UInt8)) (w : World) (hent : ∀ args w, (callFunc f args).run Tryz.prog w = .ok (.enter f args) w)
    (hf : ∀ wx, Below w.heap.size w wx → ∀ x ∈ l, Calls Tryz.prog f (fi ++ #[.string ⟨x.toArray⟩] ++ cs) wx fun e w' => e = .returned (.bool (p x)) ∧ Below wx.heap.size wx w') (hr : RdS w (· < w.heap.size) v l) :
    Calls Tryz.prog 44 #[v, .func (.func f) fi cs] w fun e w' => e = .returned (.bool (l.any p)) ∧ Below w.heap.size w w' := by
  have HI := Keep.keep (ifuncC f fi cs p v l w hent hf hr)
  obtain ⟨a, cap, rfl, -⟩ := hr.shape
  have hx : decide (0 ≤ idxF p l) = l.any p := by
    unfold idxF
    cases h : l.findIdx? p with
    | none =>
      have := List.findIdx?_eq_none_iff.1 h
      have : l.any p = false := by rw [List.any_eq_false]; intro x hx; simpa using this x hx
      rw [this]; rfl
    | some i =>
      obtain ⟨hi, hp, -⟩ := List.findIdx?_eq_some_iff_getElem.1 h
      have : l.any p = true := List.any_eq_true.2 ⟨_, List.getElem_mem hi, hp⟩
      rw [this]
      exact decide_eq_true (by simp)
  clear hr hf
  generalize idxF p l = i at *
  generalize l.any p = b at *
  go_enter Tryz.func44, Tryz.ntmps44
  go_wp2_with fail
  refine HI.out.mono ?_
  rintro e w1 ⟨rfl, hb⟩
  go_wp2_with fail
  go_ret
  exact ⟨rfl, hb⟩
end Go.Proofs.YtmnknmpfkjhgbaaGreatDoor
