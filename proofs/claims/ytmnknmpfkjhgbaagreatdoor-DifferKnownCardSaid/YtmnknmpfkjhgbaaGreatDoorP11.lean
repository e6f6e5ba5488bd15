/- PARTS OF ONE PROOF, set in one file: DifQ, DifR, DifK, DifC, DifS, RTreeL, PathRef, PathRef2, PathCleanL, PathRef3. Each part tells its own conditions. -/
import Derived.Lib.SlicesCompact
import Derived.Lib.Replace
import Derived.Test.YtmnknmpfkjhgbaaGreatDoorP1
import Derived.Test.YtmnknmpfkjhgbaaGreatDoorP4
import Derived.Test.YtmnknmpfkjhgbaaGreatDoorP9
import Derived.Test.YtmnknmpfkjhgbaaGreatDoorP10
/- CHANGESETS, plainly: all that is told leads there. -/
namespace Go.Proofs.YtmnknmpfkjhgbaaGreatDoor
theorem kid_of {L : List Mb} (h : WellL L) {d p : Tx} {v : Nd} (hp : (p, v) ∈ L) (hu : underP d p = true) : ∃ c, parentP c = d ∧ (SM.look L c).isSome = true ∧ hitT c p = true := by
  have h1 := kids_hit h d _ (p, v) rfl hp
  rw [if_pos hu] at h1
  obtain ⟨c, hc, hh⟩ := List.countP_pos_iff.1 (show 0 < _ by rw [h1]; exact Nat.one_pos)
  obtain ⟨hcL, hcd⟩ := mem_kids.1 hc
  refine ⟨c.1, hcd, ?_, hh⟩
  have : SM.look L c.1 = some c.2 := h.s.look.2 hcL
  rw [this]; rfl
/-- of all below a Dir -/
theorem good_below {A B : List Mb} {ks : Tx → List Tx} (hA : WellL A) (hB : WellL B) (hk : KidsOf A B ks) : ∀ n d, mayP d = true → (∀ x, x ∈ A ∨ x ∈ B → x.1.length < n + d.length) → Good A B (belF A B ks n d) (underP d) (fun m => underP d m.1 = true) := by
  intro n
  induction n with
  | zero =>
    intro d _ hf
    have hno : ∀ p v, underP d p = true → ((p, v) ∈ A ∨ (p, v) ∈ B) → False := by
      intro p v h1 h2
      have := hf (p, v) h2
      have := under_len h1
      simp at *; omega
    refine ⟨fun m hm => (List.not_mem_nil hm).elim, fun m hm => (List.not_mem_nil hm).elim, fun m hm => (List.not_mem_nil hm).elim, List.Pairwise.nil, fun p v h1 h2 => (hno p v h1 (.inr h2)).elim, fun p h1 h2 => .inl ?_⟩
    refine Classical.byContradiction fun hn => ?_
    obtain ⟨v, hv⟩ := look_some hn
    exact hno p v h1 (.inl hv)
  | succ n ih =>
    intro d hd hf
    have hcB : ∀ m ∈ B, cls m = 1 ∧ tgt m = m.1 := fun m hm => cls_may (n := m.2) (hB.path hm).1 (hB.path hm).2
    unfold belF
    split
    · have G : ∀ c ∈ ks d, Good A B (oneF A B (belF A B ks n c) c) (hitT c) (fun m => hitT c (tgt m) = true) := by
        intro c hc
        obtain ⟨h1, h2, h3⟩ := hk.path hA hB hc
        refine good_one hA hB h1 h2 (fun _ _ => ih c h1 (fun x hx => ?_))
        have := hf x hx
        have := parent_lt h2
        rw [h3] at this
        omega
      have hone : ∀ c ∈ ks d, ∀ c' ∈ ks d, ∀ t, hitT c t = true → hitT c' t = true → c = c' := by
        intro c hc c' hc' t h1 h2
        obtain ⟨a1, a2, a3⟩ := hk.path hA hB hc
        obtain ⟨b1, b2, b3⟩ := hk.path hA hB hc'
        exact hit_one a1 a2 a3 b1 b2 b3 h1 h2
      have hdc : ∀ c ∈ ks d, underP d c = true := by
        intro c hc
        obtain ⟨a1, a2, a3⟩ := hk.path hA hB hc
        rw [← a3]; exact under_parent a1 a2
      refine ⟨fun m hm => ?_, fun m hm => ?_, fun m hm q hq hR => ?_, ?_, fun p v h1 h2 => ?_, fun p h1 h2 => ?_⟩
      · obtain ⟨c, hc, hm⟩ := List.mem_flatMap.1 hm
        exact (G c hc).cl m hm
      · obtain ⟨c, hc, hm⟩ := List.mem_flatMap.1 hm
        exact tgt_under' ((G c hc).at hm) (hit_under (hdc c hc) ((G c hc).rg m hm))
      · obtain ⟨c, hc, hm⟩ := List.mem_flatMap.1 hm
        obtain ⟨a1, a2, a3⟩ := hk.path hA hB hc
        have hq0 := under_ne hR
        have hqt := under_tgt' ((G c hc).at hm) ((under_above hq0).2 hq)
        have hcq : hitT c q = true := by
          rcases hit_tri hq0 a2 hqt ((G c hc).rg m hm) with e | e | e
          · rw [e]; exact hitT_self c
          · unfold hitT; rw [e]; simp
          · rw [under_rec a1 a2, a3] at e
            rcases Bool.or_eq_true_iff.1 e with e | e
            · have e : d = q := by simpa using e
              rw [e, under_self] at hR; cases hR
            · exact (under_asym e hR).elim
        obtain ⟨x, hx, e⟩ := (G c hc).ab m hm q hq hcq
        exact ⟨x, List.mem_flatMap.2 ⟨c, hc, hx⟩, e⟩
      · rw [List.pairwise_flatMap]
        refine ⟨fun c hc => (G c hc).nd, List.Pairwise.imp_of_mem ?_ (hk.nd d)⟩
        intro c c' hc hc' hne x hx y hy e
        have e1 : tgt x = tgt y := by unfold tgt; rw [e]
        have h1 := (G c hc).rg x hx
        have h2 := (G c' hc').rg y hy
        rw [e1] at h1
        exact hne (hone c hc c' hc' _ h1 h2)
      · obtain ⟨c, hcd, hcs, hcp⟩ := kid_of hB h2 h1
        have hc := (hk.mem d c).2 ⟨hcd, .inr hcs⟩
        rcases (G c hc).inn p v hcp h2 with e | ⟨e1, e2⟩
        · exact .inl (List.mem_flatMap.2 ⟨c, hc, e⟩)
        · refine .inr ⟨e1, fun m hm => ?_⟩
          obtain ⟨c', hc', hm⟩ := List.mem_flatMap.1 hm
          rw [Bool.eq_false_iff]
          intro e
          have e3 := hit_trans ((G c' hc').rg m hm) (hits_tgt e)
          have := hone c hc c' hc' p hcp e3
          subst this
          rw [e2 m hm] at e; cases e
      · cases hla : SM.look A p with
        | none => exact .inl rfl
        | some v =>
          right
          obtain ⟨c, hcd, hcs, hcp⟩ := kid_of hA (SM.look_mem hla) h1
          have hc := (hk.mem d c).2 ⟨hcd, .inl hcs⟩
          rcases (G c hc).out p hcp h2 with e | ⟨m, hm, e⟩
          · rw [hla] at e; cases e
          · exact ⟨m, List.mem_flatMap.2 ⟨c, hc, hm⟩, e⟩
    · obtain ⟨k1, k2, k3⟩ := mk_eq hd
      have hka : At (mkM d) := at_of (by omega)
      have hku : ∀ q, underP q (mkM d).1 = (d == q || underP q d) := by
        intro q
        rcases hka with ⟨e, _⟩ | ⟨e, _⟩ | ⟨_, _, e⟩
        · omega
        · omega
        · rw [e, k3]
      refine ⟨fun m hm => ?_, fun m hm => ?_, fun m hm q hq hR => ?_, ?_, fun p v h1 h2 => ?_, fun p h1 h2 => ?_⟩
      · rcases List.mem_append.1 hm with hm | hm
        · obtain ⟨h1, _⟩ := List.mem_filter.1 hm
          exact .inl ⟨(hcB m h1).1, h1⟩
        · obtain rfl := List.mem_singleton.1 hm
          exact .inr ⟨k1, .inr k2⟩
      · rcases List.mem_append.1 hm with hm | hm
        · exact (List.mem_filter.1 hm).2
        · obtain rfl := List.mem_singleton.1 hm
          show underP d (mkM d).1 = true
          rw [hku]; simp
      · rcases List.mem_append.1 hm with hm | hm
        · obtain ⟨h1, _⟩ := List.mem_filter.1 hm
          have hq0 := under_ne hR
          obtain ⟨v, hv, hvk⟩ := dir_above hB hq0 _ m rfl h1 ((under_above hq0).2 hq)
          exact ⟨(q, v), List.mem_append_left _ (List.mem_filter.2 ⟨SM.look_mem hv, hR⟩), rfl, hvk⟩
        · obtain rfl := List.mem_singleton.1 hm
          have hu := (under_above (under_ne hR)).2 hq
          rw [hku] at hu
          rcases Bool.or_eq_true_iff.1 hu with hu | hu
          · have hu : d = q := by simpa using hu
            rw [hu, under_self] at hR; cases hR
          · exact (under_asym hu hR).elim
      · refine List.pairwise_append.2 ⟨srt_pair (hB.s.filter _), List.pairwise_singleton _ _, fun a ha b hb e => ?_⟩
        obtain rfl := List.mem_singleton.1 hb
        have h1 := (hcB a (List.mem_filter.1 ha).1).1
        have h2 : cls a = cls (mkM d) := by unfold cls; rw [e]
        omega
      · exact .inl (List.mem_append_left _ (List.mem_filter.2 ⟨h2, h1⟩))
      · exact .inr ⟨mkM d, by simp, hits_iff.2 (.inr (.inr ⟨k2, by rw [k3]; exact h1⟩))⟩
theorem mayT_path {p : Tx} {n : Nd} (h : mayM (p, n) = true) : mayT ([97], n) = true := by
  unfold mayM mayT at *
  simp only [Bool.and_eq_true] at *
  obtain ⟨_, ⟨⟨⟨⟨⟨⟨_, h2⟩, h3⟩, h4⟩, h5⟩, h6⟩, h7⟩⟩ := h
  exact ⟨⟨⟨⟨⟨⟨show decide (¬ (classP [97]).1 = 0) = true by decide, h2⟩, h3⟩, h4⟩, h5⟩, h6⟩, h7⟩
theorem mayT_bare : mayT ([97], bareN) = true := by decide
theorem pre_lt {q p : Tx} (h : q ++ [47] <+: p) : q < p := by
  obtain ⟨r, rfl⟩ := h
  have := bytesLess_pre q (47 :: r) (by simp)
  rw [less_lt] at this
  simpa using this
/-- A CHANGESET: rising, and good -/
theorem may_good {A B T S : List Mb} (hB : WellL B) (hg : Good A B T (underP []) (fun m => underP [] m.1 = true)) (hp : S.Perm T) (hs : SM.Srt S) (hl : S.length ≤ 4096) : mayC S = 0 := by
  have hS : ∀ m ∈ S, m ∈ T := fun m hm => hp.mem_iff.1 hm
  have key : ∀ (k : Nat) (hk : k < S.length), errC S k S[k] = 0 := by
    intro k hk
    have hm := List.getElem_mem hk
    have hcl := hg.cl _ (hS _ hm)
    have h1 : mayT ([97], S[k].2) = true := by
      rcases hcl with ⟨_, h⟩ | ⟨h, _⟩
      · exact mayT_path (p := S[k].1) (hB.m _ h)
      · rw [h]; exact mayT_bare
    have h2 : notUp S k S[k] = false := by
      unfold notUp
      cases k with
      | zero => rfl
      | succ j =>
        show (match S[j]? with | some x => decide (S[j + 1].1 ≤ x.1) | none => false) = false
        rw [List.getElem?_eq_getElem (show j < S.length by omega)]
        simp only [decide_eq_false_iff_not]
        intro e
        have := (List.pairwise_iff_getElem.1 hs) j (j + 1) (by omega) hk (Nat.lt_succ_self j)
        exact (List.not_lt.2 e) this
    have hcls : cls S[k] = 1 ∨ cls S[k] = 2 ∨ cls S[k] = 3 := by rcases hcl with ⟨e, _⟩ | ⟨_, e | e⟩ <;> omega
    unfold errC
    rw [if_neg (by rw [h1, h2]; decide), if_neg (by omega), if_neg (by
      rintro ⟨e1, e2⟩
      rcases hcl with ⟨e, _⟩ | ⟨e, _⟩
      · exact e1 e
      · rw [bare_iff.2 e] at e2; cases e2), if_neg]
    rw [Bool.not_eq_true, List.any_eq_false]
    intro q hq
    have hq0 : q ≠ [] := by rintro rfl; exact no_head hcls hq
    obtain ⟨x, hx, e1, e2⟩ := hg.ab _ (hS _ hm) q hq (by rw [under_nil]; simp [hq0])
    obtain ⟨j, hj, rfl⟩ := List.getElem_of_mem (hp.mem_iff.2 hx)
    have hlt : q < S[k].1 := pre_lt (mem_above.1 hq)
    have hjk : j < k := by
      refine Nat.lt_of_not_le fun e => ?_
      rcases Nat.eq_or_lt_of_le e with e | e
      · subst e; rw [e1] at hlt; exact tx_irrefl _ hlt
      · have := (List.pairwise_iff_getElem.1 hs) k j hk hj e
        rw [e1] at this
        exact tx_asymm hlt this
    simp only [Bool.not_eq_true', Bool.not_eq_false, List.any_eq_true, Bool.and_eq_true, beq_iff_eq, decide_eq_true_eq]
    exact ⟨S[j], List.mem_take_iff_getElem.2 ⟨j, by omega, rfl⟩, e1, e2⟩
  have hfr : ∀ (l : List Mb) (k : Nat), S.drop k = l → mayFrom S k l = 0 := by
    intro l
    induction l with
    | nil => intro k _; unfold mayFrom; rw [if_neg (by omega)]
    | cons m r ih =>
      intro k hk
      have hkl : k < S.length := by
        refine Nat.lt_of_not_le fun e => ?_
        rw [List.drop_eq_nil_of_le e] at hk; cases hk
      rw [List.drop_eq_getElem_cons hkl] at hk
      injection hk with hk1 hk2
      unfold mayFrom
      rw [← hk1, if_neg (by rw [key k hkl]; simp)]
      exact ih (k + 1) hk2
  exact hfr S 0 rfl
/-- IT LEADS THERE -/
theorem leads_there {A B T S : List Mb} (hA : WellL A) (hB : WellL B) (hg : Good A B T (underP []) (fun m => underP [] m.1 = true)) (hp : S.Perm T) (hs : SM.Srt S) (hl : S.length ≤ 4096) (hbl : B.length ≤ 4096) : applyC A S = (0, some B) := by
  have hm := may_good hB hg hp hs hl
  unfold applyC
  rw [if_neg (by rw [hm]; simp)]
  have hcB : ∀ m ∈ B, cls m = 1 ∧ tgt m = m.1 := fun m hm => cls_may (n := m.2) (hB.path hm).1 (hB.path hm).2
  have hself : ∀ m ∈ S, cls m = 1 → hits m m.1 = true := by
    intro m hm hc
    have h1 : m ∈ B := by
      rcases hg.cl m (hp.mem_iff.1 hm) with ⟨_, e⟩ | ⟨_, e⟩
      · exact e
      · omega
    exact hits_iff.2 (.inl ⟨hc, .inl (hcB m h1).2⟩)
  refine newT_perm hB ?_ hbl
  refine (List.perm_ext_iff_of_nodup ?_ (mb_nodup hB.s)).2 (fun x => ?_)
  · refine List.nodup_append.2 ⟨(mb_nodup hA.s).filter _, (mb_nodup hs).filter _, fun a ha b hb e => ?_⟩
    subst e
    obtain ⟨_, h1⟩ := List.mem_filter.1 ha
    obtain ⟨h2, h3⟩ := mem_plainC.1 hb
    have := (stays_iff.1 h1).2 a h2
    rw [hself a h2 h3] at this; cases this
  · rw [List.mem_append, List.mem_filter, mem_plainC]
    constructor
    · rintro (⟨h1, h2⟩ | ⟨h1, h2⟩)
      · have hst := stays_iff.1 h2
        have hR : underP [] x.1 = true := by rw [under_nil]; simp [hst.1]
        cases hlb : SM.look B x.1 with
        | none =>
          rcases hg.out x.1 hR hlb with e | ⟨m, hm, e⟩
          · have := hA.s.look.2 (show (x.1, x.2) ∈ A from h1)
            rw [e] at this; cases this
          · have := hst.2 m (hp.mem_iff.2 hm)
            rw [e] at this; cases this
        | some y =>
          have hyB := SM.look_mem hlb
          rcases hg.inn x.1 y hR hyB with e | ⟨e, _⟩
          · have h3 := hp.mem_iff.2 e
            have := hst.2 _ h3
            rw [hself _ h3 (hcB _ hyB).1] at this; cases this
          · have := hA.s.one (show (x.1, x.2) ∈ A from h1) e
            have : x = (x.1, y) := by rw [← this]
            rw [this]; exact hyB
      · rcases hg.cl x (hp.mem_iff.1 h1) with ⟨_, e⟩ | ⟨_, e⟩
        · exact e
        · omega
    · intro h
      have h0 := (hB.path h).2
      rcases hg.inn x.1 x.2 (by rw [under_nil]; simp [h0]) h with e | ⟨e1, e2⟩
      · exact .inr ⟨hp.mem_iff.2 e, (hcB x h).1⟩
      · exact .inl ⟨e1, stays_iff.2 ⟨h0, fun m hm => e2 m (hp.mem_iff.1 hm)⟩⟩
end Go.Proofs.YtmnknmpfkjhgbaaGreatDoor
/- CHANGESETS, plainly: in whichever order a Dir's paths are gone along, the same is told; sorted it is one list. -/
namespace Go.Proofs.YtmnknmpfkjhgbaaGreatDoor
theorem one_perm (A B : List Mb) {bl bl' : List Mb} (h : bl.Perm bl') (c : Tx) : (oneF A B bl c).Perm (oneF A B bl' c) := by
  have he : bl ≠ [] ↔ bl' ≠ [] := by
    constructor
    · rintro h1 rfl; exact h1 h.eq_nil
    · rintro h1 rfl; exact h1 h.symm.eq_nil
  unfold oneF
  split
  · exact List.Perm.refl _
  · rename_i y _
    split
    · exact List.Perm.refl _
    · split
      · by_cases hs : bl ≠ [] ∨ SM.look A c ≠ some y
        · rw [if_pos hs, if_pos (by rw [← he]; exact hs)]
          exact h.append_right _
        · rw [if_neg hs, if_neg (by rw [← he]; exact hs)]
          exact h
      · exact List.Perm.refl _
theorem flat_perm {α β : Type} (f g : α → List β) : ∀ l : List α, (∀ x ∈ l, (f x).Perm (g x)) → (l.flatMap f).Perm (l.flatMap g)
  | [], _ => List.Perm.refl _
  | a :: l, h => by
    rw [List.flatMap_cons, List.flatMap_cons]
    exact (h a (by simp)).append (flat_perm f g l (fun x hx => h x (by simp [hx])))
theorem bel_perm {A B : List Mb} {ks ks' : Tx → List Tx} (hk : KidsOf A B ks) (hk' : KidsOf A B ks') : ∀ n d, (belF A B ks n d).Perm (belF A B ks' n d)
  | 0, _ => List.Perm.refl _
  | n + 1, d => by
    have hp : (ks d).Perm (ks' d) := (List.perm_ext_iff_of_nodup (hk.nd d) (hk'.nd d)).2 (fun p => by rw [hk.mem, hk'.mem])
    have hf : ((ks d).flatMap fun c => oneF A B (belF A B ks n c) c).Perm ((ks' d).flatMap fun c => oneF A B (belF A B ks' n c) c) :=
      (flat_perm _ _ _ (fun c _ => one_perm A B (bel_perm hk hk' n c) c)).trans (hp.flatMap_right _)
    unfold belF
    rw [hf.length_eq]
    split
    · exact hf
    · exact List.Perm.refl _
theorem srt_perm {S T : List Mb} (hs : SM.Srt S) (ht : SM.Srt T) (h : S.Perm T) : S = T := srt_mem hs ht (fun _ => h.mem_iff)
/-- of distinct paths, sorted: rising -/
theorem srt_of {T : List Mb} (h : T.Pairwise (fun x y => x.1 ≠ y.1)) : ∃ S, SM.Srt S ∧ S.Perm T ∧ ∀ K : List Mb, K.Perm T → K.Pairwise (fun x y => x.1 ≤ y.1) → K = S := by
  have key : ∀ K : List Mb, K.Perm T → K.Pairwise (fun x y => x.1 ≤ y.1) → SM.Srt K := by
    intro K hK hs
    have hne : K.Pairwise (fun x y => x.1 ≠ y.1) := (hK.pairwise_iff (fun h => Ne.symm h)).2 h
    refine List.Pairwise.imp (R := fun a b : Mb => a.1 ≤ b.1 ∧ a.1 ≠ b.1) (S := fun a b : Mb => a.1 < b.1) (fun {a b} hab => ?_) (hs.and hne)
    rcases tx_tri a.1 b.1 with e | e | e
    · exact e
    · exact (hab.2 e).elim
    · exact ((List.not_lt.2 hab.1) e).elim
  have hm := List.mergeSort_perm T (fun x y => decide (x.1 ≤ y.1))
  have hps : (T.mergeSort (fun x y => decide (x.1 ≤ y.1))).Pairwise (fun x y => x.1 ≤ y.1) := by
    have := List.pairwise_mergeSort (le := fun x y : Mb => decide (x.1 ≤ y.1)) (fun a b c h1 h2 => decide_eq_true (List.le_trans (of_decide_eq_true h1) (of_decide_eq_true h2))) (fun a b => by
      rcases List.le_total a.1 b.1 with e | e
      · simp [e]
      · simp [e]) T
    exact List.Pairwise.imp (fun h => of_decide_eq_true h) this
  refine ⟨_, key _ hm hps, hm, fun K hK hs => srt_perm (key K hK hs) (key _ hm hps) (hK.trans hm.symm)⟩
end Go.Proofs.YtmnknmpfkjhgbaaGreatDoor
/- CHANGESETS, plainly: what is in a Dir of either tree, sorted and each once. -/
namespace Go.Proofs.YtmnknmpfkjhgbaaGreatDoor
theorem cmp_inv (zs : List Tx) (hs : zs.Pairwise (· ≤ ·)) : ∀ m, m ≤ zs.length → (Lib.compactUpTo zs.toArray m).Pairwise (· < ·) ∧ (∀ x, x ∈ Lib.compactUpTo zs.toArray m ↔ ∃ j, ∃ _ : j < m, ∃ h : j < zs.length, zs[j] = x) := by
  intro m
  induction m with
  | zero => intro _; exact ⟨List.Pairwise.nil, fun x => ⟨fun h => (List.not_mem_nil h).elim, fun ⟨j, hj, _⟩ => by omega⟩⟩
  | succ m ih =>
    intro hm
    obtain ⟨h1, h2⟩ := ih (by omega)
    have hg : ∀ j (hj : j < zs.length), zs.toArray[j]! = zs[j] := fun j hj => by simp [hj]
    have hle : ∀ i j (hi : i < zs.length) (hj : j < zs.length), i ≤ j → zs[i] ≤ zs[j] := by
      intro i j hi hj hij
      rcases Nat.eq_or_lt_of_le hij with e | e
      · subst e; exact List.le_refl _
      · exact (List.pairwise_iff_getElem.1 hs) i j hi hj e
    rw [Lib.compactUpTo_succ]
    cases hk : Lib.keeps zs.toArray m with
    | false =>
      rw [if_neg (by decide), List.append_nil]
      refine ⟨h1, fun x => ?_⟩
      rw [h2]
      constructor
      · rintro ⟨j, hj, hl, e⟩; exact ⟨j, by omega, hl, e⟩
      · rintro ⟨j, hj, hl, e⟩
        rcases Nat.lt_or_ge j m with hjm | hjm
        · exact ⟨j, hjm, hl, e⟩
        · obtain rfl : j = m := by omega
          unfold Lib.keeps at hk
          simp only [decide_eq_false_iff_not, not_or, ne_eq, Classical.not_not] at hk
          rw [hg j hl, hg (j - 1) (by omega)] at hk
          exact ⟨j - 1, by omega, by omega, by rw [← hk.2]; exact e⟩
    | true =>
      rw [if_pos rfl, hg m (by omega)]
      unfold Lib.keeps at hk
      have hk : m = 0 ∨ zs.toArray[m]! ≠ zs.toArray[m - 1]! := by simpa using hk
      refine ⟨List.pairwise_append.2 ⟨h1, List.pairwise_singleton _ _, fun a ha b hb => ?_⟩, fun x => ?_⟩
      · obtain rfl := List.mem_singleton.1 hb
        obtain ⟨j, hj, hl, rfl⟩ := (h2 a).1 ha
        have hk := hk.resolve_left (by omega)
        rw [hg m (by omega), hg (m - 1) (by omega)] at hk
        have g1 := hle j (m - 1) hl (by omega) (by omega)
        have g2 := hle (m - 1) m (by omega) (by omega) (by omega)
        have g3 : zs[m - 1] < zs[m] := by
          rcases tx_tri zs[m - 1] zs[m] with e | e | e
          · exact e
          · exact (hk e.symm).elim
          · exact ((List.not_lt.2 g2) e).elim
        rcases tx_tri zs[j] zs[m] with e | e | e
        · exact e
        · rw [e] at g1
          exact ((List.not_lt.2 g1) g3).elim
        · exact ((List.not_lt.2 g1) (tx_trans g3 e)).elim
      · rw [List.mem_append, h2, List.mem_singleton]
        constructor
        · rintro (⟨j, hj, hl, e⟩ | rfl)
          · exact ⟨j, by omega, hl, e⟩
          · exact ⟨m, by omega, by omega, rfl⟩
        · rintro ⟨j, hj, hl, e⟩
          rcases Nat.lt_or_ge j m with hjm | hjm
          · exact .inl ⟨j, hjm, hl, e⟩
          · obtain rfl : j = m := by omega
            exact .inr e.symm
theorem compact_rise {zs : List Tx} (hs : zs.Pairwise (· ≤ ·)) : (Lib.compact zs).Pairwise (· < ·) := (cmp_inv zs hs zs.length (Nat.le_refl _)).1
theorem mem_compact {zs : List Tx} (hs : zs.Pairwise (· ≤ ·)) {x : Tx} : x ∈ Lib.compact zs ↔ x ∈ zs := by
  unfold Lib.compact
  rw [(cmp_inv zs hs zs.length (Nat.le_refl _)).2]
  constructor
  · rintro ⟨j, _, hl, rfl⟩; exact List.getElem_mem hl
  · intro h
    obtain ⟨j, hl, e⟩ := List.getElem_of_mem h
    exact ⟨j, hl, hl, e⟩
/-- any sorted row of what both have, each once -/
theorem kids_of {A B : List Mb} (hA : WellL A) (hB : WellL B) {ks : Tx → List Tx} (h : ∀ d, ∃ zs : List Tx, zs.Perm ((kids d A).map (·.1) ++ (kids d B).map (·.1)) ∧ zs.Pairwise (· ≤ ·) ∧ ks d = Lib.compact zs) : KidsOf A B ks := by
  refine ⟨fun d => ?_, fun d p => ?_⟩
  · obtain ⟨zs, _, hs, e⟩ := h d
    rw [e]
    exact List.Pairwise.imp (R := fun a b : Tx => a < b) (S := fun a b : Tx => a ≠ b) (fun hab e => tx_irrefl _ (by rw [e] at hab; exact hab)) (compact_rise hs)
  · obtain ⟨zs, hp, hs, e⟩ := h d
    rw [e, mem_compact hs, hp.mem_iff, List.mem_append, List.mem_map, List.mem_map]
    have hi : ∀ {L : List Mb}, WellL L → ((∃ a ∈ kids d L, a.1 = p) ↔ parentP p = d ∧ (SM.look L p).isSome = true) := by
      intro L hL
      constructor
      · rintro ⟨a, ha, rfl⟩
        obtain ⟨h1, h2⟩ := mem_kids.1 ha
        have : SM.look L a.1 = some a.2 := hL.s.look.2 h1
        exact ⟨h2, by rw [this]; rfl⟩
      · rintro ⟨h1, h2⟩
        obtain ⟨v, hv⟩ := Option.isSome_iff_exists.1 h2
        exact ⟨(p, v), mem_kids.2 ⟨SM.look_mem hv, h1⟩, rfl⟩
    rw [hi hA, hi hB]
    constructor
    · rintro (⟨a, b⟩ | ⟨a, b⟩)
      · exact ⟨a, .inl b⟩
      · exact ⟨a, .inr b⟩
    · rintro ⟨a, b | b⟩
      · exact .inl ⟨a, b⟩
      · exact .inr ⟨a, b⟩
end Go.Proofs.YtmnknmpfkjhgbaaGreatDoor
/- CHANGESETS, plainly: how many Members a side counts at a path; what is told below a Dir, one step. -/
namespace Go.Proofs.YtmnknmpfkjhgbaaGreatDoor
def keysM (m : Mb) : List Tx := m.1 :: (aboveP m.1 ++ [[]])
def cntM (L : List Mb) (t : Tx) : Nat := (L.flatMap keysM).count t
theorem above_nodup (p : Tx) : (aboveP p).Nodup := by
  unfold aboveP List.Nodup
  rw [List.pairwise_filterMap]
  refine List.Pairwise.imp_of_mem (R := fun a b : Nat => a < b) ?_ List.pairwise_lt_range
  intro a b ha hb hab x hx y hy e
  have ha := List.mem_range.1 ha
  have hb := List.mem_range.1 hb
  split at hx
  · injection hx with hx
    split at hy
    · injection hy with hy
      have := congrArg List.length (hx.trans (e.trans hy.symm))
      rw [List.length_take, List.length_take] at this
      omega
    · cases hy
  · cases hx
theorem count_nodup {α : Type} [BEq α] [LawfulBEq α] [DecidableEq α] (a : α) : ∀ l : List α, l.Nodup → l.count a = if a ∈ l then 1 else 0
  | [], _ => rfl
  | x :: l, h => by
    obtain ⟨h1, h2⟩ := List.nodup_cons.1 h
    rw [List.count_cons, count_nodup a l h2]
    by_cases e : x = a
    · subst e
      rw [if_neg h1, if_pos (show (x == x) = true by simp), if_pos (List.mem_cons_self)]
    · have e1 : (x == a) = false := by simpa using e
      have e3 : a ∈ x :: l ↔ a ∈ l := ⟨fun h => (List.mem_cons.1 h).resolve_left (fun h => e h.symm), List.mem_cons_of_mem _⟩
      rw [e1]
      by_cases e2 : a ∈ l
      · rw [if_pos e2, if_pos (e3.2 e2)]; rfl
      · rw [if_neg e2, if_neg (fun h => e2 (e3.1 h))]; rfl
theorem keys_count {q : Mb} (hm : mayP q.1 = true) (h0 : q.1 ≠ []) (d : Tx) : (keysM q).count d = (if (q.1 == d) = true then 1 else 0) + (if underP d q.1 = true then 1 else 0) := by
  unfold keysM
  rw [List.count_cons, List.count_append, count_nodup d _ (above_nodup q.1)]
  by_cases hd : d = []
  · subst hd
    have hu : underP [] q.1 = true := by rw [under_nil]; simpa using h0
    rw [if_neg (by rw [mem_above]; exact may_head hm), if_pos hu]
    simp [h0]
  · rw [List.count_cons, List.count_nil, if_neg (show ¬ (([] : Tx) == d) = true by simpa using fun e : [] = d => hd e.symm)]
    by_cases hu : underP d q.1 = true
    · rw [if_pos ((under_above hd).1 hu), if_pos hu]; omega
    · rw [if_neg (fun e => hu ((under_above hd).2 e)), if_neg hu]; omega
theorem cnt_all : ∀ {L : List Mb}, (∀ q ∈ L, mayP q.1 = true ∧ q.1 ≠ []) → ∀ d, cntM L d = L.countP (fun q => q.1 == d) + L.countP (fun q => underP d q.1)
  | [], _, _ => rfl
  | q :: L, h, d => by
    have ih := cnt_all (L := L) (fun x hx => h x (by simp [hx])) d
    have h1 := keys_count (h q (by simp)).1 (h q (by simp)).2 d
    unfold cntM at ih ⊢
    rw [List.flatMap_cons, List.count_append, ih, h1, List.countP_cons, List.countP_cons]
    omega
theorem cnt_dir {B : List Mb} (hB : WellL B) {d : Tx} (h : d = [] ∨ dirB B d = true) : (if d = [] then 1 + cntM B d else cntM B d) = 1 + B.countP (fun q => underP d q.1) := by
  rw [cnt_all (fun q hq => hB.path hq)]
  by_cases hd : d = []
  · subst hd
    have : B.countP (fun q => q.1 == ([] : Tx)) = 0 := by
      rw [List.countP_eq_zero]
      intro q hq
      simpa using (hB.path hq).2
    rw [if_pos rfl, this]; omega
  · rw [if_neg hd]
    obtain ⟨n, hn, _⟩ := dirB_iff.1 (h.resolve_left hd)
    have h1 := hB.s.mid d
    rw [hn] at h1
    have h2 : B.countP (fun q => q.1 == d) = 1 := by rw [List.countP_eq_length_filter, h1]; rfl
    rw [h2]
/-- told's below, one step -/
def flatF (A B : List Mb) (ks : List Tx) (F : Tx → List Mb) : List Mb := ks.flatMap fun c => oneF A B (F c) c
def bodyF (A B : List Mb) (ks : List Tx) (F : Tx → List Mb) (d : Tx) : List Mb := if (flatF A B ks F).length ≤ 1 + B.countP (fun q => underP d q.1) then flatF A B ks F else B.filter (fun q => underP d q.1) ++ [mkM d]
theorem bel_step {A B : List Mb} (hA : WellL A) (hB : WellL B) {ks : Tx → List Tx} (hk : KidsOf A B ks) (n : Nat) (d : Tx) (hf : ∀ x, x ∈ A ∨ x ∈ B → x.1.length < n + d.length) : belF A B ks n d = bodyF A B (ks d) (belF A B ks (n - 1)) d := by
  cases n with
  | succ n => rfl
  | zero =>
    have h0 : ks d = [] := by
      rw [List.eq_nil_iff_forall_not_mem]
      intro p hp
      obtain ⟨h1, h2, h3⟩ := hk.path hA hB hp
      have hl : p.length < 0 + d.length := by
        rcases ((hk.mem d p).1 hp).2 with h4 | h4
        · obtain ⟨v, hv⟩ := Option.isSome_iff_exists.1 h4
          exact hf (p, v) (.inl (SM.look_mem hv))
        · obtain ⟨v, hv⟩ := Option.isSome_iff_exists.1 h4
          exact hf (p, v) (.inr (SM.look_mem hv))
      have := parent_lt h2
      rw [h3] at this
      omega
    unfold bodyF flatF
    rw [h0]
    rfl
theorem one_len (A B bl : List Mb) (p : Tx) : (oneF A B bl p).length ≤ bl.length + 1 + B.length := by
  unfold oneF
  have h := List.length_filter_le (hitU p) B
  unfold underL
  split
  · rw [List.length_singleton]; omega
  · split
    · omega
    · split
      · split
        · rw [List.length_append, List.length_singleton]; omega
        · omega
      · split
        · rw [List.length_singleton]; omega
        · simp
end Go.Proofs.YtmnknmpfkjhgbaaGreatDoor
/- MEMBERS SORTED by rising paths, of one path the first one: the law's own sorting, plainly. -/
namespace Go.Proofs.YtmnknmpfkjhgbaaGreatDoor
def insS (out : List Mb) (m : Mb) : List Mb := if (SM.look out m.1).isSome = true then out else SM.put out m
def sortedS (l : List Mb) : List Mb := l.foldl insS []
theorem insS_srt {out : List Mb} (h : SM.Srt out) (m : Mb) : SM.Srt (insS out m) := by
  unfold insS
  split
  · exact h
  · exact h.put m
theorem insS_len {out : List Mb} (h : SM.Srt out) (m : Mb) : (insS out m).length ≤ out.length + 1 := by
  unfold insS
  split
  · omega
  · rw [h.length_put]
    split <;> omega
theorem insS_mem {out : List Mb} {m x : Mb} (h : x ∈ insS out m) : x ∈ out ∨ x = m := by
  unfold insS at h
  split at h
  · exact .inl h
  · rcases SM.mem_put.1 h with h | h
    · exact .inr h
    · exact .inl h.1
theorem sortedS_snoc (l : List Mb) (m : Mb) : sortedS (l ++ [m]) = insS (sortedS l) m := by unfold sortedS; rw [List.foldl_append]; rfl
theorem foldS (l : List Mb) : ∀ t : List Mb, SM.Srt t → SM.Srt (l.foldl insS t) ∧ (l.foldl insS t).length ≤ t.length + l.length ∧ ∀ x ∈ l.foldl insS t, x ∈ t ∨ x ∈ l := by
  induction l with
  | nil => intro t h; exact ⟨h, Nat.le_refl _, fun x hx => .inl hx⟩
  | cons m l ih =>
    intro t h
    obtain ⟨h1, h2, h3⟩ := ih (insS t m) (insS_srt h m)
    have := insS_len h m
    refine ⟨h1, by rw [List.length_cons, List.foldl_cons]; omega, fun x hx => ?_⟩
    rcases h3 x hx with h4 | h4
    · rcases insS_mem h4 with h5 | h5
      · exact .inl h5
      · exact .inr (by simp [h5])
    · exact .inr (by simp [h4])
theorem sortedS_srt (l : List Mb) : SM.Srt (sortedS l) := (foldS l [] SM.Srt.nil).1
theorem sortedS_len (l : List Mb) : (sortedS l).length ≤ l.length := by have := (foldS l [] SM.Srt.nil).2.1; unfold sortedS; simpa using this
theorem sortedS_mem {l : List Mb} {x : Mb} (h : x ∈ sortedS l) : x ∈ l := ((foldS l [] SM.Srt.nil).2.2 x h).resolve_left List.not_mem_nil
end Go.Proofs.YtmnknmpfkjhgbaaGreatDoor
/- WHERE A KEY STANDS in a sorted list that is gone along; plain facts. -/
namespace Go.Proofs.YtmnknmpfkjhgbaaGreatDoor
namespace SM
section
variable {α : Type}
/-- how many keys stand ahead -/
def plc (L : List (Tx × α)) (p : Tx) : Nat := (lo L p).length
theorem plc_le (L : List (Tx × α)) (p : Tx) : plc L p ≤ L.length := List.length_filter_le _ _
theorem Srt.rise {L : List (Tx × α)} (h : Srt L) {i j : Nat} (hij : i < j) (hj : j < L.length) : (L[i]'(by omega)).1 < L[j].1 := (List.pairwise_iff_getElem.1 h) i j (by omega) hj hij
theorem Srt.take_plc {L : List (Tx × α)} (h : Srt L) (p : Tx) : L.take (plc L p) = lo L p := by
  have e := congrArg (List.take (plc L p)) (h.split p)
  rw [e]
  unfold plc
  rw [List.take_append_of_le_length (Nat.le_refl _), List.take_length]
theorem Srt.drop_plc {L : List (Tx × α)} (h : Srt L) (p : Tx) : L.drop (plc L p) = L.filter (fun x => x.1 == p) ++ hi L p := by
  have e := congrArg (List.drop (plc L p)) (h.split p)
  rw [e]
  unfold plc
  rw [List.drop_append_of_le_length (Nat.le_refl _), List.drop_length, List.nil_append]
theorem Srt.drop_some {L : List (Tx × α)} (h : Srt L) {p : Tx} {v : α} (hl : SM.look L p = some v) : L.drop (plc L p + 1) = hi L p := by
  rw [← List.drop_drop, h.drop_plc, h.mid, hl]; rfl
theorem Srt.drop_none {L : List (Tx × α)} (h : Srt L) {p : Tx} (hl : SM.look L p = none) : L.drop (plc L p) = hi L p := by
  rw [h.drop_plc, h.mid, hl]; rfl
theorem Srt.at_some {L : List (Tx × α)} (h : Srt L) {p : Tx} {v : α} (hl : SM.look L p = some v) : L[plc L p]? = some (p, v) := by
  rw [← List.head?_drop, h.drop_plc, h.mid, hl]; rfl
theorem Srt.at_none {L : List (Tx × α)} (h : Srt L) {p : Tx} (hl : SM.look L p = none) (hk : plc L p < L.length) : p < (L[plc L p]).1 := by
  have e : L[plc L p]? = some L[plc L p] := List.getElem?_eq_getElem hk
  rw [← List.head?_drop, h.drop_none hl] at e
  have := List.mem_of_mem_head? e
  unfold hi at this
  simpa using (List.mem_filter.1 this).2
/-- is it there? as one sees at its place -/
theorem Srt.is_at {L : List (Tx × α)} (h : Srt L) (p : Tx) : (match L[plc L p]? with | some x => x.1 == p | none => false) = (SM.look L p).isSome := by
  cases hl : SM.look L p with
  | some v => rw [h.at_some hl]; simp
  | none =>
    by_cases hk : plc L p < L.length
    · rw [List.getElem?_eq_getElem hk]
      have := h.at_none hl hk
      simpa using fun e => tx_irrefl p (by rw [e] at this; exact this)
    · rw [List.getElem?_eq_none (by omega)]; rfl
theorem Srt.put_eq {L : List (Tx × α)} (h : Srt L) (m : Tx × α) : SM.put L m = L.take (plc L m.1) ++ m :: L.drop (if (SM.look L m.1).isSome then plc L m.1 + 1 else plc L m.1) := by
  unfold SM.put
  rw [h.take_plc]
  cases hl : SM.look L m.1 with
  | some v => simp [h.drop_some hl]
  | none => simp [h.drop_none hl]
end
end SM
end Go.Proofs.YtmnknmpfkjhgbaaGreatDoor
/- portolanref11: begins, Name, MayName, Split, May, Join. -/
namespace Go.Proofs.YtmnknmpfkjhgbaaGreatDoor
open Go.RowKit
/-- how far Split is at place k -/
def SpAt (p : List UInt8) (k f : Nat) (D : List (List UInt8)) : Prop := (k ≤ p.length ∧ f ≤ k ∧ D ++ spl (p.drop f) = spl p ∧ ∀ j, f ≤ j → j < k → (hl : j < p.length) → p[j] ≠ 47) ∨ (k = p.length + 1 ∧ D = spl p)
theorem seg_noSl {p : List UInt8} {k f : Nat} (h : ∀ j, f ≤ j → j < k → (hl : j < p.length) → p[j] ≠ 47) : ∀ x ∈ (p.drop f).take (k - f), x ≠ 47 := by
  intro x hx
  obtain ⟨j, hj, rfl⟩ := List.mem_iff_getElem.1 hx
  rw [List.length_take, List.length_drop] at hj
  rw [List.getElem_take, List.getElem_drop]
  exact h (f + j) (by omega) (by omega) (by omega)
theorem SpAt.cut {p : List UInt8} {k f : Nat} {D : List (List UInt8)} (h : SpAt p k f D) (hk : k < p.length) (h47 : p[k] = 47) : SpAt p (k + 1) (k + 1) (D ++ [(p.drop f).take (k - f)]) := by
  rcases h with ⟨h1, h2, h3, h4⟩ | ⟨h1, _⟩
  · refine .inl ⟨hk, Nat.le_refl _, ?_, fun j a b _ => by omega⟩
    have e1 : p.drop f = (p.drop f).take (k - f) ++ 47 :: p.drop (k + 1) := by
      conv => lhs; rw [← List.take_append_drop (k - f) (p.drop f), List.drop_drop, show f + (k - f) = k by omega, List.drop_eq_getElem_cons hk, h47]
    rw [e1, spl_cut _ (seg_noSl h4)] at h3
    rw [List.append_assoc]; exact h3
  · omega
theorem SpAt.skip {p : List UInt8} {k f : Nat} {D : List (List UInt8)} (h : SpAt p k f D) (hk : k < p.length) (h47 : p[k] ≠ 47) : SpAt p (k + 1) f D := by
  rcases h with ⟨h1, h2, h3, h4⟩ | ⟨h1, _⟩
  · refine .inl ⟨hk, by omega, h3, fun j a b c => ?_⟩
    rcases Nat.lt_succ_iff_lt_or_eq.1 b with h | rfl
    · exact h4 j a h c
    · exact h47
  · omega
theorem SpAt.le {p : List UInt8} {k f : Nat} {D : List (List UInt8)} (h : SpAt p k f D) (hk : k ≤ p.length) : f ≤ k := by
  rcases h with ⟨_, h2, _⟩ | ⟨h1, _⟩
  · exact h2
  · omega
end Go.Proofs.YtmnknmpfkjhgbaaGreatDoor
/- portolanref11: May, Join, cut, Parent, Base, Above, Under. -/
namespace Go.Proofs.YtmnknmpfkjhgbaaGreatDoor
open Go.RowKit
end Go.Proofs.YtmnknmpfkjhgbaaGreatDoor
/- PATHS CLEANED: plain facts. -/
namespace Go.Proofs.YtmnknmpfkjhgbaaGreatDoor
end Go.Proofs.YtmnknmpfkjhgbaaGreatDoor
/- portolanref11: Whiteout, Opaque, Clean. -/
namespace Go.Proofs.YtmnknmpfkjhgbaaGreatDoor
open Go.RowKit
end Go.Proofs.YtmnknmpfkjhgbaaGreatDoor

