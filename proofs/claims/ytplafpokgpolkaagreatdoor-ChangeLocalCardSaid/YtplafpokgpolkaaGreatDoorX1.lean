/- PARTS OF ONE PROOF, set in one file: DifT, DifN, DifP, DifQ, DifMay, DifMayB, DifLoc, DifLocB, DifLocC, FewL, Short, FewS1, DifS, GrS, CmpA, Conv, ConvS, Tr19, GrwL. Each part tells its own conditions. -/
import Derived.Shelf.Bytes.SlEqualAll
import Derived.Lib.SlBytesConst
import Derived.Lib.SmallJoins
import Derived.Test.YtplafpokgpolkaaGreatDoorP13
/- CHANGESETS, plainly: what is told of two trees; nothing that leads there has fewer Members. -/
namespace Go.Proofs.YtplafpokgpolkaaGreatDoor
def signM (p : Tx) : Mb := if p = [] then ([], nd0) else (p, bareN)
def whM (p : Tx) : Mb := signM (whiteoutP p)
def mkM (d : Tx) : Mb := signM (opaqueP d)
/-- what is in each Dir of either tree, each once -/
structure KidsOf (A B : List Mb) (ks : Tx → List Tx) : Prop where
  nd : ∀ d, (ks d).Nodup
  mem : ∀ d p, p ∈ ks d ↔ parentP p = d ∧ ((SM.look A p).isSome = true ∨ (SM.look B p).isSome = true)
theorem hitT_self (c : Tx) : hitT c c = true := by unfold hitT; simp
theorem hit_under {c x y : Tx} (h : underP c x = true) (k : hitT x y = true) : underP c y = true := by
  unfold hitT at k
  rcases Bool.or_eq_true_iff.1 k with k | k
  · have k : y = x := by simpa using k
    rw [k]; exact h
  · exact under_trans h k
theorem hits_iff {m : Mb} {p : Tx} : hits m p = true ↔ (cls m = 1 ∧ (tgt m = p ∨ (m.2.kind ≠ 1 ∧ underP (tgt m) p = true))) ∨ (cls m = 2 ∧ (tgt m = p ∨ underP (tgt m) p = true)) ∨ (cls m = 3 ∧ underP (tgt m) p = true) := by
  unfold hits
  simp only [Bool.or_eq_true, Bool.and_eq_true, decide_eq_true_eq, beq_iff_eq, or_assoc]
theorem mem_plainC {S : List Mb} {x : Mb} : x ∈ plainC S ↔ x ∈ S ∧ cls x = 1 := by unfold plainC; simp
theorem stays_iff {S : List Mb} {p : Tx} : staysC S p = true ↔ p ≠ [] ∧ ∀ m ∈ S, hits m p = false := by unfold staysC; simp
theorem KidsOf.path {A B : List Mb} {ks : Tx → List Tx} (hk : KidsOf A B ks) (hA : WellL A) (hB : WellL B) {d c : Tx} (hc : c ∈ ks d) : mayP c = true ∧ c ≠ [] ∧ parentP c = d := by
  obtain ⟨h1, h2⟩ := (hk.mem d c).1 hc
  rcases h2 with h2 | h2
  · obtain ⟨v, hv⟩ := Option.isSome_iff_exists.1 h2
    obtain ⟨g1, g2⟩ := hA.path (SM.look_mem hv)
    exact ⟨g1, g2, h1⟩
  · obtain ⟨v, hv⟩ := Option.isSome_iff_exists.1 h2
    obtain ⟨g1, g2⟩ := hB.path (SM.look_mem hv)
    exact ⟨g1, g2, h1⟩
end Go.Proofs.YtplafpokgpolkaaGreatDoor
/- CHANGESETS, plainly: nothing that leads there has fewer Members than what is told. -/
namespace Go.Proofs.YtplafpokgpolkaaGreatDoor
theorem Leads.told {A B S : List Mb} (h : Leads A B S) {y : Mb} (hy : y ∈ B) (hn : ¬ (y ∈ A ∧ staysC S y.1 = true)) : y ∈ plainC S := ((h.res y).1 hy).resolve_left hn
theorem Leads.hit {A B S : List Mb} (h : Leads A B S) {y m : Mb} (hy : y ∈ B) (hm : m ∈ S) (hh : hits m y.1 = true) : y ∈ plainC S := h.told hy (fun k => by
  have := (stays_iff.1 k.2).2 m hm
  rw [hh] at this; cases this)
end Go.Proofs.YtplafpokgpolkaaGreatDoor
/- CHANGESETS, plainly: what is told leads there. -/
namespace Go.Proofs.YtplafpokgpolkaaGreatDoor
theorem may_head {t : Tx} (h : mayP t = true) : ¬ [47] <+: t := by
  rintro ⟨r, rfl⟩
  obtain ⟨-, -, h3⟩ := may_parts h
  have e : splitP ([47] ++ r) = [] :: spl r := by
    unfold splitP
    rw [if_neg (by simp)]
    show spl (47 :: r) = _
    rw [spl, if_pos rfl]
  rw [e] at h3
  simp [mayN_nil] at h3
theorem join_head {e b : Tx} (he : ¬ [47] <+: e) (hb : ∀ x ∈ b, x ≠ 47) : ¬ [47] <+: (if e = [] then b else e ++ 47 :: b) := by
  split
  · rintro ⟨r, rfl⟩
    exact hb 47 (by simp) rfl
  · rename_i h0
    rintro ⟨r, hr⟩
    cases e with
    | nil => exact h0 rfl
    | cons c e =>
      simp at hr
      exact he ⟨e, by rw [hr.1]; rfl⟩
theorem no_head {m : Mb} (h : cls m = 1 ∨ cls m = 2 ∨ cls m = 3) : [] ∉ aboveP m.1 := by
  rw [mem_above, List.nil_append]
  rcases told m.1 with ⟨hc, _⟩ | ⟨_, hm, _⟩ | ⟨t, hc, hw, _, _⟩ | ⟨t, hc, ho, _, _⟩ | ⟨hc, _, _⟩
  · unfold cls at h; rw [hc] at h; omega
  · exact may_head hm
  · have hp0 : m.1 ≠ [] := by
      intro e; rw [e] at hc; have h4 := kn_c4; rw [hc] at h4; cases h4
    have hg : ¬ (t.isEmpty || !mayP t) = true := by
      intro e
      unfold whiteoutP at hw
      rw [if_pos e] at hw
      exact hp0 hw.symm
    have h2 : mayP t = true ∧ t ≠ [] := by simpa [and_comm] using hg
    have hbn := mayN_ne (may_base h2.1 h2.2)
    unfold whiteoutP at hw
    rw [if_neg hg, joinP_two, if_neg (c := whiteB ++ baseP t = []) (by simp [whiteB])] at hw
    rw [← hw]
    refine join_head (fun hp => ?_) (white_noSl hbn.2)
    have e1 := path_join h2.1 h2.2
    split at e1
    · rename_i e2; rw [e2] at hp; simp at hp
    · exact may_head h2.1 (by rw [e1]; exact hp.trans (List.prefix_append _ _))
  · have hp0 : m.1 ≠ [] := by
      intro e; rw [e] at hc; have h4 := kn_c4; rw [hc] at h4; cases h4
    have hg : ¬ (!mayP t) = true := by
      intro e
      unfold opaqueP at ho
      rw [if_pos e] at ho
      exact hp0 ho.symm
    have h2 : mayP t = true := by simpa using hg
    unfold opaqueP at ho
    rw [if_neg hg, joinP_two, if_neg (c := markB = []) markB_ne.1] at ho
    rw [← ho]
    exact join_head (may_head h2) markB_ne.2
  · unfold cls at h; rw [hc] at h; omega
theorem hits_tgt {m : Mb} {x : Tx} (h : hits m x = true) : hitT (tgt m) x = true := by
  unfold hitT
  rcases hits_iff.1 h with ⟨_, h | ⟨_, h⟩⟩ | ⟨_, h | h⟩ | ⟨_, h⟩
  · rw [h]; simp
  · rw [h]; simp
  · rw [h]; simp
  · rw [h]; simp
  · rw [h]; simp
theorem cls_may {p : Tx} {n : Nd} (hm : mayP p = true) (h0 : p ≠ []) : cls (p, n) = 1 ∧ tgt (p, n) = p := by unfold cls tgt; rw [class_may hm h0]; exact ⟨rfl, rfl⟩
theorem wh_eq {c : Tx} (hm : mayP c = true) (h0 : c ≠ []) : (whM c).2 = bareN ∧ cls (whM c) = 2 ∧ tgt (whM c) = c := by
  have h1 := (class_whiteout hm h0).1
  have hp0 : whiteoutP c ≠ [] := by
    intro e; rw [e] at h1; have h4 := kn_c4; rw [h1] at h4; cases h4
  have e : whM c = (whiteoutP c, bareN) := by unfold whM signM; rw [if_neg hp0]
  rw [e]
  unfold cls tgt
  rw [h1]; exact ⟨rfl, rfl, rfl⟩
theorem mk_eq {d : Tx} (hm : mayP d = true) : (mkM d).2 = bareN ∧ cls (mkM d) = 3 ∧ tgt (mkM d) = d := by
  have h1 := class_opaque hm
  have hp0 : opaqueP d ≠ [] := by
    intro e; rw [e] at h1; have h4 := kn_c4; rw [h1] at h4; cases h4
  have e : mkM d = (opaqueP d, bareN) := by unfold mkM signM; rw [if_neg hp0]
  rw [e]
  unfold cls tgt
  rw [h1]; exact ⟨rfl, rfl, rfl⟩
/-- WHAT IS TOLD of a region: of paths p with R p -/
structure Good (A B l : List Mb) (R : Tx → Bool) (Q : Mb → Prop) : Prop where
  cl : ∀ m ∈ l, (cls m = 1 ∧ m ∈ B) ∨ (m.2 = bareN ∧ (cls m = 2 ∨ cls m = 3))
  rg : ∀ m ∈ l, Q m
  ab : ∀ m ∈ l, ∀ q ∈ aboveP m.1, R q = true → ∃ x ∈ l, x.1 = q ∧ x.2.kind = 1
  nd : l.Pairwise (fun x y => x.1 ≠ y.1)
  inn : ∀ p y, R p = true → (p, y) ∈ B → (p, y) ∈ l ∨ ((p, y) ∈ A ∧ ∀ m ∈ l, hits m p = false)
  out : ∀ p, R p = true → SM.look B p = none → SM.look A p = none ∨ ∃ m ∈ l, hits m p = true
theorem Good.at {A B l : List Mb} {R : Tx → Bool} {Q : Mb → Prop} (h : Good A B l R Q) {m : Mb} (hm : m ∈ l) : At m := at_of (by rcases h.cl m hm with ⟨e, _⟩ | ⟨_, e | e⟩ <;> omega)
theorem under_asym {a b : Tx} (h : underP a b = true) (k : underP b a = true) : False := by
  have := under_len h
  have := under_len k
  omega
theorem under_hit {a b : Tx} (h : underP a b = true) (k : hitT b a = true) : False := by
  unfold hitT at k
  rcases Bool.or_eq_true_iff.1 k with k | k
  · have k : a = b := by simpa using k
    rw [k, under_self] at h; cases h
  · exact under_asym h k
end Go.Proofs.YtplafpokgpolkaaGreatDoor
/- CHANGESETS, plainly: all that is told leads there. -/
namespace Go.Proofs.YtplafpokgpolkaaGreatDoor
theorem mayT_path {p : Tx} {n : Nd} (h : mayM (p, n) = true) : mayT ([97], n) = true := by
  unfold mayM mayT at *
  simp only [Bool.and_eq_true] at *
  obtain ⟨_, ⟨⟨⟨⟨⟨⟨_, h2⟩, h3⟩, h4⟩, h5⟩, h6⟩, h7⟩⟩ := h
  exact ⟨⟨⟨⟨⟨⟨show decide (¬ (classP [97]).1 = 0) = true by decide, h2⟩, h3⟩, h4⟩, h5⟩, h6⟩, h7⟩
theorem mayT_bare : mayT ([97], bareN) = true := by decide
theorem pre_lt {q p : Tx} (h : q ++ [47] <+: p) : q < p := by
  obtain ⟨r, rfl⟩ := h
  have := bytesLess_pre q (47 :: r) (by simp)
  rw [less_lt] at this
  simpa using this
end Go.Proofs.YtplafpokgpolkaaGreatDoor
/- CHANGESETS, plainly: change.May: the first error; what each change to a changeset brings (ChangeMay). -/
namespace Go.Proofs.YtplafpokgpolkaaGreatDoor
theorem mayFrom_all {S : List Mb} : ∀ (l : List Mb) (k : Nat), S.drop k = l → (mayFrom S k l = 0 ↔ (∀ j, ∀ hj : j < S.length, k ≤ j → errC S j S[j] = 0) ∧ S.length ≤ 4096)
  | [], k, h => by
    have hk : S.length ≤ k := List.drop_eq_nil_iff.1 h
    unfold mayFrom
    constructor
    · intro e
      refine ⟨fun j hj h1 => by omega, ?_⟩
      split at e
      · cases e
      · omega
    · rintro ⟨_, e⟩
      rw [if_neg (by omega)]
  | m :: r, k, h => by
    have hkl : k < S.length := by
      refine Nat.lt_of_not_le fun e => ?_
      rw [List.drop_eq_nil_of_le e] at h; cases h
    rw [List.drop_eq_getElem_cons hkl] at h
    injection h with h1 h2
    have ih := mayFrom_all r (k + 1) h2
    unfold mayFrom
    rw [← h1]
    by_cases he : errC S k S[k] = 0
    · rw [if_neg (by rw [he]; simp), ih]
      constructor
      · rintro ⟨a, b⟩
        refine ⟨fun j hj hk => ?_, b⟩
        rcases Nat.eq_or_lt_of_le hk with e | e
        · subst e; exact he
        · exact a j hj e
      · rintro ⟨a, b⟩
        exact ⟨fun j hj hk => a j hj (by omega), b⟩
    · rw [if_pos he]
      exact ⟨fun e => (he e).elim, fun ⟨a, _⟩ => (he (a k hkl (Nat.le_refl _))).elim⟩
theorem mayC_zero {S : List Mb} : mayC S = 0 ↔ (∀ j, ∀ hj : j < S.length, errC S j S[j] = 0) ∧ S.length ≤ 4096 := by
  unfold mayC
  rw [mayFrom_all S 0 rfl]
  exact ⟨fun ⟨a, b⟩ => ⟨fun j hj => a j hj (Nat.zero_le _), b⟩, fun ⟨a, b⟩ => ⟨fun j hj _ => a j hj, b⟩⟩
/-- the first error -/
theorem mayFrom_first {S : List Mb} {k : Nat} (hk : k < S.length) (he : errC S k S[k] ≠ 0) (hb : ∀ j, ∀ hj : j < S.length, j < k → errC S j S[j] = 0) : ∀ (l : List Mb) (i : Nat), i ≤ k → S.drop i = l → mayFrom S i l = errC S k S[k]
  | [], i, hi, h => by
    have := List.drop_eq_nil_iff.1 h
    omega
  | m :: r, i, hi, h => by
    have hil : i < S.length := by omega
    rw [List.drop_eq_getElem_cons hil] at h
    injection h with h1 h2
    unfold mayFrom
    rw [← h1]
    rcases Nat.eq_or_lt_of_le hi with e | e
    · subst e; rw [if_pos he]
    · rw [if_neg (by rw [hb i hil e]; simp)]
      exact mayFrom_first hk he hb r (i + 1) e h2
theorem mayC_first {S : List Mb} {k : Nat} (hk : k < S.length) (he : errC S k S[k] ≠ 0) (hb : ∀ j, ∀ hj : j < S.length, j < k → errC S j S[j] = 0) : mayC S = errC S k S[k] := mayFrom_first hk he hb S 0 (Nat.zero_le _) rfl
/-- some error of a kind, all errors being of it -/
theorem mayC_only {S : List Mb} (P : Int → Prop) (hp : ∀ j, ∀ hj : j < S.length, errC S j S[j] = 0 ∨ P (errC S j S[j])) (hex : ∃ j, ∃ hj : j < S.length, errC S j S[j] ≠ 0) : P (mayC S) := by
  obtain ⟨j, hj, he⟩ := hex
  have : ∃ k, ∃ hk : k < S.length, errC S k S[k] ≠ 0 ∧ ∀ i, ∀ hi : i < S.length, i < k → errC S i S[i] = 0 := by
    induction j using Nat.strongRecOn with
    | ind j ih =>
      by_cases hb : ∃ i, ∃ hi : i < S.length, i < j ∧ errC S i S[i] ≠ 0
      · obtain ⟨i, hi, hij, h2⟩ := hb
        exact ih i hij hi h2
      · refine ⟨j, hj, he, fun i hi hij => ?_⟩
        refine Classical.byContradiction fun e => hb ⟨i, hi, hij, e⟩
  obtain ⟨k, hk, h1, h2⟩ := this
  rw [mayC_first hk h1 h2]
  exact (hp k hk).resolve_left h1
theorem errC_iff {S : List Mb} {k : Nat} {m : Mb} : errC S k m = 0 ↔ mayT ([97], m.2) = true ∧ notUp S k m = false ∧ (cls m = 1 ∨ cls m = 2 ∨ cls m = 3) ∧ (cls m ≠ 1 → m.2 = bareN) ∧ ∀ q ∈ aboveP m.1, ∃ x ∈ S.take k, x.1 = q ∧ x.2.kind = 1 := by
  have hany : (aboveP m.1).any (fun q => !(S.take k).any (fun x => x.1 == q && decide (x.2.kind = 1))) = false ↔ ∀ q ∈ aboveP m.1, ∃ x ∈ S.take k, x.1 = q ∧ x.2.kind = 1 := by
    rw [List.any_eq_false]
    simp only [Bool.not_eq_true', Bool.not_eq_false, List.any_eq_true, Bool.and_eq_true, beq_iff_eq, decide_eq_true_eq]
  rw [← hany]
  unfold errC
  constructor
  · intro h
    split at h
    · cases h
    · rename_i h1
      split at h
      · cases h
      · rename_i h2
        split at h
        · cases h
        · rename_i h3
          split at h
          · cases h
          · rename_i h4
            simp only [Bool.or_eq_true, not_or, Bool.not_eq_true', Bool.not_eq_false, Bool.not_eq_true] at h1
            refine ⟨h1.1, h1.2, by omega, fun hc => ?_, by simpa using h4⟩
            rw [← bare_iff]
            cases hb : bareB m.2 with
            | true => rfl
            | false => exact (h3 ⟨hc, hb⟩).elim
  · rintro ⟨a, b, c, d, e⟩
    rw [if_neg (by rw [a, b]; decide), if_neg (by omega), if_neg (by
      rintro ⟨e1, e2⟩
      rw [bare_iff.2 (d e1)] at e2; cases e2), if_neg (by rw [e]; decide)]
end Go.Proofs.YtplafpokgpolkaaGreatDoor
/- CHANGESETS, plainly: ChangeMay: a Member less, one twice, two turned, a whiteout with Data. -/
namespace Go.Proofs.YtplafpokgpolkaaGreatDoor
/-- a Member that may be told, alone -/
structure OkM (m : Mb) : Prop where
  t : mayT ([97], m.2) = true
  c : cls m = 1 ∨ cls m = 2 ∨ cls m = 3
  b : cls m ≠ 1 → m.2 = bareN
/-- all above is told -/
def hasUp (L : List Mb) (m : Mb) : Prop := ∀ q ∈ aboveP m.1, ∃ x ∈ L, x.1 = q ∧ x.2.kind = 1
theorem up_at {L : List Mb} (hs : SM.Srt L) {j : Nat} (hj : j < L.length) {q : Tx} (hq : q ∈ aboveP L[j].1) {x : Mb} (hx : x ∈ L) (h1 : x.1 = q) : x ∈ L.take j := by
  obtain ⟨i, hi, rfl⟩ := List.getElem_of_mem hx
  have hlt : q < L[j].1 := pre_lt (mem_above.1 hq)
  have hij : i < j := by
    refine Nat.lt_of_not_le fun e => ?_
    rcases Nat.eq_or_lt_of_le e with e | e
    · subst e; rw [h1] at hlt; exact tx_irrefl _ hlt
    · have := (List.pairwise_iff_getElem.1 hs) j i hj hi e
      rw [h1] at this
      exact tx_asymm hlt this
  exact List.mem_take_iff_getElem.2 ⟨i, by omega, rfl⟩
theorem notUp_srt {L : List Mb} (hs : SM.Srt L) {j : Nat} (hj : j < L.length) : notUp L j L[j] = false := by
  cases j with
  | zero => rfl
  | succ j =>
    show (match L[j]? with | some x => decide (L[j + 1].1 ≤ x.1) | none => false) = false
    rw [List.getElem?_eq_getElem (show j < L.length by omega)]
    simp only [decide_eq_false_iff_not]
    intro e
    have := (List.pairwise_iff_getElem.1 hs) j (j + 1) (by omega) hj (Nat.lt_succ_self j)
    exact (List.not_lt.2 e) this
/-- with no other error, what is wrong is what stands above -/
theorem errC_up {S : List Mb} {k : Nat} {m : Mb} (hn : notUp S k m = false) (h : OkM m) : errC S k m = 0 ∨ errC S k m = 33 := by
  unfold errC
  rw [if_neg (by rw [h.t, hn]; decide), if_neg (by have := h.c; omega), if_neg (by
    rintro ⟨e1, e2⟩
    rw [bare_iff.2 (h.b e1)] at e2; cases e2)]
  split
  · exact .inr rfl
  · exact .inl rfl
theorem may_srt {L : List Mb} (hs : SM.Srt L) (hok : ∀ m ∈ L, OkM m) (hl : L.length ≤ 4096) : ((∀ m ∈ L, hasUp L m) → mayC L = 0) ∧ (¬ (∀ m ∈ L, hasUp L m) → mayC L = 33) := by
  constructor
  · intro h
    refine mayC_zero.2 ⟨fun j hj => ?_, hl⟩
    have hm := List.getElem_mem hj
    have ho := hok _ hm
    refine errC_iff.2 ⟨ho.t, notUp_srt hs hj, ho.c, ho.b, fun q hq => ?_⟩
    obtain ⟨x, hx, e1, e2⟩ := h _ hm q hq
    exact ⟨x, up_at hs hj hq hx e1, e1, e2⟩
  · intro h
    refine mayC_only (fun e => e = 33) (fun j hj => errC_up (notUp_srt hs hj) (hok _ (List.getElem_mem hj))) ?_
    refine Classical.byContradiction fun hn => h (fun m hm q hq => ?_)
    obtain ⟨j, hj, rfl⟩ := List.getElem_of_mem hm
    have he : errC L j L[j] = 0 := Classical.byContradiction fun e => hn ⟨j, hj, e⟩
    obtain ⟨x, hx, e⟩ := (errC_iff.1 he).2.2.2.2 q hq
    exact ⟨x, List.mem_of_mem_take hx, e⟩
end Go.Proofs.YtplafpokgpolkaaGreatDoor
/- CHANGESETS, plainly: ChangeLocal: what is not touched; a whiteout or a mark alone, the Dirs above told anew. -/
namespace Go.Proofs.YtplafpokgpolkaaGreatDoor
/-- what nothing touches is as it was -/
theorem local_same {A S U : List Mb} (h : applyC A S = (0, some U)) {x : Mb} (hx : x ∈ A) (h0 : x.1 ≠ []) (hn : ∀ c ∈ S, hitT (tgt c) x.1 = false) : x ∈ U := by
  refine ((leads_of h).res x).2 (.inl ⟨hx, stays_iff.2 ⟨h0, fun m hm => ?_⟩⟩)
  cases hh : hits m x.1 with
  | false => rfl
  | true =>
    have := hits_tgt hh
    rw [hn m hm] at this; cases this
theorem above_rise (p : Tx) : (aboveP p).Pairwise (· < ·) := by
  unfold aboveP
  rw [List.pairwise_filterMap]
  refine List.Pairwise.imp_of_mem ?_ (List.pairwise_lt_range (n := p.length))
  intro i j hi hj hij a ha b hb
  have hi := List.mem_range.1 hi
  have hj := List.mem_range.1 hj
  split at ha
  · rename_i hc
    split at hb
    · injection ha with ha
      injection hb with hb
      refine pre_lt ⟨(p.take j).drop (i + 1), ?_⟩
      have hg : p[i] = 47 := by rw [List.getElem?_eq_getElem hi] at hc; exact Option.some.inj hc
      rw [← ha, ← hb]
      have e1 : p.take i = (p.take j).take i := by rw [List.take_take, Nat.min_eq_left (by omega)]
      have hl : i < (p.take j).length := by rw [List.length_take]; omega
      have e2 : (p.take j)[i]'hl = 47 := by rw [List.getElem_take]; exact hg
      rw [e1, List.append_assoc]
      conv => rhs; rw [← List.take_append_drop i (p.take j), List.drop_eq_getElem_cons hl, e2]
      rfl
    · cases hb
  · cases ha
/-- a Member, and the Dirs above it as the tree has them -/
def aboveS (A : List Mb) (W : Mb) : List Mb := (aboveP W.1).map (fun q => (q, (getT A q).1)) ++ [W]
theorem above_apply {A : List Mb} (hA : WellL A) (hlen : A.length ≤ 4095) {W : Mb} (hW : OkM W) (hWc : cls W ≠ 1) (g : Tx → Bool) (hg : ∀ x, x ≠ [] → hits W x = g x) (hQ : ∀ q ∈ aboveP W.1, g q = false ∧ ∃ n, SM.look A q = some n ∧ n.kind = 1)
    (hR : WellL (A.filter fun x => !g x.1)) : applyC A (aboveS A W) = (0, some (A.filter fun x => !g x.1)) := by
  have hget : ∀ q ∈ aboveP W.1, (q, (getT A q).1) ∈ A ∧ (getT A q).1.kind = 1 := by
    intro q hq
    obtain ⟨_, n, hn, hk⟩ := hQ q hq
    have hqA := SM.look_mem hn
    have h0 := (hA.path hqA).2
    have e : (getT A q).1 = n := by unfold getT; rw [if_neg h0, hn]
    rw [e]; exact ⟨hqA, hk⟩
  have hmemS : ∀ x, x ∈ aboveS A W ↔ (∃ q ∈ aboveP W.1, x = (q, (getT A q).1)) ∨ x = W := by
    intro x
    unfold aboveS
    rw [List.mem_append, List.mem_singleton, List.mem_map]
    constructor
    · rintro (⟨q, hq, e⟩ | e)
      · exact .inl ⟨q, hq, e.symm⟩
      · exact .inr e
    · rintro (⟨q, hq, e⟩ | e)
      · exact .inl ⟨q, hq, e.symm⟩
      · exact .inr e
  have hs : SM.Srt (aboveS A W) := by
    refine List.pairwise_append.2 ⟨?_, List.pairwise_singleton _ _, fun a ha b hb => ?_⟩
    · rw [List.pairwise_map]; exact above_rise W.1
    · obtain rfl := List.mem_singleton.1 hb
      obtain ⟨q, hq, rfl⟩ := List.mem_map.1 ha
      exact pre_lt (mem_above.1 hq)
  have hcls : ∀ q ∈ aboveP W.1, cls (q, (getT A q).1) = 1 ∧ tgt (q, (getT A q).1) = q := by
    intro q hq
    obtain ⟨p1, p2⟩ := hA.path (hget q hq).1
    exact cls_may p1 p2
  have hok : ∀ m ∈ aboveS A W, OkM m := by
    intro m hm
    rcases (hmemS m).1 hm with ⟨q, hq, rfl⟩ | rfl
    · exact ⟨mayT_path (hA.m _ (hget q hq).1), .inl (hcls q hq).1, fun e => (e (hcls q hq).1).elim⟩
    · exact hW
  have hup : ∀ m ∈ aboveS A W, hasUp (aboveS A W) m := by
    intro m hm q hq
    have hqW : q ∈ aboveP W.1 := by
      rcases (hmemS m).1 hm with ⟨r, hr, rfl⟩ | rfl
      · rw [mem_above] at hr hq ⊢
        exact hq.trans ((List.prefix_append r [47]).trans hr)
      · exact hq
    exact ⟨(q, (getT A q).1), (hmemS _).2 (.inl ⟨q, hqW, rfl⟩), rfl, (hget q hqW).2⟩
  have hal : (aboveP W.1).length ≤ A.length := by
    have := nodup_le ((aboveP W.1).map fun q => (q, (getT A q).1)) A (by
      refine List.Pairwise.map _ (R := fun a b : Tx => a < b) (fun a b hab e => ?_) (above_rise W.1)
      have : a = b := congrArg Prod.fst e
      rw [this] at hab; exact tx_irrefl _ hab) (fun x hx => by
      obtain ⟨q, hq, rfl⟩ := List.mem_map.1 hx
      exact (hget q hq).1)
    simpa using this
  have hm := (may_srt hs hok (by unfold aboveS; simp; omega)).1 hup
  unfold applyC
  rw [if_neg (by rw [hm]; simp)]
  have hplain : ∀ x, x ∈ plainC (aboveS A W) ↔ ∃ q ∈ aboveP W.1, x = (q, (getT A q).1) := by
    intro x
    rw [mem_plainC, hmemS]
    constructor
    · rintro ⟨h | rfl, hc⟩
      · exact h
      · exact (hWc hc).elim
    · rintro ⟨q, hq, rfl⟩
      exact ⟨.inl ⟨q, hq, rfl⟩, (hcls q hq).1⟩
  have hself : ∀ q ∈ aboveP W.1, hits (q, (getT A q).1) q = true := fun q hq => hits_iff.2 (.inl ⟨(hcls q hq).1, .inl (hcls q hq).2⟩)
  refine newT_perm hR ?_ (Nat.le_trans (List.length_filter_le _ _) (by omega))
  refine (List.perm_ext_iff_of_nodup ?_ (mb_nodup hR.s)).2 (fun x => ?_)
  · refine List.nodup_append.2 ⟨(mb_nodup hA.s).filter _, (mb_nodup hs).filter _, fun a ha b hb e => ?_⟩
    subst e
    obtain ⟨_, h1⟩ := List.mem_filter.1 ha
    obtain ⟨q, hq, rfl⟩ := (hplain a).1 hb
    have := (stays_iff.1 h1).2 _ ((hmemS _).2 (.inl ⟨q, hq, rfl⟩))
    rw [hself q hq] at this; cases this
  · rw [List.mem_append, List.mem_filter, hplain, List.mem_filter]
    constructor
    · rintro (⟨h1, h2⟩ | ⟨q, hq, rfl⟩)
      · have hst := stays_iff.1 h2
        have := hst.2 W ((hmemS W).2 (.inr rfl))
        rw [hg _ hst.1] at this
        exact ⟨h1, by rw [this]; rfl⟩
      · exact ⟨(hget q hq).1, by rw [(hQ q hq).1]; rfl⟩
    · rintro ⟨h1, h2⟩
      have h0 := (hA.path h1).2
      by_cases hx : x.1 ∈ aboveP W.1
      · refine .inr ⟨x.1, hx, ?_⟩
        exact Prod.ext rfl (hA.s.one (show (x.1, x.2) ∈ A from h1) (hget x.1 hx).1)
      · refine .inl ⟨h1, stays_iff.2 ⟨h0, fun m hm => ?_⟩⟩
        rcases (hmemS m).1 hm with ⟨q, hq, rfl⟩ | rfl
        · rw [Bool.eq_false_iff]
          intro e
          have hc := hcls q hq
          rcases hits_iff.1 e with ⟨_, e | ⟨e, _⟩⟩ | ⟨e, _⟩ | ⟨e, _⟩
          · rw [hc.2] at e
            exact hx (by rw [← e]; exact hq)
          · exact e (hget q hq).2
          · omega
          · omega
        · rw [hg _ h0]
          simpa using h2
end Go.Proofs.YtplafpokgpolkaaGreatDoor
/- CHANGESETS, plainly: ChangeLocal: a whiteout alone takes its target and all below, a mark alone all below. -/
namespace Go.Proofs.YtplafpokgpolkaaGreatDoor
theorem local_white {A : List Mb} (hA : WellL A) (hlen : A.length ≤ 4095) {p : Tx} {n : Nd} (hp : (p, n) ∈ A) : applyC A (aboveS A (whM p)) = (0, some (removeT A p).2) := by
  obtain ⟨hm, h0⟩ : mayP p = true ∧ p ≠ [] := hA.path hp
  obtain ⟨w1, w2, w3⟩ := wh_eq hm h0
  have hl := hA.s.look.2 hp
  have e : (removeT A p).2 = A.filter (fun x => !hitT p x.1) := by
    unfold removeT
    rw [hl]
    show (clearT A p).filter (fun m => m.1 != p) = _
    unfold clearT
    rw [List.filter_filter]
    refine List.filter_congr (fun x _ => ?_)
    unfold hitT
    rw [Bool.not_or]; rfl
  have hw : At (whM p) := at_of (by omega)
  have hR := remove_well hA p
  rw [e] at hR ⊢
  refine above_apply hA hlen (W := whM p) ⟨by rw [w1]; exact mayT_bare, .inr (.inl w2), fun _ => w1⟩ (by omega) (hitT p) (fun x _ => ?_) (fun q hq => ?_) hR
  · rw [Bool.eq_iff_iff, hits_iff, w3]
    unfold hitT
    rw [Bool.or_eq_true, beq_iff_eq]
    constructor
    · rintro (⟨e, _⟩ | ⟨_, e⟩ | ⟨e, _⟩)
      · omega
      · rcases e with e | e
        · exact .inl e.symm
        · exact .inr e
      · omega
    · rintro (e | e)
      · exact .inr (.inl ⟨w2, .inl e.symm⟩)
      · exact .inr (.inl ⟨w2, .inr e⟩)
  · have hq0 : q ≠ [] := by rintro rfl; exact no_head (.inr (.inl w2)) hq
    have hu := (under_above hq0).2 hq
    rcases hw with ⟨e, _⟩ | ⟨_, _, _, e⟩ | ⟨e, _⟩
    · omega
    · rw [e, w3] at hu
      refine ⟨?_, dir_above hA hq0 _ _ rfl hp hu⟩
      rw [Bool.eq_false_iff]
      intro e2
      exact under_hit hu e2
    · omega
theorem below_well {A : List Mb} (hA : WellL A) (p : Tx) : WellL (A.filter fun x => !underP p x.1) := by
  refine ⟨hA.s.filter _, fun x hx => hA.m x (List.mem_filter.1 hx).1, fun x hx => ?_⟩
  obtain ⟨h1, h2⟩ := List.mem_filter.1 hx
  obtain ⟨p1, p2⟩ := hA.path h1
  have h2 : underP p x.1 = false := by simpa using h2
  rw [under_rec p1 p2] at h2
  simp only [Bool.or_eq_false_iff] at h2
  rcases dirT_iff.1 (hA.p x h1) with e | ⟨v, hv, hk⟩
  · rw [e]; rfl
  · rw [dirT_iff, hA.s.look_filter (fun k => !underP p k), if_pos (by rw [h2.2]; rfl)]
    exact .inr ⟨v, hv, hk⟩
theorem local_mark {A : List Mb} (hA : WellL A) (hlen : A.length ≤ 4095) {p : Tx} {n : Nd} (hp : (p, n) ∈ A) (hk : n.kind = 1) : applyC A (aboveS A (mkM p)) = (0, some (A.filter fun x => !underP p x.1)) := by
  obtain ⟨hm, h0⟩ : mayP p = true ∧ p ≠ [] := hA.path hp
  obtain ⟨w1, w2, w3⟩ := mk_eq hm
  have hl := hA.s.look.2 hp
  have hw : At (mkM p) := at_of (by omega)
  refine above_apply hA hlen (W := mkM p) ⟨by rw [w1]; exact mayT_bare, .inr (.inr w2), fun _ => w1⟩ (by omega) (underP p) (fun x _ => ?_) (fun q hq => ?_) (below_well hA p)
  · rw [Bool.eq_iff_iff, hits_iff, w3]
    constructor
    · rintro (⟨e, _⟩ | ⟨e, _⟩ | ⟨_, e⟩)
      · omega
      · omega
      · exact e
    · exact fun e => .inr (.inr ⟨w2, e⟩)
  · have hq0 : q ≠ [] := by rintro rfl; exact no_head (.inr (.inr w2)) hq
    have hu := (under_above hq0).2 hq
    rcases hw with ⟨e, _⟩ | ⟨e, _⟩ | ⟨_, _, e⟩
    · omega
    · omega
    · rw [e, w3] at hu
      rcases Bool.or_eq_true_iff.1 hu with hu | hu
      · have hu : p = q := by simpa using hu
        subst hu
        exact ⟨under_self p, n, hl, hk⟩
      · refine ⟨?_, dir_above hA hq0 _ _ rfl hp hu⟩
        rw [Bool.eq_false_iff]
        intro e2
        exact under_asym hu e2
end Go.Proofs.YtplafpokgpolkaaGreatDoor
/- CHANGESETS, plainly: ChangeLocal: all that a Dir has, taken away one by one. -/
namespace Go.Proofs.YtplafpokgpolkaaGreatDoor
theorem fold_kids {A : List Mb} (hA : WellL A) (p : Tx) : ∀ (l done : List Tx), (∀ c ∈ done ++ l, parentP c = p ∧ ∃ n, (c, n) ∈ A) → (done ++ l).Nodup →
    l.foldl (fun K c => (removeT K c).2) (A.filter fun x => !done.any fun c => hitT c x.1) = A.filter fun x => !(done ++ l).any fun c => hitT c x.1
  | [], done, _, _ => by rw [List.append_nil]; rfl
  | c :: l, done, h, hn => by
    obtain ⟨hd, n, hc⟩ := h c (by simp)
    obtain ⟨c1, c2⟩ : mayP c = true ∧ c ≠ [] := hA.path hc
    have hcn : done.any (fun d => hitT d c) = false := by
      rw [List.any_eq_false]
      intro d hdm e
      obtain ⟨g1, v, g2⟩ := h d (by simp [hdm])
      obtain ⟨d1, d2⟩ : mayP d = true ∧ d ≠ [] := hA.path g2
      have := hit_one d1 d2 g1 c1 c2 hd e (hitT_self c)
      subst this
      exact (List.nodup_append.1 hn).2.2 d hdm d (by simp) rfl
    have hl : SM.look (A.filter fun x => !done.any fun c => hitT c x.1) c = some n := by
      rw [hA.s.look_filter (fun k => !done.any fun c => hitT c k), if_pos (by rw [hcn]; rfl)]
      exact hA.s.look.2 hc
    have e : (removeT (A.filter fun x => !done.any fun c => hitT c x.1) c).2 = A.filter fun x => !(done ++ [c]).any fun c => hitT c x.1 := by
      unfold removeT
      rw [hl]
      show (clearT _ c).filter (fun m => m.1 != c) = _
      unfold clearT
      rw [List.filter_filter, List.filter_filter]
      refine List.filter_congr (fun x _ => ?_)
      rw [List.any_append]
      simp only [List.any_cons, List.any_nil, Bool.or_false]
      have : hitT c x.1 = (x.1 == c || underP c x.1) := rfl
      rw [this]
      cases hx : done.any fun c => hitT c x.1 <;> cases hy : underP c x.1 <;> simp [bne]
    rw [List.foldl_cons, e]
    have := fold_kids hA p l (done ++ [c]) (fun d hd => h d (by simpa using hd)) (by simpa using hn)
    rw [this]
    simp
theorem remove_kids {A : List Mb} (hA : WellL A) (p : Tx) : ((kids p A).map (·.1)).foldl (fun K c => (removeT K c).2) A = A.filter fun x => !underP p x.1 := by
  have h0 : A = A.filter fun x => !([] : List Tx).any fun c => hitT c x.1 := by
    symm; rw [List.filter_eq_self]; intro x _; rfl
  have hk := fold_kids hA p ((kids p A).map (·.1)) [] (fun c hc => by
    obtain ⟨x, hx, rfl⟩ := List.mem_map.1 (by simpa using hc : c ∈ (kids p A).map (·.1))
    obtain ⟨h1, h2⟩ := mem_kids.1 hx
    exact ⟨h2, x.2, h1⟩) (by
    rw [List.nil_append]
    exact srt_nodup (hA.s.filter _))
  rw [← h0] at hk
  rw [hk]
  refine List.filter_congr (fun x hx => ?_)
  rw [List.nil_append]
  congr 1
  have h1 := kids_hit hA p _ x rfl hx
  rw [Bool.eq_iff_iff, List.any_map, List.any_eq_true]
  constructor
  · rintro ⟨c, hc, e⟩
    obtain ⟨g1, g2⟩ := mem_kids.1 hc
    obtain ⟨c1, c2⟩ := hA.path g1
    exact hit_under (by rw [← g2]; exact under_parent c1 c2) e
  · intro hu
    rw [if_pos hu] at h1
    obtain ⟨c, hc, e⟩ := List.countP_pos_iff.1 (show 0 < _ by rw [h1]; exact Nat.one_pos)
    exact ⟨c, hc, e⟩
end Go.Proofs.YtplafpokgpolkaaGreatDoor
/- portolanlaw19.Few: what it cuts, plainly. -/
namespace Go.Proofs.YtplafpokgpolkaaGreatDoor
/-- at most 19 slashes -/
def shortG : Tx → Nat → Tx
  | [], _ => []
  | c :: r, n => if c = 47 then (if n + 1 = 20 then [] else c :: shortG r (n + 1)) else c :: shortG r n
def shortS (p : Tx) : Tx := shortG (p.take 300) 0
def cutB (x : R2) : R2 := (x.1.take 40, x.2.take 200)
def cut19 (m : Mb) : Mb := (shortS m.1, { m.2 with link := m.2.link.take 40, data := m.2.data.take 40, attrs := (m.2.attrs.take 4).map cutB })
def few19 (l : List Mb) : List Mb := (l.take 14).map cut19
theorem shortG_len : ∀ (p : Tx) (n : Nat), (shortG p n).length ≤ p.length
  | [], _ => Nat.le_refl _
  | c :: r, n => by
    unfold shortG
    have h1 := shortG_len r (n + 1)
    have h2 := shortG_len r n
    split
    · split
      · simp
      · simp; exact h1
    · simp; exact h2
theorem shortG_cnt : ∀ (p : Tx) (n : Nat), n < 20 → (shortG p n).countP (· == 47) + n < 20
  | [], n, h => by unfold shortG; simpa using h
  | c :: r, n, h => by
    unfold shortG
    split
    · rename_i hc
      split
      · simpa using h
      · have h1 := shortG_cnt r (n + 1) (by omega)
        rw [List.countP_cons_of_pos (by simpa using hc)]
        omega
    · rename_i hc
      have h2 := shortG_cnt r n h
      rw [List.countP_cons_of_neg (by simpa using hc)]
      exact h2
theorem shortS_len (p : Tx) : (shortS p).length ≤ 300 := Nat.le_trans (shortG_len _ _) (List.length_take_le _ _)
theorem shortS_cnt (p : Tx) : (shortS p).countP (· == 47) < 20 := by have := shortG_cnt (p.take 300) 0 (by omega); unfold shortS; omega
/-- the walk's round: i letters are seen, n slashes among them -/
def ShAt (p : Tx) (i n : Nat) : Prop := n < 20 ∧ shortG p 0 = p.take i ++ shortG (p.drop i) n
theorem ShAt.start (p : Tx) : ShAt p 0 0 := ⟨by omega, by simp⟩
theorem ShAt.done {p : Tx} {n : Nat} (h : ShAt p p.length n) : shortG p 0 = p := by
  have := h.2
  rw [List.drop_length, List.take_length] at this
  rw [this]; unfold shortG; simp
theorem ShAt.next {p : Tx} {i n : Nat} (h : ShAt p i n) (hi : i < p.length) (hc : p[i] ≠ 47) : ShAt p (i + 1) n := by
  refine ⟨h.1, ?_⟩
  rw [h.2, List.drop_eq_getElem_cons hi, List.take_succ_eq_append_getElem hi]
  conv => lhs; unfold shortG
  rw [if_neg hc, List.append_assoc]; rfl
theorem ShAt.slash {p : Tx} {i n : Nat} (h : ShAt p i n) (hi : i < p.length) (hc : p[i] = 47) (hn : n + 1 ≠ 20) : ShAt p (i + 1) (n + 1) := by
  refine ⟨by have := h.1; omega, ?_⟩
  rw [h.2, List.drop_eq_getElem_cons hi, List.take_succ_eq_append_getElem hi]
  conv => lhs; unfold shortG
  rw [if_pos hc, if_neg hn, List.append_assoc]; rfl
theorem ShAt.stop {p : Tx} {i n : Nat} (h : ShAt p i n) (hi : i < p.length) (hc : p[i] = 47) (hn : n + 1 = 20) : shortG p 0 = p.take i := by
  rw [h.2, List.drop_eq_getElem_cons hi]
  conv => lhs; unfold shortG
  rw [if_pos hc, if_pos hn]; simp
theorem Kb.cutS {m : Mb} (h : Kb m) : Sm (cut19 m) := by
  refine ⟨?_, ?_, ?_, ?_, fun x hx => ?_, h⟩
  · exact Nat.le_trans (shortS_len _) (by omega)
  · exact Nat.le_trans (List.length_take_le _ _) (by omega)
  · exact Nat.le_trans (List.length_take_le _ _) (by omega)
  · show ((m.2.attrs.take 4).map cutB).length ≤ _
    rw [List.length_map]
    exact Nat.le_trans (List.length_take_le _ _) (by omega)
  · obtain ⟨y, hy, rfl⟩ := List.mem_map.1 (show x ∈ (m.2.attrs.take 4).map cutB from hx)
    exact ⟨Nat.le_trans (List.length_take_le _ _) (by omega), Nat.le_trans (List.length_take_le _ _) (by omega)⟩
theorem few19_sm {l : List Mb} (h : ∀ x ∈ l, Kb x) : ∀ x ∈ few19 l, Sm x := fun x hx => by
  obtain ⟨y, hy, rfl⟩ := List.mem_map.1 hx
  exact (h y ((List.take_sublist 14 l).subset hy)).cutS
theorem few19_len (l : List Mb) : (few19 l).length ≤ 14 := by
  unfold few19
  rw [List.length_map]
  exact List.length_take_le _ _
end Go.Proofs.YtplafpokgpolkaaGreatDoor
/- portolanlaw19.short: a path cut short. -/
namespace Go.Proofs.YtplafpokgpolkaaGreatDoor
open Go.RowKit
set_option maxHeartbeats 2000000 in
set_option maxRecDepth 100000 in
theorem short_any (p0 : Tx) (w : World) : Calls Tryz.prog 66 #[.string ⟨p0.toArray⟩] w fun e w' => e = .returned (.string ⟨(shortS p0).toArray⟩) ∧ w = w' := by
  obtain ⟨p, hpp⟩ : ∃ p, p = p0.take 300 := ⟨_, rfl⟩
  have hlen : min (p0.length : Int) 300 = ((min p0.length 300 : Nat) : Int) := by omega
  have hcut := run_slice_to (P := Tryz.prog) Tryz.underlying9 p0 .i64 (min p0.length 300) (Nat.min_le_left _ _)
  have htk : p0.take (min p0.length 300) = p := by rw [hpp, List.take_eq_take_iff]; omega
  rw [htk] at hcut
  have hps : p.length ≤ 300 := by rw [hpp]; exact List.length_take_le _ _
  have HS : Keep (shortS p0 = shortG p 0) := ⟨by unfold shortS; rw [hpp]⟩
  clear hpp htk
  generalize min p0.length 300 = m0 at *
  go_enter Tryz.func66, Tryz.ntmps66
  go_wp2_with fail
  go_loopg [3, 4] p.length (fun g u3 u4 wx => ∃ k n : Nat, k + g = p.length ∧ u3 = .int .i64 (n : Int) ∧ u4 = .int .i64 (k : Int) ∧ ShAt p k n ∧ w = wx)
  case atStart => exact ⟨0, 0, by omega, rfl, rfl, ShAt.start p, rfl⟩
  case round =>
    obtain ⟨k, n, hkg, rfl, rfl, hsh, rfl⟩ := hrel
    have HSH := Keep.keep hsh
    have hn20 : n < 20 := hsh.1
    clear hsh hcut hlen
    cases gk with
    | zero =>
      obtain rfl : k = p.length := by omega
      have HE : Keep (shortS p0 = p) := ⟨by rw [HS.out]; exact HSH.out.done⟩
      go_wp2_with fail
      go_ret
      exact ⟨by rw [HE.out]; rfl, rfl⟩
    | succ g =>
      have hk : k < p.length := by omega
      have hidx := run_index_str (P := Tryz.prog) Tryz.underlying9 ⟨p.toArray⟩ .i64 k p[k] (by simp [hk])
      have hgi : (⟨p.toArray⟩ : ByteArray)[k]'(hk) = p[k] := rfl
      by_cases h47 : p[k] = 47
      · by_cases hq : n + 1 = 20
        · have HE : Keep (shortS p0 = p.take k) := ⟨by rw [HS.out]; exact HSH.out.stop hk h47 hq⟩
          have hsl := run_slice_to (P := Tryz.prog) Tryz.underlying9 p .i64 k (by omega)
          obtain rfl : n = 19 := by omega
          rw [h47] at hidx hgi
          clear h47 hq
          go_wp2_with fail
          go_ret
          exact ⟨by rw [HE.out]; rfl, rfl⟩
        · have HST := Keep.keep (HSH.out.slash hk h47 hq)
          have hq2 : (((n : Int) + 1) == 20) = false := by rw [beq_eq_false_iff_ne]; omega
          rw [h47] at hidx hgi
          clear h47 hq
          go_wp2_with fail
          go_roundg g
          case measure => omega
          case rel => exact ⟨k + 1, n + 1, by omega, by simp, by simp, HST.out, rfl⟩
      · have HST := Keep.keep (HSH.out.next hk h47)
        have hn47 : ((p[k].toNat : Int) == 47) = false := by
          rw [beq_eq_false_iff_ne]; intro e; exact h47 (UInt8.toNat_inj.1 (by show p[k].toNat = 47; omega))
        have hq2 : ((n : Int) == 20) = false := by rw [beq_eq_false_iff_ne]; omega
        clear h47
        generalize p[k] = c at *
        go_wp2_with fail
        go_roundg g
        case measure => omega
        case rel => exact ⟨k + 1, n, by omega, by simp, by simp, HST.out, rfl⟩
end Go.Proofs.YtplafpokgpolkaaGreatDoor
/- portolanlaw19.Few: single operations. -/
namespace Go.Proofs.YtplafpokgpolkaaGreatDoor
open Go.RowKit
theorem shortG_idem : ∀ (p : Tx) (n : Nat), shortG (shortG p n) n = shortG p n
  | [], n => by unfold shortG; rfl
  | c :: r, n => by
    have h1 := shortG_idem r (n + 1)
    have h2 := shortG_idem r n
    by_cases hc : c = 47
    · by_cases hn : n + 1 = 20
      · have e : shortG (c :: r) n = [] := by unfold shortG; rw [if_pos hc, if_pos hn]
        rw [e]; unfold shortG; rfl
      · have e : ∀ s, shortG (c :: s) n = c :: shortG s (n + 1) := fun s => by
          conv => lhs; unfold shortG
          rw [if_pos hc, if_neg hn]
        rw [e, e, h1]
    · have e : ∀ s, shortG (c :: s) n = c :: shortG s n := fun s => by
        conv => lhs; unfold shortG
        rw [if_neg hc]
      rw [e, e, h2]
theorem shortS_idem (p : Tx) : shortS (shortS p) = shortS p := by
  have h := shortS_len p
  unfold shortS at h ⊢
  rw [List.take_of_length_le h, shortG_idem]
def WasP (p q : Tx) : Prop := q = p ∨ q = shortS p
theorem WasP.cut {p q : Tx} (h : WasP p q) : shortS q = shortS p := by
  rcases h with rfl | rfl
  · rfl
  · exact shortS_idem p
def WasK (s q : Tx) : Prop := q = s ∨ q = s.take 40
theorem WasK.mn {s q : Tx} (h : WasK s q) : min (q.length : Int) 40 = min (s.length : Int) 40 := by
  rcases h with rfl | rfl
  · rfl
  · rw [List.length_take]; omega
theorem WasK.le {s q : Tx} (h : WasK s q) : min s.length 40 ≤ q.length := by
  rcases h with rfl | rfl
  · omega
  · rw [List.length_take]; omega
theorem WasK.cut {s q : Tx} (h : WasK s q) : q.take (min s.length 40) = s.take 40 := by
  rcases h with rfl | rfl
  · rw [List.take_eq_take_iff]; omega
  · rw [List.take_take, List.take_eq_take_iff]; omega
def WasM (n m : Nat) : Prop := m = n ∨ m = min n 40
theorem WasM.mn {n m : Nat} (h : WasM n m) : min (m : Int) 40 = ((min n 40 : Nat) : Int) := by rcases h with rfl | rfl <;> omega
section
variable {ρ : Operand → Value} {d : Option Tmp} {x y : Operand} {t : TypeId} {pos : String} {af : Array Edge} {g : Option (Nat × Bool)} {w : World}
theorem run_lenV {a : Option Addr} {n cap : Nat} (hx : ρ x = .slice a n cap) : (execOp ρ (⟨d, .call ⟨.builtin .len, #[x], #[28]⟩, t, pos, af, g⟩ : Oper)).run Tryz.prog w = .ok (.value (.int .i64 (n : Int))) w := by
  simp [execOp, resolve, invoke, builtin, Builtin.len_, hx, run_underlying Tryz.underlying28]
  rfl
theorem run_sliceV {a : Option Addr} {n cap i : Nat} (hi : i ≤ cap) (hx : ρ x = .slice a n cap) (hy : ρ y = .int .i64 (i : Int)) : (execOp ρ (⟨d, .slice 28 x none (some y) none, t, pos, af, g⟩ : Oper)).run Tryz.prog w = .ok (.value (.slice a i cap)) w := by
  have := slice_to (P := Tryz.prog) slBy a n cap i .i64 hi w
  simp [execOp, Instr.sliceAt, hx, hy, this]
theorem run_storeV {a : Option Addr} {n cap : Nat} {b off : Nat} (hc : ∃ v, w.cell? ⟨b, off, none⟩ = some v) (hf : w.frozen? ⟨b, off, none⟩ = false) (hx : ρ x = .pointer (some ⟨b, off, none⟩)) (hy : ρ y = .slice a n cap) :
    (execOp ρ (⟨d, .store 28 x y, t, pos, af, g⟩ : Oper)).run Tryz.prog w = .ok .skip (w.setCell ⟨b, off, none⟩ (.slice a n cap)) := by
  obtain ⟨v, hc⟩ := hc
  have hz : (sizeOf 28).run Tryz.prog w = .ok 1 w := by kernel_rfl
  simp [go_sem, execOp, hx, hy, hz, hc, hf, Instr.storeAt, storeCells]
end
/-- the row of m, whose path, Data and link are under way -/
def fsR (kind mode uid gid time : Int) (av : Value) (ad : Option Addr) (m cd : Nat) (q k : Tx) : Array Value := #[.string ⟨q.toArray⟩, .int .i64 kind, .int .u32 mode, .int .u32 uid, .int .u32 gid, .int .i64 time, av, .slice ad m cd, .string ⟨k.toArray⟩]
def fsT (B : Nat) (p k : Tx) (ad : Option Addr) (ld cd : Nat) : Nat → Value → World → Prop
  | 1, v, _ => ∃ q, v = .string ⟨q.toArray⟩ ∧ WasP p q
  | 2, v, _ => v = .string ⟨(shortS p).toArray⟩
  | 5, v, _ => ∃ q, v = .string ⟨q.toArray⟩ ∧ WasK k q
  | 8, v, _ => ∃ q, v = .string ⟨q.toArray⟩ ∧ WasK k q
  | 9, v, _ => ∃ q, v = .int .i64 (q.length : Int) ∧ WasK k q
  | 10, v, _ => v = .int .i64 ((min k.length 40 : Nat) : Int)
  | 11, v, _ => v = .string ⟨(k.take 40).toArray⟩
  | 14, v, _ => ∃ m, v = .slice ad m cd ∧ WasM ld m
  | 17, v, _ => ∃ m, v = .slice ad m cd ∧ WasM ld m
  | 18, v, _ => ∃ m : Nat, v = .int .i64 (m : Int) ∧ WasM ld m
  | 19, v, _ => v = .int .i64 ((min ld 40 : Nat) : Int)
  | 20, v, _ => v = .slice ad (min ld 40) cd
  | 22, _, w => w.cell? ⟨B, 0, none⟩ = some (.string ⟨(shortS p).toArray⟩)
  | 25, _, w => w.cell? ⟨B, 8, none⟩ = some (.string ⟨(k.take 40).toArray⟩)
  | 28, _, w => w.cell? ⟨B, 7, none⟩ = some (.slice ad (min ld 40) cd)
  | 0, v, _ => v = .pointer (some ⟨B, 0, none⟩)
  | 21, v, _ => v = .pointer (some ⟨B, 0, none⟩)
  | 3, v, _ => v = .pointer (some ⟨B, 1, none⟩)
  | 6, v, _ => v = .pointer (some ⟨B, 1, none⟩)
  | 12, v, _ => v = .pointer (some ⟨B, 1, none⟩)
  | 15, v, _ => v = .pointer (some ⟨B, 1, none⟩)
  | 23, v, _ => v = .pointer (some ⟨B, 1, none⟩)
  | 26, v, _ => v = .pointer (some ⟨B, 1, none⟩)
  | 4, v, _ => v = .pointer (some ⟨B, 8, none⟩)
  | 7, v, _ => v = .pointer (some ⟨B, 8, none⟩)
  | 24, v, _ => v = .pointer (some ⟨B, 8, none⟩)
  | _, v, _ => v = .pointer (some ⟨B, 7, none⟩)
def fsS (B : Nat) (p k : Tx) (ad : Option Addr) (ld cd : Nat) (w w' : World) : Prop :=
  (w.cell? ⟨B, 0, none⟩ = some (.string ⟨(shortS p).toArray⟩) → w'.cell? ⟨B, 0, none⟩ = some (.string ⟨(shortS p).toArray⟩)) ∧ (w.cell? ⟨B, 8, none⟩ = some (.string ⟨(k.take 40).toArray⟩) → w'.cell? ⟨B, 8, none⟩ = some (.string ⟨(k.take 40).toArray⟩)) ∧
  (w.cell? ⟨B, 7, none⟩ = some (.slice ad (min ld 40) cd) → w'.cell? ⟨B, 7, none⟩ = some (.slice ad (min ld 40) cd))
theorem fsS.refl (B : Nat) (p k : Tx) (ad : Option Addr) (ld cd : Nat) (w : World) : fsS B p k ad ld cd w w := ⟨fun h => h, fun h => h, fun h => h⟩
theorem fsT_stays {B : Nat} {p k : Tx} {ad : Option Addr} {ld cd : Nat} (i : Nat) (v : Value) (w w' : World) (h : fsT B p k ad ld cd i v w) (hs : fsS B p k ad ld cd w w') : fsT B p k ad ld cd i v w' := by
  by_cases e : i = 22
  · subst e; exact hs.1 h
  · by_cases e2 : i = 25
    · subst e2; exact hs.2.1 h
    · by_cases e3 : i = 28
      · subst e3; exact hs.2.2 h
      · unfold fsT at h ⊢
        split at h <;> first | exact h | omega
def fsC (W : World) (B : Nat) (kind mode uid gid time : Int) (av : Value) (ad : Option Addr) (ld cd : Nat) (p k : Tx) (w : World) : Prop :=
  Chg (fun b => b = B) W.heap.size W w ∧ ∃ q j m, WasP p q ∧ WasK k j ∧ WasM ld m ∧ Row w B 32 (fsR kind mode uid gid time av ad m cd q j)
/-- attributes, cut -/
theorem slice_ato (a : Option Addr) (n cap i : Nat) (k : IntKind) (hi : i ≤ cap) (w : World) : (Instr.slice 27 (.slice a n cap) none (some (.int k (i : Int))) none).run Tryz.prog w = .ok (.slice a i cap) w := by
  have he : Tryz.prog.elem 27 = 97 := by simp [Program.elem, Tryz.underlying27]
  have hs : ∀ w, (sizeOf 97).run Tryz.prog w = .ok 2 w := fun w => by kernel_rfl
  rw [run_slice_h w 27 a n cap (by rw [he]; exact Tryz.underlying27) k (i : Int) (by omega) (by omega), he, hs]
  have ha : a.map (·.add 0) = a := by
    cases a <;> simp [Addr.add]
  simp [Result.andThen, sliced, ha]
set_option maxRecDepth 100000 in
theorem rcells_take (l : List R2) (i : Nat) : rcells (l.take i) = (rcells l).take (i * 2) := by
  induction l generalizing i with
  | nil => simp [rcells]
  | cons x l ih =>
    cases i with
    | zero => simp [rcells]
    | succ i => rw [List.take_succ_cons, rcells_cons, rcells_cons, ih, show (i + 1) * 2 = i * 2 + 1 + 1 by omega, List.take_succ_cons, List.take_succ_cons]
theorem RdV.take2 {w : World} {N : Nat → Prop} {a : Option Addr} {n cap : Nat} {l : List R2} (h : RdV w N 2 (.slice a n cap) l.length (rcells l)) (i : Nat) (hi : i ≤ l.length) : RdV w N 2 (.slice a i cap) (l.take i).length (rcells (l.take i)) := by
  obtain ⟨hl, ⟨a0, cap0, he0, g1, g2, g3⟩, hc⟩ := h
  injection he0 with e1 e2 e3
  subst e1 e2 e3
  have hl' : (l.take i).length = i := by rw [List.length_take]; omega
  refine ⟨rcells_length _, ⟨a, cap, by rw [hl'], by omega, g2, g3⟩, fun b off m c he1 j u hj => ?_⟩
  injection he1 with e1 e2 e3
  subst e1 e3
  refine hc b off _ _ rfl j u ?_
  rw [rcells_take] at hj
  have hlt := (List.getElem?_eq_some_iff.1 hj).1
  rw [List.getElem?_take_of_lt (by simp at hlt; omega)] at hj
  exact hj
theorem rcells_at (l : List R2) (i j : Nat) (hj : j < 2) : (rcells l)[i * 2 + j]? = (l[i]?).bind fun x => [strV x.1, strV x.2][j]? := by
  induction l generalizing i with
  | nil => simp [rcells]
  | cons x l ih =>
    rw [rcells_cons]
    cases i with
    | zero =>
      rcases (by omega : j = 0 ∨ j = 1) with rfl | rfl <;> rfl
    | succ i =>
      rw [show (i + 1) * 2 + j = (i * 2 + j) + 1 + 1 by omega, List.getElem?_cons_succ, List.getElem?_cons_succ, ih]
      rfl
theorem layAt_rcells (l : List R2) (k : Nat) (x : R2) (hk : k < l.length) : layAt (rcells l) (k * 2) [strV x.1, strV x.2] = rcells (l.set k x) := by
  refine List.ext_getElem? fun i => ?_
  rw [layAt_get _ _ _ _ (by rw [rcells_length]; simp; omega)]
  have hi : i = i / 2 * 2 + i % 2 := by omega
  by_cases h : k * 2 ≤ i ∧ i < k * 2 + [strV x.1, strV x.2].length
  · rw [if_pos h]
    have hl : [strV x.1, strV x.2].length = 2 := rfl
    have hd : i / 2 = k := by omega
    conv => rhs; rw [hi, rcells_at _ _ _ (Nat.mod_lt _ (by omega)), hd]
    rw [List.getElem?_set_self hk, show i - k * 2 = i % 2 by omega]
    rfl
  · rw [if_neg h]
    have hl : [strV x.1, strV x.2].length = 2 := rfl
    conv => lhs; rw [hi, rcells_at _ _ _ (Nat.mod_lt _ (by omega))]
    conv => rhs; rw [hi, rcells_at _ _ _ (Nat.mod_lt _ (by omega))]
    rw [List.getElem?_set_ne (by omega)]
/-- ARM: an attribute laid into a row of one's own -/
theorem arm_setAt {ops : Array Oper} {rest : List Oper} {a : Act} {w : World} {Q : Exit → Act → World → Prop} {tp : TypeId} {dst : Option Tmp} {x y : Operand} {pos : String} {after : Array Edge} {base g cap n k : Nat} {l : List R2} (m : R2)
    (ho : w.ownsRow base 97 2 (.slice (some ⟨g, 0, none⟩) n cap) n (rcells l)) (hn : n = l.length) (hk : k < l.length) (hx : a.eval x = .pointer (some ⟨g, k * 2, none⟩)) (hy : a.eval y = .agg #[strV m.1, strV m.2])
    (h : ∀ w', w'.ownsRow base 97 2 (.slice (some ⟨g, 0, none⟩) n cap) n (rcells (l.set k m)) → w.grownBy w' (some g) → wpList Tryz.prog ops Q rest (a.put dst undef) w') :
    wpList Tryz.prog ops Q (⟨dst, .store 97 x y, tp, pos, after, none⟩ :: rest) a w := by
  have ht : w.there g (k * 2) 2 := fun j hj => by
    refine ⟨?_, ho.frozenAt _⟩
    rw [ho.cellAt _ (by omega), rcells_at _ _ _ hj, List.getElem?_eq_getElem hk]
    rcases (by omega : j = 0 ∨ j = 1) with rfl | rfl <;> rfl
  have hst := run_storeAt_mid (P := Tryz.prog) w g (k * 2) 97 #[strV m.1, strV m.2] ht (by kernel_rfl) (by simp [strV, Value.oneCell'])
  have h2 := owns_setCells [strV m.1, strV m.2] _ w (k * 2) ho
  rw [layAt_rcells l k m hk] at h2
  refine wpList_skip rfl ?_ (h _ h2.1 h2.2)
  simp [execOp, hx, hy, hst]
theorem own_loadAtA {base g cap n k : Nat} {w : World} {l : List R2} (h : w.ownsRow base 97 2 (.slice (some ⟨g, 0, none⟩) n cap) n (rcells l)) (hn : n = l.length) {x : R2} (hx : l[k]? = some x) : (Instr.loadAt 97 (.pointer (some ⟨g, k * 2, none⟩))).run Tryz.prog w = .ok (.agg #[strV x.1, strV x.2]) w := by
  have hk := (List.getElem?_eq_some_iff.1 hx).1
  have := run_loadAt_mid (P := Tryz.prog) w g (k * 2) 97 [strV x.1, strV x.2] _ (fun j z hj => by
    have hlt := (List.getElem?_eq_some_iff.1 hj).1
    have hlt : j < 2 := hlt
    rw [h.cellAt _ (by omega), rcells_at _ _ _ hlt, hx]
    exact hj) Tryz.underlying97 rfl (by kernel_rfl)
  simpa using this
end Go.Proofs.YtplafpokgpolkaaGreatDoor
/- MEMBERS SORTED by rising paths, of one path the first one: the law's own sorting, plainly. -/
namespace Go.Proofs.YtplafpokgpolkaaGreatDoor
def insS (out : List Mb) (m : Mb) : List Mb := if (SM.look out m.1).isSome = true then out else SM.put out m
def sortedS (l : List Mb) : List Mb := l.foldl insS []
theorem insS_srt {out : List Mb} (h : SM.Srt out) (m : Mb) : SM.Srt (insS out m) := by
  unfold insS
  split
  · exact h
  · exact h.put m
theorem insS_len {out : List Mb} (h : SM.Srt out) (m : Mb) : (insS out m).length ≤ out.length + 1 := by
  unfold insS
  split
  · omega
  · rw [h.length_put]
    split <;> omega
theorem insS_mem {out : List Mb} {m x : Mb} (h : x ∈ insS out m) : x ∈ out ∨ x = m := by
  unfold insS at h
  split at h
  · exact .inl h
  · rcases SM.mem_put.1 h with h | h
    · exact .inr h
    · exact .inl h.1
theorem foldS (l : List Mb) : ∀ t : List Mb, SM.Srt t → SM.Srt (l.foldl insS t) ∧ (l.foldl insS t).length ≤ t.length + l.length ∧ ∀ x ∈ l.foldl insS t, x ∈ t ∨ x ∈ l := by
  induction l with
  | nil => intro t h; exact ⟨h, Nat.le_refl _, fun x hx => .inl hx⟩
  | cons m l ih =>
    intro t h
    obtain ⟨h1, h2, h3⟩ := ih (insS t m) (insS_srt h m)
    have := insS_len h m
    refine ⟨h1, by rw [List.length_cons, List.foldl_cons]; omega, fun x hx => ?_⟩
    rcases h3 x hx with h4 | h4
    · rcases insS_mem h4 with h5 | h5
      · exact .inl h5
      · exact .inr (by simp [h5])
    · exact .inr (by simp [h4])
theorem sortedS_srt (l : List Mb) : SM.Srt (sortedS l) := (foldS l [] SM.Srt.nil).1
end Go.Proofs.YtplafpokgpolkaaGreatDoor
/- MEMBERS GROWN, plainly: sorted by a stable sort, of one path the first one: as if each were put where it belongs unless its path is there. -/
namespace Go.Proofs.YtplafpokgpolkaaGreatDoor
/-- of neighbours of one path the first one -/
def compK : List Mb → List Mb
  | [] => []
  | [x] => [x]
  | x :: y :: r => if x.1 = y.1 then compK (x :: r) else x :: compK (y :: r)
termination_by l => l.length
theorem look_cons (x : Mb) (L : List Mb) (p : Tx) : SM.look (x :: L) p = if x.1 = p then some x.2 else SM.look L p := by
  unfold SM.look
  by_cases h : x.1 = p
  · rw [List.find?_cons_of_pos (by simpa using h), if_pos h]; rfl
  · rw [List.find?_cons_of_neg (by simpa using h), if_neg h]
theorem look_comp : ∀ (n : Nat) (L : List Mb), L.length ≤ n → ∀ p, SM.look (compK L) p = SM.look L p
  | _, [], _, _ => by unfold compK; rfl
  | _, [x], _, _ => by unfold compK; rfl
  | 0, _ :: _ :: _, h, _ => by simp at h
  | n + 1, x :: y :: r, h, p => by
    have hl : (x :: r).length ≤ n := by simp at h ⊢; omega
    have hl2 : (y :: r).length ≤ n := by simp at h ⊢; omega
    unfold compK
    split
    · rename_i e
      rw [look_comp n (x :: r) hl p, look_cons, look_cons x (y :: r), look_cons y r]
      by_cases hp : x.1 = p
      · rw [if_pos hp, if_pos hp]
      · rw [if_neg hp, if_neg hp, if_neg (fun h2 => hp (e.trans h2))]
    · rw [look_cons, look_cons x (y :: r), look_comp n (y :: r) hl2 p]
theorem comp_sub : ∀ (n : Nat) (L : List Mb), L.length ≤ n → (compK L).Sublist L
  | _, [], _ => by unfold compK; exact List.Sublist.refl _
  | _, [x], _ => by unfold compK; exact List.Sublist.refl _
  | 0, _ :: _ :: _, h => by simp at h
  | n + 1, x :: y :: r, h => by
    have hl : (x :: r).length ≤ n := by simp at h ⊢; omega
    have hl2 : (y :: r).length ≤ n := by simp at h ⊢; omega
    unfold compK
    split
    · exact (comp_sub n (x :: r) hl).trans (List.Sublist.cons_cons x (List.sublist_cons_self y r))
    · exact List.Sublist.cons_cons x (comp_sub n (y :: r) hl2)
theorem comp_srt : ∀ (n : Nat) (L : List Mb), L.length ≤ n → L.Pairwise (fun a b => a.1 ≤ b.1) → SM.Srt (compK L)
  | _, [], _, _ => by unfold compK; exact SM.Srt.nil
  | _, [x], _, _ => by unfold compK; exact List.pairwise_singleton _ _
  | 0, _ :: _ :: _, h, _ => by simp at h
  | n + 1, x :: y :: r, h, hs => by
    have hl : (x :: r).length ≤ n := by simp at h ⊢; omega
    have hl2 : (y :: r).length ≤ n := by simp at h ⊢; omega
    obtain ⟨h1, h2⟩ := List.pairwise_cons.1 hs
    obtain ⟨h3, h4⟩ := List.pairwise_cons.1 h2
    unfold compK
    split
    · exact comp_srt n (x :: r) hl (List.pairwise_cons.2 ⟨fun z hz => h1 z (List.mem_cons_of_mem _ hz), h4⟩)
    · rename_i e
      refine List.pairwise_cons.2 ⟨fun z hz => ?_, comp_srt n (y :: r) hl2 h2⟩
      have hz := (comp_sub n (y :: r) hl2).subset hz
      have hxy : x.1 < y.1 := by
        rcases tx_tri x.1 y.1 with g | g | g
        · exact g
        · exact (e g).elim
        · exact (List.not_le.2 g (h1 y List.mem_cons_self)).elim
      rcases List.mem_cons.1 hz with rfl | hz
      · exact hxy
      · rcases tx_tri y.1 z.1 with g | g | g
        · exact tx_trans hxy g
        · exact g ▸ hxy
        · exact (List.not_le.2 g (h3 z hz)).elim
/-- the stable sort by paths -/
def sortM (L : List Mb) : List Mb := L.mergeSort (leK fun x : Mb => x.1)
theorem sortM_le (L : List Mb) : (sortM L).Pairwise (fun a b => a.1 ≤ b.1) := by
  have := List.pairwise_mergeSort (le := leK fun x : Mb => x.1) (fun a b c h1 h2 => decide_eq_true (List.le_trans (of_decide_eq_true h1) (of_decide_eq_true h2))) (fun a b => by
    rcases List.le_total a.1 b.1 with e | e
    · simp [leK, e]
    · simp [leK, e]) L
  exact List.Pairwise.imp (fun h => of_decide_eq_true h) this
theorem look_sortM (L : List Mb) (p : Tx) : SM.look (sortM L) p = SM.look L p := by
  have h1 : (L.filter fun x => x.1 == p).Sublist (sortM L) := by
    refine List.sublist_mergeSort (le := leK fun x : Mb => x.1) (fun a b c h1 h2 => decide_eq_true (List.le_trans (of_decide_eq_true h1) (of_decide_eq_true h2))) (fun a b => by
      rcases List.le_total a.1 b.1 with e | e
      · simp [leK, e]
      · simp [leK, e]) ?_ List.filter_sublist
    refine List.Pairwise.imp_of_mem (R := fun _ _ => True) (fun {a b} ha hb _ => ?_) (by simp [List.pairwise_iff_getElem])
    have ea : a.1 = p := by simpa using (List.mem_filter.1 ha).2
    have eb : b.1 = p := by simpa using (List.mem_filter.1 hb).2
    show decide (a.1 ≤ b.1) = true
    rw [ea, eb]
    simp
  have h2 : (L.filter fun x => x.1 == p) = (sortM L).filter fun x => x.1 == p := by
    have h3 := h1.filter (fun x => x.1 == p)
    rw [List.filter_filter] at h3
    simp only [Bool.and_self] at h3
    refine h3.eq_of_length ?_
    have := (List.mergeSort_perm L (leK fun x : Mb => x.1)).countP_eq (fun x => x.1 == p)
    rw [List.countP_eq_length_filter, List.countP_eq_length_filter] at this
    exact this.symm
  have h4 : ∀ K : List Mb, SM.look K p = ((K.filter fun x => x.1 == p).head?).map (·.2) := fun K => by
    unfold SM.look
    rw [List.head?_filter]
  rw [h4, h4, h2]
theorem look_app (L K : List Mb) (p : Tx) : SM.look (L ++ K) p = (SM.look L p).or (SM.look K p) := by
  unfold SM.look
  rw [List.find?_append]
  cases L.find? (fun x => x.1 == p) <;> simp
theorem look_insS {out : List Mb} (h : SM.Srt out) (m : Mb) (p : Tx) : SM.look (insS out m) p = (SM.look out p).or (SM.look [m] p) := by
  have h1 : SM.look [m] p = if m.1 = p then some m.2 else none := by rw [look_cons]; rfl
  rw [h1]
  unfold insS
  split
  · rename_i hi
    by_cases e : m.1 = p
    · rw [e] at hi
      obtain ⟨v, hv⟩ := Option.isSome_iff_exists.1 hi
      rw [hv]; rfl
    · rw [if_neg e]; simp
  · rename_i hi
    rw [h.look_put]
    by_cases e : m.1 = p
    · rw [if_pos e.symm, if_pos e]
      have : SM.look out p = none := by
        rw [e] at hi
        cases hx : SM.look out p with
        | none => rfl
        | some v => rw [hx] at hi; exact (hi rfl).elim
      rw [this]; rfl
    · rw [if_neg (fun e2 => e e2.symm), if_neg e]; simp
theorem look_foldS : ∀ (l t : List Mb), SM.Srt t → ∀ p, SM.look (l.foldl insS t) p = (SM.look t p).or (SM.look l p)
  | [], t, _, p => by simp [SM.look]
  | m :: l, t, h, p => by
    rw [List.foldl_cons, look_foldS l (insS t m) (insS_srt h m) p, look_insS h, Option.or_assoc]
    congr 1
    exact (look_app [m] l p).symm
theorem look_sortedS (l : List Mb) (p : Tx) : SM.look (sortedS l) p = SM.look l p := by
  unfold sortedS
  rw [look_foldS l [] SM.Srt.nil p]
  rfl
/-- GROWN -/
theorem comp_sorted (L : List Mb) : compK (sortM L) = sortedS L :=
  (comp_srt _ _ (Nat.le_refl _) (sortM_le L)).ext (sortedS_srt L) (fun p => by rw [look_comp _ _ (Nat.le_refl _), look_sortM, look_sortedS])
end Go.Proofs.YtplafpokgpolkaaGreatDoor
/- slices.CompactFunc, plainly: what differs from what stands ahead of it. -/
namespace Go.Proofs.YtplafpokgpolkaaGreatDoor
section
variable {α : Type} (k : α → Tx)
/-- what stays behind one of key p -/
def keepA (p : Tx) : List α → List α
  | [] => []
  | y :: r => if k y = p then keepA (k y) r else y :: keepA (k y) r
def compA : List α → List α
  | [] => []
  | x :: r => x :: keepA k (k x) r
variable {k}
theorem compA_cons (x : α) (r : List α) : compA k (x :: r) = x :: keepA k (k x) r := rfl
theorem keepA_cons (p : Tx) (y : α) (r : List α) : keepA k p (y :: r) = if k y = p then keepA k (k y) r else y :: keepA k (k y) r := rfl
theorem keepA_snoc : ∀ (l : List α) (p : Tx) (y : α), keepA k p (l ++ [y]) = keepA k p l ++ (if k y = ((l.getLast?.map k).getD p) then [] else [y])
  | [], p, y => by
    rw [List.nil_append, keepA_cons]
    show _ = [] ++ (if k y = p then [] else [y])
    by_cases h : k y = p
    · rw [if_pos h, if_pos h]; rfl
    · rw [if_neg h, if_neg h]; rfl
  | x :: r, p, y => by
    rw [List.cons_append, keepA_cons, keepA_cons]
    have e : (((x :: r).getLast?).map k).getD p = ((r.getLast?).map k).getD (k x) := by
      cases r with
      | nil => rfl
      | cons z s => rw [List.getLast?_cons_cons, List.getLast?_eq_some_getLast (List.cons_ne_nil z s)]; rfl
    rw [keepA_snoc r (k x) y, e]
    split
    · rfl
    · rfl
/-- one more -/
theorem compA_snoc (l : List α) (x y : α) : compA k ((l ++ [x]) ++ [y]) = compA k (l ++ [x]) ++ (if k y = k x then [] else [y]) := by
  cases l with
  | nil => simp [compA, keepA]
  | cons z r =>
    rw [List.cons_append, List.cons_append]
    rw [compA_cons, compA_cons, keepA_snoc, List.getLast?_append]
    rfl
theorem compA_take (l : List α) (j : Nat) (h0 : 0 < j) (hj : j < l.length) : compA k (l.take (j + 1)) = compA k (l.take j) ++ (if k l[j] = k l[j - 1] then [] else [l[j]]) := by
  obtain ⟨i, rfl⟩ : ∃ i, j = i + 1 := ⟨j - 1, by omega⟩
  rw [List.take_succ_eq_append_getElem hj, List.take_succ_eq_append_getElem (i := i) (by omega), compA_snoc]
  rfl
theorem compA_one (l : List α) : compA k (l.take 1) = l.take 1 := by
  cases l with
  | nil => rfl
  | cons x r => rfl
theorem compA_map {β : Type} (f : β → α) (l : List β) : (compA (fun x => k (f x)) l).map f = compA k (l.map f) := by
  have h : ∀ (r : List β) (p : Tx), (keepA (fun x => k (f x)) p r).map f = keepA k p (r.map f) := by
    intro r
    induction r with
    | nil => intro p; rfl
    | cons y r ih =>
      intro p
      rw [List.map_cons, keepA_cons, keepA_cons]
      split
      · exact ih _
      · rw [List.map_cons, ih]
  cases l with
  | nil => rfl
  | cons x r => rw [compA_cons, List.map_cons, List.map_cons, compA_cons, h]
end
/-- of neighbours of one path the first one -/
theorem compA_is : ∀ (n : Nat) (L : List Mb), L.length ≤ n → compA (·.1) L = compK L
  | _, [], _ => by unfold compK; rfl
  | _, [x], _ => by unfold compK; rfl
  | 0, _ :: _ :: _, h => by simp at h
  | n + 1, x :: y :: r, h => by
    have h1 := compA_is n (x :: r) (by simp at h ⊢; omega)
    have h2 := compA_is n (y :: r) (by simp at h ⊢; omega)
    unfold compK
    split
    · rename_i e
      rw [← h1]
      rw [compA_cons, compA_cons, keepA_cons, if_pos e.symm, e]
    · rename_i e
      rw [← h2]
      rw [compA_cons, compA_cons, keepA_cons, if_neg (fun g => e g.symm)]
end Go.Proofs.YtplafpokgpolkaaGreatDoor
/- string(b) of what reads as bytes; []byte of a text that is written out. -/
namespace Go.Proofs.YtplafpokgpolkaaGreatDoor
open Go.RowKit
def ints (l : List UInt8) : List Int := l.map fun c => (c.toNat : Int)
theorem ints_length (l : List UInt8) : (ints l).length = l.length := by simp [ints]
theorem bytesOf_ints (l : List UInt8) : Lib.bytesOf (ints l) = l := by simp [Lib.bytesOf, ints, Function.comp_def]
theorem Reads.bytesIn {w : World} {N : Nat → Prop} {p : Option Addr} {n c : Nat} {l : List UInt8} (h : Reads w N (.slice p n c) l) : n = l.length ∧ Lib.BytesIn w p n (ints l) := by
  obtain ⟨⟨a, cap, he, h1, h2, h3⟩, hc⟩ := h
  injection he with e1 e2 e3; subst e1 e2 e3
  refine ⟨rfl, fun hn => ?_⟩
  rcases h3 with h3 | ⟨b, off, rfl, _⟩
  · omega
  · refine ⟨b, off, rfl, fun i hi => ?_⟩
    rw [hc b off _ _ rfl i hi]
    simp [ints, List.getD_eq_getElem?_getD, hi]
/-- []byte of a text that is written out: the row that the walk leaves -/
theorem Reads.lit {w : World} (e : TypeId) (c : Array Value) (l : List UInt8) (fr : Nat × Nat) (g n : Nat) (hg : g = w.heap.size) (hc : c = (bcells l).toArray) (hn : n = l.length) (hm : l.length ≤ maxLen) : Reads (w.alloc (.cells c e fr)) (fun b => b = w.heap.size) (.slice (some ⟨g, 0, none⟩) n n) l := by
  subst hg hc hn
  refine ⟨⟨_, _, rfl, Nat.le_refl _, hm, .inr ⟨_, _, rfl, rfl⟩⟩, fun b off m cap he j hj => ?_⟩
  injection he with e1 _ _; injection e1 with e1; injection e1 with e1 e2 _; subst e1 e2
  rw [World.cell?_alloc_mark, Nat.zero_add]
  simpa using bcells_get l j hj
end Go.Proofs.YtplafpokgpolkaaGreatDoor
/- []byte(s) OF ANY TEXT: the capacity that is drawn stays hidden. -/
namespace Go.Proofs.YtplafpokgpolkaaGreatDoor
open Go.RowKit
theorem convS (l : List UInt8) (n : Nat) (hn : l.length = n) (hl : l.length ≤ maxLen) : ∃ cf : World → Nat, ∃ rf : World → Array Value, ∃ mf : World → Nat × Nat,
    (∀ w, (convert 9 28 (.string ⟨l.toArray⟩)).run Tryz.prog w = .ok (.slice (some ⟨w.heap.size, 0, none⟩) n (cf w)) (w.drew.alloc (.cells (rf w) 5 (mf w)))) ∧
    (∀ w, Reads (w.drew.alloc (.cells (rf w) 5 (mf w))) (fun b => b = w.heap.size) (.slice (some ⟨w.heap.size, 0, none⟩) n (cf w)) l) := by
  subst hn
  have hsz : (⟨l.toArray⟩ : ByteArray).size = l.length := by simp [ByteArray.size]
  refine ⟨fun w => grownCap w l.length 0 5, fun w => bytesRow ⟨l.toArray⟩ (grownCap w l.length 0 5), fun w => ((bytesRow ⟨l.toArray⟩ (grownCap w l.length 0 5)).size, (bytesRow ⟨l.toArray⟩ (grownCap w l.length 0 5)).size + 1), fun w => ?_, fun w => ?_⟩
  · have := run_bytes_of_string (P := Tryz.prog) w 9 28 5 ⟨l.toArray⟩ Tryz.underlying9 Tryz.underlying28 Tryz.underlying5
    rw [hsz] at this
    exact this
  · refine ⟨⟨_, _, rfl, grownCap_ge _ _ _ _, grownCap_le_maxLen _ _ _ _ hl, .inr ⟨_, _, rfl, rfl⟩⟩, fun b off m cap he j hj => ?_⟩
    injection he with e1 _ _; injection e1 with e1; injection e1 with e1 e2 _; subst e1 e2
    rw [show w.heap.size = w.drew.heap.size from rfl, World.cell?_alloc_mark, Nat.zero_add]
    have h2 : j < (bytesRow ⟨l.toArray⟩ (grownCap w l.length 0 5)).size := by simp [bytesRow]; omega
    simp [bytesRow, Array.getElem?_append, hj]
end Go.Proofs.YtplafpokgpolkaaGreatDoor
/- portolanlaw19: dir, file, paths; what stands while it is gone on. -/
namespace Go.Proofs.YtplafpokgpolkaaGreatDoor
open Go.RowKit
/-- a tree at hand -/
def TrL (w : World) (T : Nat) (t : List Mb) : Prop := ∃ mb Bk f, TreeIn w T mb Bk f t ∧ ∀ b, Bk b → b < w.heap.size
theorem TrL.on {w w' : World} {T : Nat} {t : List Mb} (h : TrL w T t) (hb : Below w.heap.size w w') : TrL w' T t := by
  obtain ⟨mb, Bk, f, h1, h2⟩ := h
  exact ⟨mb, Bk, f, h1.loc (fun b hb' => hb.block b (by
    rcases hb' with rfl | rfl | h
    · exact h1.row.lt
    · exact h1.map.lt
    · exact h2 b h)), fun b hb' => Nat.lt_of_lt_of_le (h2 b hb') hb.size⟩
theorem TrL.ofNew {w w' : World} {pv : Value} {t : List Mb} (h : NewIs w w' pv (some t)) : ∃ T, pv = .pointer (some ⟨T, 0, none⟩) ∧ TrL w' T t := by
  obtain ⟨T, mb, Bk, f, he, h1, h2⟩ := h
  exact ⟨T, he, mb, Bk, f, h1, fun b hb => (h2.2.2 b hb).2⟩
def NdL (w : World) (n : Nd) (av dv : Value) : Prop := NdR w (· < w.heap.size) n av dv
theorem NdL.on {w w' : World} {n : Nd} {av dv : Value} (h : NdL w n av dv) (hb : Below w.heap.size w w') : NdL w' n av dv := (h.below hb (fun _ hb => hb)).mono (fun _ hb' => Nat.lt_of_lt_of_le hb' hb.size)
def MbL (w : World) (v : Value) (l : List Mv) : Prop := Mbs w (· < w.heap.size) (· < w.heap.size) v l
theorem MbL.on {w w' : World} {v : Value} {l : List Mv} (h : MbL w v l) (hb : Below w.heap.size w w') : MbL w' v l := (Mbs.below h hb (fun _ hb => hb) (fun _ hb => hb)).mono (fun _ hb' => Nat.lt_of_lt_of_le hb' hb.size) (fun _ hb' => Nat.lt_of_lt_of_le hb' hb.size)
theorem MbL.ofRow {w : World} {v : Value} {l : List Mv} {B : Nat} {K : Nat → Prop} (h : RowM B K w v l) : MbL w v l := h.mbs.mono (fun _ hb => hb.2) (fun _ hb => hb.2.1)
theorem RdS.on' {w w' : World} {v : Value} {l : List Tx} (h : RdS w (· < w.heap.size) v l) (hb : Below w.heap.size w w') : RdS w' (· < w'.heap.size) v l := (RdV.below h hb (fun _ hb => hb)).mono (fun _ hb' => Nat.lt_of_lt_of_le hb' hb.size)
theorem OwnS.rd' {w : World} {B : Nat} {v : Value} {l : List Tx} (h : OwnS w B v l) : RdS w (· < w.heap.size) v l := (ownsV_reads h).mono (fun _ hb => hb.2.1)
def dirM (mode : Int) : Nd := ⟨1, mode, 0, 0, 0, [], [], []⟩
def fileD (d : Tx) : Nd := ⟨2, 0, 0, 0, 0, [], d, []⟩
theorem dirL (w : World) (mode : Int) : NdL w (dirM mode) nilV nilV := ndR_nil rfl rfl
theorem sm_dirM (p : Tx) (mode : Int) (hp : p.length ≤ 400000) : Sm (p, dirM mode) := ⟨hp, by simp [dirM], by simp [dirM], by simp [dirM], fun x hx => by simp [dirM] at hx, by simp [dirM]⟩
theorem sm_fileD (p d : Tx) (hp : p.length ≤ 400000) (hd : d.length ≤ 1000) : Sm (p, fileD d) := ⟨hp, by simp [fileD], by simp [fileD]; omega, by simp [fileD], fun x hx => by simp [fileD] at hx, by simp [fileD]⟩
set_option maxHeartbeats 1000000 in
set_option maxRecDepth 100000 in
theorem dir_any (p : Tx) (mode : Int) (w : World) : Calls Tryz.prog 9 #[.string ⟨p.toArray⟩, .int .u32 mode] w fun e w' => e = .returned (.agg #[.string ⟨p.toArray⟩, .int .i64 1, .int .u32 mode, .int .u32 0, .int .u32 0, .int .i64 0, .slice none 0 0, .slice none 0 0, .string ⟨#[]⟩]) ∧ Below w.heap.size w w' := by
  have hb1 : ∀ w, (Instr.build 30 #[(0, .int .i64 1), (1, .int .u32 mode)]).run Tryz.prog w = .ok (.agg #[.int .i64 1, .int .u32 mode, .int .u32 0, .int .u32 0, .int .i64 0, .slice none 0 0, .slice none 0 0, .string ⟨#[]⟩]) w := fun w => by kernel_rfl
  have hb3 : ∀ w, (Instr.build 32 #[(0, .string ⟨p.toArray⟩), (1, .agg #[.int .i64 1, .int .u32 mode, .int .u32 0, .int .u32 0, .int .i64 0, .slice none 0 0, .slice none 0 0, .string ⟨#[]⟩])]).run Tryz.prog w = .ok (.agg #[.string ⟨p.toArray⟩, .int .i64 1, .int .u32 mode, .int .u32 0, .int .u32 0, .int .i64 0, .slice none 0 0, .slice none 0 0, .string ⟨#[]⟩]) w := fun w => buildM (p, dirM mode) nilV nilV w
  have HX : Keep (mbC (p, dirM mode) nilV nilV = #[.string ⟨p.toArray⟩, .int .i64 1, .int .u32 mode, .int .u32 0, .int .u32 0, .int .i64 0, .slice none 0 0, .slice none 0 0, .string ⟨#[]⟩]) := ⟨rfl⟩
  have HZ : Keep ((#[.string ⟨#[]⟩, .int .i64 0, .int .u32 0, .int .u32 0, .int .u32 0, .int .i64 0, .slice none 0 0, .slice none 0 0, .string ⟨#[]⟩] : Array Value).size = 9) := ⟨rfl⟩
  have HSZ : Keep ((#[.string ⟨p.toArray⟩, .int .i64 1, .int .u32 mode, .int .u32 0, .int .u32 0, .int .i64 0, .slice none 0 0, .slice none 0 0, .string ⟨#[]⟩] : Array Value).size = 9) := ⟨rfl⟩
  have HON : Keep ((#[.string ⟨p.toArray⟩, .int .i64 1, .int .u32 mode, .int .u32 0, .int .u32 0, .int .i64 0, .slice none 0 0, .slice none 0 0, .string ⟨#[]⟩] : Array Value).all (·.oneCell') = true) := ⟨by simp [Value.oneCell']⟩
  go_enter Tryz.func9, Tryz.ntmps9
  go_upto_region 1 with fail
  refine wp_world (R := fun w1 => Hp NoM w w1 [rowA w.heap.size 32 #[.string ⟨#[]⟩, .int .i64 0, .int .u32 0, .int .u32 0, .int .u32 0, .int .i64 0, .slice none 0 0, .slice none 0 0, .string ⟨#[]⟩]]) ((Hp.begin NoM w).newRow _ _) ?_
  intro w1 H1
  have HRW := Keep.keep (H1.out.row 0 rfl)
  have HB := Keep.keep ((Chg.of_below (M := NoM) H1.out.below))
  go_wp2_with ((with_reducible refine arm_storeRow HRW.out aggM HZ.out HSZ.out HON.out ?_ ?_ ?_); (focus rfl); (focus rfl); simp only [Act.put])
  exact bodyPost_ret (results_row (p := 4) (ty := 32) rfl (HRW.out.setRow _) aggM HSZ.out rfl) rfl ⟨rfl, (HB.out.setRow (.inl (Nat.le_refl _)) _).below (fun _ _ h => h)⟩
set_option maxHeartbeats 1000000 in
set_option maxRecDepth 100000 in
theorem file_any0 (p data : Tx) (hd : data.length ≤ 1000) (w : World) : Calls Tryz.prog 10 #[.string ⟨p.toArray⟩, .string ⟨data.toArray⟩] w fun e w' => ∃ dv, e = .returned (.agg (mbC (p, fileD data) nilV dv)) ∧ NdR w' (Fresh w.heap.size w') (fileD data) nilV dv ∧ Below w.heap.size w w' := by
  obtain ⟨n, hn⟩ : ∃ n, data.length = n := ⟨_, rfl⟩
  obtain ⟨cf, rf, mf, hcv, hcr⟩ := convS data n hn (by unfold maxLen; omega)
  have HCR := Keep.keep hcr
  have hb1 : ∀ a n c w, (Instr.build 30 #[(0, .int .i64 2), (6, .slice a n c)]).run Tryz.prog w = .ok (.agg #[.int .i64 2, .int .u32 0, .int .u32 0, .int .u32 0, .int .i64 0, .slice none 0 0, .slice a n c, .string ⟨#[]⟩]) w := fun a n c w => by kernel_rfl
  have hb3 : ∀ a n c w, (Instr.build 32 #[(0, .string ⟨p.toArray⟩), (1, .agg #[.int .i64 2, .int .u32 0, .int .u32 0, .int .u32 0, .int .i64 0, .slice none 0 0, .slice a n c, .string ⟨#[]⟩])]).run Tryz.prog w = .ok (.agg #[.string ⟨p.toArray⟩, .int .i64 2, .int .u32 0, .int .u32 0, .int .u32 0, .int .i64 0, .slice none 0 0, .slice a n c, .string ⟨#[]⟩]) w := fun a n c w => buildM (p, fileD data) nilV (.slice a n c) w
  have HZ : Keep ((#[.string ⟨#[]⟩, .int .i64 0, .int .u32 0, .int .u32 0, .int .u32 0, .int .i64 0, .slice none 0 0, .slice none 0 0, .string ⟨#[]⟩] : Array Value).size = 9) := ⟨rfl⟩
  have HX : Keep (∀ a n c, mbC (p, fileD data) nilV (.slice a n c) = #[.string ⟨p.toArray⟩, .int .i64 2, .int .u32 0, .int .u32 0, .int .u32 0, .int .i64 0, .slice none 0 0, .slice a n c, .string ⟨#[]⟩]) := ⟨fun _ _ _ => rfl⟩
  clear hcr hn hd
  go_enter Tryz.func10, Tryz.ntmps10
  go_upto_region 1 with fail
  refine wp_world (R := fun w1 => Hp NoM w w1 [rowA w.heap.size 32 #[.string ⟨#[]⟩, .int .i64 0, .int .u32 0, .int .u32 0, .int .u32 0, .int .i64 0, .slice none 0 0, .slice none 0 0, .string ⟨#[]⟩]]) ((Hp.begin NoM w).newRow _ _) ?_
  intro w1 H1
  obtain ⟨b0, hb0⟩ : ∃ b, w.heap.size = b := ⟨_, rfl⟩
  have HB0 := Keep.keep hb0
  rw [hb0] at H1 ⊢
  clear hb0
  go_wp2_with (with_reducible refine arm_sSt ?_)
  refine StM.out ?_
  refine wpList_world (R := fun w2 => Hp NoM w w2 [rowA b0 32 #[.string ⟨#[]⟩, .int .i64 0, .int .u32 0, .int .u32 0, .int .u32 0, .int .i64 0, .slice none 0 0, .slice none 0 0, .string ⟨#[]⟩]] ∧ Reads w2 (fun b => b = w1.heap.size) (.slice (some ⟨w1.heap.size, 0, none⟩) n (cf w1)) data ∧ w1.heap.size < w2.heap.size) ⟨H1.out.call (((Below.refl w1.heap.size w1).drew).alloc (Nat.le_refl _) _), HCR.out w1, Nat.lt_of_lt_of_le (Nat.lt_succ_self w1.heap.size) (Nat.le_of_eq (World.size_alloc w1 _).symm)⟩ ?_
  intro w2 H2
  obtain ⟨b7, hb7⟩ : ∃ b, w1.heap.size = b := ⟨_, rfl⟩
  have hs1 := (H1.out.row 0 rfl).lt
  have hsw := H1.out.size
  have HHB := Keep.keep HB0.out
  rw [hb7] at H2 hs1 hsw ⊢
  generalize cf w1 = c7 at *
  clear hb7 hcv H1 hb1 hb3
  have HRW := Keep.keep (H2.out.1.row 0 rfl)
  have HSZ : Keep ((#[.string ⟨p.toArray⟩, .int .i64 2, .int .u32 0, .int .u32 0, .int .u32 0, .int .i64 0, .slice none 0 0, .slice (some ⟨b7, 0, none⟩) n c7, .string ⟨#[]⟩] : Array Value).size = 9) := ⟨rfl⟩
  have HON : Keep ((#[.string ⟨p.toArray⟩, .int .i64 2, .int .u32 0, .int .u32 0, .int .u32 0, .int .i64 0, .slice none 0 0, .slice (some ⟨b7, 0, none⟩) n c7, .string ⟨#[]⟩] : Array Value).all (·.oneCell') = true) := ⟨by simp [Value.oneCell']⟩
  refine arm_storeRow HRW.out aggM HZ.out HSZ.out HON.out rfl rfl ?_
  simp only [Act.put]
  go_wp2_with fail
  have hch : Chg (fun k => k = b0) w2.heap.size w2 (w2.setRow b0 #[.string ⟨p.toArray⟩, .int .i64 2, .int .u32 0, .int .u32 0, .int .u32 0, .int .i64 0, .slice none 0 0, .slice (some ⟨b7, 0, none⟩) n c7, .string ⟨#[]⟩]) := Chg.setRow (M := fun k => k = b0) (.refl _ _ _) (.inr rfl) _
  refine bodyPost_ret (results_row (p := 4) (ty := 32) rfl (HRW.out.setRow _) aggM HSZ.out rfl) rfl ⟨.slice (some ⟨b7, 0, none⟩) n c7, rfl, ⟨RdV.ofNil, ?_⟩, ?_⟩
  · exact (H2.out.2.1.chg hch (fun b e => by subst e; exact ⟨H2.out.2.2, by omega⟩)).mono (fun b e => by subst e; exact ⟨by have := HB0.out; omega, by have := hch.size; have := H2.out.2.2; omega⟩)
  · exact ((Chg.of_below (M := NoM) H2.out.1.below).setRow (.inl (by have := HB0.out; omega)) _).below (fun _ _ h => h)
theorem file_any (p data : Tx) (n : Nat) (hn : data.length = n) (hd : n ≤ 1000) (w : World) : Calls Tryz.prog 10 #[.string ⟨p.toArray⟩, .string ⟨data.toArray⟩] w fun e w' => ∃ a c, e = .returned (.agg #[.string ⟨p.toArray⟩, .int .i64 2, .int .u32 0, .int .u32 0, .int .u32 0, .int .i64 0, .slice none 0 0, .slice a n c, .string ⟨#[]⟩]) ∧ NdL w' (fileD data) nilV (.slice a n c) ∧ Below w.heap.size w w' := by
  refine (file_any0 p data (by omega) w).mono ?_
  rintro e w' ⟨dv, rfl, hn', hb⟩
  obtain ⟨a, c, he, -⟩ := hn'.dt.shape
  have he : dv = .slice a n c := by rw [he, ← hn]; rfl
  subst he
  exact ⟨a, c, rfl, hn'.mono (fun _ h => h.2), hb⟩
/-- what a row of one's own grows by -/
theorem own_chg {base k n : Nat} {e : TypeId} {w w' : World} {v : Value} {vs : List Value} (h : w.ownsRow base e k v n vs) (hB : base ≤ w.heap.size) (hg : w.grownBy w' v.ownBlock) : Below base w w' :=
  (Chg.grown (M := NoM) (.refl _ _ _) hg hB (fun k e => .inl (ownsV_lt h k e).1)).below (fun _ _ h => h)
set_option maxHeartbeats 1000000 in
set_option maxRecDepth 100000 in
theorem paths_any {w : World} {T : Nat} {L : List Mb} (h : TrL w T L) (hL : L.length ≤ 100000) :
    Calls Tryz.prog 14 #[.pointer (some ⟨T, 0, none⟩)] w fun e w' => ∃ v, e = .returned v ∧ OwnS w' w.heap.size v (L.map (·.1)) ∧ Below w.heap.size w w' := by
  obtain ⟨mb, Bk, f, hti, hBk⟩ := h
  have HA := Keep.keep (all_own T mb Bk f L w hL hti ⟨hti.row.lt, hti.map.lt, hBk⟩)
  clear hti
  go_enter Tryz.func14, Tryz.ntmps14
  go_wp2_with fail
  refine HA.out.mono ?_
  rintro e w1 ⟨v1, l, rfl, hl, ho, hb1⟩
  have HB1 := Keep.keep hb1
  have HM : Keep (MbL w1 v1 l) := ⟨MbL.ofRow (RowM.ofOwn ho NoM)⟩
  obtain ⟨a, cap, hv, hcap, hmx, h3⟩ := HM.out.rd.shape
  have H3 := Keep.keep h3
  unfold maxLen at hmx
  have hll : l.length ≤ 100000 := by rw [← hl, List.length_map] at hL; exact hL
  have HLL : Keep (L = l.map (·.1)) := ⟨hl.symm⟩
  clear ho hb1 HA h3 hl hL
  subst hv
  go_wp2_with fail
  go_loopg [3, 9] l.length (fun g u3 u9 wx => ∃ (k : Nat), k + g = l.length ∧ u9 = .int .i64 (k : Int) ∧ wx.ownsRow w1.heap.size 9 1 u3 k (((l.take k).map (·.1.1)).map strV) ∧ Below w1.heap.size w1 wx)
  case atStart => exact ⟨0, by omega, rfl, World.ownsRow_nil _ _ _ _, Below.refl _ _⟩
  case round =>
    obtain ⟨k, hkg, rfl, hown, hb⟩ := hrel
    have HO := Keep.keep hown; have HB := Keep.keep hb
    obtain ⟨a3, c3, hv3, -⟩ := (ownsV_reads hown).shape
    clear hown hb
    subst hv3
    cases gk with
    | zero =>
      obtain rfl : k = l.length := by omega
      have HF : Keep (L.map (·.1) = (l.take l.length).map (·.1.1)) := ⟨by rw [HLL.out, List.take_length, List.map_map]; rfl⟩
      go_wp2_with fail
      go_ret
      refine ⟨_, rfl, ?_, HB1.out.trans (HB.out.mono HB1.out.size)⟩
      rw [HF.out]
      unfold OwnS
      rw [List.length_map, List.length_take, Nat.min_self]
      exact ownsV_mono HO.out HB1.out.size
    | succ g =>
      have hk : k < l.length := by omega
      obtain ⟨b, off, rfl, hbl⟩ : ∃ b off, a = some ⟨b, off, none⟩ ∧ b < w1.heap.size := by
        rcases H3.out with h | ⟨b, off, h, hb⟩
        · omega
        · exact ⟨b, off, h, hb⟩
      have hrx := Mbs.below (w' := wr) HM.out HB.out (fun b hb => hb) (fun b hb => hb)
      have hld := hrx.load hk
      have HND := Keep.keep (hrx.nd l[k] (List.getElem_mem hk))
      have HTK : Keep (((l.take (k + 1)).map (·.1.1)).map strV = ((l.take k).map (·.1.1)).map strV ++ [strV l[k].1.1]) := ⟨by
        rw [List.take_succ_eq_append_getElem hk, List.map_append, List.map_append]; rfl⟩
      clear hrx
      generalize l[k] = x at *
      obtain ⟨⟨xp, ⟨kind, mode, uid, gid, time, attrs, data, link⟩⟩, av, dv⟩ := x
      obtain ⟨aa, la, ca, ad, ld, cd, e1, e2⟩ := HND.out.shape
      dsimp only at e1 e2 HTK
      subst e1 e2
      have HMC : Keep (mcell ((xp, ⟨kind, mode, uid, gid, time, attrs, data, link⟩), .slice aa la ca, .slice ad ld cd) = #[.string ⟨xp.toArray⟩, .int .i64 kind, .int .u32 mode, .int .u32 uid, .int .u32 gid, .int .i64 time, .slice aa la ca, .slice ad ld cd, .string ⟨link.toArray⟩]) := ⟨rfl⟩
      rw [HMC.out] at hld
      go_upto_region 5 with ((with_reducible refine arm_loadM hld ?_ ?_); (focus rfl); simp only [Act.put, List.setIfInBounds_toArray, List.set_cons_succ, List.set_cons_zero])
      refine wp_world (R := fun wq => Hp NoM wr wq [rowA wr.heap.size 32 #[.string ⟨xp.toArray⟩, .int .i64 kind, .int .u32 mode, .int .u32 uid, .int .u32 gid, .int .i64 time, .slice aa la ca, .slice ad ld cd, .string ⟨link.toArray⟩]]) ((Hp.begin NoM wr).newRow _ _) ?_
      intro w2 H2
      obtain ⟨b5, hb5⟩ : ∃ b5, wr.heap.size = b5 := ⟨_, rfl⟩
      have HB5 := Keep.keep hb5
      have HB2 := Keep.keep H2.out.below
      rw [hb5] at H2 ⊢
      have c50 := (H2.out.row 0 rfl).cell (i := 0) rfl
      clear hld hb5
      go_wp2_with (with_reducible refine arm_stop ?_)
      refine Stopped.out ?_
      have hal : Below w2.heap.size w2 (w2.alloc (.cells #[.string ⟨xp.toArray⟩] 9)) := (Below.refl _ _).alloc (Nat.le_refl _) _
      have hbA : Below wr.heap.size wr (w2.alloc (.cells #[.string ⟨xp.toArray⟩] 9)) := HB2.out.trans (hal.mono HB2.out.size)
      have hoA := ownsRow_loc _ _ (fun b hb => hbA.block b (ownsV_lt HO.out b hb).2) HO.out
      have hws := HB.out.size
      have hwA := hbA.size
      refine arm_appendV slS hoA (RdV.new (N := fun _ => True) 9 [strV xp] 1 1 _ rfl rfl (by unfold maxLen; omega) trivial) (by simp [Value.oneCell', strV]) (by unfold maxLen; omega) (by omega) (by omega) rfl rfl ?_
      intro v4 w4 ho hg hov _
      obtain ⟨a4, c4, hv4, -⟩ := (ownsV_reads ho).shape
      have HO4 : Keep (w4.ownsRow w1.heap.size 9 1 v4 (k + 1) (((l.take (k + 1)).map (·.1.1)).map strV)) := ⟨by rw [HTK.out]; exact ho⟩
      have HB4 : Keep (Below w1.heap.size w1 w4) := ⟨(HB.out.trans (hbA.mono hws)).trans (own_chg hoA (by omega) hg)⟩
      clear ho hg hov hal hbA hoA HB2 H2 c50
      subst hv4
      simp only [Act.put, List.setIfInBounds_toArray, List.set_cons_succ, List.set_cons_zero]
      go_wp2_with fail
      go_roundg g
      case measure => omega
      case rel => exact ⟨k + 1, by omega, by simp, HO4.out, HB4.out⟩
end Go.Proofs.YtplafpokgpolkaaGreatDoor
/- portolanlaw19.Grown, plainly. -/
namespace Go.Proofs.YtplafpokgpolkaaGreatDoor
/-- the Dirs that stand above -/
def abvM (m : Mb) : List Mb := (aboveP m.1).map fun p => (p, dirM 493)
def grown19 (l : List Mb) : List Mb := sortedS (few19 l ++ (few19 l).flatMap abvM)
theorem cut19_idem (m : Mb) : cut19 (cut19 m) = cut19 m := by
  obtain ⟨p, ⟨kind, mode, uid, gid, time, attrs, data, link⟩⟩ := m
  unfold cut19
  simp only [shortS_idem, List.take_take, Nat.min_self]
  congr 2
  rw [← List.map_take, List.take_take, Nat.min_self, List.map_map]
  refine List.map_congr_left fun x _ => ?_
  simp [cutB, List.take_take]
theorem few19_idem (l : List Mb) : few19 (few19 l) = few19 l := by
  unfold few19
  rw [← List.map_take, List.take_take, Nat.min_self, List.map_map]
  exact List.map_congr_left fun x _ => cut19_idem x
theorem aboveP_cnt (p : Tx) : (aboveP p).length = p.countP (· == 47) := by
  have h1 : p = (List.range p.length).map fun i => p.getD i 0 := by
    apply List.ext_getElem
    · simp
    · intro i h1 h2
      simp [h1]
  unfold aboveP
  rw [List.length_filterMap_eq_countP]
  conv => rhs; rw [h1]
  rw [List.countP_map]
  refine List.countP_congr fun i hi => ?_
  have hi := List.mem_range.1 hi
  simp only [Function.comp_apply, List.getD_eq_getElem?_getD, List.getElem?_eq_getElem hi, Option.getD_some, Option.some.injEq]
  by_cases e : p[i] = 47 <;> simp [e]
theorem few19_abv {l : List Mb} {m : Mb} (hm : m ∈ few19 l) : (aboveP m.1).length ≤ 19 := by
  obtain ⟨y, hy, rfl⟩ := List.mem_map.1 hm
  rw [aboveP_cnt]
  have := shortS_cnt y.1
  show (shortS y.1).countP _ ≤ 19
  omega
theorem flatA_len {S : List Mb} (h : ∀ m ∈ S, (aboveP m.1).length ≤ 19) : (S.flatMap abvM).length ≤ S.length * 19 := by
  induction S with
  | nil => simp
  | cons x S ih =>
    rw [List.flatMap_cons, List.length_append, List.length_cons]
    have h1 := ih (fun m hm => h m (List.mem_cons_of_mem _ hm))
    have h2 := h x List.mem_cons_self
    have h3 : (abvM x).length = (aboveP x.1).length := by unfold abvM; simp
    omega
theorem above_len (p q : Tx) (h : q ∈ aboveP p) : q.length ≤ p.length := by
  unfold aboveP at h
  obtain ⟨i, hi, e⟩ := List.mem_filterMap.1 h
  split at e
  · injection e with e
    rw [← e]
    exact List.length_take_le' _ _
  · cases e
/-- sorted, of one path the first one -/
theorem comp_map {l : List Mv} : (compA (fun x : Mv => x.1.1) (l.mergeSort (leK (fun x => x.1.1)))).map (·.1) = sortedS (l.map (·.1)) := by
  rw [compA_map (k := fun x : Mb => x.1) (fun x : Mv => x.1), compA_is _ _ (Nat.le_refl _), ← comp_sorted]
  congr 1
  unfold sortM
  exact List.map_mergeSort (fun a _ b _ => rfl)
theorem sortedS_sub (L : List Mb) : (sortedS L).length ≤ L.length ∧ ∀ x ∈ sortedS L, x ∈ L := by
  rw [← comp_sorted]
  refine ⟨Nat.le_trans (comp_sub _ _ (Nat.le_refl _)).length_le (by unfold sortM; rw [List.length_mergeSort]; exact Nat.le_refl _), fun x hx => ?_⟩
  have h := (comp_sub _ _ (Nat.le_refl _)).subset hx
  exact List.mem_mergeSort.1 h
theorem grown19_len (l : List Mb) : (grown19 l).length ≤ 280 := by
  unfold grown19
  refine Nat.le_trans (sortedS_sub _).1 ?_
  rw [List.length_append]
  have h1 := few19_len l
  have h2 := flatA_len (S := few19 l) (fun m hm => few19_abv hm)
  omega
theorem grown19_sm {l : List Mb} (h : ∀ x ∈ l, Kb x) : ∀ x ∈ grown19 l, Sm x := fun x hx => by
  have hx := (sortedS_sub _).2 x hx
  rcases List.mem_append.1 hx with hx | hx
  · exact few19_sm h x hx
  · obtain ⟨m, hm, hx⟩ := List.mem_flatMap.1 hx
    obtain ⟨p, hp, rfl⟩ := List.mem_map.1 hx
    exact sm_dirM _ _ (Nat.le_trans (above_len _ _ hp) (few19_sm h m hm).p)
end Go.Proofs.YtplafpokgpolkaaGreatDoor
