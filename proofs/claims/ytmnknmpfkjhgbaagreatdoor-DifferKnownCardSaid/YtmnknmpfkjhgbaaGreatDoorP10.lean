/- PARTS OF ONE PROOF, set in one file: TreeLaw, TreeWellL, DifL, DifM, DifT, DifN, DifP. Each part tells its own conditions. -/
import Derived.Test.YtmnknmpfkjhgbaaGreatDoorP9
/- TREES, plainly: what stays so under calls; whose parent, what is under. -/
namespace Go.Proofs.YtmnknmpfkjhgbaaGreatDoor
theorem class_one {p : Tx} (h : (classP p).1 = 1) : mayP p = true ∧ p ≠ [] := by
  have h0 : p ≠ [] := by
    rintro rfl
    rw [kn_c4] at h; cases h
  by_cases ht : (p == tableB) = true
  · have : p = tableB := by simpa using ht
    subst this
    rw [kn_c5] at h; cases h
  · obtain ⟨init, base, _, hb, hc⟩ := split_parts h0
    rw [class_ref h0 (by simpa using ht) hb hc] at h
    unfold refC at h
    split at h
    · unfold refF at h
      split at h
      · cases h
      · rename_i hn
        unfold refT at h hn
        split at h
        · rename_i hm
          rw [if_pos hm] at hn
          exact ⟨by simpa using hn, h0⟩
        · split at h
          · cases h
          · split at h <;> cases h
    · cases h
theorem parent_lt {q : Tx} (h0 : q ≠ []) : (parentP q).length < q.length := by
  rcases path_cases q with ⟨_, _, hp, _⟩ | ⟨e, b, rfl, _, _, _, hp⟩
  · rw [hp]; exact List.length_pos_iff.2 h0
  · rw [hp]; simp
theorem under_len {d q : Tx} (h : underP d q = true) : d.length < q.length := by
  unfold underP at h
  by_cases hd : d = []
  · subst hd
    simp at h
    exact List.length_pos_iff.2 h
  · simp [hd] at h
    have := h.2.length_le
    simp at this; omega
theorem under_rec {q d : Tx} (hq : mayP q = true) (h0 : q ≠ []) : underP d q = (parentP q == d || underP d (parentP q)) := by
  rcases path_cases q with ⟨_, _, hp, hns⟩ | ⟨e, b, rfl, hb, _, _, hp⟩
  · rw [hp]
    by_cases hd : d = []
    · subst hd; rw [under_nil]; simp [h0]
    · have h1 : underP d q = false := by
        rw [Bool.eq_false_iff]; intro h
        unfold underP at h
        simp [hd] at h
        obtain ⟨r, hr⟩ := h.2
        exact hns 47 (by rw [← hr]; simp) rfl
      have h2 : underP d [] = false := rfl
      rw [h1, h2]
      simpa using hd
  · rw [hp]
    have he : e ≠ [] := may_dir hb hq
    by_cases hd : d = []
    · subst hd; rw [under_nil, under_nil]; simp [he]
    · have key : (d ++ [47] <+: e ++ 47 :: b) ↔ e = d ∨ d ++ [47] <+: e := by
        constructor
        · rintro ⟨r, hr⟩
          have hr : d ++ (47 :: r) = e ++ 47 :: b := by simpa using hr
          rcases List.append_eq_append_iff.1 hr with ⟨a, h1, h2⟩ | ⟨a, h1, h2⟩
          · cases a with
            | nil => exact .inl (by simpa using h1)
            | cons x t =>
              simp at h2
              obtain ⟨rfl, _⟩ := h2
              exact .inr ⟨t, by rw [h1]; simp⟩
          · cases a with
            | nil => exact .inl (by simpa using h1.symm)
            | cons x t =>
              simp at h2
              exact (hb 47 (by rw [h2.2]; simp) rfl).elim
        · rintro (rfl | ⟨r, hr⟩)
          · exact ⟨b, by simp⟩
          · exact ⟨r ++ 47 :: b, by rw [← hr]; simp⟩
      unfold underP
      rw [Bool.eq_iff_iff]
      simp [hd, he, key]
theorem under_parent {q : Tx} (hq : mayP q = true) (h0 : q ≠ []) : underP (parentP q) q = true := by rw [under_rec hq h0]; simp
theorem path_join {q : Tx} (hq : mayP q = true) (h0 : q ≠ []) : q = if parentP q = [] then baseP q else parentP q ++ 47 :: baseP q := by
  rcases path_cases q with ⟨_, hb, hp, _⟩ | ⟨e, b, rfl, hb, _, hb2, hp⟩
  · rw [hp, hb, if_pos rfl]
  · rw [hp, hb2, if_neg (may_dir hb hq)]
/-- WHAT STAYS SO of a tree -/
structure WellL (L : List Mb) : Prop where
  s : SM.Srt L
  m : ∀ x ∈ L, mayM x = true
  p : ∀ x ∈ L, dirT L (parentP x.1) = true
theorem mayM_path {x : Mb} (h : mayM x = true) : mayP x.1 = true ∧ x.1 ≠ [] := by
  unfold mayM at h
  simp only [Bool.and_eq_true, decide_eq_true_eq] at h
  exact class_one h.1
theorem WellL.path {L : List Mb} (h : WellL L) {x : Mb} (hx : x ∈ L) : mayP x.1 = true ∧ x.1 ≠ [] := mayM_path (h.m x hx)
theorem dirT_iff {L : List Mb} {p : Tx} : dirT L p = true ↔ p = [] ∨ ∃ n, SM.look L p = some n ∧ n.kind = 1 := by
  unfold dirT
  cases h : SM.look L p with
  | none => simp
  | some n => simp
theorem WellL.nil : WellL [] := ⟨SM.Srt.nil, fun _ h => (List.not_mem_nil h).elim, fun _ h => (List.not_mem_nil h).elim⟩
theorem look_clear {L : List Mb} (h : SM.Srt L) (p q : Tx) : SM.look (clearT L p) q = if underP p q = true then none else SM.look L q := by
  unfold clearT
  rw [h.look_filter (fun k => !underP p k)]
  cases underP p q <;> simp
theorem put_well {L : List Mb} (h : WellL L) (m : Mb) : WellL (putT L m).2 := by
  unfold putT
  split
  · exact h
  · rename_i hm
    split
    · exact h
    · rename_i hd
      split
      · exact h
      · have hm : mayM m = true := by simpa using hm
        have hd : dirT L (parentP m.1) = true := by simpa using hd
        obtain ⟨hmp, hm0⟩ := mayM_path hm
        have hpl := parent_lt hm0
        by_cases hk : m.2.kind = 1
        · rw [if_pos hk]
          refine ⟨h.s.put m, fun x hx => ?_, fun x hx => ?_⟩
          · rcases SM.mem_put.1 hx with rfl | ⟨hx, _⟩
            · exact hm
            · exact h.m x hx
          · have key : ∀ q, dirT L q = true → dirT (SM.put L m) q = true := by
              intro q hq
              rcases dirT_iff.1 hq with rfl | ⟨n, hn, hnk⟩
              · rfl
              · rw [dirT_iff, h.s.look_put]
                split
                · exact .inr ⟨_, rfl, hk⟩
                · exact .inr ⟨n, hn, hnk⟩
            rcases SM.mem_put.1 hx with rfl | ⟨hx, _⟩
            · exact key _ hd
            · exact key _ (h.p x hx)
        · rw [if_neg hk]
          have hs : SM.Srt (clearT L m.1) := h.s.filter _
          have key : ∀ q, dirT L q = true → underP m.1 q = false → q ≠ m.1 → dirT (SM.put (clearT L m.1) m) q = true := by
            intro q hq hu hne
            rcases dirT_iff.1 hq with rfl | ⟨n, hn, hnk⟩
            · rfl
            · rw [dirT_iff, hs.look_put, if_neg hne, look_clear h.s, if_neg (by rw [hu]; decide)]
              exact .inr ⟨n, hn, hnk⟩
          refine ⟨hs.put m, fun x hx => ?_, fun x hx => ?_⟩
          · rcases SM.mem_put.1 hx with rfl | ⟨hx, _⟩
            · exact hm
            · exact h.m x (List.mem_filter.1 hx).1
          · rcases SM.mem_put.1 hx with rfl | ⟨hx, hne⟩
            · refine key _ hd ?_ (fun e => by rw [e] at hpl; omega)
              rw [Bool.eq_false_iff]; intro hu
              have := under_len hu; omega
            · obtain ⟨hx, hu⟩ := List.mem_filter.1 hx
              obtain ⟨hxp, hx0⟩ := h.path hx
              have hu : underP m.1 x.1 = false := by simpa using hu
              rw [under_rec hxp hx0] at hu
              simp only [Bool.or_eq_false_iff] at hu
              exact key _ (h.p x hx) hu.2 (by simpa using hu.1)
theorem remove_well {L : List Mb} (h : WellL L) (p : Tx) : WellL (removeT L p).2 := by
  unfold removeT
  split
  · exact h
  · rename_i n hn
    have hs : SM.Srt (clearT L p) := h.s.filter _
    have key : ∀ q, dirT L q = true → underP p q = false → q ≠ p → dirT ((clearT L p).filter (fun m => m.1 != p)) q = true := by
      intro q hq hu hne
      rcases dirT_iff.1 hq with rfl | ⟨n, hn, hnk⟩
      · rfl
      · rw [dirT_iff, hs.look_filter (fun k => k != p), if_pos (by simpa using hne), look_clear h.s, if_neg (by rw [hu]; decide)]
        exact .inr ⟨n, hn, hnk⟩
    refine ⟨hs.filter _, fun x hx => h.m x (List.mem_filter.1 (List.mem_filter.1 hx).1).1, fun x hx => ?_⟩
    obtain ⟨hx, hne⟩ := List.mem_filter.1 hx
    obtain ⟨hx, hu⟩ := List.mem_filter.1 hx
    obtain ⟨hxp, hx0⟩ := h.path hx
    have hu : underP p x.1 = false := by simpa using hu
    rw [under_rec hxp hx0] at hu
    simp only [Bool.or_eq_false_iff] at hu
    exact key _ (h.p x hx) hu.2 (by simpa using hu.1)
theorem step_well {L : List Mb} (h : WellL L) (a : Bool × Mb) : WellL (stepT L a) := by
  unfold stepT
  split
  · exact put_well h _
  · exact remove_well h _
theorem fold_well (l : List (Bool × Mb)) : ∀ L, WellL L → WellL (l.foldl stepT L) := by
  induction l with
  | nil => intro L h; exact h
  | cons a l ih => intro L h; exact ih _ (step_well h a)
theorem grown_well (l : List (Bool × Mb)) : WellL (grownL l) := fold_well _ _ WellL.nil
theorem step_len {L : List Mb} (h : WellL L) (a : Bool × Mb) : (stepT L a).length ≤ L.length + 1 := by
  unfold stepT
  split
  · exact put_len h.s _
  · exact Nat.le_succ_of_le (remove_len L _)
theorem fold_lenT (l : List (Bool × Mb)) : ∀ L, WellL L → (l.foldl stepT L).length ≤ L.length + l.length := by
  induction l with
  | nil => intro L _; simp
  | cons a l ih =>
    intro L h
    have h1 := ih _ (step_well h a)
    have h2 := step_len h a
    rw [List.foldl_cons, List.length_cons]; omega
theorem grown_len (l : List (Bool × Mb)) : (grownL l).length ≤ 40 := by
  have := fold_lenT (l.take 40) [] WellL.nil
  have h2 := List.length_take_le 40 l
  unfold grownL
  simp at this ⊢; omega
/-- A DIR'S LIST -/
def kids (d : Tx) (L : List Mb) : List Mb := L.filter (fun x => parentP x.1 == d)
theorem mem_kids {d : Tx} {L : List Mb} {x : Mb} : x ∈ kids d L ↔ x ∈ L ∧ parentP x.1 = d := by unfold kids; simp
/-- how many of L a path has under it, it too -/
def manyU (L : List Mb) (p : Tx) : Nat := (underL p L).length
theorem kids_one {L : List Mb} (h : WellL L) {q : Mb} (hq : q ∈ L) : (kids (parentP q.1) L).countP (fun c => c.1 == q.1) = 1 := by
  rw [List.countP_eq_length_filter]
  have hs : SM.Srt (kids (parentP q.1) L) := h.s.filter _
  have hl : SM.look (kids (parentP q.1) L) q.1 = some q.2 := hs.look.2 (mem_kids.2 ⟨hq, rfl⟩)
  rw [hs.mid, hl]; rfl
theorem kids_hit {L : List Mb} (h : WellL L) (d : Tx) : ∀ (n : Nat) (q : Mb), q.1.length = n → q ∈ L → (kids d L).countP (fun c => hitU c.1 q) = if underP d q.1 = true then 1 else 0 := by
  intro n
  induction n using Nat.strongRecOn with
  | ind n ih =>
    intro q hn hq
    obtain ⟨hqp, hq0⟩ := h.path hq
    have hlt := parent_lt hq0
    by_cases hd : parentP q.1 = d
    · rw [under_rec hqp hq0, if_pos (by simp [hd])]
      rw [← kids_one h hq, hd]
      refine List.countP_congr (fun c hc => ?_)
      obtain ⟨hcL, hcd⟩ := mem_kids.1 hc
      obtain ⟨hcp, hc0⟩ := h.path hcL
      have hcl := parent_lt hc0
      rw [hcd] at hcl
      have hu : underP c.1 q.1 = false := by
        rw [under_rec hqp hq0, hd]
        simp only [Bool.or_eq_false_iff]
        refine ⟨by simpa using fun e : d = c.1 => by rw [e] at hcl; omega, ?_⟩
        rw [Bool.eq_false_iff]; intro hu
        have := under_len hu; omega
      unfold hitU
      rw [hu, Bool.or_false]
      simp only [beq_iff_eq]
      exact ⟨fun e => e.symm, fun e => e.symm⟩
    · have hstep : ∀ c ∈ kids d L, hitU c.1 q = (parentP q.1 == c.1 || underP c.1 (parentP q.1)) := by
        intro c hc
        obtain ⟨hcL, hcd⟩ := mem_kids.1 hc
        have : q.1 ≠ c.1 := fun e => hd (by rw [e]; exact hcd)
        unfold hitU
        rw [under_rec hqp hq0]
        simp [this]
      rw [List.countP_congr (q := fun c => (parentP q.1 == c.1 || underP c.1 (parentP q.1))) (fun c hc => by rw [hstep c hc])]
      rcases dirT_iff.1 (h.p q hq) with hr | ⟨nd, hl, _⟩
      · rw [hr]
        have h1 : underP d q.1 = false := by
          rw [under_rec hqp hq0, hr]
          simp only [Bool.or_eq_false_iff]
          exact ⟨by simpa using fun e : [] = d => hd (by rw [hr]; exact e), rfl⟩
        rw [h1, if_neg (by decide), List.countP_eq_zero]
        intro c hc
        obtain ⟨hcL, hcd⟩ := mem_kids.1 hc
        obtain ⟨_, hc0⟩ := h.path hcL
        have : underP c.1 [] = false := rfl
        rw [this]
        simpa using fun e : [] = c.1 => hc0 e.symm
      · have hm := SM.look_mem hl
        have := ih (parentP q.1).length (by omega) (parentP q.1, nd) rfl hm
        unfold hitU at this
        rw [this, under_rec hqp hq0]
        have : (parentP q.1 == d) = false := by simpa using hd
        rw [this, Bool.false_or]
theorem sum_countP {α β : Type} (f : α → β → Bool) (K : List α) : ∀ L : List β, (K.map fun c => (L.countP fun q => f c q)).sum = (L.map fun q => (K.countP fun c => f c q)).sum := by
  induction K with
  | nil =>
    intro L
    induction L with
    | nil => rfl
    | cons q L ih => simpa using ih
  | cons c K ih =>
    intro L
    rw [List.map_cons, List.sum_cons, ih]
    induction L with
    | nil => rfl
    | cons q L ihL => simp only [List.countP_cons, List.map_cons, List.sum_cons] at ihL ⊢; omega
theorem sum_ite {β : Type} (p : β → Bool) : ∀ L : List β, (L.map fun q => if p q = true then 1 else 0).sum = L.countP p
  | [] => rfl
  | q :: L => by
    rw [List.map_cons, List.sum_cons, sum_ite p L, List.countP_cons]; omega
theorem countP_or {β : Type} (a b : β → Bool) (hab : ∀ q, a q = true → b q = false) : ∀ L : List β, L.countP (fun q => a q || b q) = L.countP a + L.countP b
  | [] => rfl
  | q :: L => by
    have := hab q
    rw [List.countP_cons, List.countP_cons, List.countP_cons, countP_or a b hab L]
    cases h1 : a q <;> cases h2 : b q <;> simp_all <;> omega
/-- what is under a path, without it, is what is under all that its list tells -/
theorem many_kids {L : List Mb} (h : WellL L) (d : Tx) : ((kids d L).map fun c => manyU L c.1).sum = L.countP (fun q => underP d q.1) := by
  unfold manyU underL
  have e1 : ((kids d L).map fun c => (L.filter (hitU c.1)).length) = (kids d L).map fun c => (L.countP fun q => hitU c.1 q) := by
    refine List.map_congr_left (fun c _ => ?_)
    rw [List.countP_eq_length_filter]
  rw [e1, sum_countP (fun (c : Mb) (q : Mb) => hitU c.1 q)]
  have e2 : (L.map fun q => (kids d L).countP fun c => hitU c.1 q) = L.map fun q => if underP d q.1 = true then 1 else 0 := List.map_congr_left (fun q hq => kids_hit h d _ q rfl hq)
  rw [e2]
  exact sum_ite (fun q : Mb => underP d q.1) L
theorem many_dir {L : List Mb} (h : WellL L) {x : Mb} (hx : x ∈ L) : manyU L x.1 = ((kids x.1 L).map fun c => manyU L c.1).sum + 1 := by
  rw [many_kids h]
  unfold manyU underL
  rw [← List.countP_eq_length_filter]
  have h1 : L.countP (fun q => q.1 == x.1) = 1 := by
    rw [List.countP_eq_length_filter]
    have hl : SM.look L x.1 = some x.2 := h.s.look.2 hx
    rw [h.s.mid, hl]; rfl
  have h2 := countP_or (fun q : Mb => q.1 == x.1) (fun q => underP x.1 q.1) (fun q hq => by
    have hq : q.1 = x.1 := by simpa using hq
    simp only [hq]
    exact under_self x.1) L
  unfold hitU
  rw [h2, h1]; omega
end Go.Proofs.YtmnknmpfkjhgbaaGreatDoor
/- TreeWell, plainly: what calls do, what is refused; all Members in any order make the same tree. -/
namespace Go.Proofs.YtmnknmpfkjhgbaaGreatDoor
theorem mem_growT : ∀ (n : Nat) (P : List Mb), P.length = n → (P.map (·.1)).Nodup → ∀ x, x ∈ growT P ↔ x ∈ P := by
  intro n
  induction n with
  | zero =>
    intro P h _ x
    obtain rfl := List.eq_nil_of_length_eq_zero h
    exact Iff.rfl
  | succ n ih =>
    intro P h hd x
    obtain ⟨Q, m, rfl⟩ : ∃ Q m, P = Q ++ [m] := ⟨P.dropLast, P.getLast (by intro e; rw [e] at h; cases h), (List.dropLast_concat_getLast _).symm⟩
    rw [growT_snoc, SM.mem_put]
    rw [List.map_append, List.nodup_append] at hd
    have hq := ih Q (by simpa using h) hd.1 x
    rw [hq, List.mem_append, List.mem_singleton]
    constructor
    · rintro (rfl | ⟨h1, _⟩)
      · exact .inr rfl
      · exact .inl h1
    · rintro (h1 | rfl)
      · exact .inr ⟨h1, fun e => hd.2.2 x.1 (List.mem_map.2 ⟨x, h1, rfl⟩) m.1 (by simp) e⟩
      · exact .inl rfl
theorem srt_nodup {L : List Mb} (h : SM.Srt L) : (L.map (·.1)).Nodup := by
  have : (L.map (·.1)).Pairwise (· < ·) := by rw [List.pairwise_map]; exact h
  exact List.Pairwise.imp (R := fun a b : Tx => a < b) (fun {a b} hab (e : a = b) => tx_irrefl a (by rw [← e] at hab; exact hab)) this
theorem srt_mem {L K : List Mb} (h : SM.Srt L) (k : SM.Srt K) (hm : ∀ x, x ∈ L ↔ x ∈ K) : L = K := by
  refine h.ext k (fun p => ?_)
  cases hl : SM.look L p with
  | none =>
    symm
    rw [SM.look_none]
    intro x hx e
    exact SM.look_none.1 hl x ((hm x).2 hx) e
  | some n => exact (k.look.2 ((hm _).1 (h.look.1 hl))).symm
theorem newT_perm {L P : List Mb} (h : WellL L) (hp : P.Perm L) (hl : L.length ≤ 4096) : newT P = (0, some L) := by
  have hnd : (P.map (·.1)).Nodup := (hp.map _).nodup_iff.2 (srt_nodup h.s)
  have hg : growT P = L := srt_mem (growT_srt P) h.s (fun x => by rw [mem_growT _ P rfl hnd]; exact hp.mem_iff)
  have hlen := hp.length_eq
  unfold newT
  rw [if_neg (by
    rw [List.any_eq_true]
    rintro ⟨x, hx, h1⟩
    have := h.m x (hp.mem_iff.1 hx)
    rw [this] at h1; cases h1), hg, if_neg (by omega), if_neg (by
    rw [List.any_eq_true]
    rintro ⟨x, hx, h1⟩
    have := h.p x (hp.mem_iff.1 hx)
    rw [this] at h1; cases h1), if_neg (by omega)]
end Go.Proofs.YtmnknmpfkjhgbaaGreatDoor
/- CHANGESETS, plainly: what Members do, what is told of two trees; nothing less leads there. -/
namespace Go.Proofs.YtmnknmpfkjhgbaaGreatDoor
def cls (m : Mb) : Int := (classP m.1).1
def tgt (m : Mb) : Tx := (classP m.1).2
/-- does a Member take away what is at p -/
def hits (m : Mb) (p : Tx) : Bool := (decide (cls m = 1) && (tgt m == p || (decide (m.2.kind ≠ 1) && underP (tgt m) p))) || (decide (cls m = 2) && (tgt m == p || underP (tgt m) p)) || (decide (cls m = 3) && underP (tgt m) p)
def staysC (S : List Mb) (p : Tx) : Bool := p != [] && S.all (fun m => !hits m p)
def plainC (S : List Mb) : List Mb := S.filter (fun m => decide (cls m = 1))
/-- a node that is an empty File, all else zero -/
def bareN : Nd := ⟨2, 0, 0, 0, 0, [], [], []⟩
def bareB (n : Nd) : Bool := decide (n.kind = 2) && decide (n.mode = 0) && decide (n.uid = 0) && decide (n.gid = 0) && decide (n.time = 0) && decide (n.attrs.length = 0) && decide (n.data.length = 0) && n.link == []
theorem bare_iff {n : Nd} : bareB n = true ↔ n = bareN := by
  obtain ⟨k, mo, u, g, t, a, d, l⟩ := n
  unfold bareB bareN
  simp only [Bool.and_eq_true, decide_eq_true_eq, beq_iff_eq, List.length_eq_zero_iff, Nd.mk.injEq]
  constructor
  · rintro ⟨⟨⟨⟨⟨⟨⟨h1, h2⟩, h3⟩, h4⟩, h5⟩, h6⟩, h7⟩, h8⟩; exact ⟨h1, h2, h3, h4, h5, h6, h7, h8⟩
  · rintro ⟨h1, h2, h3, h4, h5, h6, h7, h8⟩; exact ⟨⟨⟨⟨⟨⟨⟨h1, h2⟩, h3⟩, h4⟩, h5⟩, h6⟩, h7⟩, h8⟩
/-- does the Member ahead of k stand at m's path, or behind -/
def notUp (S : List Mb) (k : Nat) (m : Mb) : Bool := match k with | 0 => false | j + 1 => (match S[j]? with | some x => decide (m.1 ≤ x.1) | none => false)
/-- what is wrong with the Member at k -/
def errC (S : List Mb) (k : Nat) (m : Mb) : Int :=
  if (!mayT ([97], m.2) || notUp S k m) = true then 1
  else if cls m < 1 ∨ 3 < cls m then 32
  else if cls m ≠ 1 ∧ bareB m.2 = false then 31
  else if (aboveP m.1).any (fun q => !(S.take k).any (fun x => x.1 == q && decide (x.2.kind = 1))) = true then 33 else 0
/-- change.May, from k -/
def mayFrom (S : List Mb) : Nat → List Mb → Int
  | _, [] => if 4096 < S.length then 42 else 0
  | k, m :: r => if errC S k m ≠ 0 then errC S k m else mayFrom S (k + 1) r
def mayC (S : List Mb) : Int := mayFrom S 0 S
def applyC (A S : List Mb) : Int × Option (List Mb) := if mayC S ≠ 0 then (mayC S, none) else newT (A.filter (fun m => staysC S m.1) ++ plainC S)
/-- what a changeset is -/
structure ValidC (S : List Mb) : Prop where
  cl : ∀ m ∈ S, cls m = 1 ∨ cls m = 2 ∨ cls m = 3
  br : ∀ m ∈ S, cls m ≠ 1 → m.2 = bareN
  ab : ∀ m ∈ S, ∀ q ∈ aboveP m.1, ∃ x ∈ S, x.1 = q ∧ x.2.kind = 1
theorem errC_zero {S : List Mb} {k : Nat} {m : Mb} (h : errC S k m = 0) : (cls m = 1 ∨ cls m = 2 ∨ cls m = 3) ∧ (cls m ≠ 1 → m.2 = bareN) ∧ ∀ q ∈ aboveP m.1, ∃ x ∈ S, x.1 = q ∧ x.2.kind = 1 := by
  unfold errC at h
  split at h
  · cases h
  · split at h
    · cases h
    · rename_i h2
      split at h
      · cases h
      · rename_i h3
        split at h
        · cases h
        · rename_i h4
          refine ⟨by omega, fun hc => ?_, fun q hq => ?_⟩
          · rw [← bare_iff]
            cases hb : bareB m.2 with
            | true => rfl
            | false => exact (h3 ⟨hc, hb⟩).elim
          · have h4 : (aboveP m.1).any (fun q => !(S.take k).any (fun x => x.1 == q && decide (x.2.kind = 1))) = false := by simpa using h4
            rw [List.any_eq_false] at h4
            have h5 := h4 q hq
            simp only [Bool.not_eq_true', Bool.not_eq_false, List.any_eq_true, Bool.and_eq_true, beq_iff_eq, decide_eq_true_eq] at h5
            obtain ⟨x, hx, h6, h7⟩ := h5
            exact ⟨x, List.mem_of_mem_take hx, h6, h7⟩
theorem mayFrom_zero {S : List Mb} : ∀ (l : List Mb) (k : Nat), mayFrom S k l = 0 → ∀ m ∈ l, ∃ j, errC S j m = 0
  | [], _, _, m, hm => (List.not_mem_nil hm).elim
  | x :: r, k, h, m, hm => by
    unfold mayFrom at h
    split at h
    · rename_i h1; exact (h1 h).elim
    · rename_i h1
      rcases List.mem_cons.1 hm with rfl | hm
      · exact ⟨k, by simpa using h1⟩
      · exact mayFrom_zero r (k + 1) h m hm
theorem mayC_valid {S : List Mb} (h : mayC S = 0) : ValidC S := by
  have hz := mayFrom_zero S 0 h
  exact ⟨fun m hm => (errC_zero (hz m hm).choose_spec).1, fun m hm => (errC_zero (hz m hm).choose_spec).2.1, fun m hm => (errC_zero (hz m hm).choose_spec).2.2⟩
theorem mem_above {q p : Tx} : q ∈ aboveP p ↔ q ++ [47] <+: p := by
  unfold aboveP
  rw [List.mem_filterMap]
  constructor
  · rintro ⟨i, hi, h⟩
    split at h
    · rename_i hc
      injection h with h
      obtain ⟨hl, hg⟩ := List.getElem?_eq_some_iff.1 hc
      refine ⟨p.drop (i + 1), ?_⟩
      rw [← h, ← hg]
      rw [List.append_assoc]
      conv => rhs; rw [← List.take_append_drop i p, List.drop_eq_getElem_cons hl]
      rfl
    · cases h
  · rintro ⟨r, rfl⟩
    refine ⟨q.length, by simp, ?_⟩
    rw [if_pos (by simp)]
    simp
theorem under_above {q p : Tx} (h0 : q ≠ []) : underP q p = true ↔ q ∈ aboveP p := by
  rw [mem_above]
  unfold underP
  simp only [Bool.and_eq_true, Bool.or_eq_true, Bool.not_eq_true', List.isEmpty_eq_false_iff, List.isEmpty_iff, h0, false_or, List.isPrefixOf_iff_prefix]
  constructor
  · exact fun h => h.2
  · exact fun h => ⟨fun e => by subst e; have := h.length_le; simp at this, h⟩
theorem under_trans {a b c : Tx} (h : underP a b = true) (k : underP b c = true) : underP a c = true := by
  unfold underP at *
  simp only [Bool.and_eq_true, Bool.or_eq_true, Bool.not_eq_true', List.isEmpty_eq_false_iff, List.isEmpty_iff, List.isPrefixOf_iff_prefix] at *
  refine ⟨k.1, ?_⟩
  rcases h.2 with h2 | h2
  · exact .inl h2
  · right
    rcases k.2 with k2 | k2
    · exact (h.1 k2).elim
    · exact h2.trans ((List.prefix_append b [47]).trans k2)
end Go.Proofs.YtmnknmpfkjhgbaaGreatDoor
/- CHANGESETS, plainly: what leads from a tree to another one; members' places; counting. -/
namespace Go.Proofs.YtmnknmpfkjhgbaaGreatDoor
theorem under_join {e b d : Tx} (hb : ∀ x ∈ b, x ≠ 47) (h0 : b ≠ []) : underP d (if e = [] then b else e ++ 47 :: b) = (e == d || underP d e) := by
  by_cases he : e = []
  · subst he
    rw [if_pos rfl]
    by_cases hd : d = []
    · subst hd; rw [under_nil]; simp [h0]
    · have h1 : underP d b = false := by
        rw [Bool.eq_false_iff]; intro h
        unfold underP at h
        simp [hd] at h
        obtain ⟨r, hr⟩ := h.2
        exact hb 47 (by rw [← hr]; simp) rfl
      have h2 : underP d [] = false := rfl
      rw [h1, h2]
      simpa using fun e : [] = d => hd e.symm
  · rw [if_neg he]
    by_cases hd : d = []
    · subst hd; rw [under_nil, under_nil]; simp [he]
    · have key : (d ++ [47] <+: e ++ 47 :: b) ↔ e = d ∨ d ++ [47] <+: e := by
        constructor
        · rintro ⟨r, hr⟩
          have hr : d ++ (47 :: r) = e ++ 47 :: b := by simpa using hr
          rcases List.append_eq_append_iff.1 hr with ⟨a, h1, h2⟩ | ⟨a, h1, h2⟩
          · cases a with
            | nil => exact .inl (by simpa using h1)
            | cons x t =>
              simp at h2
              obtain ⟨rfl, _⟩ := h2
              exact .inr ⟨t, by rw [h1]; simp⟩
          · cases a with
            | nil => exact .inl (by simpa using h1.symm)
            | cons x t =>
              simp at h2
              exact (hb 47 (by rw [h2.2]; simp) rfl).elim
        · rintro (rfl | ⟨r, hr⟩)
          · exact ⟨b, by simp⟩
          · exact ⟨r ++ 47 :: b, by rw [← hr]; simp⟩
      unfold underP
      rw [Bool.eq_iff_iff]
      simp [hd, he, key]
theorem markB_ne : markB ≠ [] ∧ ∀ x ∈ markB, x ≠ 47 := by decide
/-- where a Member stands -/
inductive At (m : Mb) : Prop
  | plain (hc : cls m = 1) (ht : tgt m = m.1) (hm : mayP m.1 = true) (h0 : m.1 ≠ [])
  | gone (hc : cls m = 2) (hm : mayP (tgt m) = true) (h0 : tgt m ≠ []) (hu : ∀ d, underP d m.1 = underP d (tgt m))
  | mark (hc : cls m = 3) (hm : mayP (tgt m) = true) (hu : ∀ d, underP d m.1 = (tgt m == d || underP d (tgt m)))
theorem at_of {m : Mb} (h : cls m = 1 ∨ cls m = 2 ∨ cls m = 3) : At m := by
  rcases told m.1 with ⟨hc, _⟩ | ⟨hc, hm, h0⟩ | ⟨t, hc, hw, hm, _⟩ | ⟨t, hc, ho, hm, _⟩ | ⟨hc, _, _⟩
  · unfold cls at h; rw [hc] at h; omega
  · exact .plain (by unfold cls; rw [hc]) (by unfold tgt; rw [hc]) hm h0
  · have ht : tgt m = t := by unfold tgt; rw [hc]
    have h1 : cls m = 2 := by unfold cls; rw [hc]
    have hp0 : m.1 ≠ [] := by
      intro e; rw [e] at hc; have h4 := kn_c4; rw [hc] at h4; cases h4
    have hg : ¬ (t.isEmpty || !mayP t) = true := by
      intro e
      unfold whiteoutP at hw
      rw [if_pos e] at hw
      exact hp0 hw.symm
    have h2 : mayP t = true ∧ t ≠ [] := by simpa [and_comm] using hg
    refine .gone h1 (by rw [ht]; exact h2.1) (by rw [ht]; exact h2.2) (fun d => ?_)
    have hbm := may_base h2.1 h2.2
    have hbn := mayN_ne hbm
    rw [ht, path_join h2.1 h2.2, under_join hbn.2 hbn.1]
    unfold whiteoutP at hw
    rw [if_neg hg, joinP_two] at hw
    rw [← hw]
    have e1 : (if parentP t = [] then whiteB ++ baseP t else if whiteB ++ baseP t = [] then parentP t else parentP t ++ 47 :: (whiteB ++ baseP t)) = if parentP t = [] then whiteB ++ baseP t else parentP t ++ 47 :: (whiteB ++ baseP t) := by
      rw [if_neg (c := whiteB ++ baseP t = []) (by simp [whiteB])]
    rw [e1, under_join (white_noSl hbn.2) (by simp [whiteB])]
  · have ht : tgt m = t := by unfold tgt; rw [hc]
    have h1 : cls m = 3 := by unfold cls; rw [hc]
    have hp0 : m.1 ≠ [] := by
      intro e; rw [e] at hc; have h4 := kn_c4; rw [hc] at h4; cases h4
    have hg : ¬ (!mayP t) = true := by
      intro e
      unfold opaqueP at ho
      rw [if_pos e] at ho
      exact hp0 ho.symm
    have h2 : mayP t = true := by simpa using hg
    refine .mark h1 (by rw [ht]; exact h2) (fun d => ?_)
    unfold opaqueP at ho
    rw [if_neg hg, joinP_two] at ho
    rw [ht, ← ho]
    have e1 : (if t = [] then markB else if markB = [] then t else t ++ 47 :: markB) = if t = [] then markB else t ++ 47 :: markB := by
      rw [if_neg (c := markB = []) markB_ne.1]
    rw [e1, under_join markB_ne.2 markB_ne.1]
  · unfold cls at h; rw [hc] at h; omega
/-- is t at c, or below -/
def hitT (c t : Tx) : Bool := t == c || underP c t
theorem hitT_iff {c t : Tx} (hc : c ≠ []) : hitT c t = true ↔ c ++ [47] <+: t ++ [47] := by
  unfold hitT underP
  simp only [Bool.or_eq_true, beq_iff_eq, Bool.and_eq_true, Bool.not_eq_true', List.isEmpty_eq_false_iff, List.isEmpty_iff, hc, false_or, List.isPrefixOf_iff_prefix]
  constructor
  · rintro (rfl | ⟨_, h⟩)
    · exact List.prefix_refl _
    · exact h.trans (List.prefix_append _ _)
  · rintro ⟨r, hr⟩
    rcases List.eq_nil_or_concat r with rfl | ⟨r, x, rfl⟩
    · left
      rw [List.append_nil] at hr
      exact (List.append_inj_left' hr rfl).symm
    · right
      rw [List.concat_eq_append, ← List.append_assoc] at hr
      have := List.append_inj_left' hr rfl
      refine ⟨fun e => ?_, ⟨r, this⟩⟩
      rw [e] at this
      simp at this
theorem noSl_pre : ∀ (b b' : Tx), (∀ x ∈ b, x ≠ 47) → (∀ x ∈ b', x ≠ 47) → b ++ [47] <+: b' ++ [47] → b = b'
  | [], [], _, _, _ => rfl
  | [], c :: b', _, h', h => by
    obtain ⟨r, hr⟩ := h
    simp at hr
    exact (h' c (by simp) hr.1.symm).elim
  | c :: b, [], h, _, hp => by
    obtain ⟨r, hr⟩ := hp
    simp at hr
  | c :: b, c' :: b', h, h', hp => by
    obtain ⟨r, hr⟩ := hp
    simp only [List.cons_append, List.append_assoc, List.cons.injEq] at hr
    have := noSl_pre b b' (fun x hx => h x (by simp [hx])) (fun x hx => h' x (by simp [hx])) ⟨r, by simpa using hr.2⟩
    rw [hr.1, this]
/-- of what a Dir has one alone is at t, or above -/
theorem hit_one {d c c' t : Tx} (hc : mayP c = true) (h0 : c ≠ []) (hd : parentP c = d) (hc' : mayP c' = true) (h0' : c' ≠ []) (hd' : parentP c' = d) (h : hitT c t = true) (h' : hitT c' t = true) : c = c' := by
  have key : ∀ {c c' : Tx}, mayP c = true → c ≠ [] → parentP c = d → mayP c' = true → c' ≠ [] → parentP c' = d → c ++ [47] <+: c' ++ [47] → c = c' := by
    intro c c' hc h0 hd hc' h0' hd' hp
    have e1 := path_join hc h0
    have e2 := path_join hc' h0'
    have n1 := mayN_ne (may_base hc h0)
    have n2 := mayN_ne (may_base hc' h0')
    rw [hd] at e1
    rw [hd'] at e2
    by_cases hdn : d = []
    · rw [if_pos hdn] at e1 e2
      rw [e1, e2] at hp ⊢
      exact noSl_pre _ _ n1.2 n2.2 hp
    · rw [if_neg hdn] at e1 e2
      rw [e1, e2] at hp ⊢
      obtain ⟨r, hr⟩ := hp
      have := noSl_pre _ _ n1.2 n2.2 ⟨r, by simpa using hr⟩
      rw [this]
  rw [hitT_iff h0] at h
  rw [hitT_iff h0'] at h'
  rcases Nat.le_total (c ++ [47]).length (c' ++ [47]).length with hl | hl
  · exact key hc h0 hd hc' h0' hd' (List.prefix_of_prefix_length_le h h' hl)
  · exact (key hc' h0' hd' hc h0 hd (List.prefix_of_prefix_length_le h' h hl)).symm
/-- what is below another one has that one, a Dir -/
theorem dir_above {L : List Mb} (h : WellL L) {c : Tx} (h0 : c ≠ []) : ∀ (n : Nat) (x : Mb), x.1.length = n → x ∈ L → underP c x.1 = true → ∃ y, SM.look L c = some y ∧ y.kind = 1 := by
  intro n
  induction n using Nat.strongRecOn with
  | ind n ih =>
    intro x hn hx hu
    obtain ⟨hp, hx0⟩ := h.path hx
    rw [under_rec hp hx0] at hu
    have hd := dirT_iff.1 (h.p x hx)
    rcases Bool.or_eq_true_iff.1 hu with hu | hu
    · have hu : parentP x.1 = c := by simpa using hu
      rw [hu] at hd
      exact hd.resolve_left h0
    · rcases hd with hd | ⟨y, hy, hk⟩
      · rw [hd] at hu; cases hu
      · exact ih (parentP x.1).length (by have := parent_lt hx0; omega) (parentP x.1, y) rfl (SM.look_mem hy) hu
theorem nodup_le {α : Type} : ∀ (l k : List α), l.Nodup → (∀ x ∈ l, x ∈ k) → l.length ≤ k.length
  | [], _, _, _ => Nat.zero_le _
  | a :: l, k, hn, hs => by
    obtain ⟨s, t, rfl⟩ := List.append_of_mem (hs a (by simp))
    have hn := List.nodup_cons.1 hn
    have := nodup_le l (s ++ t) hn.2 (fun x hx => by
      have h1 := hs x (by simp [hx])
      rcases List.mem_append.1 h1 with h1 | h1
      · exact List.mem_append_left _ h1
      · rcases List.mem_cons.1 h1 with rfl | h1
        · exact (hn.1 hx).elim
        · exact List.mem_append_right _ h1)
    simp at this ⊢; omega
theorem mb_nodup {L : List Mb} (h : SM.Srt L) : L.Nodup := List.Pairwise.of_map (fun x : Mb => x.1) (fun _ _ hab e => hab (by rw [e])) (srt_nodup h)
/-- S LEADS from A to B -/
structure Leads (A B S : List Mb) : Prop where
  v : ValidC S
  res : ∀ x, x ∈ B ↔ (x ∈ A ∧ staysC S x.1 = true) ∨ x ∈ plainC S
theorem grow_nodup : ∀ (n : Nat) (P : List Mb), P.length = n → ¬ (growT P).length < P.length → (P.map (·.1)).Nodup := by
  intro n
  induction n with
  | zero =>
    intro P h _
    obtain rfl := List.eq_nil_of_length_eq_zero h
    exact List.nodup_nil
  | succ n ih =>
    intro P h hl
    obtain ⟨Q, m, rfl⟩ : ∃ Q m, P = Q ++ [m] := ⟨P.dropLast, P.getLast (by intro e; rw [e] at h; cases h), (List.dropLast_concat_getLast _).symm⟩
    rw [growT_snoc, (growT_srt Q).length_put, List.length_append, List.length_singleton] at hl
    have h1 := growT_len Q
    have h2 : ¬ (SM.look (growT Q) m.1).isSome = true := by
      intro e; rw [if_pos e] at hl; omega
    rw [if_neg h2] at hl
    have hq := ih Q (by simpa using h) (by omega)
    rw [List.map_append, List.nodup_append]
    refine ⟨hq, by simp, fun a ha b hb e => ?_⟩
    obtain rfl : b = m.1 := by simpa using hb
    obtain ⟨x, hx, rfl⟩ := List.mem_map.1 ha
    have h3 : SM.look (growT Q) m.1 = none := by cases hc : SM.look (growT Q) m.1 with | none => rfl | some v => rw [hc] at h2; exact (h2 rfl).elim
    exact SM.look_none.1 h3 x ((mem_growT _ Q rfl hq x).2 hx) e
theorem leads_of {A B S : List Mb} (h : applyC A S = (0, some B)) : Leads A B S := by
  unfold applyC at h
  split at h
  · injection h with _ h; cases h
  · rename_i hm
    have hm : mayC S = 0 := by simpa using hm
    unfold newT at h
    split at h
    · cases h
    · split at h
      · cases h
      · rename_i hl
        split at h
        · cases h
        · split at h
          · cases h
          · have hB : growT (A.filter (fun m => staysC S m.1) ++ plainC S) = B := by
              injection h with _ h; injection h
            refine ⟨mayC_valid hm, fun x => ?_⟩
            rw [← hB, mem_growT _ _ rfl (grow_nodup _ _ rfl hl), List.mem_append, List.mem_filter]
end Go.Proofs.YtmnknmpfkjhgbaaGreatDoor
/- CHANGESETS, plainly: what is told of two trees; nothing that leads there has fewer Members. -/
namespace Go.Proofs.YtmnknmpfkjhgbaaGreatDoor
deriving instance DecidableEq for Nd
def dirB (L : List Mb) (p : Tx) : Bool := match SM.look L p with | some n => decide (n.kind = 1) | none => false
def signM (p : Tx) : Mb := if p = [] then ([], nd0) else (p, bareN)
def whM (p : Tx) : Mb := signM (whiteoutP p)
def mkM (d : Tx) : Mb := signM (opaqueP d)
/-- what is in each Dir of either tree, each once -/
structure KidsOf (A B : List Mb) (ks : Tx → List Tx) : Prop where
  nd : ∀ d, (ks d).Nodup
  mem : ∀ d p, p ∈ ks d ↔ parentP p = d ∧ ((SM.look A p).isSome = true ∨ (SM.look B p).isSome = true)
/-- what is told of a path, bl of what is below it -/
def oneF (A B bl : List Mb) (p : Tx) : List Mb :=
  match SM.look B p with
  | none => [whM p]
  | some y => if y.kind = 1 ∧ dirB A p = false then underL p B else
      if y.kind = 1 then (if bl ≠ [] ∨ SM.look A p ≠ some y then bl ++ [(p, y)] else bl) else if SM.look A p ≠ some y then [(p, y)] else []
/-- what is told below a Dir -/
def belF (A B : List Mb) (ks : Tx → List Tx) : Nat → Tx → List Mb
  | 0, _ => []
  | n + 1, d => if ((ks d).flatMap fun c => oneF A B (belF A B ks n c) c).length ≤ 1 + B.countP (fun q => underP d q.1) then (ks d).flatMap fun c => oneF A B (belF A B ks n c) c else B.filter (fun q => underP d q.1) ++ [mkM d]
theorem bel_len (A B : List Mb) (ks : Tx → List Tx) : ∀ n d, (belF A B ks n d).length ≤ 1 + B.countP (fun q => underP d q.1)
  | 0, _ => Nat.zero_le _
  | n + 1, d => by
    unfold belF
    split
    · assumption
    · rw [List.length_append, ← List.countP_eq_length_filter, List.length_singleton]; omega
theorem bel_plain (A B : List Mb) (ks : Tx → List Tx) (n : Nat) (d : Tx) : (belF A B ks (n + 1) d).length ≤ ((ks d).flatMap fun c => oneF A B (belF A B ks n c) c).length := by
  rw [show belF A B ks (n + 1) d = if ((ks d).flatMap fun c => oneF A B (belF A B ks n c) c).length ≤ 1 + B.countP (fun q => underP d q.1) then (ks d).flatMap fun c => oneF A B (belF A B ks n c) c else B.filter (fun q => underP d q.1) ++ [mkM d] from rfl]
  split
  · exact Nat.le_refl _
  · rw [List.length_append, ← List.countP_eq_length_filter, List.length_singleton]; omega
theorem dirB_iff {L : List Mb} {p : Tx} : dirB L p = true ↔ ∃ n, SM.look L p = some n ∧ n.kind = 1 := by
  unfold dirB
  cases SM.look L p with
  | none => simp
  | some n => simp
theorem hitT_self (c : Tx) : hitT c c = true := by unfold hitT; simp
theorem hit_tri {a c x : Tx} (ha : a ≠ []) (hc : c ≠ []) (h1 : hitT a x = true) (h2 : hitT c x = true) : a = c ∨ underP c a = true ∨ underP a c = true := by
  have g1 := (hitT_iff ha).1 h1
  have g2 := (hitT_iff hc).1 h2
  rcases Nat.le_total (a ++ [47]).length (c ++ [47]).length with hl | hl
  · have := (hitT_iff ha).2 (List.prefix_of_prefix_length_le g1 g2 hl)
    unfold hitT at this
    rcases Bool.or_eq_true_iff.1 this with h | h
    · exact .inl (beq_iff_eq.1 h).symm
    · exact .inr (.inr h)
  · have := (hitT_iff hc).2 (List.prefix_of_prefix_length_le g2 g1 hl)
    unfold hitT at this
    rcases Bool.or_eq_true_iff.1 this with h | h
    · exact .inl (by simpa using h)
    · exact .inr (.inl h)
theorem hit_under {c x y : Tx} (h : underP c x = true) (k : hitT x y = true) : underP c y = true := by
  unfold hitT at k
  rcases Bool.or_eq_true_iff.1 k with k | k
  · have k : y = x := by simpa using k
    rw [k]; exact h
  · exact under_trans h k
theorem hits_iff {m : Mb} {p : Tx} : hits m p = true ↔ (cls m = 1 ∧ (tgt m = p ∨ (m.2.kind ≠ 1 ∧ underP (tgt m) p = true))) ∨ (cls m = 2 ∧ (tgt m = p ∨ underP (tgt m) p = true)) ∨ (cls m = 3 ∧ underP (tgt m) p = true) := by
  unfold hits
  simp only [Bool.or_eq_true, Bool.and_eq_true, decide_eq_true_eq, beq_iff_eq, or_assoc]
theorem mem_plainC {S : List Mb} {x : Mb} : x ∈ plainC S ↔ x ∈ S ∧ cls x = 1 := by unfold plainC; simp
theorem stays_iff {S : List Mb} {p : Tx} : staysC S p = true ↔ p ≠ [] ∧ ∀ m ∈ S, hits m p = false := by unfold staysC; simp
/-- what hits a child of d, or below: it stands at that child, or below -/
theorem hit_at {S : List Mb} (hv : ValidC S) {d c x : Tx} (hU : ∀ m ∈ S, ∀ x, underP d x = true → hits m x = true → underP d m.1 = true) (hno : ¬ ∃ m ∈ S, cls m = 3 ∧ tgt m = d)
    (hc : mayP c = true) (h0 : c ≠ []) (hd : parentP c = d) {m : Mb} (hm : m ∈ S) (hx : hitT c x = true) (h : hits m x = true) : underP c m.1 = true ∨ (tgt m = c ∧ (cls m = 2 ∨ (cls m = 1 ∧ (x = c ∨ m.2.kind ≠ 1)))) := by
  have hdc : underP d c = true := by rw [← hd]; exact under_parent hc h0
  have hud := hU m hm x (hit_under hdc hx) h
  have hno2 : ∀ t : Tx, underP d t = true → underP t c = true → False := by
    intro t h1 h2
    have l1 := under_len h1
    rw [under_rec hc h0, hd] at h2
    rcases Bool.or_eq_true_iff.1 h2 with h2 | h2
    · have h2 : d = t := by simpa using h2
      rw [h2] at l1; omega
    · have := under_len h2; omega
  rcases at_of (hv.cl m hm) with ⟨hk, ht, hmm, hm0⟩ | ⟨hk, hmm, hm0, hu⟩ | ⟨hk, hmm, hu⟩
  · rw [hits_iff, hk] at h
    rcases h with ⟨_, h⟩ | ⟨h, _⟩ | ⟨h, _⟩
    · rw [ht] at h ⊢
      rcases h with h | ⟨hkd, h⟩
      · subst h
        unfold hitT at hx
        rcases Bool.or_eq_true_iff.1 hx with hx | hx
        · have hx : m.1 = c := by simpa using hx
          exact .inr ⟨hx, .inr ⟨hk, .inl hx⟩⟩
        · exact .inl hx
      · rcases hit_tri hm0 h0 (show hitT m.1 x = true by unfold hitT; rw [h]; simp) hx with e | e | e
        · exact .inr ⟨e, .inr ⟨hk, .inr hkd⟩⟩
        · exact .inl e
        · exact (hno2 _ hud e).elim
    · omega
    · omega
  · rw [hits_iff, hk] at h
    rcases h with ⟨h, _⟩ | ⟨_, h⟩ | ⟨h, _⟩
    · omega
    · have hh : hitT (tgt m) x = true := by
        unfold hitT
        rcases h with h | h
        · rw [h]; simp
        · rw [h]; simp
      rcases hit_tri hm0 h0 hh hx with e | e | e
      · exact .inr ⟨e, .inl hk⟩
      · rw [hu]; exact .inl e
      · rw [hu] at hud
        exact (hno2 _ hud e).elim
    · omega
  · rw [hits_iff, hk] at h
    rcases h with ⟨h, _⟩ | ⟨h, _⟩ | ⟨_, h⟩
    · omega
    · omega
    · rw [hu] at hud
      rcases Bool.or_eq_true_iff.1 hud with e | e
      · exact (hno ⟨m, hm, hk, by simpa using e⟩).elim
      · have ht0 : tgt m ≠ [] := by intro e2; rw [e2] at e; cases e
        rw [hu]
        rcases hit_tri ht0 h0 (show hitT (tgt m) x = true by unfold hitT; rw [h]; simp) hx with e2 | e2 | e2
        · left; rw [e2]; simp
        · left; rw [e2]; simp
        · exact (hno2 _ e e2).elim
theorem tell_ge {B S : List Mb} (hs : SM.Srt B) (P : Tx → Bool) (h : ∀ y ∈ B, P y.1 = true → y ∈ plainC S) : B.countP (fun y => P y.1) ≤ S.countP (fun m => decide (cls m = 1) && P m.1) := by
  rw [List.countP_eq_length_filter, List.countP_eq_length_filter]
  refine nodup_le _ _ ((mb_nodup hs).filter _) (fun x hx => ?_)
  obtain ⟨h1, h2⟩ := List.mem_filter.1 hx
  obtain ⟨h3, h4⟩ := mem_plainC.1 (h x h1 h2)
  exact List.mem_filter.2 ⟨h3, by rw [h4]; simpa using h2⟩
theorem count_two {S : List Mb} {p q r : Mb → Bool} (hp : ∀ m ∈ S, p m = true → r m = true) (hq : ∀ m ∈ S, q m = true → r m = true) (hn : ∀ m, p m = true → q m = false) : S.countP p + S.countP q ≤ S.countP r := by
  rw [← countP_or p q hn S]
  refine List.countP_mono_left (fun m hm h => ?_)
  rcases Bool.or_eq_true_iff.1 h with h | h
  · exact hp m hm h
  · exact hq m hm h
theorem tgt_plain {S : List Mb} (hv : ValidC S) {m : Mb} (hm : m ∈ S) (h : cls m = 1) : tgt m = m.1 := by
  rcases at_of (hv.cl m hm) with ⟨_, ht, _, _⟩ | ⟨hk, _⟩ | ⟨hk, _⟩
  · exact ht
  · omega
  · omega
theorem under_tgt {S : List Mb} (hv : ValidC S) {m : Mb} (hm : m ∈ S) {c : Tx} (h : underP c m.1 = true) : hitT c (tgt m) = true := by
  unfold hitT
  rcases at_of (hv.cl m hm) with ⟨_, ht, _, _⟩ | ⟨_, _, _, hu⟩ | ⟨_, _, hu⟩
  · rw [ht, h]; simp
  · rw [hu] at h; rw [h]; simp
  · rw [hu] at h; exact h
theorem tgt_under {S : List Mb} (hv : ValidC S) {m : Mb} (hm : m ∈ S) {d : Tx} (h : underP d (tgt m) = true) : underP d m.1 = true := by
  rcases at_of (hv.cl m hm) with ⟨_, ht, _, _⟩ | ⟨_, _, _, hu⟩ | ⟨_, _, hu⟩
  · rw [ht] at h; exact h
  · rw [hu]; exact h
  · rw [hu, h]; simp
theorem KidsOf.path {A B : List Mb} {ks : Tx → List Tx} (hk : KidsOf A B ks) (hA : WellL A) (hB : WellL B) {d c : Tx} (hc : c ∈ ks d) : mayP c = true ∧ c ≠ [] ∧ parentP c = d := by
  obtain ⟨h1, h2⟩ := (hk.mem d c).1 hc
  rcases h2 with h2 | h2
  · obtain ⟨v, hv⟩ := Option.isSome_iff_exists.1 h2
    obtain ⟨g1, g2⟩ := hA.path (SM.look_mem hv)
    exact ⟨g1, g2, h1⟩
  · obtain ⟨v, hv⟩ := Option.isSome_iff_exists.1 h2
    obtain ⟨g1, g2⟩ := hB.path (SM.look_mem hv)
    exact ⟨g1, g2, h1⟩
end Go.Proofs.YtmnknmpfkjhgbaaGreatDoor
/- CHANGESETS, plainly: nothing that leads there has fewer Members than what is told. -/
namespace Go.Proofs.YtmnknmpfkjhgbaaGreatDoor
theorem Leads.told {A B S : List Mb} (h : Leads A B S) {y : Mb} (hy : y ∈ B) (hn : ¬ (y ∈ A ∧ staysC S y.1 = true)) : y ∈ plainC S := ((h.res y).1 hy).resolve_left hn
theorem Leads.hit {A B S : List Mb} (h : Leads A B S) {y m : Mb} (hy : y ∈ B) (hm : m ∈ S) (hh : hits m y.1 = true) : y ∈ plainC S := h.told hy (fun k => by
  have := (stays_iff.1 k.2).2 m hm
  rw [hh] at this; cases this)
theorem one_le {A B S : List Mb} {ks : Tx → List Tx} (hA : WellL A) (hB : WellL B) (hk : KidsOf A B ks) (h : Leads A B S) (n : Nat)
    (ih : ∀ c, mayP c = true → c ≠ [] → (∀ m ∈ S, ∀ x, underP c x = true → hits m x = true → underP c m.1 = true) → (belF A B ks n c).length ≤ S.countP (fun m => underP c m.1))
    {d : Tx} (hU : ∀ m ∈ S, ∀ x, underP d x = true → hits m x = true → underP d m.1 = true) (hno : ¬ ∃ m ∈ S, cls m = 3 ∧ tgt m = d) {c : Tx} (hc : c ∈ ks d) :
    (oneF A B (belF A B ks n c) c).length ≤ S.countP (fun m => hitT c (tgt m)) := by
  obtain ⟨hmc, hc0, hd⟩ := hk.path hA hB hc
  have hone : ∀ y, SM.look B c = some y → SM.look A c ≠ some y → 1 ≤ S.countP (fun m => hitT c (tgt m)) := by
    intro y hy hne
    have hyB := SM.look_mem hy
    have hp := mem_plainC.1 (h.told hyB (fun k => hne (hA.s.look.2 k.1)))
    refine List.countP_pos_iff.2 ⟨(c, y), hp.1, ?_⟩
    rw [tgt_plain h.v hp.1 hp.2]
    exact hitT_self c
  unfold oneF
  cases hl : SM.look B c with
  | none =>
    show 1 ≤ _
    have hla : (SM.look A c).isSome = true := by
      rcases ((hk.mem d c).1 hc).2 with e | e
      · exact e
      · rw [hl] at e; cases e
    obtain ⟨v, hv⟩ := Option.isSome_iff_exists.1 hla
    have hnb : (c, v) ∉ B := fun e => by rw [hB.s.look.2 e] at hl; cases hl
    have hns : staysC S c = false := by
      cases hs : staysC S c with
      | false => rfl
      | true => exact (hnb ((h.res (c, v)).2 (.inl ⟨SM.look_mem hv, hs⟩))).elim
    have hex : ∃ m ∈ S, hits m c = true := by
      refine Classical.byContradiction fun hn => ?_
      have : staysC S c = true := stays_iff.2 ⟨hc0, fun m hm => by
        cases hh : hits m c with
        | false => rfl
        | true => exact (hn ⟨m, hm, hh⟩).elim⟩
      rw [hns] at this; cases this
    obtain ⟨m, hm, hh⟩ := hex
    refine List.countP_pos_iff.2 ⟨m, hm, ?_⟩
    rcases hit_at h.v hU hno hmc hc0 hd hm (hitT_self c) hh with e | ⟨e, _⟩
    · exact under_tgt h.v hm e
    · rw [e]; exact hitT_self c
  | some y =>
    simp only
    have hyB := SM.look_mem hl
    have htp : (∀ z ∈ B, hitT c z.1 = true → z ∈ plainC S) → (underL c B).length ≤ S.countP (fun m => decide (cls m = 1) && hitT c m.1) := by
      intro hz
      have := tell_ge (S := S) hB.s (hitT c) hz
      unfold underL
      rw [← List.countP_eq_length_filter]
      exact this
    have hle : ∀ m ∈ S, (decide (cls m = 1) && hitT c m.1) = true → hitT c (tgt m) = true := by
      intro m hm e
      simp only [Bool.and_eq_true, decide_eq_true_eq] at e
      rw [tgt_plain h.v hm e.1]; exact e.2
    by_cases hd1 : y.kind = 1 ∧ dirB A c = false
    · rw [if_pos hd1]
      refine Nat.le_trans (htp (fun z hz hh => h.told hz (fun k => ?_))) (List.countP_mono_left hle)
      have : dirB A c = true := by
        rw [dirB_iff]
        unfold hitT at hh
        rcases Bool.or_eq_true_iff.1 hh with e | e
        · have e : z.1 = c := by simpa using e
          have h1 := hA.s.look.2 k.1
          have h2 := hB.s.look.2 hz
          rw [e] at h1 h2
          rw [hl] at h2
          injection h2 with h2
          exact ⟨_, h1, by rw [← h2]; exact hd1.1⟩
        · exact dir_above hA hc0 _ z rfl k.1 e
      rw [hd1.2] at this; cases this
    · rw [if_neg hd1]
      by_cases hkd : y.kind = 1
      · rw [if_pos hkd]
        have hlen : ∀ bl : List Mb, (if bl ≠ [] ∨ SM.look A c ≠ some y then bl ++ [(c, y)] else bl).length ≤ bl.length + 1 := by
          intro bl; split
          · simp
          · omega
        by_cases hg : ∃ g ∈ S, cls g = 2 ∧ tgt g = c
        · obtain ⟨g, hgS, hg2, hgc⟩ := hg
          have h1 := htp (fun z hz hh => h.hit hz hgS (by
            rw [hits_iff]
            refine .inr (.inl ⟨hg2, ?_⟩)
            rw [hgc]
            unfold hitT at hh
            rcases Bool.or_eq_true_iff.1 hh with e | e
            · exact .inl (by simpa using e : z.1 = c).symm
            · exact .inr e))
          have h2 : 1 ≤ S.countP (fun m => decide (cls m = 2) && tgt m == c) := List.countP_pos_iff.2 ⟨g, hgS, by rw [hg2, hgc]; simp⟩
          have h3 := count_two (S := S) (p := fun m => decide (cls m = 1) && hitT c m.1) (q := fun m => decide (cls m = 2) && tgt m == c) (r := fun m => hitT c (tgt m)) hle
            (fun m _ e => by
              simp only [Bool.and_eq_true, decide_eq_true_eq, beq_iff_eq] at e
              rw [e.2]; exact hitT_self c)
            (fun m e => by
              simp only [Bool.and_eq_true, decide_eq_true_eq] at e
              rw [e.1]; rfl)
          have h4 : (underL c B).length = 1 + B.countP (fun q => underP c q.1) := by
            have e1 := many_dir hB hyB
            rw [many_kids hB] at e1
            have e1 : (underL c B).length = B.countP (fun q => underP c q.1) + 1 := e1
            rw [e1, Nat.add_comm]
          have h5 := bel_len A B ks n c
          have h6 := hlen (belF A B ks n c)
          omega
        · have hU2 : ∀ m ∈ S, ∀ x, underP c x = true → hits m x = true → underP c m.1 = true := by
            intro m hm x hx hh
            rcases hit_at h.v hU hno hmc hc0 hd hm (show hitT c x = true by unfold hitT; rw [hx]; simp) hh with e | ⟨e, e2 | ⟨e2, e3 | e3⟩⟩
            · exact e
            · exact (hg ⟨m, hm, e2, e⟩).elim
            · rw [e3, under_self] at hx; cases hx
            · have ht := tgt_plain h.v hm e2
              have hmB := (h.res m).2 (.inr (mem_plainC.2 ⟨hm, e2⟩))
              have := hB.s.look.2 (show (m.1, m.2) ∈ B from hmB)
              rw [← ht, e, hl] at this
              injection this with this
              rw [← this] at e3
              exact (e3 hkd).elim
          have h1 := ih c hmc hc0 hU2
          by_cases hb : belF A B ks n c = []
          · rw [hb]
            split
            · rename_i hs
              exact hone y hl (hs.resolve_left (fun e => e rfl))
            · exact Nat.zero_le _
          · have h2 := hlen (belF A B ks n c)
            have h3 : 0 < (belF A B ks n c).length := List.length_pos_iff.2 hb
            obtain ⟨m, hm, hu⟩ := List.countP_pos_iff.1 (Nat.lt_of_lt_of_le h3 h1)
            obtain ⟨x, hx, hx1, hx2⟩ := h.v.ab m hm c ((under_above hc0).1 hu)
            have hx3 : cls x = 1 := by
              refine Classical.byContradiction fun e => ?_
              have := h.v.br x hx e
              rw [this] at hx2; cases hx2
            have h4 : 1 ≤ S.countP (fun m => decide (cls m = 1) && m.1 == c) := List.countP_pos_iff.2 ⟨x, hx, by rw [hx3, hx1]; simp⟩
            have h5 := count_two (S := S) (p := fun m => underP c m.1) (q := fun m => decide (cls m = 1) && m.1 == c) (r := fun m => hitT c (tgt m)) (fun m hm e => under_tgt h.v hm e)
              (fun m hm e => by
                simp only [Bool.and_eq_true, decide_eq_true_eq, beq_iff_eq] at e
                rw [tgt_plain h.v hm e.1, e.2]; exact hitT_self c)
              (fun m e => by
                have : m.1 ≠ c := fun e2 => by rw [e2, under_self] at e; cases e
                simp [this])
            omega
      · rw [if_neg hkd]
        split
        · rename_i hs
          exact hone y hl hs
        · exact Nat.zero_le _
theorem count_le_one {α : Type} (p : α → Bool) : ∀ l : List α, l.Nodup → (∀ a ∈ l, ∀ b ∈ l, p a = true → p b = true → a = b) → l.countP p ≤ 1
  | [], _, _ => Nat.zero_le _
  | a :: l, hn, h => by
    have hn := List.nodup_cons.1 hn
    rw [List.countP_cons]
    by_cases ha : p a = true
    · rw [if_pos ha]
      have : l.countP p = 0 := List.countP_eq_zero.2 (fun b hb e => hn.1 (by rw [h a (by simp) b (by simp [hb]) ha e]; exact hb))
      omega
    · rw [if_neg ha]
      have := count_le_one p l hn.2 (fun x hx y hy => h x (by simp [hx]) y (by simp [hy]))
      omega
theorem sum_le {α : Type} (f g : α → Nat) : ∀ l : List α, (∀ x ∈ l, f x ≤ g x) → (l.map f).sum ≤ (l.map g).sum
  | [], _ => Nat.le_refl _
  | a :: l, h => by
    have := sum_le f g l (fun x hx => h x (by simp [hx]))
    have := h a (by simp)
    simp only [List.map_cons, List.sum_cons]; omega
theorem flat_len {α β : Type} (f : α → List β) : ∀ l : List α, (l.flatMap f).length = (l.map fun c => (f c).length).sum
  | [] => rfl
  | a :: l => by rw [List.flatMap_cons, List.length_append, flat_len f l]; rfl
/-- IT IS LEAST -/
theorem least_below {A B S : List Mb} {ks : Tx → List Tx} (hA : WellL A) (hB : WellL B) (hk : KidsOf A B ks) (h : Leads A B S) : ∀ n d, (∀ m ∈ S, ∀ x, underP d x = true → hits m x = true → underP d m.1 = true) → (belF A B ks n d).length ≤ S.countP (fun m => underP d m.1) := by
  intro n
  induction n with
  | zero => intro d _; exact Nat.zero_le _
  | succ n ih =>
    intro d hU
    by_cases hm : ∃ m ∈ S, cls m = 3 ∧ tgt m = d
    · obtain ⟨g, hgS, hg3, hgd⟩ := hm
      refine Nat.le_trans (bel_len A B ks (n + 1) d) ?_
      have h1 := tell_ge (S := S) hB.s (underP d) (fun z hz hu => h.hit hz hgS (by
        rw [hits_iff]
        exact .inr (.inr ⟨hg3, by rw [hgd]; exact hu⟩)))
      have h2 : 1 ≤ S.countP (fun m => decide (cls m = 3) && tgt m == d) := List.countP_pos_iff.2 ⟨g, hgS, by rw [hg3, hgd]; simp⟩
      have h3 := count_two (S := S) (p := fun m => decide (cls m = 1) && underP d m.1) (q := fun m => decide (cls m = 3) && tgt m == d) (r := fun m => underP d m.1)
        (fun m _ e => by simp only [Bool.and_eq_true] at e; exact e.2)
        (fun m hm e => by
          simp only [Bool.and_eq_true, decide_eq_true_eq, beq_iff_eq] at e
          rcases at_of (h.v.cl m hm) with ⟨hk, _⟩ | ⟨hk, _⟩ | ⟨_, _, hu⟩
          · omega
          · omega
          · rw [hu, e.2]; simp)
        (fun m e => by
          simp only [Bool.and_eq_true, decide_eq_true_eq] at e
          rw [e.1]; rfl)
      omega
    · refine Nat.le_trans (bel_plain A B ks n d) ?_
      rw [flat_len]
      refine Nat.le_trans (sum_le _ (fun c => S.countP (fun m => hitT c (tgt m))) _ (fun c hc => one_le hA hB hk h n (fun c _ _ => ih c) hU hm hc)) ?_
      rw [sum_countP (fun (c : Tx) (m : Mb) => hitT c (tgt m)), ← sum_ite (fun m : Mb => underP d m.1)]
      refine sum_le _ _ _ (fun m hmS => ?_)
      split
      · exact count_le_one _ _ (hk.nd d) (fun a ha b hb e1 e2 => by
          obtain ⟨a1, a2, a3⟩ := hk.path hA hB ha
          obtain ⟨b1, b2, b3⟩ := hk.path hA hB hb
          exact hit_one a1 a2 a3 b1 b2 b3 e1 e2)
      · rename_i hu
        rw [Nat.le_zero, List.countP_eq_zero]
        intro c hc e
        obtain ⟨a1, a2, a3⟩ := hk.path hA hB hc
        exact hu (tgt_under h.v hmS (hit_under (by rw [← a3]; exact under_parent a1 a2) e))
theorem least {A B S : List Mb} {ks : Tx → List Tx} (hA : WellL A) (hB : WellL B) (hk : KidsOf A B ks) (h : applyC A S = (0, some B)) (n : Nat) : (belF A B ks n []).length ≤ S.length := by
  have hl := leads_of h
  refine Nat.le_trans (least_below hA hB hk hl n [] (fun m hm _ _ _ => ?_)) List.countP_le_length
  rw [under_nil]
  rcases at_of (hl.v.cl m hm) with ⟨_, _, _, h0⟩ | ⟨_, _, h0, hu⟩ | ⟨_, _, hu⟩
  · simp [h0]
  · rw [← under_nil, hu, under_nil]; simp [h0]
  · rw [← under_nil, hu, under_nil]; cases tgt m <;> simp
end Go.Proofs.YtmnknmpfkjhgbaaGreatDoor
/- CHANGESETS, plainly: what is told leads there. -/
namespace Go.Proofs.YtmnknmpfkjhgbaaGreatDoor
theorem may_head {t : Tx} (h : mayP t = true) : ¬ [47] <+: t := by
  rintro ⟨r, rfl⟩
  obtain ⟨-, -, h3⟩ := may_parts h
  have e : splitP ([47] ++ r) = [] :: spl r := by
    unfold splitP
    rw [if_neg (by simp)]
    show spl (47 :: r) = _
    rw [spl, if_pos rfl]
  rw [e] at h3
  simp [mayN_nil] at h3
theorem join_head {e b : Tx} (he : ¬ [47] <+: e) (hb : ∀ x ∈ b, x ≠ 47) : ¬ [47] <+: (if e = [] then b else e ++ 47 :: b) := by
  split
  · rintro ⟨r, rfl⟩
    exact hb 47 (by simp) rfl
  · rename_i h0
    rintro ⟨r, hr⟩
    cases e with
    | nil => exact h0 rfl
    | cons c e =>
      simp at hr
      exact he ⟨e, by rw [hr.1]; rfl⟩
theorem no_head {m : Mb} (h : cls m = 1 ∨ cls m = 2 ∨ cls m = 3) : [] ∉ aboveP m.1 := by
  rw [mem_above, List.nil_append]
  rcases told m.1 with ⟨hc, _⟩ | ⟨_, hm, _⟩ | ⟨t, hc, hw, _, _⟩ | ⟨t, hc, ho, _, _⟩ | ⟨hc, _, _⟩
  · unfold cls at h; rw [hc] at h; omega
  · exact may_head hm
  · have hp0 : m.1 ≠ [] := by
      intro e; rw [e] at hc; have h4 := kn_c4; rw [hc] at h4; cases h4
    have hg : ¬ (t.isEmpty || !mayP t) = true := by
      intro e
      unfold whiteoutP at hw
      rw [if_pos e] at hw
      exact hp0 hw.symm
    have h2 : mayP t = true ∧ t ≠ [] := by simpa [and_comm] using hg
    have hbn := mayN_ne (may_base h2.1 h2.2)
    unfold whiteoutP at hw
    rw [if_neg hg, joinP_two, if_neg (c := whiteB ++ baseP t = []) (by simp [whiteB])] at hw
    rw [← hw]
    refine join_head (fun hp => ?_) (white_noSl hbn.2)
    have e1 := path_join h2.1 h2.2
    split at e1
    · rename_i e2; rw [e2] at hp; simp at hp
    · exact may_head h2.1 (by rw [e1]; exact hp.trans (List.prefix_append _ _))
  · have hp0 : m.1 ≠ [] := by
      intro e; rw [e] at hc; have h4 := kn_c4; rw [hc] at h4; cases h4
    have hg : ¬ (!mayP t) = true := by
      intro e
      unfold opaqueP at ho
      rw [if_pos e] at ho
      exact hp0 ho.symm
    have h2 : mayP t = true := by simpa using hg
    unfold opaqueP at ho
    rw [if_neg hg, joinP_two, if_neg (c := markB = []) markB_ne.1] at ho
    rw [← ho]
    exact join_head (may_head h2) markB_ne.2
  · unfold cls at h; rw [hc] at h; omega
theorem under_tgt' {m : Mb} (h : At m) {c : Tx} (hu : underP c m.1 = true) : hitT c (tgt m) = true := by
  unfold hitT
  rcases h with ⟨_, ht, _, _⟩ | ⟨_, _, _, h⟩ | ⟨_, _, h⟩
  · rw [ht, hu]; simp
  · rw [h] at hu; rw [hu]; simp
  · rw [h] at hu; exact hu
theorem tgt_under' {m : Mb} (h : At m) {d : Tx} (hu : underP d (tgt m) = true) : underP d m.1 = true := by
  rcases h with ⟨_, ht, _, _⟩ | ⟨_, _, _, h⟩ | ⟨_, _, h⟩
  · rw [ht] at hu; exact hu
  · rw [h]; exact hu
  · rw [h, hu]; simp
theorem hits_tgt {m : Mb} {x : Tx} (h : hits m x = true) : hitT (tgt m) x = true := by
  unfold hitT
  rcases hits_iff.1 h with ⟨_, h | ⟨_, h⟩⟩ | ⟨_, h | h⟩ | ⟨_, h⟩
  · rw [h]; simp
  · rw [h]; simp
  · rw [h]; simp
  · rw [h]; simp
  · rw [h]; simp
theorem hit_trans {a b c : Tx} (h : hitT a b = true) (k : hitT b c = true) : hitT a c = true := by
  unfold hitT at h
  rcases Bool.or_eq_true_iff.1 h with h | h
  · have h : b = a := by simpa using h
    rw [← h]; exact k
  · unfold hitT; rw [hit_under h k]; simp
theorem cls_may {p : Tx} {n : Nd} (hm : mayP p = true) (h0 : p ≠ []) : cls (p, n) = 1 ∧ tgt (p, n) = p := by unfold cls tgt; rw [class_may hm h0]; exact ⟨rfl, rfl⟩
theorem wh_eq {c : Tx} (hm : mayP c = true) (h0 : c ≠ []) : (whM c).2 = bareN ∧ cls (whM c) = 2 ∧ tgt (whM c) = c := by
  have h1 := (class_whiteout hm h0).1
  have hp0 : whiteoutP c ≠ [] := by
    intro e; rw [e] at h1; have h4 := kn_c4; rw [h1] at h4; cases h4
  have e : whM c = (whiteoutP c, bareN) := by unfold whM signM; rw [if_neg hp0]
  rw [e]
  unfold cls tgt
  rw [h1]; exact ⟨rfl, rfl, rfl⟩
theorem mk_eq {d : Tx} (hm : mayP d = true) : (mkM d).2 = bareN ∧ cls (mkM d) = 3 ∧ tgt (mkM d) = d := by
  have h1 := class_opaque hm
  have hp0 : opaqueP d ≠ [] := by
    intro e; rw [e] at h1; have h4 := kn_c4; rw [h1] at h4; cases h4
  have e : mkM d = (opaqueP d, bareN) := by unfold mkM signM; rw [if_neg hp0]
  rw [e]
  unfold cls tgt
  rw [h1]; exact ⟨rfl, rfl, rfl⟩
/-- WHAT IS TOLD of a region: of paths p with R p -/
structure Good (A B l : List Mb) (R : Tx → Bool) (Q : Mb → Prop) : Prop where
  cl : ∀ m ∈ l, (cls m = 1 ∧ m ∈ B) ∨ (m.2 = bareN ∧ (cls m = 2 ∨ cls m = 3))
  rg : ∀ m ∈ l, Q m
  ab : ∀ m ∈ l, ∀ q ∈ aboveP m.1, R q = true → ∃ x ∈ l, x.1 = q ∧ x.2.kind = 1
  nd : l.Pairwise (fun x y => x.1 ≠ y.1)
  inn : ∀ p y, R p = true → (p, y) ∈ B → (p, y) ∈ l ∨ ((p, y) ∈ A ∧ ∀ m ∈ l, hits m p = false)
  out : ∀ p, R p = true → SM.look B p = none → SM.look A p = none ∨ ∃ m ∈ l, hits m p = true
theorem Good.at {A B l : List Mb} {R : Tx → Bool} {Q : Mb → Prop} (h : Good A B l R Q) {m : Mb} (hm : m ∈ l) : At m := at_of (by rcases h.cl m hm with ⟨e, _⟩ | ⟨_, e | e⟩ <;> omega)
theorem srt_pair {L : List Mb} (h : SM.Srt L) : L.Pairwise (fun x y => x.1 ≠ y.1) := List.Pairwise.imp (R := fun a b : Mb => a.1 < b.1) (S := fun x y : Mb => x.1 ≠ y.1) (fun hab e => tx_irrefl _ (by rw [e] at hab; exact hab)) h
theorem under_ne {d q : Tx} (h : underP d q = true) : q ≠ [] := by rintro rfl; cases h
theorem hit_ne {c q : Tx} (h0 : c ≠ []) (h : hitT c q = true) : q ≠ [] := by
  unfold hitT at h
  rcases Bool.or_eq_true_iff.1 h with h | h
  · have h : q = c := by simpa using h
    rw [h]; exact h0
  · exact under_ne h
theorem under_asym {a b : Tx} (h : underP a b = true) (k : underP b a = true) : False := by
  have := under_len h
  have := under_len k
  omega
theorem under_hit {a b : Tx} (h : underP a b = true) (k : hitT b a = true) : False := by
  unfold hitT at k
  rcases Bool.or_eq_true_iff.1 k with k | k
  · have k : a = b := by simpa using k
    rw [k, under_self] at h; cases h
  · exact under_asym h k
theorem look_some {L : List Mb} {p : Tx} (hn : SM.look L p ≠ none) : ∃ v, (p, v) ∈ L := by
  cases hc : SM.look L p with
  | none => exact (hn hc).elim
  | some v => exact ⟨v, SM.look_mem hc⟩
/-- of one path -/
theorem good_one {A B bl : List Mb} (hA : WellL A) (hB : WellL B) {c : Tx} (hc : mayP c = true) (h0 : c ≠ [])
    (hb : dirB A c = true → dirB B c = true → Good A B bl (underP c) (fun m => underP c m.1 = true)) : Good A B (oneF A B bl c) (hitT c) (fun m => hitT c (tgt m) = true) := by
  unfold oneF
  cases hl : SM.look B c with
  | none =>
    obtain ⟨w1, w2, w3⟩ := wh_eq hc h0
    have hw : At (whM c) := at_of (by omega)
    have hnB : ∀ p y, hitT c p = true → (p, y) ∈ B → False := by
      intro p y h1 h2
      unfold hitT at h1
      rcases Bool.or_eq_true_iff.1 h1 with h1 | h1
      · have h1 : p = c := by simpa using h1
        rw [h1] at h2
        rw [hB.s.look.2 h2] at hl; cases hl
      · obtain ⟨v, hv, _⟩ := dir_above hB h0 _ (p, y) rfl h2 h1
        rw [hv] at hl; cases hl
    refine ⟨fun m hm => ?_, fun m hm => ?_, fun m hm q hq hR => ?_, List.pairwise_singleton _ _, fun p y h1 h2 => (hnB p y h1 h2).elim, fun p h1 _ => .inr ⟨whM c, by simp, ?_⟩⟩
    · obtain rfl := List.mem_singleton.1 hm
      exact .inr ⟨w1, .inl w2⟩
    · obtain rfl := List.mem_singleton.1 hm
      show hitT c (tgt (whM c)) = true
      rw [w3]; exact hitT_self c
    · obtain rfl := List.mem_singleton.1 hm
      have hu := (under_above (hit_ne h0 hR)).2 hq
      rcases hw with ⟨e, _⟩ | ⟨_, _, _, e⟩ | ⟨e, _⟩
      · omega
      · rw [e, w3] at hu
        exact (under_hit hu hR).elim
      · omega
    · rw [hits_iff]
      refine .inr (.inl ⟨w2, ?_⟩)
      rw [w3]
      unfold hitT at h1
      rcases Bool.or_eq_true_iff.1 h1 with h1 | h1
      · exact .inl (by simpa using h1 : p = c).symm
      · exact .inr h1
  | some y =>
    simp only
    have hyB := SM.look_mem hl
    obtain ⟨cy1, cy2⟩ := cls_may (n := y) hc h0
    have hcB : ∀ m ∈ B, cls m = 1 ∧ tgt m = m.1 := fun m hm => cls_may (n := m.2) (hB.path hm).1 (hB.path hm).2
    split
    · rename_i hd
      refine ⟨fun m hm => ?_, fun m hm => ?_, fun m hm q hq hR => ?_, srt_pair (hB.s.filter _), fun p v h1 h2 => .inl (List.mem_filter.2 ⟨h2, h1⟩), fun p h1 h2 => .inl ?_⟩
      · obtain ⟨h1, _⟩ := List.mem_filter.1 hm
        exact .inl ⟨(hcB m h1).1, h1⟩
      · obtain ⟨h1, h2⟩ := List.mem_filter.1 hm
        show hitT c (tgt m) = true
        rw [(hcB m h1).2]; exact h2
      · obtain ⟨h1, _⟩ := List.mem_filter.1 hm
        have hq0 := hit_ne h0 hR
        obtain ⟨v, hv, hk⟩ := dir_above hB hq0 _ m rfl h1 ((under_above hq0).2 hq)
        exact ⟨(q, v), List.mem_filter.2 ⟨SM.look_mem hv, hR⟩, rfl, hk⟩
      · refine Classical.byContradiction fun hn => ?_
        obtain ⟨v, hv⟩ := look_some hn
        unfold hitT at h1
        rcases Bool.or_eq_true_iff.1 h1 with h1 | h1
        · have h1 : p = c := by simpa using h1
          rw [h1, hl] at h2; cases h2
        · have := dirB_iff.2 (dir_above hA h0 _ (p, v) rfl hv h1)
          rw [hd.2] at this; cases this
    · rename_i hd
      split
      · rename_i hk
        have hdA : dirB A c = true := by
          cases e : dirB A c with
          | true => rfl
          | false => exact (hd ⟨hk, e⟩).elim
        have G := hb hdA (dirB_iff.2 ⟨y, hl, hk⟩)
        have hcut : ∀ p, hitT c p = true → p = c ∨ underP c p = true := by
          intro p h1
          unfold hitT at h1
          rcases Bool.or_eq_true_iff.1 h1 with h1 | h1
          · exact .inl (by simpa using h1)
          · exact .inr h1
        split
        · rename_i ht
          refine ⟨fun m hm => ?_, fun m hm => ?_, fun m hm q hq hR => ?_, ?_, fun p v h1 h2 => ?_, fun p h1 h2 => ?_⟩
          · rcases List.mem_append.1 hm with hm | hm
            · exact G.cl m hm
            · obtain rfl := List.mem_singleton.1 hm
              exact .inl ⟨cy1, hyB⟩
          · rcases List.mem_append.1 hm with hm | hm
            · exact under_tgt' (G.at hm) (G.rg m hm)
            · obtain rfl := List.mem_singleton.1 hm
              show hitT c (tgt (c, y)) = true
              rw [cy2]; exact hitT_self c
          · rcases hcut q hR with rfl | hR2
            · exact ⟨(q, y), by simp, rfl, hk⟩
            · rcases List.mem_append.1 hm with hm | hm
              · obtain ⟨x, hx, e⟩ := G.ab m hm q hq hR2
                exact ⟨x, List.mem_append_left _ hx, e⟩
              · obtain rfl := List.mem_singleton.1 hm
                exact (under_asym ((under_above (hit_ne h0 hR)).2 hq) hR2).elim
          · refine List.pairwise_append.2 ⟨G.nd, List.pairwise_singleton _ _, fun a ha b hb e => ?_⟩
            obtain rfl := List.mem_singleton.1 hb
            have := G.rg a ha
            rw [e] at this
            simp only [under_self] at this; cases this
          · rcases hcut p h1 with rfl | h1
            · have := hB.s.look.2 h2
              rw [hl] at this
              injection this with this
              rw [← this]; exact .inl (by simp)
            · rcases G.inn p v h1 h2 with e | ⟨e1, e2⟩
              · exact .inl (List.mem_append_left _ e)
              · refine .inr ⟨e1, fun m hm => ?_⟩
                rcases List.mem_append.1 hm with hm | hm
                · exact e2 m hm
                · obtain rfl := List.mem_singleton.1 hm
                  rw [Bool.eq_false_iff]
                  intro e
                  rcases hits_iff.1 e with ⟨_, e | ⟨e, _⟩⟩ | ⟨e, _⟩ | ⟨e, _⟩
                  · rw [cy2] at e
                    rw [e, under_self] at h1; cases h1
                  · exact e hk
                  · omega
                  · omega
          · rcases hcut p h1 with rfl | h1
            · rw [hl] at h2; cases h2
            · rcases G.out p h1 h2 with e | ⟨m, hm, e⟩
              · exact .inl e
              · exact .inr ⟨m, List.mem_append_left _ hm, e⟩
        · rename_i ht
          have ht1 : bl = [] := Classical.byContradiction fun e => ht (.inl e)
          have ht2 : SM.look A c = some y := Classical.byContradiction fun e => ht (.inr e)
          subst ht1
          refine ⟨fun m hm => (List.not_mem_nil hm).elim, fun m hm => (List.not_mem_nil hm).elim, fun m hm => (List.not_mem_nil hm).elim, List.Pairwise.nil, fun p v h1 h2 => ?_, fun p h1 h2 => ?_⟩
          · rcases hcut p h1 with rfl | h1
            · have := hB.s.look.2 h2
              rw [hl] at this
              injection this with this
              rw [← this]; exact .inr ⟨SM.look_mem ht2, fun m hm => (List.not_mem_nil hm).elim⟩
            · exact G.inn p v h1 h2
          · rcases hcut p h1 with rfl | h1
            · rw [hl] at h2; cases h2
            · exact G.out p h1 h2
      · rename_i hk
        have hnB : ∀ p v, hitT c p = true → (p, v) ∈ B → p = c ∧ v = y := by
          intro p v h1 h2
          unfold hitT at h1
          rcases Bool.or_eq_true_iff.1 h1 with h1 | h1
          · have h1 : p = c := by simpa using h1
            subst h1
            have := hB.s.look.2 h2
            rw [hl] at this
            injection this with this
            exact ⟨rfl, this.symm⟩
          · obtain ⟨v, hv, hvk⟩ := dir_above hB h0 _ (p, v) rfl h2 h1
            rw [hl] at hv
            injection hv with hv
            rw [hv] at hk; exact (hk hvk).elim
        split
        · rename_i ht
          refine ⟨fun m hm => ?_, fun m hm => ?_, fun m hm q hq hR => ?_, List.pairwise_singleton _ _, fun p v h1 h2 => ?_, fun p h1 h2 => .inr ⟨(c, y), by simp, ?_⟩⟩
          · obtain rfl := List.mem_singleton.1 hm
            exact .inl ⟨cy1, hyB⟩
          · obtain rfl := List.mem_singleton.1 hm
            show hitT c (tgt (c, y)) = true
            rw [cy2]; exact hitT_self c
          · obtain rfl := List.mem_singleton.1 hm
            exact (under_hit ((under_above (hit_ne h0 hR)).2 hq) hR).elim
          · obtain ⟨rfl, rfl⟩ := hnB p v h1 h2
            exact .inl (by simp)
          · rw [hits_iff]
            refine .inl ⟨cy1, ?_⟩
            rw [cy2]
            unfold hitT at h1
            rcases Bool.or_eq_true_iff.1 h1 with h1 | h1
            · exact .inl (by simpa using h1 : p = c).symm
            · exact .inr ⟨hk, h1⟩
        · rename_i ht
          have ht2 : SM.look A c = some y := Classical.byContradiction fun e => ht e
          refine ⟨fun m hm => (List.not_mem_nil hm).elim, fun m hm => (List.not_mem_nil hm).elim, fun m hm => (List.not_mem_nil hm).elim, List.Pairwise.nil, fun p v h1 h2 => ?_, fun p h1 h2 => .inl ?_⟩
          · obtain ⟨rfl, rfl⟩ := hnB p v h1 h2
            exact .inr ⟨SM.look_mem ht2, fun m hm => (List.not_mem_nil hm).elim⟩
          · refine Classical.byContradiction fun hn => ?_
            obtain ⟨v, hv⟩ := look_some hn
            unfold hitT at h1
            rcases Bool.or_eq_true_iff.1 h1 with h1 | h1
            · have h1 : p = c := by simpa using h1
              rw [h1, hl] at h2; cases h2
            · obtain ⟨z, hz, hzk⟩ := dir_above hA h0 _ (p, v) rfl hv h1
              rw [ht2] at hz
              injection hz with hz
              rw [hz] at hk; exact hk hzk
end Go.Proofs.YtmnknmpfkjhgbaaGreatDoor

