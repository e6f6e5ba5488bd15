/- PATHS: plain facts on parents, bases and what is above. -/
import Derived.Test.YtkijhaibcnhedaaDoorPathSpec
namespace Go.Proofs.YtkijhaibcnhedaaDoor
theorem cutAt_noSl : ∀ {a : List UInt8}, (∀ x ∈ a, x ≠ 47) → cutAt a = 0
  | [], _ => rfl
  | c :: a, h => by
    rw [cutAt, cutAt_noSl (fun x hx => h x (by simp [hx])), if_neg (by omega), if_neg (h c (by simp))]
theorem cutAt_app : ∀ (a b : List UInt8), (∀ x ∈ b, x ≠ 47) → cutAt (a ++ 47 :: b) = a.length + 1
  | [], b, h => by rw [List.nil_append, cutAt, cutAt_noSl h, if_neg (by omega), if_pos rfl]; rfl
  | c :: a, b, h => by
    rw [List.cons_append, cutAt, cutAt_app a b h, if_pos (by omega)]; rfl
theorem joinS_snoc : ∀ (l : List (List UInt8)) (b : List UInt8), l ≠ [] → joinS (l ++ [b]) = joinS l ++ 47 :: b
  | [], _, h => absurd rfl h
  | [x], b, _ => rfl
  | x :: y :: r, b, _ => by
    have ih := joinS_snoc (y :: r) b (by simp)
    rw [List.cons_append] at ih
    show x ++ 47 :: joinS (y :: (r ++ [b])) = (x ++ 47 :: joinS (y :: r)) ++ 47 :: b
    rw [ih]; simp
theorem parent_joinS {l : List (List UInt8)} {b : List UInt8} (hl : l ≠ []) (hb : ∀ x ∈ b, x ≠ 47) : parentP (joinS (l ++ [b])) = joinS l ∧ baseP (joinS (l ++ [b])) = b := by
  rw [joinS_snoc l b hl]
  unfold parentP baseP
  rw [cutAt_app _ _ hb]
  constructor
  · rw [Nat.add_sub_cancel, List.take_left]
  · rw [show (joinS l).length + 1 = (joinS l ++ [47]).length by simp, show joinS l ++ 47 :: b = (joinS l ++ [47]) ++ b by simp, List.drop_left]
theorem parent_one {b : List UInt8} (hb : ∀ x ∈ b, x ≠ 47) : parentP b = [] ∧ baseP b = b := by
  unfold parentP baseP
  rw [cutAt_noSl hb]; simp
theorem joinP_two (a b : List UInt8) : joinP [a, b] = if a = [] then b else if b = [] then a else a ++ 47 :: b := by
  cases a with
  | nil => cases b <;> rfl
  | cons c a => cases b <;> rfl
/-- what is above, from the left: p what stands before -/
def abvR (p : List UInt8) : List UInt8 → List (List UInt8)
  | [] => []
  | c :: l => if c = 47 then p :: abvR (p ++ [c]) l else abvR (p ++ [c]) l
theorem abvR_eq : ∀ (l p : List UInt8), abvR p l = (List.range l.length).filterMap fun i => if l[i]? = some 47 then some (p ++ l.take i) else none
  | [], p => rfl
  | c :: l, p => by
    rw [abvR, List.length_cons, List.range_succ_eq_map, List.filterMap_cons]
    have h1 : ((List.range l.length).map Nat.succ).filterMap (fun i => if (c :: l)[i]? = some 47 then some (p ++ (c :: l).take i) else none) = abvR (p ++ [c]) l := by
      rw [List.filterMap_map, abvR_eq l (p ++ [c])]
      congr 1
      funext i
      simp
    simp only [List.getElem?_cons_zero, Option.some.injEq, List.take_zero, List.append_nil]
    by_cases h : c = 47
    · rw [if_pos h, if_pos h, h1]
    · rw [if_neg h, if_neg h, h1]
theorem aboveP_eq (p : List UInt8) : aboveP p = abvR [] p := by rw [abvR_eq]; unfold aboveP; simp
theorem abvR_noSl : ∀ (a p l : List UInt8), (∀ x ∈ a, x ≠ 47) → abvR p (a ++ l) = abvR (p ++ a) l
  | [], p, l, _ => by simp
  | c :: a, p, l, h => by
    rw [List.cons_append, abvR, if_neg (h c (by simp)), abvR_noSl a _ l (fun x hx => h x (by simp [hx]))]
    simp
/-- what is above a path, of its names -/
def pres (q : List (List UInt8)) : List (List UInt8) → List (List UInt8)
  | [] => []
  | [_] => []
  | x :: y :: r => joinS (q ++ [x]) :: pres (q ++ [x]) (y :: r)
theorem abvR_pres : ∀ (l q : List (List UInt8)) (p : List UInt8), NoSl l → (q = [] → p = []) → (q ≠ [] → p = joinS q ++ [47]) → abvR p (joinS l) = pres q l
  | [], q, p, _, _, _ => by simp [joinS, abvR, pres]
  | [x], q, p, hn, _, _ => by
    have h := abvR_noSl x p [] (fun c hc => hn x (by simp) c hc)
    rw [List.append_nil] at h
    rw [joinS, h]; rfl
  | x :: y :: r, q, p, hn, h1, h2 => by
    have hx : p ++ x = joinS (q ++ [x]) := by
      by_cases hq : q = []
      · subst hq; rw [h1 rfl]; rfl
      · rw [h2 hq, joinS_snoc q x hq]; simp
    rw [joinS, abvR_noSl x p _ (fun c hc => hn x (by simp) c hc), abvR, if_pos rfl, hx, pres, abvR_pres (y :: r) (q ++ [x]) _ (fun z hz => hn z (by simp [hz])) (by simp) (fun _ => rfl)]
theorem aboveP_pres {l : List (List UInt8)} (hn : NoSl l) : aboveP (joinS l) = pres [] l := by
  rw [aboveP_eq]; exact abvR_pres l [] [] hn (fun _ => rfl) (fun h => absurd rfl h)
theorem pres_length : ∀ (l q : List (List UInt8)), (pres q l).length = l.length - 1
  | [], _ => rfl
  | [_], _ => rfl
  | x :: y :: r, q => by rw [pres, List.length_cons, pres_length (y :: r)]; simp
theorem pres_get : ∀ (l q : List (List UInt8)) (i : Nat), i + 1 < l.length → (pres q l)[i]? = some (joinS (q ++ l.take (i + 1)))
  | [], _, _, h => by simp at h
  | [_], _, i, h => by simp at h
  | x :: y :: r, q, 0, _ => by simp [pres]
  | x :: y :: r, q, i + 1, h => by
    rw [pres, List.getElem?_cons_succ, pres_get (y :: r) (q ++ [x]) i (by simpa using h)]
    simp
/-- a beginning is less -/
theorem bytesLess_pre : ∀ (a b : List UInt8), b ≠ [] → Op.bytesLess a (a ++ b) = true
  | [], b, h => by cases b with | nil => exact absurd rfl h | cons c b => rfl
  | c :: a, b, h => by
    have ih := bytesLess_pre a b h
    simp [Op.bytesLess, ih]
/-- names that a tree may have, none of them empty, no slash -/
theorem mayN_ne {s : List UInt8} (h : mayN s = true) : s ≠ [] ∧ ∀ c ∈ s, c ≠ 47 := by
  unfold mayN at h
  simp only [Bool.and_eq_true, Bool.not_eq_true', List.any_eq_false, Bool.or_eq_true, beq_iff_eq, not_or] at h
  refine ⟨fun e => ?_, fun c hc => (h.1.2 c hc).1⟩
  rw [e] at h
  simp at h
theorem filter_ne {l : List (List UInt8)} (h : l.all mayN = true) : l.filter (fun x => !x.isEmpty) = l := by
  rw [List.filter_eq_self]
  intro x hx
  have := (mayN_ne (List.all_eq_true.1 h x hx)).1
  cases x with
  | nil => exact absurd rfl this
  | cons c x => rfl
theorem noSl_of_may {l : List (List UInt8)} (h : l.all mayN = true) : NoSl l := fun x hx c hc => (mayN_ne (List.all_eq_true.1 h x hx)).2 c hc
theorem joinP_may {l : List (List UInt8)} (h : l.all mayN = true) : joinP l = joinS l := by unfold joinP; rw [filter_ne h]
theorem joinS_eq_nil {l : List (List UInt8)} (h : l.all mayN = true) (he : joinS l = []) : l = [] := by
  cases l with
  | nil => rfl
  | cons x r =>
    have hx := (mayN_ne (List.all_eq_true.1 h x (by simp))).1
    cases r with
    | nil => exact absurd he hx
    | cons y r => rw [joinS] at he; simp at he
theorem splitP_joinS {l : List (List UInt8)} (h : l.all mayN = true) : splitP (joinS l) = l := by
  unfold splitP
  by_cases he : joinS l = []
  · rw [if_pos he, joinS_eq_nil h he]
  · rw [if_neg he]
    have hl : l ≠ [] := fun e => he (by rw [e]; rfl)
    exact spl_joinS l hl (noSl_of_may h)
theorem mayP_joinS {l : List (List UInt8)} (h : l.all mayN = true) (h1 : (joinS l).length ≤ 4080) (h2 : l.length < 255) : mayP (joinS l) = true := by
  unfold mayP
  rw [splitP_joinS h, h, decide_eq_true h1, decide_eq_true h2]; rfl
theorem joinS_append : ∀ (a b : List (List UInt8)), a ≠ [] → b ≠ [] → joinS (a ++ b) = joinS a ++ 47 :: joinS b
  | [], _, h, _ => absurd rfl h
  | [x], b, _, hb => by rw [List.singleton_append, joinS_cons x hb]; rfl
  | x :: y :: r, b, _, hb => by
    have ih := joinS_append (y :: r) b (by simp) hb
    rw [List.cons_append] at ih
    show x ++ 47 :: joinS (y :: (r ++ b)) = (x ++ 47 :: joinS (y :: r)) ++ 47 :: joinS b
    rw [ih]; simp
/-- the path, its parent and its base -/
theorem parts_join {l : List (List UInt8)} (h : l.all mayN = true) : joinP [parentP (joinS l), baseP (joinS l)] = joinS l := by
  have hn := noSl_of_may h
  rcases List.eq_nil_or_concat l with rfl | ⟨a, b, rfl⟩
  · rfl
  · rw [List.concat_eq_append] at h hn ⊢
    have hb : ∀ x ∈ b, x ≠ 47 := fun c hc => hn b (by simp) c hc
    have hbn : b ≠ [] := (mayN_ne (List.all_eq_true.1 h b (by simp))).1
    by_cases ha : a = []
    · subst ha
      rw [List.nil_append]
      show joinP [parentP b, baseP b] = b
      rw [(parent_one hb).1, (parent_one hb).2, joinP_two, if_pos rfl]
    · obtain ⟨h1, h2⟩ := parent_joinS ha hb
      have haj : joinS a ≠ [] := fun e => ha (joinS_eq_nil (by rw [List.all_append] at h; simp only [Bool.and_eq_true] at h; exact h.1) e)
      rw [h1, h2, joinP_two, if_neg haj, if_neg hbn, joinS_snoc a b ha]
theorem under_self (p : List UInt8) : underP p p = false := by
  unfold underP
  have : (p ++ [47]).isPrefixOf p = false := by
    cases h : (p ++ [47]).isPrefixOf p with
    | false => rfl
    | true =>
      have := (List.isPrefixOf_iff_prefix.1 h).length_le
      rw [List.length_append, List.length_singleton] at this
      omega
  rw [this]
  cases p.isEmpty <;> rfl
theorem under_nil (p : List UInt8) : underP [] p = !p.isEmpty := by unfold underP; simp
/-- one of those above, and the next one -/
structure Abv (p d x : List UInt8) : Prop where
  par : parentP x = d
  und : underP d p = true
  may : mayP d = true
  less : Op.bytesLess d x = true
  nun : underP p d = false
theorem abv_at {l : List (List UInt8)} (h : l.all mayN = true) (h1 : (joinS l).length ≤ 4080) (h2 : l.length < 255) (i : Nat) (hi : i + 1 < l.length) : Abv (joinS l) (joinS (l.take (i + 1))) (joinS (l.take (i + 2))) := by
  have ht : (l.take (i + 1)).all mayN = true := by
    rw [List.all_eq_true] at h ⊢
    exact fun x hx => h x (List.mem_of_mem_take hx)
  have htn : l.take (i + 1) ≠ [] := by
    intro e
    have := congrArg List.length e
    rw [List.length_take, List.length_nil] at this
    omega
  have hdn : l.drop (i + 1) ≠ [] := by
    intro e
    have := congrArg List.length e
    rw [List.length_drop, List.length_nil] at this
    omega
  have hp : joinS l = joinS (l.take (i + 1)) ++ 47 :: joinS (l.drop (i + 1)) := by
    conv => lhs; rw [← List.take_append_drop (i + 1) l]
    exact joinS_append _ _ htn hdn
  have hx : l.take (i + 2) = l.take (i + 1) ++ [l[i + 1]] := List.take_succ_eq_append_getElem hi
  have hb := (mayN_ne (List.all_eq_true.1 h l[i + 1] (List.getElem_mem hi))).2
  have hdj : joinS (l.take (i + 1)) ≠ [] := fun e => htn (joinS_eq_nil ht e)
  refine ⟨?_, ?_, ?_, ?_, ?_⟩
  · rw [hx]; exact (parent_joinS htn hb).1
  · unfold underP
    have hpr : (joinS (l.take (i + 1)) ++ [47]).isPrefixOf (joinS l) = true := by
      rw [List.isPrefixOf_iff_prefix, hp]
      exact ⟨joinS (l.drop (i + 1)), by simp⟩
    rw [hpr]
    have : (joinS l).isEmpty = false := by
      rw [hp]
      cases joinS (l.take (i + 1)) <;> rfl
    rw [this]; simp
  · exact mayP_joinS ht (by rw [hp] at h1; simp at h1; omega) (by rw [List.length_take]; omega)
  · rw [hx, joinS_snoc _ _ htn]
    exact bytesLess_pre _ _ (by simp)
  · unfold underP
    have hpr : (joinS l ++ [47]).isPrefixOf (joinS (l.take (i + 1))) = false := by
      cases h3 : (joinS l ++ [47]).isPrefixOf (joinS (l.take (i + 1))) with
      | false => rfl
      | true =>
        have h4 := (List.isPrefixOf_iff_prefix.1 h3).length_le
        rw [hp, List.length_append, List.length_append, List.length_cons, List.length_singleton] at h4
        omega
    have : (joinS l).isEmpty = false := by
      rw [hp]
      cases joinS (l.take (i + 1)) <;> rfl
    rw [hpr, this]; simp
theorem joinS_take_len : ∀ (l : List (List UInt8)) (j : Nat), (joinS (l.take j)).length ≤ (joinS l).length
  | [], j => by simp [joinS]
  | [x], 0 => by simp [joinS]
  | [x], j + 1 => by simp
  | x :: y :: r, 0 => by simp [joinS]
  | x :: y :: r, 1 => by simp [joinS]
  | x :: y :: r, j + 2 => by
    have ih := joinS_take_len (y :: r) (j + 1)
    rw [List.take_succ_cons] at ih ⊢
    rw [List.take_succ_cons, joinS, joinS, List.length_append, List.length_append, List.length_cons, List.length_cons]
    omega
/-- the names that the law takes -/
def cut60 (s : List UInt8) : List UInt8 := s.take (min s.length 60)
def sel (names : List (List UInt8)) (k : Nat) : List (List UInt8) := ((names.take (min k 40)).map cut60).filter mayN
theorem sel_succ (names : List (List UInt8)) (k : Nat) (hk : k < names.length) : sel names (k + 1) = if k < 40 ∧ mayN (cut60 names[k]) = true then sel names k ++ [cut60 names[k]] else sel names k := by
  unfold sel
  by_cases h : k < 40
  · rw [show min (k + 1) 40 = k + 1 by omega, show min k 40 = k by omega, List.take_succ_eq_append_getElem hk, List.map_append, List.filter_append]
    by_cases hm : mayN (cut60 names[k]) = true
    · rw [if_pos ⟨h, hm⟩]; simp [hm]
    · rw [if_neg (fun e => hm e.2)]; simp [hm]
  · rw [show min (k + 1) 40 = 40 by omega, show min k 40 = 40 by omega, if_neg (fun e => h e.1)]
theorem sel_may (names : List (List UInt8)) (k : Nat) : (sel names k).all mayN = true := by
  rw [List.all_eq_true]; exact fun x hx => (List.mem_filter.1 hx).2
theorem sel_len (names : List (List UInt8)) (k : Nat) : (sel names k).length ≤ 40 := by
  unfold sel
  refine Nat.le_trans (List.length_filter_le _ _) ?_
  rw [List.length_map, List.length_take]; omega
theorem sel_each (names : List (List UInt8)) (k : Nat) : ∀ x ∈ sel names k, x.length ≤ 60 := by
  intro x hx
  obtain ⟨y, _, rfl⟩ := List.mem_map.1 (List.mem_filter.1 hx).1
  unfold cut60; rw [List.length_take]; omega
theorem joinS_bound : ∀ (l : List (List UInt8)), (∀ x ∈ l, x.length ≤ 60) → (joinS l).length ≤ 61 * l.length
  | [], _ => by simp [joinS]
  | [x], h => by have := h x (by simp); show x.length ≤ _; simp; omega
  | x :: y :: r, h => by
    have h1 := h x (by simp)
    have ih := joinS_bound (y :: r) (fun z hz => h z (by simp [hz]))
    rw [joinS, List.length_append, List.length_cons]
    simp only [List.length_cons] at ih ⊢
    omega
theorem sel_join (names : List (List UInt8)) (k : Nat) : (joinS (sel names k)).length ≤ 4080 := by
  have h1 := joinS_bound _ (sel_each names k)
  have h2 := sel_len names k
  omega
end Go.Proofs.YtkijhaibcnhedaaDoor
