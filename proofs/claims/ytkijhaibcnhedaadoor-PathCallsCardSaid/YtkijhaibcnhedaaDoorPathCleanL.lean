/- PATHS CLEANED: plain facts. -/
import Derived.Test.YtkijhaibcnhedaaDoorPathWhiteL
import Derived.Test.YtkijhaibcnhedaaDoorPathClean
import Derived.Lib.Replace
namespace Go.Proofs.YtkijhaibcnhedaaDoor
/-- a slash becomes two, a dot between, and a slash more -/
def repl : List UInt8 → List UInt8
  | [] => []
  | c :: l => if c = 47 then 47 :: 46 :: 47 :: 47 :: repl l else c :: repl l
theorem repl_none : ∀ {a : List UInt8}, (∀ x ∈ a, x ≠ 47) → repl a = a
  | [], _ => rfl
  | c :: a, h => by rw [repl, if_neg (h c (by simp)), repl_none (fun x hx => h x (by simp [hx]))]
theorem repl_cut : ∀ {a : List UInt8} (b : List UInt8), (∀ x ∈ a, x ≠ 47) → repl (a ++ 47 :: b) = a ++ [47, 46, 47, 47] ++ repl b
  | [], b, _ => by rw [List.nil_append, repl, if_pos rfl]; rfl
  | c :: a, b, h => by
    rw [List.cons_append, repl, if_neg (h c (by simp)), repl_cut b (fun x hx => h x (by simp [hx]))]; rfl
theorem repl_len : ∀ a : List UInt8, (repl a).length ≤ 4 * a.length
  | [] => by simp [repl]
  | c :: a => by
    have := repl_len a
    unfold repl
    split <;> simp <;> omega
theorem replaceK_repl : ∀ (k : Nat) (l : List UInt8), l.count 47 = k → Lib.replaceK [47] [47, 46, 47, 47] k l = repl l
  | 0, l, h => by
    rw [repl_none (fun x hx e => by subst e; exact absurd hx (List.count_eq_zero.1 h))]; rfl
  | k + 1, l, h => by
    rcases first_of 47 l with ⟨h1, h2⟩ | ⟨o, h1, h2, h3, h4⟩
    · exfalso
      have : l.count 47 = 0 := List.count_eq_zero.2 (fun hm => h2 47 hm rfl)
      omega
    · have hc : (l.drop (o + 1)).count 47 = k := by
        rw [h3, List.count_append, List.count_cons_self, List.count_eq_zero.2 (fun hm => h4 47 hm rfl)] at h
        omega
      rw [Lib.replaceK_hit [47] [47, 46, 47, 47] k l o (by rw [Lib.index_one]; exact h1)]
      conv => rhs; rw [h3]
      rw [repl_cut _ h4, ← replaceK_repl k _ hc]
      rfl
theorem replaceAll_repl (l : List UInt8) : Lib.replaceAll l [47] [47, 46, 47, 47] = repl l := by
  unfold Lib.replaceAll Lib.replace Lib.replaceNum
  rw [if_neg (by decide), if_pos (.inl (by decide)), Lib.count_one]
  exact replaceK_repl _ _ rfl
/-- parts that are none, put between -/
def ilv : List (List UInt8) → List (List UInt8)
  | [] => []
  | [x] => [x]
  | x :: y :: r => x :: [46] :: [] :: ilv (y :: r)
theorem spl_cons (c : UInt8) (l : List UInt8) : spl (c :: l) = if c = 47 then [] :: spl l else match spl l with | [] => [[c]] | h :: t => (c :: h) :: t := rfl
theorem spl_repl : ∀ l, spl (repl l) = ilv (spl l)
  | [] => rfl
  | c :: l => by
    have ih := spl_repl l
    have hne := spl_ne l
    rw [repl, spl_cons]
    by_cases hc : c = 47
    · rw [if_pos hc, if_pos hc]
      cases hs : spl l with
      | nil => exact absurd hs hne
      | cons h t =>
        rw [hs] at ih
        rw [spl_cons, if_pos rfl, spl_cons, if_neg (by decide), spl_cons, if_pos rfl, spl_cons, if_pos rfl, ih, ilv]
    · rw [if_neg hc, if_neg hc, spl_cons, if_neg hc, ih]
      cases hs : spl l with
      | nil => exact absurd hs hne
      | cons h t =>
        cases t with
        | nil => rfl
        | cons y r => rfl
abbrev keepB (s : List UInt8) : Bool := !(s.isEmpty || s == [46])
theorem ilv_filter : ∀ l, (ilv l).filter keepB = l.filter keepB
  | [] => rfl
  | [x] => rfl
  | x :: y :: r => by
    have ih := ilv_filter (y :: r)
    rw [ilv, List.filter_cons, List.filter_cons (x := x) (xs := y :: r), ← ih]
    rfl
theorem ilv_contains : ∀ l, (ilv l).contains [46, 46] = l.contains [46, 46]
  | [] => rfl
  | [x] => rfl
  | x :: y :: r => by
    have ih := ilv_contains (y :: r)
    rw [ilv, List.contains_cons, List.contains_cons (a := x), ← ih]
    rfl
def wrapR (raw : List UInt8) : List UInt8 := [46, 47] ++ repl raw ++ [47, 46]
theorem spl_wrapR (raw : List UInt8) : spl (wrapR raw) = [46] :: (ilv (spl raw) ++ [[46]]) := by
  have h : wrapR raw = [46] ++ 47 :: (repl raw ++ 47 :: [46]) := by unfold wrapR; simp
  rw [h, spl_cut _ (by decide), spl_app _ [46] (by decide), spl_repl]
theorem repl_zero : ∀ l : List UInt8, (repl l).contains 0 = l.contains 0
  | [] => rfl
  | c :: l => by
    have ih := repl_zero l
    rw [repl]
    by_cases hc : c = 47
    · rw [if_pos hc, List.contains_cons, List.contains_cons, List.contains_cons, List.contains_cons, ih, List.contains_cons (a := c), hc]
      simp
    · rw [if_neg hc, List.contains_cons, ih, List.contains_cons (a := c)]
theorem clean_wrapR {raw : List UInt8} (h : ([47] : List UInt8).isPrefixOf raw = false) : cleanP (wrapR raw) = cleanP raw := by
  have h1 : (wrapR raw).contains 0 = raw.contains 0 := by
    rw [← repl_zero raw]
    unfold wrapR
    cases hc : (repl raw).contains 0 <;> simp_all
  have h2 : ([47] : List UInt8).isPrefixOf (wrapR raw) = false := rfl
  have h3 : (spl (wrapR raw)).contains [46, 46] = (spl raw).contains [46, 46] := by
    rw [spl_wrapR, ← ilv_contains (spl raw)]
    cases hc : (ilv (spl raw)).contains [46, 46] <;> simp_all
  have h4 : keptP (wrapR raw) = keptP raw := by
    show (spl (wrapR raw)).filter keepB = (spl raw).filter keepB
    rw [spl_wrapR, List.filter_cons, List.filter_append, ilv_filter]
    simp [keepB]
  unfold cleanP
  rw [h1, h2, h3, h4, h]
theorem clean_slash (raw : List UInt8) : cleanP (47 :: raw) = ([], 30) := by
  unfold cleanP
  rw [if_pos]
  have : ([47] : List UInt8).isPrefixOf (47 :: raw) = true := by simp [List.isPrefixOf]
  rw [this]; simp
theorem clean_behind (raw : List UInt8) : cleanP (raw ++ [47, 46, 46]) = ([], 30) := by
  unfold cleanP
  rw [if_pos]
  have : (spl (raw ++ [47, 46, 46])).contains [46, 46] = true := by
    rw [show raw ++ [47, 46, 46] = raw ++ 47 :: [46, 46] from rfl, spl_app _ _ (by decide)]; simp
  rw [this]; simp
theorem clean_ahead (raw : List UInt8) : cleanP ([46, 46, 47] ++ raw) = ([], 30) := by
  unfold cleanP
  rw [if_pos]
  have : (spl ([46, 46, 47] ++ raw)).contains [46, 46] = true := by
    rw [show [46, 46, 47] ++ raw = [46, 46] ++ 47 :: raw from rfl, spl_cut _ (by decide)]; simp
  rw [this]; simp
/-- what is cleaned is clean -/
structure Cleaned (p : List UInt8) : Prop where
  each : ∀ s ∈ splitP p, s.isEmpty = false ∧ (s == [46]) = false ∧ (s == [46, 46]) = false ∧ s.length ≤ 255 ∧ s.any (([47, 0] : List UInt8).contains ·) = false
  again : cleanP p = (p, 0)
  len : p.length ≤ 4096
inductive CleanR (raw : List UInt8) : Prop
  | path (h : cleanP raw = ([], 30))
  | long (h : cleanP raw = ([], 3)) (hs : ([47] : List UInt8).isPrefixOf raw = false)
  | ok (p : List UInt8) (h : cleanP raw = (p, 0)) (hs : ([47] : List UInt8).isPrefixOf raw = false) (hc : Cleaned p)
theorem mem_joinS : ∀ (l : List (List UInt8)) (c : UInt8), c ∈ joinS l → c = 47 ∨ ∃ x ∈ l, c ∈ x
  | [], c, h => by cases h
  | [x], c, h => .inr ⟨x, by simp, h⟩
  | x :: y :: r, c, h => by
    rw [joinS] at h
    rcases List.mem_append.1 h with h | h
    · exact .inr ⟨x, by simp, h⟩
    · rcases List.mem_cons.1 h with h | h
      · exact .inl h
      · rcases mem_joinS (y :: r) c h with h | ⟨z, hz, hc⟩
        · exact .inl h
        · exact .inr ⟨z, by simp [hz], hc⟩
theorem mem_spl : ∀ (l : List UInt8), ∀ x ∈ spl l, ∀ c ∈ x, c ∈ l
  | [], x, hx, c, hc => by simp [spl] at hx; subst hx; cases hc
  | a :: l, x, hx, c, hc => by
    have ih := mem_spl l
    rw [spl_cons] at hx
    split at hx
    · rcases List.mem_cons.1 hx with rfl | hx
      · cases hc
      · exact List.mem_cons_of_mem _ (ih x hx c hc)
    · split at hx
      · obtain rfl := List.mem_singleton.1 hx
        simp at hc; simp [hc]
      · rename_i h t he
        rw [he] at ih
        rcases List.mem_cons.1 hx with rfl | hx
        · rcases List.mem_cons.1 hc with rfl | hc
          · simp
          · exact List.mem_cons_of_mem _ (ih h (by simp) c hc)
        · exact List.mem_cons_of_mem _ (ih x (by simp [hx]) c hc)
theorem cleanR (raw : List UInt8) : CleanR raw := by
  cases hA : (raw.contains 0 || ([47] : List UInt8).isPrefixOf raw || (spl raw).contains [46, 46]) with
  | true => exact .path (by unfold cleanP; rw [hA]; rfl)
  | false =>
    have hs : ([47] : List UInt8).isPrefixOf raw = false := by
      simp only [Bool.or_eq_false_iff] at hA; exact hA.1.2
    have h0 : raw.contains 0 = false := by
      simp only [Bool.or_eq_false_iff] at hA; exact hA.1.1
    have hd : (spl raw).contains [46, 46] = false := by
      simp only [Bool.or_eq_false_iff] at hA; exact hA.2
    cases hB : (decide (255 < (keptP raw).length) || decide (4096 < (joinS (keptP raw)).length) || (keptP raw).any (fun s => decide (255 < s.length))) with
    | true => exact .long (by unfold cleanP; rw [hA, hB]; rfl) hs
    | false =>
      refine .ok (joinS (keptP raw)) (by unfold cleanP; rw [hA, hB]; rfl) hs ?_
      have hB2 := hB
      simp only [Bool.or_eq_false_iff, decide_eq_false_iff_not] at hB2
      obtain ⟨⟨b1, b2⟩, b3⟩ := hB2
      have hk : ∀ s ∈ keptP raw, s ≠ [] ∧ s ≠ [46] ∧ s ∈ spl raw := fun s hs => by
        obtain ⟨h1, h2⟩ := List.mem_filter.1 hs
        simp only [Bool.not_eq_true', Bool.or_eq_false_iff, beq_eq_false_iff_ne] at h2
        refine ⟨fun e => ?_, h2.2, h1⟩
        rw [e] at h2; simp at h2
      have hns : NoSl (keptP raw) := fun x hx c hc => spl_nosl raw x (hk x hx).2.2 c hc
      have hne0 : joinS (keptP raw) = [] → keptP raw = [] := fun e => by
        cases hq : keptP raw with
        | nil => rfl
        | cons x r =>
          rw [hq] at e
          have hx := (hk x (by rw [hq]; simp)).1
          cases r with
          | nil => exact absurd e hx
          | cons y r => rw [joinS] at e; simp at e
      have hsp : splitP (joinS (keptP raw)) = keptP raw := by
        unfold splitP
        by_cases he : joinS (keptP raw) = []
        · rw [if_pos he, hne0 he]
        · rw [if_neg he]
          exact spl_joinS _ (fun e => he (by rw [e]; rfl)) hns
      have hz : ∀ s ∈ keptP raw, ∀ c ∈ s, c ≠ 0 := fun s hs c hc e => by
        have := mem_spl raw s (hk s hs).2.2 c hc
        rw [e] at this
        have h9 : raw.contains 0 = true := by simpa using this
        rw [h0] at h9; cases h9
      have hdd : ∀ s ∈ keptP raw, s ≠ [46, 46] := fun s hs e => by
        have := (hk s hs).2.2
        rw [e] at this
        have h9 : (spl raw).contains [46, 46] = true := by simpa using this
        rw [hd] at h9; cases h9
      refine ⟨?_, ?_, by omega⟩
      · rw [hsp]
        intro s hs
        obtain ⟨k1, k2, k3⟩ := hk s hs
        refine ⟨by cases s with | nil => exact absurd rfl k1 | cons c s => rfl, beq_eq_false_iff_ne.2 k2, beq_eq_false_iff_ne.2 (hdd s hs), ?_, ?_⟩
        · have := List.any_eq_false.1 b3 s hs
          simp at this; omega
        · rw [List.any_eq_false]
          intro c hc
          have e1 := hns s hs c hc
          have e2 := hz s hs c hc
          simp [e1, e2]
      · have g1 : (joinS (keptP raw)).contains 0 = false := by
          cases hq : (joinS (keptP raw)).contains 0 with
          | false => rfl
          | true =>
            have hm : (0 : UInt8) ∈ joinS (keptP raw) := by simpa using hq
            rcases mem_joinS _ _ hm with e | ⟨x, hx, hc⟩
            · exact absurd e (by decide)
            · exact absurd rfl (hz x hx 0 hc)
        by_cases he : keptP raw = []
        · rw [he]; decide
        · have hj : joinS (keptP raw) ≠ [] := fun e => he (hne0 e)
          have hspl : spl (joinS (keptP raw)) = keptP raw := spl_joinS _ he hns
          have g2 : ([47] : List UInt8).isPrefixOf (joinS (keptP raw)) = false := by
            cases hq : keptP raw with
            | nil => exact absurd hq he
            | cons x r =>
              have hx := (hk x (by rw [hq]; simp)).1
              have hxs := hns x (by rw [hq]; simp)
              cases x with
              | nil => exact absurd rfl hx
              | cons c x =>
                have hc := hxs c (by simp)
                have hcc : (47 == c) = false := beq_eq_false_iff_ne.2 (fun e => hc e.symm)
                cases r with
                | nil => simp [joinS, List.isPrefixOf, hcc]
                | cons y r => simp [joinS, List.isPrefixOf, hcc]
          have g3 : (spl (joinS (keptP raw))).contains [46, 46] = false := by
            rw [hspl]
            cases hq : (keptP raw).contains [46, 46] with
            | false => rfl
            | true => exact absurd rfl (hdd [46, 46] (by simpa using hq))
          have g4 : keptP (joinS (keptP raw)) = keptP raw := by
            show (spl (joinS (keptP raw))).filter keepB = keptP raw
            rw [hspl, List.filter_eq_self]
            intro s hs
            obtain ⟨k1, k2, -⟩ := hk s hs
            have e1 : s.isEmpty = false := by cases s with | nil => exact absurd rfl k1 | cons c s => rfl
            have e2 : (s == [46]) = false := beq_eq_false_iff_ne.2 k2
            simp [keepB, e1, e2]
          unfold cleanP
          rw [g1, g2, g3, g4, hB]; rfl
end Go.Proofs.YtkijhaibcnhedaaDoor
