/- what the document says a class is, and what the program's class is: the same. -/
import Derived.Test.YtkijhaibcnhedaaDoorPathWhiteL
namespace Go.Proofs.YtkijhaibcnhedaaDoor
def refT (p base dir : List UInt8) : Int × List UInt8 := if mayN base then (1, p) else if base == markB then (3, dir) else if whiteB.isPrefixOf base && mayN (base.drop 4) then (2, joinP [dir, base.drop 4]) else (0, [])
def refF (ct : Int × List UInt8) : Int × List UInt8 := if ct.1 == 0 || !mayP ct.2 then (0, []) else ct
def refC (p : List UInt8) (init : List (List UInt8)) (base : List UInt8) : Int × List UInt8 := if init.all mayN then refF (refT p base (joinP init)) else (0, [])
theorem split_parts {p : List UInt8} (h0 : p ≠ []) : ∃ init base, splitP p = init ++ [base] ∧ (∀ x ∈ base, x ≠ 47) ∧ ((init = [] ∧ p = base) ∨ ∃ d, init = spl d ∧ p = d ++ 47 :: base) := by
  rcases path_cases p with ⟨-, -, -, hn⟩ | ⟨d, b, rfl, hn, -⟩
  · exact ⟨[], p, splitP_one hn h0, hn, .inl ⟨rfl, rfl⟩⟩
  · exact ⟨spl d, b, splitP_app hn, hn, .inr ⟨d, rfl, rfl⟩⟩
theorem may_app {d b : List UInt8} (hb : ∀ x ∈ b, x ≠ 47) (h : mayP (d ++ 47 :: b) = true) : (spl d).all mayN = true ∧ mayN b = true := by
  obtain ⟨-, -, h3⟩ := may_parts h
  rw [splitP_app hb, List.all_append] at h3
  simp only [Bool.and_eq_true] at h3
  exact ⟨h3.1, by simpa using h3.2⟩
theorem join_spl {d : List UInt8} (h : (spl d).all mayN = true) : joinP (spl d) = d := by rw [joinP_may h, joinS_spl]
theorem class_ref {p base : List UInt8} {init : List (List UInt8)} (h0 : p ≠ []) (ht : (p == tableB) = false) (hb : ∀ x ∈ base, x ≠ 47) (hc : (init = [] ∧ p = base) ∨ ∃ d, init = spl d ∧ p = d ++ 47 :: base) : classP p = refC p init base := by
  rcases hc with ⟨rfl, rfl⟩ | ⟨d, rfl, rfl⟩
  · obtain ⟨g1, g2, -⟩ := dir_none hb
    unfold classP refC
    rw [ht, g1, g2, show joinP [] = ([] : List UInt8) from rfl]
    cases h1 : p == markB with
    | true => have := beq_iff_eq.1 h1; subst this; decide
    | false =>
      cases h2 : whiteB.isPrefixOf p with
      | true =>
        obtain ⟨b, rfl⟩ := List.isPrefixOf_iff_prefix.1 h2
        have hl : lastC (whiteB ++ b) = 2 := by unfold lastC; rw [h1, h2]; rfl
        have hdr : (whiteB ++ b).drop 4 = b := List.drop_left (l₁ := whiteB)
        have hg : tgtC 2 [] (whiteB ++ b) = b := by show [] ++ (whiteB ++ b).drop 4 = b; rw [hdr]; rfl
        have hj : joinP [[], b] = b := by rw [joinP_two, if_pos rfl]
        unfold refT
        rw [hl, hg, hdr, white_not_may, h1, h2, hj]
        cases hn : mayN b with
        | false => simp [refF]
        | true =>
          have he : b.isEmpty = false := by cases b with | nil => cases hn | cons c b => rfl
          rw [he]
          unfold refF
          cases hm : mayP b <;> simp [hm]
      | false =>
        have hl : lastC p = 1 := by unfold lastC; rw [h1, h2]; rfl
        have hg : tgtC 1 [] p = p := rfl
        have he : p.isEmpty = false := by cases p with | nil => exact absurd rfl h0 | cons c b => rfl
        unfold refT
        rw [hl, hg, h1, h2, he]
        cases hm : mayP p with
        | true =>
          have hn := may_base hm h0
          rw [g2] at hn
          rw [hn]; simp [refF, hm]
        | false =>
          cases hn : mayN p <;> simp [refF, hm]
  · obtain ⟨g1, g2, -⟩ := dir_of (d := d) hb
    unfold classP refC
    rw [ht, g1, g2]
    by_cases hd : d = []
    · subst hd
      have : (spl []).all mayN = false := rfl
      rw [this]; simp
    · rw [ne_slash hd]
      cases h1 : base == markB with
      | true =>
        have := beq_iff_eq.1 h1; subst this
        have hg : tgtC 3 (d ++ [47]) markB = d := trimSl_app d
        rw [lastC_mark, hg]
        have hn : mayN markB = false := by decide
        unfold refT
        rw [hn, h1]
        cases hm : mayP d with
        | true =>
          obtain ⟨-, -, ha⟩ := may_parts hm
          rw [show splitP d = spl d by unfold splitP; rw [if_neg hd]] at ha
          rw [ha, join_spl ha]
          simp [refF, hm]
        | false =>
          cases ha : (spl d).all mayN with
          | false => simp
          | true => rw [join_spl ha]; simp [refF, hm]
      | false =>
        cases h2 : whiteB.isPrefixOf base with
        | true =>
          obtain ⟨b, rfl⟩ := List.isPrefixOf_iff_prefix.1 h2
          have hbb : ∀ x ∈ b, x ≠ 47 := fun x hx => hb x (List.mem_append_right _ hx)
          have hl : lastC (whiteB ++ b) = 2 := by unfold lastC; rw [h1, h2]; rfl
          have hdr : (whiteB ++ b).drop 4 = b := List.drop_left (l₁ := whiteB)
          have hg : tgtC 2 (d ++ [47]) (whiteB ++ b) = d ++ 47 :: b := by show (d ++ [47]) ++ (whiteB ++ b).drop 4 = _; rw [hdr]; simp
          unfold refT
          rw [hl, hg, hdr, white_not_may, h1, h2]
          have he : (d ++ 47 :: b).isEmpty = false := by simp
          rw [he]
          cases hn : mayN b with
          | false => cases ha : (spl d).all mayN <;> simp [refF]
          | true =>
            have hbn : b ≠ [] := by rintro rfl; cases hn
            cases ha : (spl d).all mayN with
            | true =>
              rw [join_spl ha, joinP_two, if_neg hd, if_neg hbn]
              cases hm : mayP (d ++ 47 :: b) <;> simp [refF, hm]
            | false =>
              have hm : mayP (d ++ 47 :: b) = false := by
                cases hm : mayP (d ++ 47 :: b) with
                | false => rfl
                | true => rw [(may_app hbb hm).1] at ha; cases ha
              rw [hm]; simp
        | false =>
          have hl : lastC base = 1 := by unfold lastC; rw [h1, h2]; rfl
          have hg : tgtC 1 (d ++ [47]) base = d ++ 47 :: base := by show (d ++ [47]) ++ base = _; simp
          unfold refT
          rw [hl, hg, h1, h2]
          have he : (d ++ 47 :: base).isEmpty = false := by simp
          rw [he]
          cases hm : mayP (d ++ 47 :: base) with
          | true =>
            obtain ⟨ha, hn⟩ := may_app hb hm
            rw [ha, hn]; simp [refF, hm]
          | false =>
            cases ha : (spl d).all mayN with
            | false => simp
            | true => cases hn : mayN base <;> simp [refF, hm]
end Go.Proofs.YtkijhaibcnhedaaDoor
