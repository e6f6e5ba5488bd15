/- FIELDS, THERE AND BACK: what Octal and Wide tell where the number fits, and where it does not. -/
import Derived.Test.YtohballfhhndbaaDoorFldBackL
import Derived.Test.YtohballfhhndbaaDoorFldWide
import Derived.Test.YtohballfhhndbaaDoorFldText
namespace Go.Proofs.YtohballfhhndbaaDoor
theorem octS_ok (x j : Nat) (hj : 1 ≤ j) (hj2 : j ≤ 19) (hx : x < 8 ^ j) : octS (x : Int) ((j : Int) + 1) = (octK j x ++ [0], 0) := by
  unfold octS
  rw [show ((j : Int) + 1).toNat - 1 = j by omega, if_neg (by omega), Int.toNat_natCast, if_neg (by omega)]
theorem octS_no (n : Int) (j : Nat) (hj : 1 ≤ j) (hj2 : j ≤ 19) (h : n < 0 ∨ 8 ^ j ≤ n.toNat) : octS n ((j : Int) + 1) = ([], 3) := by
  unfold octS
  rw [show ((j : Int) + 1).toNat - 1 = j by omega, if_neg (by omega), if_pos h]
theorem wideS_ok (n : Int) (m : Nat) (hm : 2 ≤ m) (hm2 : m ≤ 20) (hf : n / 2 ^ (8 * m - 2) = 0 ∨ n / 2 ^ (8 * m - 2) = -1) : wideS n (m : Int) = (wideL n m, 0) := by
  unfold wideS
  rw [Int.toNat_natCast, if_neg (by omega), if_pos hf]
theorem wideS_no (n : Int) (m : Nat) (hm : 2 ≤ m) (hm2 : m ≤ 20) (hf : ¬ (n / 2 ^ (8 * m - 2) = 0 ∨ n / 2 ^ (8 * m - 2) = -1)) : wideS n (m : Int) = ([], 3) := by
  unfold wideS
  rw [Int.toNat_natCast, if_neg (by omega), if_neg hf]
/-- a wider field fits, too -/
theorem fit_more (n : Int) (a b : Nat) (hab : a ≤ b) (h : n / 2 ^ a = 0 ∨ n / 2 ^ a = -1) : n / 2 ^ b = 0 ∨ n / 2 ^ b = -1 := by
  obtain ⟨c, rfl⟩ : ∃ c, b = a + c := ⟨b - a, by omega⟩
  have hp : (0 : Int) < 2 ^ c := Int.pow_pos (by decide)
  rw [Int.pow_add, ← Int.ediv_ediv_of_nonneg (Int.pow_nonneg (by decide))]
  rcases h with h | h
  · rw [h]; exact .inl (Int.zero_ediv _)
  · rw [h]
    refine .inr ?_
    exact Int.ediv_eq_neg_one_of_neg_of_le (by decide) (by omega)
/-- the test of the law: min(8k-2, 63) -/
theorem fit_min (n : Int) (h0 : -9223372036854775808 ≤ n) (h1 : n ≤ 9223372036854775807) (m T : Nat) (hT : T = min (8 * m - 2) 63) : (n / 2 ^ T = 0 ∨ n / 2 ^ T = -1) ↔ (n / 2 ^ (8 * m - 2) = 0 ∨ n / 2 ^ (8 * m - 2) = -1) := by
  by_cases h : 8 * m - 2 ≤ 63
  · rw [hT, Nat.min_eq_left h]
  · exact ⟨fun _ => shr_small n h0 h1 _ (by omega), fun _ => shr_small n h0 h1 _ (by omega)⟩
theorem oct_fit (x j : Nat) : ((x : Int) / 2 ^ (3 * j) = 0) ↔ x < 8 ^ j := by
  have e : (2 : Int) ^ (3 * j) = ((8 ^ j : Nat) : Int) := by
    rw [Int.pow_mul]; norm_cast
  rw [e, ← Int.natCast_ediv]
  have hp : 0 < 8 ^ j := Nat.pow_pos (by decide)
  have : x / 8 ^ j = 0 ↔ x < 8 ^ j := by rw [Nat.div_eq_zero_iff]; omega
  omega
theorem oct_wide (x j : Nat) (h : x < 8 ^ j) : (x : Int) / 2 ^ (8 * (j + 1) - 2) = 0 := by
  have e : (2 : Int) ^ (8 * (j + 1) - 2) = ((2 ^ (8 * (j + 1) - 2) : Nat) : Int) := by norm_cast
  have h2 : 8 ^ j ≤ 2 ^ (8 * (j + 1) - 2) := by
    rw [show (8 : Nat) = 2 ^ 3 from rfl, ← Nat.pow_mul]
    exact Nat.pow_le_pow_right (by decide) (by omega)
  rw [e, ← Int.natCast_ediv, Nat.div_eq_of_lt (by omega)]
  rfl
end Go.Proofs.YtohballfhhndbaaDoor
