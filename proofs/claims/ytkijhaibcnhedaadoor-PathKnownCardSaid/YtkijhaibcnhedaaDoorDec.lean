/- RUNES BEYOND ASCII: decoding takes only bytes beyond ASCII; encoding ends with one. Plain facts. -/
import Derived.Test.YtkijhaibcnhedaaDoorLaw
namespace Go.Proofs.YtkijhaibcnhedaaDoor
open Go.RowKit
theorem decode_high (s : ByteArray) (i : Nat) (hi : i < s.size) (h0 : 128 ≤ (s.get! i).toNat) :
    128 ≤ (Utf8.decode s i).1 ∧ (Utf8.decode s i).1 ≤ 2097151 ∧ 1 ≤ (Utf8.decode s i).2 ∧ i + (Utf8.decode s i).2 ≤ s.size ∧ ∀ k, 0 < k → k < (Utf8.decode s i).2 → 128 ≤ (s.get! (i + k)).toNat := by
  have hre : Utf8.runeError = 65533 := rfl
  unfold Utf8.decode
  simp only [Nat.add_zero, hre]
  rw [if_neg (by omega)]
  have hb : ∀ k, (s.get! (i + k)).toNat < 256 := fun k => (s.get! (i + k)).toNat_lt
  have hb0 : (s.get! i).toNat < 256 := (s.get! i).toNat_lt
  have b1 := hb 1; have b2 := hb 2; have b3 := hb 3
  split
  · rename_i hc
    simp only [Bool.and_eq_true, beq_iff_eq, decide_eq_true_eq] at hc
    split
    · refine ⟨by simp only; omega, by simp only; omega, by simp only; omega, by simp only; omega, fun k hk hk2 => ?_⟩
      obtain rfl : k = 1 := by simp only at hk2; omega
      omega
    · exact ⟨by simp, by simp, by simp, by simp only; omega, fun k hk hk2 => by simp only at hk2; omega⟩
  · split
    · rename_i hc
      simp only [Bool.and_eq_true, beq_iff_eq, decide_eq_true_eq] at hc
      split
      · rename_i hv
        simp only [ge_iff_le, Bool.and_eq_true, decide_eq_true_eq] at hv
        refine ⟨by simp only; omega, by simp only; omega, by simp only; omega, by simp only; omega, fun k hk hk2 => ?_⟩
        simp only at hk2
        rcases (by omega : k = 1 ∨ k = 2) with rfl | rfl <;> omega
      · exact ⟨by simp, by simp, by simp, by simp only; omega, fun k hk hk2 => by simp only at hk2; omega⟩
    · split
      · rename_i hc
        simp only [Bool.and_eq_true, beq_iff_eq, decide_eq_true_eq] at hc
        split
        · rename_i hv
          simp only [ge_iff_le, Bool.and_eq_true, decide_eq_true_eq] at hv
          refine ⟨by simp only; omega, by simp only; omega, by simp only; omega, by simp only; omega, fun k hk hk2 => ?_⟩
          simp only at hk2
          rcases (by omega : k = 1 ∨ k = 2 ∨ k = 3) with rfl | rfl | rfl <;> omega
        · exact ⟨by simp, by simp, by simp, by simp only; omega, fun k hk hk2 => by simp only at hk2; omega⟩
      · exact ⟨by simp, by simp, by simp, by simp only; omega, fun k hk hk2 => by simp only at hk2; omega⟩
theorem encode_high (r : Nat) (h : 128 ≤ r) : ∃ (l : List UInt8) (z : UInt8), Utf8.encode (r : Int) = ⟨(l ++ [z]).toArray⟩ ∧ 1 ≤ l.length ∧ l.length ≤ 3 ∧ 128 ≤ z.toNat := by
  have hre : Utf8.runeError = 65533 := rfl
  have hz : ∀ c : Nat, 128 ≤ (UInt8.ofNat (128 + c % 64)).toNat := fun c => by
    rw [UInt8.toNat_ofNat']; omega
  unfold Utf8.encode
  simp only [hre, Int.toNat_natCast]
  split
  · rw [if_neg (by omega)]
    split
    · exact ⟨[_], _, rfl, by simp, by simp, hz _⟩
    · split
      · exact ⟨[_, _], _, rfl, by simp, by simp, hz _⟩
      · exact ⟨[_, _, _], _, rfl, by simp, by simp, hz _⟩
  · rw [if_neg (by omega), if_neg (by omega), if_pos (by omega)]
    exact ⟨[_, _], _, rfl, by simp, by simp, hz _⟩
end Go.Proofs.YtkijhaibcnhedaaDoor
