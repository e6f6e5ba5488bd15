/- PAX, PLAINLY: which keys may be; a record's size; its text. No program in sight. -/
import Derived.Test.YtlhjehcfpnjbmaaDoorLaw
import Derived.Lib.ItoaNum
import Derived.Lib.ItoaLen
namespace Go.Proofs.YtlhjehcfpnjbmaaDoor
def badB : List UInt8 := [0, 61, 10]
/-- may a record of this key be? -/
def mayK (k : List UInt8) : Bool := !k.isEmpty && decide (k.length ≤ 255) && !k.any (badB.contains ·)
def dgo (r : Nat) : Nat → Nat → Nat
  | 0, d => d
  | f + 1, d => if r + d < 10 ^ d then d else dgo r f (d + 1)
/-- how many digits a size has, whose rest is r -/
def dsz (r : Nat) : Nat := dgo r 20 1
theorem dgo_spec (r : Nat) : ∀ (f d : Nat), 1 ≤ d → r + (d + f) < 10 ^ (d + f) → (∀ j, 1 ≤ j → j < d → 10 ^ j ≤ r + j) →
    d ≤ dgo r f d ∧ dgo r f d ≤ d + f ∧ r + dgo r f d < 10 ^ dgo r f d ∧ ∀ j, 1 ≤ j → j < dgo r f d → 10 ^ j ≤ r + j
  | 0, d, h1, h2, h3 => ⟨Nat.le_refl _, by simp [dgo], by simpa [dgo] using h2, by simpa [dgo] using h3⟩
  | f + 1, d, h1, h2, h3 => by
    unfold dgo
    split
    · rename_i h; exact ⟨Nat.le_refl _, by omega, h, h3⟩
    · rename_i h
      have := dgo_spec r f (d + 1) (by omega) (by rw [show d + 1 + f = d + (f + 1) by omega]; exact h2) (fun j hj1 hj2 => by
        rcases (by omega : j < d ∨ j = d) with h4 | rfl
        · exact h3 j hj1 h4
        · omega)
      exact ⟨by omega, by omega, this.2.2.1, this.2.2.2⟩
theorem dsz_spec (r : Nat) (hr : r ≤ 1000000000000000000) : 1 ≤ dsz r ∧ dsz r ≤ 21 ∧ r + dsz r < 10 ^ dsz r ∧ ∀ j, 1 ≤ j → j < dsz r → 10 ^ j ≤ r + j := by
  have := dgo_spec r 20 1 (by omega) (by have : (10:Nat) ^ (1 + 20) = 1000000000000000000000 := by decide
                                         omega) (fun j h1 h2 => by omega)
  exact ⟨this.1, this.2.1, this.2.2.1, this.2.2.2⟩
theorem nDigits_at {n d : Nat} (hd : 1 ≤ d) (h1 : d = 1 ∨ 10 ^ (d - 1) ≤ n) (h2 : n < 10 ^ d) : Lib.nDigits n = d := by
  rcases h1 with rfl | h1
  · exact Lib.nDigits_small (by simpa using h2)
  · have := Lib.nDigits_unique (d - 1) n h1 (by rw [show d - 1 + 1 = d by omega]; exact h2)
    omega
theorem pow_le_nDigits {n : Nat} (h : 1 ≤ n) : 10 ^ (Lib.nDigits n - 1) ≤ n := by
  induction n using Nat.strongRecOn with
  | _ n ih =>
    by_cases hn : n < 10
    · rw [Lib.nDigits_small hn]; simpa using h
    · rw [Lib.nDigits_big hn]
      have h1 := ih (n / 10) (by omega) (by omega)
      have h2 := Lib.nDigits_pos (n / 10)
      rw [show Lib.nDigits (n / 10) + 1 - 1 = (Lib.nDigits (n / 10) - 1) + 1 by omega, Nat.pow_succ]
      omega
theorem nDigits_mono {a b : Nat} (h : a ≤ b) : Lib.nDigits a ≤ Lib.nDigits b := by
  rcases Nat.eq_zero_or_pos a with rfl | h0
  · rw [Lib.nDigits_small (by omega)]; exact Lib.nDigits_pos b
  · have h1 := pow_le_nDigits h0
    have h2 := Lib.lt_pow_nDigits b
    have h3 : 10 ^ (Lib.nDigits a - 1) < 10 ^ Lib.nDigits b := by omega
    have := (Nat.pow_lt_pow_iff_right (a := 10) (by decide)).1 h3
    omega
/-- THE DIGITS OF A SIZE are as many as they say -/
theorem dsz_fix (r : Nat) (hr : r ≤ 1000000000000000000) : Lib.nDigits (r + dsz r) = dsz r := by
  obtain ⟨h1, _, h2, h3⟩ := dsz_spec r hr
  refine nDigits_at h1 ?_ h2
  rcases (by omega : dsz r = 1 ∨ 1 < dsz r) with h | h
  · exact .inl h
  · have := h3 (dsz r - 1) (by omega) (by omega)
    exact .inr (by omega)
/-- .. and it is the first that does -/
theorem dsz_first (r : Nat) (hr : r ≤ 1000000000000000000) (j : Nat) (hj : j < dsz r) (h1 : 1 ≤ j) : j < Lib.nDigits (r + j) := by
  obtain ⟨_, _, h2, h3⟩ := dsz_spec r hr
  have := h3 j h1 hj
  have h4 := Lib.lt_pow_nDigits (r + j)
  have h5 : 10 ^ j < 10 ^ Lib.nDigits (r + j) := by omega
  exact (Nat.pow_lt_pow_iff_right (by decide)).1 h5
theorem dsz_le (r : Nat) (hr : r ≤ 1000000000000000000) (j : Nat) (hj : j ≤ dsz r) : Lib.nDigits (r + j) ≤ dsz r := by
  have := nDigits_mono (a := r + j) (b := r + dsz r) (by omega)
  rw [dsz_fix r hr] at this
  exact this
/-- a record's size -/
def szR (k v : List UInt8) : Nat := k.length + v.length + 3
def sz (k v : List UInt8) : Nat := if mayK k then szR k v + dsz (szR k v) else 0
/-- a record's text -/
def recT (k v : List UInt8) : List UInt8 := Lib.decDigits (sz k v) ++ 32 :: (k ++ 61 :: (v ++ [10]))
theorem recT_length (k v : List UInt8) (h : mayK k = true) (hr : szR k v ≤ 1000000000000000000) : (recT k v).length = sz k v := by
  have h1 := dsz_fix (szR k v) hr
  simp only [recT, List.length_append, List.length_cons, List.length_nil, Lib.decDigits_length]
  simp only [sz, h, if_true] at *
  rw [h1]
  unfold szR; omega
/-- A VALUE OF A BYTE MORE: one more, or two -/
theorem dsz_step (r : Nat) (hr : r + 1 ≤ 1000000000000000000) : dsz (r + 1) = dsz r ∨ dsz (r + 1) = dsz r + 1 := by
  obtain ⟨h1, _, h2, h3⟩ := dsz_spec r (by omega)
  obtain ⟨k1, _, k2, k3⟩ := dsz_spec (r + 1) hr
  have ha : dsz r ≤ dsz (r + 1) := by
    refine Nat.le_of_not_lt fun hlt => ?_
    have := h3 _ k1 hlt
    omega
  have hb : dsz (r + 1) ≤ dsz r + 1 := by
    refine Nat.le_of_not_lt fun hlt => ?_
    have := k3 _ (by omega) hlt
    rw [Nat.pow_succ] at this
    omega
  omega
end Go.Proofs.YtlhjehcfpnjbmaaDoor
