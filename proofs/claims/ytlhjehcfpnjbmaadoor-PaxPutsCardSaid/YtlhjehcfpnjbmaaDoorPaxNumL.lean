/- PAX, PLAINLY: numbers' texts, and texts' numbers. No program in sight. -/
import Derived.Test.YtlhjehcfpnjbmaaDoorPaxSpec
import Derived.Lib.ParseIntBCases
import Derived.Lib.ItoaMem
import Derived.Lib.ParseIntBTie
namespace Go.Proofs.YtlhjehcfpnjbmaaDoor
theorem parseUintM_append (M : Nat) : ∀ (a b : List UInt8) (acc v : Nat), Lib.parseUintM M acc a = .ok v → Lib.parseUintM M acc (a ++ b) = Lib.parseUintM M v b
  | [], b, acc, v, h => by
    have h : Lib.NumEnd.ok acc = .ok v := h
    injection h with h; subst h; rfl
  | c :: a, b, acc, v, h => by
    simp only [List.cons_append, Lib.parseUintM] at h ⊢
    split at h
    · rename_i h1
      rw [if_pos h1]
      split at h
      · cases h
      · rename_i h2
        rw [if_neg h2]
        split at h
        · cases h
        · rename_i h3
          rw [if_neg h3]
          exact parseUintM_append M a b _ v h
    · cases h
theorem digit_toNat (d : Nat) (h : d < 10) : (UInt8.ofNat (48 + d)).toNat = 48 + d := by rw [UInt8.toNat_ofNat']; omega
theorem parseUintM_dec (M : Nat) (hM : M < 18446744073709551616) : ∀ u : Nat, u ≤ M → Lib.parseUintM M 0 (Lib.decDigits u) = .ok u := by
  intro u
  induction u using Nat.strongRecOn with
  | _ u ih =>
    intro hu
    by_cases h : u < 10
    · rw [Lib.decDigits_one h]
      have hd := digit_toNat u h
      simp only [Lib.parseUintM, hd]
      rw [if_pos (by omega), if_neg (by omega), if_neg (by omega)]
      congr 1; omega
    · rw [Lib.decDigits, dif_neg h, parseUintM_append M _ _ 0 (u / 10) (ih (u / 10) (by omega) (by omega))]
      have hd := digit_toNat (u % 10) (by omega)
      simp only [Lib.parseUintM, hd]
      rw [if_pos (by omega), if_neg (by omega), if_neg (by omega)]
      congr 1; omega
theorem decDigits_head (u : Nat) : ∃ c r, Lib.decDigits u = c :: r ∧ 48 ≤ c.toNat ∧ c.toNat ≤ 57 := by
  induction u using Nat.strongRecOn with
  | _ u ih =>
    by_cases h : u < 10
    · exact ⟨_, [], Lib.decDigits_one h, by rw [digit_toNat u h]; omega, by rw [digit_toNat u h]; omega⟩
    · obtain ⟨c, r, h1, h2, h3⟩ := ih (u / 10) (by omega)
      exact ⟨c, r ++ [UInt8.ofNat (48 + u % 10)], by rw [Lib.decDigits, dif_neg h, h1]; rfl, h2, h3⟩
theorem parseUintB_dec (u : Nat) (hu : u ≤ 18446744073709551615) : Lib.parseUintB 64 (Lib.decDigits u) = .ok u := by
  unfold Lib.parseUintB
  obtain ⟨c, r, h1, _, _⟩ := decDigits_head u
  rw [if_neg (by rw [h1]; simp)]
  exact parseUintM_dec _ (by decide) u (by simpa using hu)
theorem parse_itoa (v : Int) (h0 : -9223372036854775808 ≤ v) (h1 : v ≤ 9223372036854775807) : Lib.parseIntB 64 (Lib.itoa v) = .ok v := by
  rcases Int.lt_or_le v 0 with h | h
  · obtain ⟨u, rfl⟩ : ∃ u : Nat, v = -(u : Int) := ⟨v.natAbs, by omega⟩
    rw [Lib.itoa_neg u (by omega), Lib.parseIntB_minus, parseUintB_dec u (by omega)]
    unfold Lib.signedC
    simp only
    rw [if_neg (by have : (2 ^ (64 - 1) : Nat) = 9223372036854775808 := by decide
                   omega)]
  · obtain ⟨u, rfl⟩ : ∃ u : Nat, v = (u : Int) := ⟨v.toNat, by omega⟩
    rw [Lib.itoa_nonneg]
    obtain ⟨c, r, hc, h2, h3⟩ := decDigits_head u
    have hp := parseUintB_dec u (by omega)
    rw [hc] at hp ⊢
    rw [Lib.parseIntB_plain 64 c r (by omega) (by omega), hp]
    unfold Lib.signlessC
    simp only
    rw [if_neg (by have : (2 ^ (64 - 1) : Nat) = 9223372036854775808 := by decide
                   omega)]
/-- the number whose text it is -/
def numP (s : List UInt8) : Option Int :=
  match Lib.parseIntB 64 s with
  | .ok v => if Lib.itoa v = s then some v else none
  | _ => none
theorem numP_itoa (v : Int) (h0 : -9223372036854775808 ≤ v) (h1 : v ≤ 9223372036854775807) : numP (Lib.itoa v) = some v := by
  unfold numP
  rw [parse_itoa v h0 h1]
  simp
theorem parseUintM_ok_le (M : Nat) : ∀ (l : List UInt8) (acc u : Nat), acc ≤ M → Lib.parseUintM M acc l = .ok u → u ≤ M := Lib.parseUintM_le M
theorem numP_some {s : List UInt8} {v : Int} (h : numP s = some v) : Lib.itoa v = s := by
  unfold numP at h
  split at h
  · split at h
    · rename_i h2; injection h with h; subst h; exact h2
    · cases h
  · cases h
/-- digits' number, where they are digits -/
def dv : Nat → List UInt8 → Option Nat
  | n, [] => some n
  | n, c :: l => if 48 ≤ c.toNat ∧ c.toNat ≤ 57 then dv (10 * n + (c.toNat - 48)) l else none
theorem dv_append : ∀ (a b : List UInt8) (n v : Nat), dv n a = some v → dv n (a ++ b) = dv v b
  | [], b, n, v, h => by
    have h : some n = some v := h
    injection h with h; subst h; rfl
  | c :: a, b, n, v, h => by
    simp only [List.cons_append, dv] at h ⊢
    split at h
    · rename_i h1; rw [if_pos h1]; exact dv_append a b _ v h
    · cases h
theorem dv_dec : ∀ u : Nat, dv 0 (Lib.decDigits u) = some u := by
  intro u
  induction u using Nat.strongRecOn with
  | _ u ih =>
    by_cases h : u < 10
    · rw [Lib.decDigits_one h]
      have hd := digit_toNat u h
      simp only [dv, hd]
      rw [if_pos (by omega)]
      congr 1; omega
    · rw [Lib.decDigits, dif_neg h, dv_append _ _ 0 (u / 10) (ih (u / 10) (by omega))]
      have hd := digit_toNat (u % 10) (by omega)
      simp only [dv, hd]
      rw [if_pos (by omega)]
      congr 1; omega
/-- the document's way -/
def frm (s : List UInt8) : Nat := if s.head? = some 45 then 1 else 0
def refX (s : List UInt8) (n : Nat) : Int := if frm s = 1 then -(n : Int) else n
def refP (s : List UInt8) : Option Int :=
  if s.length = frm s ∨ 19 < s.length - frm s then none
  else match dv 0 (s.drop (frm s)) with
    | none => none
    | some n => if (frm s = 0 ∧ 9223372036854775807 < n) ∨ 9223372036854775808 < n then none
      else if Lib.itoa (refX s n) = s then some (refX s n) else none
theorem refP_some {s : List UInt8} {v : Int} (h : refP s = some v) : Lib.itoa v = s ∧ -9223372036854775808 ≤ v ∧ v ≤ 9223372036854775807 := by
  unfold refP at h
  split at h
  · cases h
  split at h
  · cases h
  rename_i n _
  split at h
  · cases h
  rename_i h2
  split at h
  · rename_i h3
    injection h with h
    subst h
    have hf : frm s = 0 ∨ frm s = 1 := by unfold frm; split <;> simp
    refine ⟨h3, ?_, ?_⟩ <;> unfold refX <;> rcases hf with hf | hf <;> simp only [hf] at h2 ⊢ <;> simp at h2 ⊢ <;> omega
  · cases h
theorem nDigits_19 (u : Nat) (h : u ≤ 9223372036854775808) : Lib.nDigits u ≤ 19 := by
  have h1 := nDigits_mono h
  have h2 : Lib.nDigits 9223372036854775808 = 19 := nDigits_at (by omega) (.inr (by decide)) (by decide)
  omega
theorem refP_itoa (v : Int) (h0 : -9223372036854775808 ≤ v) (h1 : v ≤ 9223372036854775807) : refP (Lib.itoa v) = some v := by
  rcases Int.lt_or_le v 0 with h | h
  · obtain ⟨u, rfl⟩ : ∃ u : Nat, v = -(u : Int) := ⟨v.natAbs, by omega⟩
    have hi := Lib.itoa_neg u (by omega)
    rw [hi]
    have hf : frm (45 :: Lib.decDigits u) = 1 := rfl
    have hl := Lib.decDigits_length u
    have h19 := nDigits_19 u (by omega)
    have hp := Lib.nDigits_pos u
    unfold refP
    rw [if_neg (by rw [hf, List.length_cons, hl]; omega), hf]
    simp only [List.drop_succ_cons, List.drop_zero, dv_dec]
    rw [if_neg (by omega)]
    have hx : refX (45 :: Lib.decDigits u) u = -(u : Int) := by unfold refX; rw [hf]; rfl
    rw [hx, hi, if_pos rfl]
  · obtain ⟨u, rfl⟩ : ∃ u : Nat, v = (u : Int) := ⟨v.toNat, by omega⟩
    have hi := Lib.itoa_nonneg u
    rw [hi]
    obtain ⟨c, r, hc, h2, h3⟩ := decDigits_head u
    have hf : frm (Lib.decDigits u) = 0 := by
      rw [hc]; unfold frm
      rw [if_neg]
      simp
      intro e
      have : c.toNat = 45 := by rw [e]; rfl
      omega
    have hl := Lib.decDigits_length u
    have h19 := nDigits_19 u (by omega)
    have hp := Lib.nDigits_pos u
    unfold refP
    rw [if_neg (by rw [hf]; omega), hf]
    simp only [List.drop_zero, dv_dec]
    rw [if_neg (by omega)]
    have hx : refX (Lib.decDigits u) u = (u : Int) := by unfold refX; rw [hf]; rfl
    rw [hx, hi, if_pos rfl]
theorem numP_bounds {s : List UInt8} {v : Int} (h : numP s = some v) : -9223372036854775808 ≤ v ∧ v ≤ 9223372036854775807 := by
  unfold numP at h
  split at h
  · rename_i v' hv
    split at h
    · injection h with h; subst h
      have := Lib.parseIntB_bounds hv
      have e : ((2 ^ (64 - 1) : Nat) : Int) = 9223372036854775808 := by decide
      omega
    · cases h
  · cases h
/-- THE TWO WAYS AGREE -/
theorem refP_eq (s : List UInt8) : refP s = numP s := by
  cases h : refP s with
  | some v =>
    obtain ⟨h1, h2, h3⟩ := refP_some h
    rw [← h1, numP_itoa v h2 h3]
  | none =>
    cases h2 : numP s with
    | none => rfl
    | some v =>
      have h3 := numP_some h2
      have h4 := numP_bounds h2
      rw [← h3, refP_itoa v h4.1 h4.2] at h
      cases h
end Go.Proofs.YtlhjehcfpnjbmaaDoor
