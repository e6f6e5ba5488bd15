/- FIELDS: what the numbers' fields are: plain lists and numbers, no program in sight. -/
import Derived.Test.YtohballfhhndbaaDoorKeep
import Derived.IntWalk
import Derived.Laws.BitsAllLaws
import Derived.Laws.Bits128
namespace Go.Proofs.YtohballfhhndbaaDoor
/-- the last k octal digits of n -/
def octK : Nat → Nat → List UInt8
  | 0, _ => []
  | k + 1, n => octK k (n / 8) ++ [UInt8.ofNat (48 + n % 8)]
theorem octK_length : ∀ (k n : Nat), (octK k n).length = k
  | 0, _ => rfl
  | k + 1, n => by rw [octK, List.length_append, octK_length k]; rfl
theorem octK_cons : ∀ (k n : Nat), octK (k + 1) n = UInt8.ofNat (48 + n / 8 ^ k % 8) :: octK k n
  | 0, n => by simp [octK]
  | k + 1, n => by
    rw [octK, octK_cons k (n / 8), octK, List.cons_append, Nat.div_div_eq_div_mul, Nat.pow_succ, Nat.mul_comm 8]
theorem octK_pad (j : Nat) : ∀ (r n : Nat), n < 8 ^ j → octK (r + j) n = List.replicate r 48 ++ octK j n
  | 0, n, _ => by simp
  | r + 1, n, h => by
    have h2 : n / 8 ^ (r + j) = 0 := Nat.div_eq_of_lt (Nat.lt_of_lt_of_le h (Nat.pow_le_pow_right (by decide) (by omega)))
    rw [show r + 1 + j = (r + j) + 1 by omega, octK_cons, h2, octK_pad j r n h]
    rfl
/-- what Octal tells -/
def octS (n many : Int) : List UInt8 × Int :=
  if many < 2 ∨ 20 < many then ([], 1) else if n < 0 ∨ 8 ^ (many.toNat - 1) ≤ n.toNat then ([], 3) else (octK (many.toNat - 1) n.toNat ++ [0], 0)
/-- the j-th byte of a number in base 256 -/
def wideB (n : Int) (m j : Nat) : Int := if j = 0 then n / 2 ^ (8 * (m - 1)) % 128 + 128 else n / 2 ^ (8 * (m - 1 - j)) % 256
theorem wideB_range (n : Int) (m j : Nat) : 0 ≤ wideB n m j ∧ wideB n m j ≤ 255 := by unfold wideB; split <;> omega
def wideL (n : Int) (m : Nat) : List UInt8 := (List.range m).map fun j => UInt8.ofNat (wideB n m j).toNat
theorem wideL_length (n : Int) (m : Nat) : (wideL n m).length = m := by simp [wideL]
/-- what Wide tells -/
def wideS (n many : Int) : List UInt8 × Int :=
  if many < 2 ∨ 20 < many then ([], 1) else if n / 2 ^ (8 * many.toNat - 2) = 0 ∨ n / 2 ^ (8 * many.toNat - 2) = -1 then (wideL n many.toNat, 0) else ([], 3)
/-- a number in octal, from the digits on -/
def octV : Int → List UInt8 → Int × Int
  | n, [] => (n, 0)
  | n, c :: l => if c = 32 ∨ c = 0 then (n, 0) else if c.toNat < 48 ∨ 55 < c.toNat then (0, 5) else octV (IntKind.i64.wrap (IntKind.i64.wrap (8 * n) + (c.toNat - 48 : Int))) l
/-- the first byte's part -/
def first7 (c : UInt8) : Int := if 64 ≤ c.toNat % 128 then (c.toNat % 128 : Nat) - 128 else (c.toNat % 128 : Nat)
/-- a number in base 256 -/
def valW : List UInt8 → Int
  | [] => 0
  | c :: l => l.foldl (fun n d => n * 256 + (d.toNat : Int)) (first7 c)
/-- what Number tells -/
def numS (l : List UInt8) : Int × Int :=
  match l with
  | [] => (0, 1)
  | c :: _ => if 20 < l.length then (0, 1) else if 128 ≤ c.toNat then (if -9223372036854775808 ≤ valW l ∧ valW l ≤ 9223372036854775807 then (valW l, 0) else (0, 3)) else octV 0 (l.dropWhile (· == 32))
/-- bytes behind: what is far off stays far off -/
theorem fold_le (l : List UInt8) : ∀ (n : Int), n * 256 ^ l.length ≤ l.foldl (fun n d => n * 256 + (d.toNat : Int)) n ∧ l.foldl (fun n d => n * 256 + (d.toNat : Int)) n < (n + 1) * 256 ^ l.length := by
  induction l with
  | nil => intro n; simp; omega
  | cons c l ih =>
    intro n
    have hc : c.toNat < 256 := c.toNat_lt
    obtain ⟨h1, h2⟩ := ih (n * 256 + (c.toNat : Int))
    rw [List.foldl_cons, List.length_cons, Int.pow_succ]
    have hp : (0 : Int) ≤ 256 ^ l.length := Int.pow_nonneg (by decide)
    generalize (256 : Int) ^ l.length = p at *
    have e1 : n * (p * 256) = (n * 256) * p := by rw [Int.mul_comm p 256, Int.mul_assoc]
    have e2 : (n + 1) * (p * 256) = (n * 256 + 256) * p := by rw [Int.mul_comm p 256, ← Int.mul_assoc, Int.add_mul n 1 256]; rfl
    rw [e1, e2]
    have m1 : n * 256 * p ≤ (n * 256 + (c.toNat : Int)) * p := Int.mul_le_mul_of_nonneg_right (by omega) hp
    have m2 : (n * 256 + (c.toNat : Int) + 1) * p ≤ (n * 256 + 256) * p := Int.mul_le_mul_of_nonneg_right (by omega) hp
    omega
theorem far_off (l : List UInt8) (n : Int) (hl : l ≠ []) (h : ¬ (-36028797018963968 ≤ n ∧ n ≤ 36028797018963967)) :
    ¬ (-9223372036854775808 ≤ l.foldl (fun n d => n * 256 + (d.toNat : Int)) n ∧ l.foldl (fun n d => n * 256 + (d.toNat : Int)) n ≤ 9223372036854775807) := by
  obtain ⟨h1, h2⟩ := fold_le l n
  have hp : (256 : Int) ≤ 256 ^ l.length := by
    obtain ⟨m, hm⟩ : ∃ m, l.length = m + 1 := ⟨l.length - 1, by have := List.length_pos_iff.2 hl; omega⟩
    rw [hm, Int.pow_succ]
    have : (1 : Int) ≤ 256 ^ m := by
      have := Int.pow_pos (n := (256 : Int)) (m := m) (by decide)
      omega
    omega
  generalize (256 : Int) ^ l.length = p at *
  intro ⟨h3, h4⟩
  by_cases hn : 36028797018963968 ≤ n
  · have : 36028797018963968 * p ≤ n * p := Int.mul_le_mul_of_nonneg_right hn (by omega)
    omega
  · have : (n + 1) * p ≤ (-36028797018963968) * p := Int.mul_le_mul_of_nonneg_right (by omega) (by omega)
    omega
end Go.Proofs.YtohballfhhndbaaDoor
