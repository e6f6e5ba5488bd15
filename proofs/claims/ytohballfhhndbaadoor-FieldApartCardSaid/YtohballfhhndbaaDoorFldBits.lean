/- the bits of bytes: plain. -/
import Derived.Test.YtohballfhhndbaaDoorFldNum
namespace Go.Proofs.YtohballfhhndbaaDoor
/-- the first p bits of a byte -/
def bb (c : UInt8) (p : Nat) : List Bool := (List.range p).map fun j => decide (c.toNat / 2 ^ (7 - j) % 2 = 1)
theorem bb_length (c : UInt8) (p : Nat) : (bb c p).length = p := by simp [bb]
theorem bb_succ (c : UInt8) (p : Nat) : bb c (p + 1) = bb c p ++ [decide (c.toNat / 2 ^ (7 - p) % 2 = 1)] := by simp [bb, List.range_succ]
def bitsOf (l : List UInt8) : List Bool := l.flatMap fun c => bb c 8
theorem bitsOf_length (l : List UInt8) : (bitsOf l).length = 8 * l.length := by
  induction l with
  | nil => rfl
  | cons c l ih => rw [bitsOf, List.flatMap_cons, List.length_append, bb_length]; rw [bitsOf] at ih; rw [ih, List.length_cons]; omega
theorem bitsOf_snoc (l : List UInt8) (i : Nat) (h : i < l.length) : bitsOf (l.take (i + 1)) = bitsOf (l.take i) ++ bb l[i] 8 := by
  rw [List.take_add_one, List.getElem?_eq_getElem h]
  unfold bitsOf
  rw [List.flatMap_append]
  simp only [Option.toList_some, List.flatMap_cons, List.flatMap_nil, List.append_nil]
def stepB (n : Int) (b : Bool) : Int := 2 * n + (if b then 1 else 0)
def twoV : List Bool → Int
  | [] => 0
  | b :: bs => bs.foldl stepB (if b then -1 else 0)
theorem foldB_le (bs : List Bool) : ∀ n : Int, n * 2 ^ bs.length ≤ bs.foldl stepB n ∧ bs.foldl stepB n < (n + 1) * 2 ^ bs.length := by
  induction bs with
  | nil => intro n; simp; omega
  | cons b bs ih =>
    intro n
    obtain ⟨h1, h2⟩ := ih (stepB n b)
    rw [List.foldl_cons, List.length_cons, Int.pow_succ]
    have hp : (0 : Int) ≤ 2 ^ bs.length := Int.pow_nonneg (by decide)
    generalize (2 : Int) ^ bs.length = p at *
    have e1 : n * (p * 2) = (n * 2) * p := by rw [Int.mul_comm p 2, Int.mul_assoc]
    have e2 : (n + 1) * (p * 2) = (n * 2 + 2) * p := by rw [Int.mul_comm p 2, ← Int.mul_assoc, Int.add_mul n 1 2]; rfl
    rw [e1, e2]
    have hs : n * 2 ≤ stepB n b ∧ stepB n b + 1 ≤ n * 2 + 2 := by unfold stepB; cases b <;> simp <;> omega
    have m1 : n * 2 * p ≤ stepB n b * p := Int.mul_le_mul_of_nonneg_right hs.1 hp
    have m2 : (stepB n b + 1) * p ≤ (n * 2 + 2) * p := Int.mul_le_mul_of_nonneg_right hs.2 hp
    omega
theorem foldB_snoc (l : List Bool) (n : Int) (i : Nat) (h : i < l.length) : (l.take (i + 1)).foldl stepB n = stepB ((l.take i).foldl stepB n) l[i] := by
  rw [List.take_add_one, List.getElem?_eq_getElem h, List.foldl_append]
  rfl
theorem two_same (b : Bool) (bs : List Bool) : twoV (b :: b :: bs) = twoV (b :: bs) := by
  show bs.foldl stepB (stepB (if b then -1 else 0) b) = bs.foldl stepB (if b then -1 else 0)
  congr 1
  cases b <;> rfl
theorem pow2_ge (r : Nat) (h : 63 ≤ r) : (9223372036854775808 : Int) ≤ 2 ^ r := by
  have : (2 : Nat) ^ 63 ≤ 2 ^ r := Nat.pow_le_pow_right (by decide) h
  have h2 : ((2 ^ 63 : Nat) : Int) ≤ ((2 ^ r : Nat) : Int) := Int.ofNat_le.2 this
  rw [Int.natCast_pow] at h2
  exact h2
theorem pow2_le (r : Nat) (h : r ≤ 63) : (2 : Int) ^ r ≤ 9223372036854775808 := by
  have : (2 : Nat) ^ r ≤ 2 ^ 63 := Nat.pow_le_pow_right (by decide) h
  have h2 : ((2 ^ r : Nat) : Int) ≤ ((2 ^ 63 : Nat) : Int) := Int.ofNat_le.2 this
  rw [Int.natCast_pow] at h2
  exact h2
theorem two_far (b d : Bool) (bs : List Bool) (h : b ≠ d) (hl : 63 ≤ bs.length) : ¬ (-9223372036854775808 ≤ twoV (b :: d :: bs) ∧ twoV (b :: d :: bs) ≤ 9223372036854775807) := by
  have hp := pow2_ge bs.length hl
  cases b <;> cases d
  · exact (h rfl).elim
  · obtain ⟨h1, h2⟩ := foldB_le bs 1
    have e : twoV (false :: true :: bs) = bs.foldl stepB 1 := rfl
    rw [e]
    generalize (2 : Int) ^ bs.length = p at *
    omega
  · obtain ⟨h1, h2⟩ := foldB_le bs (-2)
    have e : twoV (true :: false :: bs) = bs.foldl stepB (-2) := rfl
    rw [e]
    generalize (2 : Int) ^ bs.length = p at *
    omega
  · exact (h rfl).elim
/-- a prefix of at most 64 bits is a number of 64 bits -/
theorem two_near (b : Bool) (bs : List Bool) (r : Nat) (hl : bs.length ≤ r) (hr : r ≤ 63) : -(2 ^ r) ≤ bs.foldl stepB (if b then -1 else 0) ∧ bs.foldl stepB (if b then -1 else 0) < 2 ^ r := by
  obtain ⟨h1, h2⟩ := foldB_le bs (if b then -1 else 0)
  have hp : (2 : Int) ^ bs.length ≤ 2 ^ r := by
    have : (2 : Nat) ^ bs.length ≤ 2 ^ r := Nat.pow_le_pow_right (by decide) hl
    have h2 : ((2 ^ bs.length : Nat) : Int) ≤ ((2 ^ r : Nat) : Int) := Int.ofNat_le.2 this
    rw [Int.natCast_pow, Int.natCast_pow] at h2
    exact h2
  have hp0 : (0 : Int) < 2 ^ bs.length := Int.pow_pos (by decide)
  generalize (2 : Int) ^ bs.length = p at *
  generalize (2 : Int) ^ r = q at *
  cases b <;> simp at * <;> omega
theorem byte_bits (d : UInt8) (n : Int) : (bb d 8).foldl stepB n = n * 256 + (d.toNat : Int) := by
  have h : d.toNat < 256 := d.toNat_lt
  simp only [bb, List.range_succ, List.range_zero, List.map_append, List.map_cons, List.map_nil, List.nil_append, List.foldl_append, List.foldl_cons, List.foldl_nil, stepB, Nat.sub_zero, Nat.reduceSub, Nat.reducePow, decide_eq_true_eq]
  generalize d.toNat = c at *
  have e : ∀ x : Nat, (if x % 2 = 1 then (1 : Int) else 0) = ((x % 2 : Nat) : Int) := fun x => by split <;> omega
  rw [e, e, e, e, e, e, e, e]
  omega
theorem bits_fold (l : List UInt8) : ∀ n : Int, (bitsOf l).foldl stepB n = l.foldl stepW n := by
  induction l with
  | nil => intro n; rfl
  | cons c l ih =>
    intro n
    have e : bitsOf (c :: l) = bb c 8 ++ bitsOf l := rfl
    rw [e, List.foldl_append, byte_bits, ih]
    rfl
theorem bits_first (c : UInt8) : ∃ b bs, (bb c 8).tail = b :: bs ∧ bs.foldl stepB (if b then -1 else 0) = first7 c := by
  refine ⟨_, _, rfl, ?_⟩
  have h : c.toNat < 256 := c.toNat_lt
  simp only [List.map_cons, List.map_nil, List.foldl_cons, List.foldl_nil, stepB, Nat.reduceSub, Nat.reducePow, decide_eq_true_eq]
  unfold first7
  generalize c.toNat = c at *
  have e : ∀ x : Nat, (if x % 2 = 1 then (1 : Int) else 0) = ((x % 2 : Nat) : Int) := fun x => by split <;> omega
  have e2 : ∀ x : Nat, (if x % 2 = 1 then (-1 : Int) else 0) = -((x % 2 : Nat) : Int) := fun x => by split <;> omega
  simp only [e, e2]
  split <;> omega
theorem bits_value (c : UInt8) (t : List UInt8) : twoV (bitsOf (c :: t)).tail = valW (c :: t) := by
  obtain ⟨b, bs, h1, h2⟩ := bits_first c
  have e : bitsOf (c :: t) = bb c 8 ++ bitsOf t := rfl
  have hne : bb c 8 ≠ [] := by intro h; have := congrArg List.length h; simp [bb] at this
  rw [e, List.tail_append_of_ne_nil hne, h1, List.cons_append]
  show (bs ++ bitsOf t).foldl stepB (if b then -1 else 0) = _
  rw [List.foldl_append, h2, bits_fold]
  rfl
end Go.Proofs.YtohballfhhndbaaDoor
