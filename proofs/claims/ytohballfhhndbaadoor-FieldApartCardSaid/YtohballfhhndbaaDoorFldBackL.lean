/- FIELDS, THERE AND BACK: plain facts: numS of octS and of wideS. -/
import Derived.Test.YtohballfhhndbaaDoorFldSpec
namespace Go.Proofs.YtohballfhhndbaaDoor
theorem octV_octK : ∀ (k x a : Nat), (a + 1) * 8 ^ k ≤ 144115188075855872 → octV (a : Int) (octK k x ++ [0]) = (((a * 8 ^ k + x % 8 ^ k : Nat) : Int), 0)
  | 0, x, a, _ => by simp [octK, octV, Nat.mod_one]
  | k + 1, x, a, h => by
    have hp : 0 < 8 ^ k := Nat.pow_pos (by decide)
    have hd : x / 8 ^ k % 8 < 8 := Nat.mod_lt _ (by decide)
    have hm := Nat.mod_pow_succ (x := x) (b := 8) (k := k)
    rw [octK_cons]
    generalize x / 8 ^ k % 8 = d at *
    have hc : (UInt8.ofNat (48 + d)).toNat = 48 + d := by simp; omega
    have hpow : (a + 1) * 8 ^ (k + 1) = 8 * ((a + 1) * 8 ^ k) := by rw [Nat.pow_succ]; rw [← Nat.mul_assoc, Nat.mul_comm]
    have ha1 : a + 1 ≤ (a + 1) * 8 ^ k := Nat.le_mul_of_pos_right _ hp
    have ha : 8 * (a + 1) ≤ 144115188075855872 := by omega
    have h1 : ¬ (UInt8.ofNat (48 + d) = 32 ∨ UInt8.ofNat (48 + d) = 0) := by
      rintro (e | e) <;> (have := congrArg UInt8.toNat e; rw [hc] at this; simp at this)
      all_goals omega
    have h2 : ¬ ((UInt8.ofNat (48 + d)).toNat < 48 ∨ 55 < (UInt8.ofNat (48 + d)).toNat) := by rw [hc]; omega
    rw [List.cons_append, octV, if_neg h1, if_neg h2, hc]
    have w1 : IntKind.i64.wrap (8 * (a : Int)) = 8 * (a : Int) := IntWalk.i64_in _ (by omega)
    have w2 : IntKind.i64.wrap (8 * (a : Int) + (((48 + d : Nat) : Int) - 48)) = ((8 * a + d : Nat) : Int) := by rw [IntWalk.i64_in _ (by omega)]; omega
    rw [w1, w2, octV_octK k x (8 * a + d) ?_]
    · congr 2
      rw [hm, Nat.add_mul, Nat.pow_succ]
      have e1 : 8 * a * 8 ^ k = a * (8 ^ k * 8) := by rw [Nat.mul_comm 8 a, Nat.mul_assoc, Nat.mul_comm 8]
      have e2 : d * 8 ^ k = 8 ^ k * d := Nat.mul_comm _ _
      omega
    · have : (8 * a + d + 1) * 8 ^ k ≤ (8 * (a + 1)) * 8 ^ k := Nat.mul_le_mul_right _ (by omega)
      rw [Nat.mul_assoc] at this
      omega
theorem octK_head (k x : Nat) (hk : 0 < k) : ∃ c l, octK k x ++ [0] = c :: l ∧ c.toNat < 56 ∧ c ≠ 32 := by
  obtain ⟨j, rfl⟩ : ∃ j, k = j + 1 := ⟨k - 1, by omega⟩
  rw [octK_cons]
  have hd : x / 8 ^ j % 8 < 8 := Nat.mod_lt _ (by decide)
  generalize x / 8 ^ j % 8 = d at *
  have hc : (UInt8.ofNat (48 + d)).toNat = 48 + d := by simp; omega
  refine ⟨_, _, rfl, by omega, fun e => ?_⟩
  have := congrArg UInt8.toNat e; rw [hc] at this; simp at this
  omega
/-- NUMBER OF OCTAL -/
theorem numS_octK (k x : Nat) (hk : 0 < k) (hk2 : k ≤ 19) (hx : x < 8 ^ k) : numS (octK k x ++ [0]) = ((x : Int), 0) := by
  obtain ⟨c, l, he, hc, hne⟩ := octK_head k x hk
  have hl : (octK k x ++ [0]).length = k + 1 := by simp [octK_length]
  have h8 : 8 ^ k ≤ 8 ^ 19 := Nat.pow_le_pow_right (by decide) hk2
  have hv := octV_octK k x 0 (by rw [Nat.zero_add, Nat.one_mul]; exact Nat.le_trans h8 (by decide))
  rw [Nat.zero_mul, Nat.zero_add, Nat.mod_eq_of_lt hx] at hv
  rw [he] at hl hv ⊢
  have hdw : (c :: l).dropWhile (· == 32) = c :: l := by rw [List.dropWhile_cons_of_neg]; simpa using hne
  unfold numS
  simp only
  rw [hl, if_neg (by omega), if_neg (by omega), hdw]
  exact hv
theorem fold_wide (n : Int) (m : Nat) : ∀ (j i : Nat), i + j = m → 0 < i → ((List.range' i j).map fun q => UInt8.ofNat (wideB n m q).toNat).foldl (fun n d => n * 256 + (d.toNat : Int)) (n / 2 ^ (8 * (m - i))) = n
  | 0, i, h, _ => by
    obtain rfl : i = m := by omega
    simp
  | j + 1, i, h, hi => by
    rw [List.range'_succ, List.map_cons, List.foldl_cons]
    have hr := wideB_range n m i
    have hb : ((UInt8.ofNat (wideB n m i).toNat).toNat : Int) = wideB n m i := by
      have h1 : (wideB n m i).toNat < 256 := by omega
      have h2 : (UInt8.ofNat (wideB n m i).toNat).toNat = (wideB n m i).toNat := by simp; omega
      rw [h2]; omega
    rw [hb]
    have hw : wideB n m i = n / 2 ^ (8 * (m - 1 - i)) % 256 := by unfold wideB; rw [if_neg (by omega)]
    have he : n / 2 ^ (8 * (m - i)) * 256 + wideB n m i = n / 2 ^ (8 * (m - (i + 1))) := by
      rw [hw, show m - 1 - i = m - (i + 1) by omega, show 8 * (m - i) = 8 * (m - (i + 1)) + 8 by omega, Int.pow_add, show (2 : Int) ^ 8 = 256 by decide, ← Int.ediv_ediv_of_nonneg (Int.pow_nonneg (by decide))]
      omega
    rw [he]
    exact fold_wide n m j (i + 1) (by omega) (by omega)
/-- NUMBER OF WIDE -/
theorem valW_wideL (n : Int) (m : Nat) (hm : 0 < m) (hf : n / 2 ^ (8 * m - 2) = 0 ∨ n / 2 ^ (8 * m - 2) = -1) : valW (wideL n m) = n := by
  obtain ⟨k, rfl⟩ : ∃ k, m = k + 1 := ⟨m - 1, by omega⟩
  unfold wideL
  rw [List.range_eq_range', List.range'_succ, List.map_cons]
  unfold valW
  have hr := wideB_range n (k + 1) 0
  have hw : wideB n (k + 1) 0 = n / 2 ^ (8 * k) % 128 + 128 := by unfold wideB; rw [if_pos rfl]; rfl
  have h2 : (UInt8.ofNat (wideB n (k + 1) 0).toNat).toNat = (wideB n (k + 1) 0).toNat := by simp; omega
  have hq : n / 2 ^ (8 * (k + 1) - 2) = n / 2 ^ (8 * k) / 64 := by
    rw [show 8 * (k + 1) - 2 = 8 * k + 6 by omega, Int.pow_add, show (2 : Int) ^ 6 = 64 by decide, ← Int.ediv_ediv_of_nonneg (Int.pow_nonneg (by decide))]
  have hf7 : first7 (UInt8.ofNat (wideB n (k + 1) 0).toNat) = n / 2 ^ (8 * (k + 1 - 1)) := by
    rw [show 8 * (k + 1 - 1) = 8 * k by omega]
    rw [hq] at hf
    unfold first7
    rw [h2, hw]
    generalize n / 2 ^ (8 * k) = q at *
    split <;> omega
  simp only
  rw [hf7]
  exact fold_wide n (k + 1) k 1 (by omega) (by decide)
theorem wideL_head (n : Int) (m : Nat) (hm : 0 < m) : ∃ c l, wideL n m = c :: l ∧ 128 ≤ c.toNat := by
  obtain ⟨k, rfl⟩ : ∃ k, m = k + 1 := ⟨m - 1, by omega⟩
  unfold wideL
  rw [List.range_eq_range', List.range'_succ, List.map_cons]
  refine ⟨_, _, rfl, ?_⟩
  have hr := wideB_range n (k + 1) 0
  have hw : wideB n (k + 1) 0 = n / 2 ^ (8 * k) % 128 + 128 := by unfold wideB; rw [if_pos rfl]; rfl
  have h2 : (UInt8.ofNat (wideB n (k + 1) 0).toNat).toNat = (wideB n (k + 1) 0).toNat := by simp; omega
  rw [h2, hw]; omega
theorem numS_wideL (n : Int) (m : Nat) (hm : 0 < m) (hm2 : m ≤ 20) (h0 : -9223372036854775808 ≤ n) (h1 : n ≤ 9223372036854775807) (hf : n / 2 ^ (8 * m - 2) = 0 ∨ n / 2 ^ (8 * m - 2) = -1) : numS (wideL n m) = (n, 0) := by
  obtain ⟨c, l, he, hc⟩ := wideL_head n m hm
  have hl := wideL_length n m
  have hv := valW_wideL n m hm hf
  rw [he] at hl hv ⊢
  unfold numS
  simp only
  rw [hl, if_neg (by omega), if_pos hc, hv, if_pos ⟨h0, h1⟩]
end Go.Proofs.YtohballfhhndbaaDoor
