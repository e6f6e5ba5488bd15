/- PAX, PLAINLY: records' texts are read as these records; what is read as records is their text; a part of a text. No program in sight. -/
import Derived.Test.YtlhjehcfpnjbmaaDoorPaxGetL
import Derived.Test.YtlhjehcfpnjbmaaDoorPaxNumL
import Derived.Test.YtlhjehcfpnjbmaaDoorPaxOneB
namespace Go.Proofs.YtlhjehcfpnjbmaaDoor
theorem digN_stopL {c : UInt8} {b : List UInt8} {m n : Nat} (h : (isDig c && decide (m < 9)) = false) : digN (c :: b) m n = (m, n) := by simp only [digN, h]; rfl
theorem digN_goL {c : UInt8} {b : List UInt8} {m n : Nat} (h : (isDig c && decide (m < 9)) = true) : digN (c :: b) m n = digN b (m + 1) (10 * n + (c.toNat - 48)) := by simp only [digN, h]; rfl
theorem isDig_digit (d : Nat) (h : d < 10) : isDig (UInt8.ofNat (48 + d)) = true := by
  unfold isDig; rw [digit_toNat d h]; simp; omega
theorem digN_dec (u : Nat) (t : List UInt8) (h : Lib.nDigits u ≤ 9) : digN (Lib.decDigits u ++ t) 0 0 = digN t (Lib.nDigits u) u := by
  induction u using Nat.strongRecOn generalizing t with
  | _ u ih =>
    by_cases h10 : u < 10
    · rw [Lib.decDigits_one h10, Lib.nDigits_small h10, List.cons_append, List.nil_append, digN_goL (by rw [isDig_digit u h10]; rfl), digit_toNat u h10]
      congr 1; omega
    · rw [Lib.nDigits_big h10] at h ⊢
      rw [Lib.decDigits, dif_neg h10, List.append_assoc, ih (u / 10) (by omega) _ (by omega), List.cons_append, List.nil_append]
      rw [digN_goL (by rw [isDig_digit _ (by omega)]; simp; omega), digit_toNat _ (by omega)]
      congr 1; omega
theorem decDigits_head_ne (u : Nat) (hu : 0 < u) : ∀ t, (Lib.decDigits u ++ t).head? ≠ some 48 := by
  induction u using Nat.strongRecOn with
  | _ u ih =>
    intro t
    by_cases h10 : u < 10
    · rw [Lib.decDigits_one h10]
      intro e
      injection e with e
      have := congrArg UInt8.toNat e
      rw [digit_toNat u h10] at this
      have h48 : (48 : UInt8).toNat = 48 := rfl
      omega
    · rw [Lib.decDigits, dif_neg h10, List.append_assoc]
      exact ih (u / 10) (by omega) (by omega) _
theorem twiceN_go' {f n : Nat} (h : 10 < n ∧ n % 10 = 0) : twiceN (f + 1) n = twiceN f (n / 10) := by simp [twiceN, h]
theorem twiceN_stop' {f n : Nat} (h : ¬ (10 < n ∧ n % 10 = 0)) : twiceN (f + 1) n = (n == 10) := by
  have : (decide (10 < n) && n % 10 == 0) = false := by
    cases h1 : decide (10 < n) <;> simp_all
  simp [twiceN, this]
theorem _root_.List.drop_append_of_le_length' {α : Type} {a b : List α} {x : α} {n : Nat} (h : a.length = n) : (a ++ x :: b).drop (n + 1) = b := by
  subst h
  rw [List.drop_append, show a.length + 1 - a.length = 1 by omega, List.drop_eq_nil_of_le (by omega)]; rfl
theorem twiceN_pow : ∀ (f n : Nat), twiceN f n = true → ∃ j, 1 ≤ j ∧ n = 10 ^ j
  | 0, n, h => ⟨1, Nat.le_refl _, by simpa [twiceN] using h⟩
  | f + 1, n, h => by
    by_cases hc : 10 < n ∧ n % 10 = 0
    · rw [twiceN_go' hc] at h
      obtain ⟨j, h1, h2⟩ := twiceN_pow f (n / 10) h
      exact ⟨j + 1, by omega, by rw [Nat.pow_succ]; omega⟩
    · rw [twiceN_stop' hc] at h
      exact ⟨1, Nat.le_refl _, by simpa using h⟩
theorem twiceB_sz (r : Nat) (hr : r ≤ 1000000000000000000) : twiceB (r + dsz r) = false := by
  cases h : twiceB (r + dsz r)
  · rfl
  · obtain ⟨j, h1, h2⟩ := twiceN_pow _ _ h
    have hd := dsz_fix r hr
    have hj : Lib.nDigits (r + dsz r) = j + 1 := nDigits_at (by omega) (.inr (by rw [h2]; simp)) (by rw [h2]; exact Nat.pow_lt_pow_right (by omega) (by omega))
    obtain ⟨_, _, _, hm⟩ := dsz_spec r hr
    have := hm j h1 (by omega)
    omega
theorem twiceB_pow (j : Nat) (h1 : 1 ≤ j) (h9 : j ≤ 9) : twiceB (10 ^ j) = true := by
  rcases (by omega : j = 1 ∨ j = 2 ∨ j = 3 ∨ j = 4 ∨ j = 5 ∨ j = 6 ∨ j = 7 ∨ j = 8 ∨ j = 9) with rfl | rfl | rfl | rfl | rfl | rfl | rfl | rfl | rfl <;> decide
theorem mayK_no {k : List UInt8} (h : mayK k = true) : k ≠ [] ∧ k.length ≤ 255 ∧ ∀ x ∈ k, x ≠ 61 := by
  simp only [mayK, Bool.and_eq_true, decide_eq_true_eq, Bool.not_eq_true'] at h
  refine ⟨by rintro rfl; simp at h, h.1.2, fun x hx e => ?_⟩
  have := List.any_eq_false.1 h.2 x hx
  rw [e] at this
  exact this (by decide)
theorem mayK_take {k : List UInt8} (h : mayK k = true) (i : Nat) : k.take i = [] ∨ mayK (k.take i) = true := by
  by_cases hn : k.take i = []
  · exact .inl hn
  · right
    simp only [mayK, Bool.and_eq_true, decide_eq_true_eq, Bool.not_eq_true'] at h ⊢
    refine ⟨⟨by cases hk : k.take i <;> simp_all, by simp; omega⟩, ?_⟩
    rw [List.any_eq_false] at h ⊢
    exact fun x hx => h.2 x (List.mem_of_mem_take hx)
/-- bounds that a record of the law meets -/
structure Small (p : R2) : Prop where
  may : mayK p.1 = true
  len : p.2.length ≤ 10000000
theorem Small.sz {k v : List UInt8} (h : Small (k, v)) : sz k v = szR k v + dsz (szR k v) ∧ szR k v ≤ 10000258 ∧ 1 ≤ dsz (szR k v) ∧ dsz (szR k v) ≤ 8 ∧ Lib.nDigits (sz k v) = dsz (szR k v) ∧ sz k v ≤ 16777216 := by
  have hm : mayK k = true := h.may
  have h2 := (mayK_no hm).2.1
  have hl : v.length ≤ 10000000 := h.len
  have hr : szR k v ≤ 10000258 := by unfold szR; omega
  have e : Go.Proofs.YtlhjehcfpnjbmaaDoor.sz k v = szR k v + dsz (szR k v) := by simp [Go.Proofs.YtlhjehcfpnjbmaaDoor.sz, hm]
  obtain ⟨h3, _, h4, h5⟩ := dsz_spec (szR k v) (by omega)
  have h6 : dsz (szR k v) ≤ 8 := by
    refine Nat.le_of_not_lt fun hlt => ?_
    have := h5 8 (by omega) hlt
    omega
  exact ⟨e, hr, h3, h6, by rw [e]; exact dsz_fix _ (by omega), by omega⟩
theorem cutEq_eq (s : List UInt8) : cutEq s = cutB 61 s := rfl
theorem rec_body_len (k v : List UInt8) : (k ++ 61 :: (v ++ [10])).length = k.length + v.length + 2 := by simp; omega
/-- A RECORD's TEXT IS READ AS THE RECORD -/
theorem oneP_rec {k v : List UInt8} (h : Small (k, v)) (t : List UInt8) : oneP (recT k v ++ t) = .one k v (sz k v) := by
  obtain ⟨e, hr, h1, h8, hn, hle⟩ := h.sz
  have hm : mayK k = true := h.may
  obtain ⟨hk0, hkl, hk61⟩ := mayK_no hm
  have hk1 : 1 ≤ k.length := List.length_pos_iff.2 hk0
  have hb : recT k v ++ t = Lib.decDigits (sz k v) ++ 32 :: (k ++ 61 :: (v ++ [10]) ++ t) := by simp [recT]
  have hd : digN (recT k v ++ t) 0 0 = (dsz (szR k v), sz k v) := by
    rw [hb, digN_dec _ _ (by omega), digN_stopL rfl, hn]
  have hdl : (Lib.decDigits (sz k v)).length = dsz (szR k v) := by rw [Lib.decDigits_length, hn]
  have hh : (recT k v ++ t).head? ≠ some 48 := by rw [hb]; exact decDigits_head_ne _ (by omega) _
  have hat : (recT k v ++ t)[dsz (szR k v)]? = some 32 := by
    rw [hb, List.getElem?_append_right (by omega), hdl, Nat.sub_self]; rfl
  have hdrop : (recT k v ++ t).drop (dsz (szR k v) + 1) = (k ++ 61 :: (v ++ [10])) ++ t := by
    rw [hb, List.drop_append_of_le_length' hdl]
  have htw : twiceB (sz k v) = false := by rw [e]; exact twiceB_sz _ (by omega)
  have hlen : dsz (szR k v) < (recT k v ++ t).length := (List.getElem?_eq_some_iff.1 hat).1
  have hfin : sz k v - dsz (szR k v) - 1 = (k ++ 61 :: (v ++ [10])).length := by rw [rec_body_len, e]; unfold szR; omega
  have hbl := rec_body_len k v
  unfold oneP
  simp only [hd]
  rw [if_neg (not_or.2 ⟨by omega, not_or.2 ⟨hh, by omega⟩⟩), if_neg (by rw [htw]; simp), if_neg (not_or.2 ⟨by omega, fun h => h hat⟩), if_neg (by omega)]
  rw [hdrop, hfin]
  have hw : decide ((k ++ 61 :: (v ++ [10])).length ≤ ((k ++ 61 :: (v ++ [10])) ++ t).length) = true := decide_eq_true (List.prefix_append _ _).length_le
  simp only [hw, if_true, cutEq_eq]
  have htk : ((k ++ 61 :: (v ++ [10])) ++ t).take (k ++ 61 :: (v ++ [10])).length = k ++ 61 :: (v ++ [10]) := List.take_left' rfl
  rw [htk, cutB_some hk61]
  simp only
  rw [if_neg (not_or.2 ⟨fun h => h hm, by omega⟩), if_neg (by simp), if_neg]
  · congr 1; simp
  · intro h
    apply h
    rw [hbl, List.getElem?_append_right (by omega), show k.length + v.length + 2 - 1 - k.length = v.length + 1 by omega, List.getElem?_cons_succ, List.getElem?_append_right (by omega), Nat.sub_self]
    rfl
/-- .. and a part of it is short -/
theorem decDigits_take (u : Nat) : ∀ t, t < Lib.nDigits u → (Lib.decDigits u).take (Lib.nDigits u - t) = Lib.decDigits (u / 10 ^ t) ∧ Lib.nDigits (u / 10 ^ t) = Lib.nDigits u - t := by
  induction u using Nat.strongRecOn with
  | _ u ih =>
    intro t ht
    cases t with
    | zero => exact ⟨by rw [Nat.sub_zero, ← Lib.decDigits_length, List.take_length]; simp, by simp⟩
    | succ t =>
      have h10 : ¬ u < 10 := fun h => by rw [Lib.nDigits_small h] at ht; omega
      have hb := Lib.nDigits_big h10
      obtain ⟨h1, h2⟩ := ih (u / 10) (by omega) t (by omega)
      have e : u / 10 ^ (t + 1) = u / 10 / 10 ^ t := by rw [Nat.pow_succ, Nat.mul_comm, Nat.div_div_eq_div_mul]
      rw [e, hb, show Lib.nDigits (u / 10) + 1 - (t + 1) = Lib.nDigits (u / 10) - t by omega]
      refine ⟨?_, h2⟩
      rw [← h1, Lib.decDigits, dif_neg h10, List.take_append_of_le_length (by rw [Lib.decDigits_length]; omega)]
theorem cutB_take {k y : List UInt8} (hk : ∀ x ∈ k, x ≠ 61) (i : Nat) :
    (i ≤ k.length ∧ cutB 61 ((k ++ 61 :: y).take i) = (k.take i, none)) ∨ (k.length < i ∧ ∃ z, cutB 61 ((k ++ 61 :: y).take i) = (k, some z)) := by
  rcases Nat.lt_or_ge k.length i with h | h
  · right
    refine ⟨h, y.take (i - k.length - 1), ?_⟩
    rw [List.take_append, List.take_of_length_le (by omega), show i - k.length = (i - k.length - 1) + 1 by omega, List.take_succ_cons, cutB_some hk]
    rfl
  · left
    refine ⟨h, ?_⟩
    rw [List.take_append_of_le_length h]
    exact cutB_none (fun x hx => hk x (List.mem_of_mem_take hx))
theorem oneP_short {k v : List UInt8} (h : Small (k, v)) (j : Nat) (h0 : 0 < j) (hj : j < (recT k v).length) : oneP ((recT k v).take j) = .bad 4 := by
  obtain ⟨e, hr, h1, h8, hn, hle⟩ := h.sz
  have hm : mayK k = true := h.may
  obtain ⟨hk0, hkl, hk61⟩ := mayK_no hm
  have hk1 : 1 ≤ k.length := List.length_pos_iff.2 hk0
  have hb : recT k v = Lib.decDigits (sz k v) ++ 32 :: (k ++ 61 :: (v ++ [10])) := rfl
  have hdl : (Lib.decDigits (sz k v)).length = dsz (szR k v) := by rw [Lib.decDigits_length, hn]
  have hbl := rec_body_len k v
  have hrl : (recT k v).length = dsz (szR k v) + 1 + (k.length + v.length + 2) := by rw [hb, List.length_append, hdl, List.length_cons, hbl]; omega
  have htw : twiceB (sz k v) = false := by rw [e]; exact twiceB_sz _ (by omega)
  rcases Nat.lt_or_ge (dsz (szR k v)) j with hlt | hge
  · -- behind the blank
    have hb2 : (recT k v).take j = Lib.decDigits (sz k v) ++ 32 :: ((k ++ 61 :: (v ++ [10])).take (j - dsz (szR k v) - 1)) := by
      rw [hb, List.take_append, List.take_of_length_le (by omega), hdl, show j - dsz (szR k v) = (j - dsz (szR k v) - 1) + 1 by omega, List.take_succ_cons]
      rfl
    have hd : digN ((recT k v).take j) 0 0 = (dsz (szR k v), sz k v) := by
      rw [hb2, digN_dec _ _ (by omega), digN_stopL rfl, hn]
    have hh : ((recT k v).take j).head? ≠ some 48 := by rw [hb2]; exact decDigits_head_ne _ (by omega) _
    have hat : ((recT k v).take j)[dsz (szR k v)]? = some 32 := by
      rw [hb2, List.getElem?_append_right (by omega), hdl, Nat.sub_self]; rfl
    have hlen : dsz (szR k v) < ((recT k v).take j).length := (List.getElem?_eq_some_iff.1 hat).1
    have hdrop : ((recT k v).take j).drop (dsz (szR k v) + 1) = (k ++ 61 :: (v ++ [10])).take (j - dsz (szR k v) - 1) := by
      rw [hb2, List.drop_append_of_le_length' hdl]
    have hfin : sz k v - dsz (szR k v) - 1 = k.length + v.length + 2 := by rw [e]; unfold szR; omega
    unfold oneP
    simp only [hd]
    rw [if_neg (not_or.2 ⟨by omega, not_or.2 ⟨hh, by omega⟩⟩), if_neg (by rw [htw]; simp), if_neg (not_or.2 ⟨by omega, fun h => h hat⟩), if_neg (by omega)]
    rw [hdrop, hfin]
    have hw : decide (k.length + v.length + 2 ≤ ((k ++ 61 :: (v ++ [10])).take (j - dsz (szR k v) - 1)).length) = false := decide_eq_false (by rw [List.length_take, hbl]; omega)
    simp only [hw, Bool.false_eq_true, if_false, cutEq_eq, true_and]
    rcases cutB_take (y := v ++ [10]) hk61 (j - dsz (szR k v) - 1) with ⟨h2, h3⟩ | ⟨h2, z, h3⟩
    · rw [h3]
      simp only
      rw [if_pos ⟨by rw [List.length_take]; omega, mayK_take hm _⟩]
    · rw [h3]
      simp only
      rw [if_neg (not_or.2 ⟨fun h => h hm, by omega⟩), if_pos trivial]
  · -- digits alone
    obtain ⟨h2, h3⟩ := decDigits_take (sz k v) (dsz (szR k v) - j) (by omega)
    rw [hn, show dsz (szR k v) - (dsz (szR k v) - j) = j by omega] at h2 h3
    have hb2 : (recT k v).take j = Lib.decDigits (sz k v / 10 ^ (dsz (szR k v) - j)) ++ [] := by
      rw [hb, List.take_append_of_le_length (by omega), h2, List.append_nil]
    have hu0 : 0 < sz k v / 10 ^ (dsz (szR k v) - j) := by
      refine Nat.pos_of_ne_zero fun e0 => ?_
      have hz : sz k v < 10 ^ (dsz (szR k v) - j) := by
        rcases Nat.div_eq_zero_iff.1 e0 with h | h
        · have : 0 < 10 ^ (dsz (szR k v) - j) := Nat.pow_pos (by omega)
          omega
        · exact h
      have h4 := pow_le_nDigits (n := sz k v) (by omega)
      rw [hn] at h4
      have h5 : (10:Nat) ^ (dsz (szR k v) - j) ≤ 10 ^ (dsz (szR k v) - 1) := Nat.pow_le_pow_right (by omega) (by omega)
      omega
    generalize hu : sz k v / 10 ^ (dsz (szR k v) - j) = u at *
    have hd : digN ((recT k v).take j) 0 0 = (j, u) := by rw [hb2, digN_dec _ _ (by omega), h3]; rfl
    have hh : ((recT k v).take j).head? ≠ some 48 := by rw [hb2]; exact decDigits_head_ne _ hu0 _
    have hlen : ((recT k v).take j).length = j := by rw [List.length_take]; omega
    have hat : ((recT k v).take j)[j]? = none := List.getElem?_eq_none (by omega)
    have hule : u ≤ sz k v := by rw [← hu]; exact Nat.div_le_self _ _
    unfold oneP
    simp only [hd]
    rw [if_neg (not_or.2 ⟨by omega, not_or.2 ⟨hh, by omega⟩⟩), if_neg, if_pos (.inl hlen.symm), if_pos hlen.symm]
    rintro ⟨h4, h5 | h5⟩
    · rcases Nat.eq_zero_or_pos (dsz (szR k v) - j) with hz | hz
      · rw [hz] at hu
        simp at hu
        rw [← hu, htw] at h4
        cases h4
      · have : u * 10 ≤ sz k v := by
          rw [← hu, show dsz (szR k v) - j = (dsz (szR k v) - j - 1) + 1 by omega, Nat.pow_succ, ← Nat.div_div_eq_div_mul]
          have h6 := Nat.div_mul_le_self (sz k v / 10 ^ (dsz (szR k v) - j - 1)) 10
          have h7 := Nat.div_le_self (sz k v) (10 ^ (dsz (szR k v) - j - 1))
          omega
        omega
    · rw [hat] at h5; cases h5
/-- digits in front are the number's text -/
theorem digN_take : ∀ (l p : List UInt8) (n0 : Nat), 0 < n0 → Lib.decDigits n0 = p → p.length ≤ 9 → (p ++ l).take (digN l p.length n0).1 = Lib.decDigits (digN l p.length n0).2 ∧ 0 < (digN l p.length n0).2
  | [], p, n0, h0, hp, _ => by
    have e : digN [] p.length n0 = (p.length, n0) := rfl
    rw [e, List.append_nil]
    exact ⟨by rw [List.take_length]; exact hp.symm, h0⟩
  | c :: l, p, n0, h0, hp, h9 => by
    cases h : isDig c && decide (p.length < 9)
    · rw [digN_stopL h]
      exact ⟨by simp [hp], h0⟩
    · rw [digN_goL h]
      simp only [Bool.and_eq_true, decide_eq_true_eq, isDig] at h
      have hc : UInt8.ofNat (48 + (c.toNat - 48)) = c := by
        rw [show 48 + (c.toNat - 48) = c.toNat by omega]
        exact UInt8.ofNat_toNat
      have hd : Lib.decDigits (10 * n0 + (c.toNat - 48)) = p ++ [c] := by
        rw [Lib.decDigits, dif_neg (by omega), show (10 * n0 + (c.toNat - 48)) / 10 = n0 by omega, show (10 * n0 + (c.toNat - 48)) % 10 = c.toNat - 48 by omega, hp, hc]
      have := digN_take l (p ++ [c]) (10 * n0 + (c.toNat - 48)) (by omega) hd (by simp; omega)
      simp only [List.length_append, List.length_cons, List.length_nil, Nat.zero_add, List.append_assoc, List.cons_append, List.nil_append] at this
      exact this
theorem digN_first (b : List UInt8) (h0 : (digN b 0 0).1 ≠ 0) (hh : b.head? ≠ some 48) : b.take (digN b 0 0).1 = Lib.decDigits (digN b 0 0).2 ∧ 0 < (digN b 0 0).2 := by
  cases b with
  | nil => exact (h0 rfl).elim
  | cons c l =>
    cases h : isDig c && decide (0 < 9)
    · rw [digN_stopL h] at h0; exact (h0 rfl).elim
    · rw [digN_goL h] at h0 ⊢
      simp only [Bool.and_eq_true, decide_eq_true_eq, isDig] at h
      have hne : c.toNat ≠ 48 := fun e => hh (by rw [List.head?_cons]; congr 1; exact UInt8.toNat_inj.1 e)
      have hc : UInt8.ofNat (48 + (c.toNat - 48)) = c := by
        rw [show 48 + (c.toNat - 48) = c.toNat by omega]
        exact UInt8.ofNat_toNat
      have hd : Lib.decDigits (10 * 0 + (c.toNat - 48)) = [c] := by
        rw [Lib.decDigits_one (by omega), show 10 * 0 + (c.toNat - 48) = c.toNat - 48 by omega, hc]
      exact digN_take l [c] _ (by omega) hd (by simp)
theorem pow_ge (t : Nat) (h : 2 ≤ t) : t + 1 ≤ 10 ^ (t - 1) := by
  induction t with
  | zero => omega
  | succ t ih =>
    rcases (by omega : t = 1 ∨ 2 ≤ t) with rfl | h2
    · decide
    · have := ih h2
      rw [show t + 1 - 1 = (t - 1) + 1 by omega, Nat.pow_succ]; omega
/-- WHAT IS READ AS A RECORD IS ITS TEXT -/
theorem oneP_inv {b k v : List UInt8} {n : Nat} (h : oneP b = .one k v n) : b = recT k v ++ b.drop n ∧ n = sz k v ∧ mayK k = true ∧ n ≤ 16777216 ∧ n ≤ b.length ∧ 1 ≤ n := by
  have hk := oneP_ok h
  obtain ⟨h1, h2⟩ := digN_first b hk.m0 hk.hd
  have hm9 := (digN_facts b 0 0 (by omega) (by decide)).2.1
  have hdn := hk.dn
  have hsz := hk.sz
  rw [hdn] at h1 h2
  generalize hmm : (digN b 0 0).1 = m at *
  have hle := hk.le
  have hsp := hk.sp
  rw [hmm] at hsp
  have hmb : m < b.length := (List.getElem?_eq_some_iff.1 hsp).1
  have hmd : Lib.nDigits n = m := by
    have := congrArg List.length h1
    rw [List.length_take, Lib.decDigits_length] at this
    omega
  have hm1 : 1 ≤ m := by have := Lib.nDigits_pos n; omega
  have hr : n = szR k v + m := by unfold szR; omega
  have hrs : szR k v ≤ 1000000000000000000 := by omega
  obtain ⟨hD1, _, hD2, hD3⟩ := dsz_spec (szR k v) hrs
  have hpm := Lib.lt_pow_nDigits n
  rw [hmd] at hpm
  have hDm : dsz (szR k v) ≤ m := by
    refine Nat.le_of_not_lt fun hlt => ?_
    have := hD3 m hm1 hlt
    omega
  have hDe : dsz (szR k v) = m := by
    rcases Nat.lt_or_ge (dsz (szR k v)) m with hlt | hge
    · exfalso
      have hp := pow_le_nDigits (n := n) (by omega)
      rw [hmd] at hp
      generalize hDD : dsz (szR k v) = D at *
      rcases (by omega : m = D + 1 ∨ D + 2 ≤ m) with he | he
      · rw [he] at hp
        simp only [Nat.add_sub_cancel] at hp
        have hn : n = 10 ^ D := by omega
        have := twiceB_pow D hD1 (by omega)
        rw [← hn, hk.tw] at this
        cases this
      · have h10 := pow_ge (m - D) (by omega)
        have he2 : (10:Nat) ^ (m - 1) = 10 ^ D * 10 ^ (m - D - 1) := by rw [← Nat.pow_add]; congr 1; omega
        rw [he2] at hp
        have hp2 : 10 ^ D * (m - D + 1) ≤ 10 ^ D * 10 ^ (m - D - 1) := Nat.mul_le_mul_left _ h10
        have hpD : 1 ≤ 10 ^ D := Nat.one_le_pow _ _ (by omega)
        have hp3 : 10 ^ D + (m - D) ≤ 10 ^ D * (m - D + 1) := by
          rw [Nat.mul_add, Nat.mul_one, Nat.add_comm]
          exact Nat.add_le_add_right (Nat.le_mul_of_pos_left _ hpD) _
        omega
    · omega
  have hszk : n = sz k v := by
    have hm : mayK k = true := hk.may
    rw [hr, ← hDe]; simp [sz, hm]
  have hrest := hk.rest
  rw [hmm] at hrest
  have hb : b = Lib.decDigits n ++ 32 :: b.drop (m + 1) := by
    rw [← h1]
    conv => lhs; rw [← List.take_append_drop m b]
    rw [List.drop_eq_getElem_cons hmb]
    rw [List.getElem?_eq_getElem hmb] at hsp
    injection hsp with hsp
    rw [hsp]
  refine ⟨?_, hszk, hk.may, hle, hk.fits, by omega⟩
  have hd2 : b.drop (m + 1) = (k ++ 61 :: (v ++ [10])) ++ b.drop n := by
    rw [← hrest]
    conv => lhs; rw [← List.take_append_drop (k.length + 1 + (v.length + 1)) (b.drop (m + 1))]
    rw [List.drop_drop, ← show n = m + 1 + (k.length + 1 + (v.length + 1)) from hsz]
  conv => lhs; rw [hb, hd2]
  rw [recT, ← hszk]
  simp
def SmallL (l : List R2) : Prop := ∀ p ∈ l, Small p
theorem putT_ne {k v : List UInt8} (h : Small (k, v)) : recT k v ≠ [] := by simp [recT]
theorem recT_len {k v : List UInt8} (h : Small (k, v)) : (recT k v).length = sz k v := by
  have hz := h.sz
  exact recT_length k v h.may (by omega)
/-- RECORDS' TEXT IS READ AS THESE RECORDS -/
theorem getR_put : ∀ (l : List R2), SmallL l → getR (putT l) = (l, 0)
  | [], _ => rfl
  | (k, v) :: l, h => by
    have hs : Small (k, v) := h _ (by simp)
    have ih := getR_put l (fun p hp => h p (by simp [hp]))
    have ho := oneP_rec hs (putT l)
    rw [putT_cons]
    simp only
    rw [getR_one (by intro e; exact putT_ne hs (List.append_eq_nil_iff.1 e).1) ho, ← recT_len hs, List.drop_left, ih]
    rfl
/-- A PART OF IT -/
theorem getR_part : ∀ (l : List R2) (k : Nat), SmallL l → k ≤ (putT l).length →
    (∃ j, j ≤ l.length ∧ k = (putT (l.take j)).length ∧ getR ((putT l).take k) = (l.take j, 0)) ∨ ((∀ j, j ≤ l.length → k ≠ (putT (l.take j)).length) ∧ getR ((putT l).take k) = ([], 4))
  | [], k, _, hk => .inl ⟨0, Nat.le_refl _, by simpa [putT] using hk, by simp [putT]; rfl⟩
  | (key, v) :: l, k, h, hk => by
    have hs : Small (key, v) := h _ (by simp)
    have hrl := recT_len hs
    rw [putT_cons] at hk ⊢
    simp only at hk ⊢
    have hn0 : 0 < (recT key v).length := List.length_pos_iff.2 (putT_ne hs)
    rcases Nat.eq_zero_or_pos k with rfl | hk0
    · exact .inl ⟨0, Nat.zero_le _, rfl, rfl⟩
    · rcases Nat.lt_or_ge k (recT key v).length with hlt | hge
      · right
        refine ⟨fun j hj e => ?_, ?_⟩
        · cases j with
          | zero => simp [putT] at e; omega
          | succ j =>
            rw [List.take_succ_cons, putT_cons, List.length_append] at e
            simp only at e
            omega
        · rw [List.take_append_of_le_length (by omega)]
          have ho := oneP_short hs k hk0 hlt
          exact getR_bad (by intro e; have := congrArg List.length e; rw [List.length_take, List.length_nil] at this; omega) ho
      · have e1 : (recT key v ++ putT l).take k = recT key v ++ (putT l).take (k - (recT key v).length) := by
          rw [List.take_append, List.take_of_length_le hge]
        have ho := oneP_rec hs ((putT l).take (k - (recT key v).length))
        have hg := getR_one (by intro e; exact putT_ne hs (List.append_eq_nil_iff.1 e).1) ho
        rw [← hrl, List.drop_left] at hg
        rw [e1, hg]
        rw [List.length_append] at hk
        rcases getR_part l (k - (recT key v).length) (fun p hp => h p (by simp [hp])) (by omega) with ⟨j, hj, h1, h2⟩ | ⟨h1, h2⟩
        · left
          refine ⟨j + 1, by simpa using hj, ?_, by rw [h2]; rfl⟩
          rw [List.take_succ_cons, putT_cons, List.length_append]
          simp only
          omega
        · right
          refine ⟨fun j hj e => ?_, by rw [h2]; rfl⟩
          cases j with
          | zero => simp [putT] at e; omega
          | succ j =>
            rw [List.take_succ_cons, putT_cons, List.length_append] at e
            simp only at e
            exact h1 j (by simpa using hj) (by omega)
/-- WHAT IS READ AS RECORDS IS THEIR TEXT -/
theorem getR_inv : ∀ (n : Nat) (b : List UInt8) (x : List R2), b.length ≤ n → getR b = (x, 0) → mayL x = true ∧ putT x = b ∧ x.length ≤ b.length ∧ ∀ p ∈ x, p.2.length ≤ b.length
  | n, [], x, _, h => by
    rw [getR_nil] at h
    injection h with h _
    subst h
    exact ⟨rfl, rfl, Nat.le_refl _, by simp⟩
  | 0, c :: b, x, hn, _ => by simp at hn
  | n + 1, c :: b, x, hn, h => by
    cases ho : oneP (c :: b) with
    | bad e =>
      rw [getR_bad (by simp) ho] at h
      injection h with _ h
      rcases oneP_bad_pos ho with rfl | rfl <;> cases h
    | one k v m =>
      obtain ⟨h1, h2, h3, h4, h5, h6⟩ := oneP_inv ho
      rw [getR_one (by simp) ho] at h
      obtain ⟨r, hr⟩ : ∃ r, getR ((c :: b).drop m) = r := ⟨_, rfl⟩
      rw [hr] at h
      obtain ⟨x', e⟩ := r
      cases e with
      | succ e => simp [comb] at h
      | zero =>
        simp [comb] at h
        subst h
        have hl : ((c :: b).drop m).length ≤ n := by rw [List.length_drop]; omega
        obtain ⟨k1, k2, k3, k4⟩ := getR_inv n _ x' hl hr
        have hdl := List.length_drop (i := m) (l := c :: b)
        have hv : v.length ≤ (c :: b).length := by
          have e := congrArg List.length h1
          simp only [List.length_append, recT, List.length_cons, List.length_nil] at e
          simp only [List.length_cons]; omega
        refine ⟨?_, ?_, by rw [List.length_cons]; omega, ?_⟩
        · have : mayL ((k, v) :: x') = (mayK k && mayL x') := rfl
          rw [this, h3, k1]; rfl
        · rw [putT_cons]
          simp only
          rw [k2]; exact h1.symm
        · intro p hp
          rcases List.mem_cons.1 hp with rfl | hp
          · exact hv
          · have := k4 p hp; omega
theorem getR_err (b : List UInt8) : getR b = ((getR b).1, 0) ∨ getR b = ([], 4) ∨ getR b = ([], 5) := by
  have key : ∀ (n : Nat) (b : List UInt8), b.length ≤ n → (getR b).2 = 0 ∨ getR b = ([], 4) ∨ getR b = ([], 5) := by
    intro n
    induction n with
    | zero => intro b hb; obtain rfl : b = [] := List.eq_nil_of_length_eq_zero (by omega); exact .inl rfl
    | succ n ih =>
      intro b hb
      cases b with
      | nil => exact .inl rfl
      | cons c b =>
        cases ho : oneP (c :: b) with
        | bad e =>
          rw [getR_bad (by simp) ho]
          rcases oneP_bad_pos ho with rfl | rfl
          · exact .inr (.inl rfl)
          · exact .inr (.inr rfl)
        | one k v m =>
          obtain ⟨h1, h2, h3, h4, h5, h6⟩ := oneP_inv ho
          rw [getR_one (by simp) ho]
          rcases ih ((c :: b).drop m) (by rw [List.length_drop]; omega) with h | h | h
          · rcases hr : getR ((c :: b).drop m) with ⟨x', e⟩
            rw [hr] at h
            simp only at h
            subst h
            exact .inl rfl
          · rw [h]; exact .inr (.inl rfl)
          · rw [h]; exact .inr (.inr rfl)
  rcases key b.length b (Nat.le_refl _) with h | h
  · left
    rcases hr : getR b with ⟨x', e⟩
    rw [hr] at h
    simp only at h
    subst h; rfl
  · exact .inr h
end Go.Proofs.YtlhjehcfpnjbmaaDoor
