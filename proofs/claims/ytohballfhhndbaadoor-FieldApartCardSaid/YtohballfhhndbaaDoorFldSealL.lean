/- BLOCKS SEALED: plain facts. -/
import Derived.Test.YtohballfhhndbaaDoorFldSeal
import Derived.Test.YtohballfhhndbaaDoorFldBackL
namespace Go.Proofs.YtohballfhhndbaaDoor
theorem octV_zero : ∀ (l t : List UInt8) (n : Int), octV n (l ++ 0 :: t) = octV n (l ++ [0])
  | [], t, n => by simp [octV]
  | c :: l, t, n => by
    rw [List.cons_append, List.cons_append, octV, octV]
    split
    · rfl
    · split
      · rfl
      · exact octV_zero l t _
theorem numS_chk (x : Nat) (hx : x < 8 ^ 6) : numS (octK 6 x ++ [0, 32]) = ((x : Int), 0) := by
  have h := numS_octK 6 x (by decide) (by decide) hx
  obtain ⟨c, l, he, hc, hne⟩ := octK_head 6 x (by decide)
  have hl : (octK 6 x ++ [0]).length = 7 := by simp [octK_length]
  have hl2 : (octK 6 x ++ [0, 32]).length = 8 := by simp [octK_length]
  have he2 : octK 6 x ++ [0, 32] = c :: (l ++ [32]) := by
    rw [show octK 6 x ++ [0, 32] = (octK 6 x ++ [0]) ++ [32] by simp, he]; rfl
  have hz := octV_zero (octK 6 x) [32] 0
  rw [he] at h hl hz
  rw [he2] at hl2
  have hd1 : (c :: l).dropWhile (· == 32) = c :: l := by rw [List.dropWhile_cons_of_neg]; simpa using hne
  have hd2 : (c :: (l ++ [32])).dropWhile (· == 32) = c :: (l ++ [32]) := by rw [List.dropWhile_cons_of_neg]; simpa using hne
  unfold numS at h ⊢
  simp only at h ⊢
  rw [hl, if_neg (by omega), if_neg (by omega), hd1] at h
  rw [he2]
  simp only
  rw [hl2, if_neg (by omega), if_neg (by omega), hd2, ← he2]
  rw [show octK 6 x ++ [0, 32] = octK 6 x ++ 0 :: [32] by rfl, hz]
  exact h
theorem setL_get {l m : List UInt8} {a : Nat} (h : a + m.length ≤ l.length) (i : Nat) : (setL l a m)[i]? = if i < a then l[i]? else if i < a + m.length then m[i - a]? else l[i]? := by
  unfold setL
  have h1 : (l.take a).length = a := by rw [List.length_take]; omega
  by_cases hi : i < a
  · rw [if_pos hi, List.append_assoc, List.getElem?_append_left (by omega), List.getElem?_take_of_lt hi]
  · rw [if_neg hi]
    by_cases hj : i < a + m.length
    · rw [if_pos hj, List.getElem?_append_left (by rw [List.length_append]; omega), List.getElem?_append_right (by omega), h1]
    · rw [if_neg hj, List.getElem?_append_right (by rw [List.length_append]; omega), List.length_append, h1, List.getElem?_drop]
      congr 1; omega
theorem setL_setL {l m m' : List UInt8} {a : Nat} (h : a + m.length ≤ l.length) (hm : m'.length = m.length) : setL (setL l a m) a m' = setL l a m' := by
  apply List.ext_getElem?
  intro i
  rw [setL_get (by rw [setL_length h]; omega), setL_get h, setL_get (by omega), hm]
  split
  · rfl
  · split <;> rfl
theorem fldL_get (l : List UInt8) (a n i : Nat) : (fldL l (a, n))[i]? = if i < n then l[a + i]? else none := by
  unfold fldL
  simp only
  by_cases h : i < n
  · rw [if_pos h, List.getElem?_take_of_lt h, List.getElem?_drop]
  · rw [if_neg h, List.getElem?_eq_none]; rw [List.length_take]; omega
theorem fldL_setL {l m : List UInt8} {a : Nat} (h : a + m.length ≤ l.length) : fldL (setL l a m) (a, m.length) = m := by
  apply List.ext_getElem?
  intro i
  rw [fldL_get]
  by_cases hi : i < m.length
  · rw [if_pos hi, setL_get h, if_neg (by omega), if_pos (by omega), Nat.add_sub_cancel_left]
  · rw [if_neg hi, List.getElem?_eq_none (by omega)]
theorem fldL_apart {l m : List UInt8} {a b n : Nat} (h : a + m.length ≤ l.length) (hd : b + n ≤ a ∨ a + m.length ≤ b) : fldL (setL l a m) (b, n) = fldL l (b, n) := by
  apply List.ext_getElem?
  intro i
  rw [fldL_get, fldL_get]
  by_cases hi : i < n
  · rw [if_pos hi, if_pos hi, setL_get h]
    split
    · rfl
    · rw [if_neg (by omega)]
  · rw [if_neg hi, if_neg hi]
theorem sealT_length (l : List UInt8) : (sealT l).length = 8 := by simp [sealT, octK_length]
theorem sealS_length {l : List UInt8} (hl : l.length = 512) : (sealS l).length = 512 := by
  unfold sealS; rw [setL_length (by rw [sealT_length]; omega), hl]
/-- the sum does not see chksum's field -/
theorem spaces_seal {l m : List UInt8} (hl : l.length = 512) (hm : m.length = 8) : setL (setL l 148 m) 148 (List.replicate 8 32) = setL l 148 (List.replicate 8 32) :=
  setL_setL (by omega) (by rw [hm]; rfl)
theorem seal_idem {l : List UInt8} (hl : l.length = 512) : sealS (sealS l) = sealS l := by
  have h1 : sealT (sealS l) = sealT l := by
    unfold sealT
    rw [show sealS l = setL l 148 (sealT l) from rfl, spaces_seal hl (sealT_length l)]
  unfold sealS at *
  rw [h1, setL_setL (by rw [sealT_length]; omega) rfl]
theorem sumS_seal {l m : List UInt8} (hl : l.length = 512) (hm : m.length = 8) : sumS (setL l 148 m) = sumS l := by unfold sumS; rw [spaces_seal hl hm]
theorem check_sealed {l : List UInt8} (hl : l.length = 512) (hm : fldL l (257, 6) = magic1) : checkS (sealS l) = 0 := by
  have h1 : fldL (sealS l) (148, 8) = sealT l := by
    have := fldL_setL (l := l) (m := sealT l) (a := 148) (by rw [sealT_length]; omega)
    rwa [sealT_length] at this
  have h2 : fldL (sealS l) (257, 6) = magic1 := by rw [← hm]; exact fldL_apart (by rw [sealT_length]; omega) (by rw [sealT_length]; omega)
  have h3 : numS (sealT l) = (sumS l, 0) := numS_chk _ (sum_lt l hl)
  have h4 : sumS (sealS l) = sumS l := sumS_seal hl (sealT_length l)
  unfold checkS
  rw [h1, h2, h3, h4]
  simp
theorem check_more {l : List UInt8} (hl : l.length = 512) (hm : fldL l (257, 6) = magic1) (x : Nat) (hx : x < 8 ^ 6) (hne : (x : Int) ≠ sumS l) : checkS (setL l 148 (octK 6 x ++ [0, 32])) = 21 := by
  have hlen : (octK 6 x ++ [0, 32]).length = 8 := by simp [octK_length]
  have h1 : fldL (setL l 148 (octK 6 x ++ [0, 32])) (148, 8) = octK 6 x ++ [0, 32] := by
    have := fldL_setL (l := l) (m := octK 6 x ++ [0, 32]) (a := 148) (by omega)
    rwa [hlen] at this
  have h2 : fldL (setL l 148 (octK 6 x ++ [0, 32])) (257, 6) = magic1 := by rw [← hm]; exact fldL_apart (by omega) (by omega)
  have h4 := sumS_seal (l := l) (m := octK 6 x ++ [0, 32]) hl hlen
  unfold checkS
  rw [h1, h2, numS_chk x hx, h4]
  simp [bne, hne]
theorem sumL_set : ∀ (l : List UInt8) (k : Nat) (c : UInt8) (hk : k < l.length), sumL (l.set k c) + l[k].toNat = sumL l + c.toNat
  | [], _, _, h => by simp at h
  | d :: l, 0, c, _ => by simp [sumL]; omega
  | d :: l, k + 1, c, h => by
    have ih := sumL_set l k c (by simpa using h)
    simp only [sumL, List.set_cons_succ, List.map_cons, List.sum_cons, List.getElem_cons_succ] at ih ⊢
    omega
theorem fldL_set {l : List UInt8} {k a n : Nat} {c : UInt8} (h : k < a ∨ a + n ≤ k) : fldL (l.set k c) (a, n) = fldL l (a, n) := by
  apply List.ext_getElem?
  intro i
  rw [fldL_get, fldL_get]
  by_cases hi : i < n
  · rw [if_pos hi, if_pos hi, List.getElem?_set_ne (by omega)]
  · rw [if_neg hi, if_neg hi]
theorem setL_set {l m : List UInt8} {k a : Nat} {c : UInt8} (h : a + m.length ≤ l.length) (hk : k < a ∨ a + m.length ≤ k) : setL (l.set k c) a m = (setL l a m).set k c := by
  apply List.ext_getElem?
  intro i
  rw [setL_get (by rw [List.length_set]; exact h), List.getElem?_set, List.getElem?_set, setL_length h, setL_get h]
  by_cases hik : k = i
  · subst hik
    rw [if_pos rfl, if_pos rfl]
    split
    · rfl
    · rw [if_neg (by omega)]
  · rw [if_neg hik, if_neg hik]
theorem setL_getElem {l m : List UInt8} {k a : Nat} (h : a + m.length ≤ l.length) (hk : k < a ∨ a + m.length ≤ k) (hkl : k < l.length) : (setL l a m)[k]'(by rw [setL_length h]; exact hkl) = l[k] := by
  have h1 := setL_get h k
  rw [List.getElem?_eq_getElem (by rw [setL_length h]; exact hkl), List.getElem?_eq_getElem hkl] at h1
  split at h1
  · injection h1
  · rw [if_neg (by omega)] at h1; injection h1
/-- another byte outside of chksum -/
theorem check_other {l : List UInt8} (hl : l.length = 512) (hm : fldL l (257, 6) = magic1) (k : Nat) (hk : k < 512) (c : UInt8) (hne : c ≠ (sealS l)[k]'(by rw [sealS_length hl]; exact hk)) (hout : k < 148 ∨ 156 ≤ k) :
    checkS ((sealS l).set k c) = 21 ∨ (checkS ((sealS l).set k c) = 5 ∧ 257 ≤ k ∧ k ≤ 262) := by
  have hl2 := sealS_length hl
  have h1 : fldL ((sealS l).set k c) (148, 8) = sealT l := by
    rw [fldL_set (by omega)]
    have := fldL_setL (l := l) (m := sealT l) (a := 148) (by rw [sealT_length]; omega)
    rwa [sealT_length] at this
  have h3 : numS (sealT l) = (sumS l, 0) := numS_chk _ (sum_lt l hl)
  have h4 : sumS ((sealS l).set k c) ≠ sumS l := by
    have e1 : sumS l = sumS (sealS l) := (sumS_seal hl (sealT_length l)).symm
    have e2 : setL ((sealS l).set k c) 148 (List.replicate 8 32) = (setL (sealS l) 148 (List.replicate 8 32)).set k c := setL_set (by simp; omega) (by simp; omega)
    have e3 := sumL_set (setL (sealS l) 148 (List.replicate 8 32)) k c (by rw [setL_length (by simp; omega)]; omega)
    rw [setL_getElem (by simp; omega) (by simp; omega) (by omega)] at e3
    rw [e1]
    unfold sumS
    rw [e2]
    intro e
    refine hne (UInt8.toNat_inj.1 ?_)
    omega
  by_cases hmg : fldL ((sealS l).set k c) (257, 6) = magic1 ∨ fldL ((sealS l).set k c) (257, 6) = magic2
  · left
    unfold checkS
    rw [h1, h3]
    rcases hmg with h | h
    · rw [h]; simp [bne, Ne.symm h4]
    · rw [h]; simp [bne, Ne.symm h4]
  · right
    have hb1 : (fldL ((sealS l).set k c) (257, 6) == magic1) = false := by rw [beq_eq_false_iff_ne]; exact fun e => hmg (.inl e)
    have hb2 : (fldL ((sealS l).set k c) (257, 6) == magic2) = false := by rw [beq_eq_false_iff_ne]; exact fun e => hmg (.inr e)
    refine ⟨?_, ?_⟩
    · unfold checkS
      rw [h1, h3]
      simp [bne, hb1, hb2]
    · by_cases hx : 257 ≤ k ∧ k ≤ 262
      · exact hx
      · exfalso
        refine hmg (.inl ?_)
        rw [fldL_set (by omega), ← hm]
        exact fldL_apart (by rw [sealT_length]; omega) (by rw [sealT_length]; omega)
end Go.Proofs.YtohballfhhndbaaDoor
