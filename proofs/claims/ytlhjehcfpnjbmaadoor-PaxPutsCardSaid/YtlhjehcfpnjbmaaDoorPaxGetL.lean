/- PAX, PLAINLY: what a record that is read says of the bytes; records read, without a bound on the steps. -/
import Derived.Test.YtlhjehcfpnjbmaaDoorPaxGetP
import Derived.Test.YtlhjehcfpnjbmaaDoorPaxPut
import Derived.Test.YtlhjehcfpnjbmaaDoorCut1
namespace Go.Proofs.YtlhjehcfpnjbmaaDoor
open Go.RowKit
theorem cutB_len {c : UInt8} {s k v : List UInt8} (h : cutB c s = (k, some v)) : s = k ++ c :: v := by
  have h1 : ∀ s : List UInt8, s = s.takeWhile (· != c) ++ s.dropWhile (· != c) := fun s => List.takeWhile_append_dropWhile.symm
  unfold cutB at h
  injection h with h2 h3
  have hd : s.dropWhile (· != c) = c :: v := by
    cases hs : s.dropWhile (· != c) with
    | nil => rw [hs] at h3; cases h3
    | cons x t =>
      rw [hs] at h3
      injection h3 with h3
      subst h3
      have := List.head_dropWhile_not (p := (· != c)) (l := s) (by rw [hs]; simp)
      simp only [hs, List.head_cons] at this
      have : x = c := by simpa using this
      rw [this]
  conv => lhs; rw [h1 s]
  rw [h2, hd]
/-- what a record that is read says of the bytes -/
structure OneOk (b k v : List UInt8) (n : Nat) : Prop where
  m0 : (digN b 0 0).1 ≠ 0
  hd : b.head? ≠ some 48
  dn : (digN b 0 0).2 = n
  le : n ≤ 16777216
  tw : twiceB n = false
  sp : b[(digN b 0 0).1]? = some 32
  sz : n = (digN b 0 0).1 + 1 + (k.length + 1 + (v.length + 1))
  rest : (b.drop ((digN b 0 0).1 + 1)).take (k.length + 1 + (v.length + 1)) = k ++ 61 :: (v ++ [10])
  fits : n ≤ b.length
  may : mayK k = true
theorem oneP_ok {b k v : List UInt8} {n : Nat} (h : oneP b = .one k v n) : OneOk b k v n := by
  unfold oneP at h
  simp only at h
  split at h
  · cases h
  rename_i h1
  split at h
  · cases h
  rename_i h2
  split at h
  · split at h <;> cases h
  rename_i h3
  split at h
  · cases h
  rename_i h4
  have hm0 : (digN b 0 0).1 ≠ 0 := fun e => h1 (.inl e)
  have hh : b.head? ≠ some 48 := fun e => h1 (.inr (.inl e))
  have hle : (digN b 0 0).2 ≤ 16777216 := by
    refine Nat.le_of_not_lt fun e => h1 (.inr (.inr e))
  have hsp : b[(digN b 0 0).1]? = some 32 := by
    refine Classical.byContradiction fun e => h3 (.inr e)
  have htw : twiceB (digN b 0 0).2 = false := by
    cases ht : twiceB (digN b 0 0).2
    · rfl
    · exact (h2 ⟨ht, .inr hsp⟩).elim
  have hlt : (digN b 0 0).1 < b.length := (List.getElem?_eq_some_iff.1 hsp).1
  generalize hmm : (digN b 0 0).1 = m at *
  generalize hnn : (digN b 0 0).2 = n' at *
  have hc : ∀ s, cutEq s = cutB 61 s := fun _ => rfl
  simp only [hc] at h
  cases hw : decide (n' - m - 1 ≤ (b.drop (m + 1)).length) with
  | false =>
    simp only [hw, Bool.false_eq_true, if_false, if_true, true_and] at h
    generalize cutB 61 (b.drop (m + 1)) = q at h
    obtain ⟨q1, q2⟩ := q
    cases q2 with
    | none =>
      simp only at h
      split at h <;> cases h
    | some value =>
      simp only at h
      split at h <;> cases h
  | true =>
  simp only [hw, if_true, Bool.true_eq_false, if_false, false_and] at h
  generalize hq : cutB 61 ((b.drop (m + 1)).take (n' - m - 1)) = q at h
  obtain ⟨q1, q2⟩ := q
  cases q2 with
  | none => simp only at h; cases h
  | some value =>
  simp only at h
  split at h
  · cases h
  rename_i h5
  split at h
  · cases h
  rename_i h7
  have hwl := of_decide_eq_true hw
  injection h with e1 e2 e3
  subst e3
  generalize hrs : (b.drop (m + 1)).take (n' - m - 1) = rs at *
  have hrl : rs.length = n' - m - 1 := by rw [← hrs]; simp at hwl ⊢; omega
  have hcb : cutB 61 rs = (k, some value) := by rw [hq, e1]
  have hs := cutB_len hcb
  have hmay : mayK k = true := by
    cases hk : mayK k
    · exact (h5 (.inl (by rw [e1, hk]; simp))).elim
    · rfl
  have hkl : k.length + 2 ≤ n' - m - 1 := by
    refine Nat.le_of_not_lt fun e => h5 (.inr (by rw [e1]; exact e))
  have hrl2 : rs.length = k.length + 1 + value.length := by rw [hs]; simp; omega
  have hv1 : 1 ≤ value.length := by omega
  have hlast : value[value.length - 1]? = some 10 := by
    have h8 : rs[n' - m - 1 - 1]? = some 10 := Classical.byContradiction fun e => h7 e
    rw [hs] at h8
    rw [List.getElem?_append_right (by omega)] at h8
    rw [show n' - m - 1 - 1 - k.length = (value.length - 1) + 1 by omega] at h8
    simpa using h8
  have hval : value = v ++ [10] := by
    rw [← e2]
    have hlt2 : value.length - 1 < value.length := by omega
    conv => lhs; rw [← List.take_append_drop (value.length - 1) value]
    rw [List.drop_eq_getElem_cons hlt2, show value.length - 1 + 1 = value.length by omega, List.drop_length]
    rw [List.getElem?_eq_getElem hlt2] at hlast
    injection hlast with hlast
    rw [hlast]
  have hvl : value.length = v.length + 1 := by rw [hval]; simp
  simp at hwl
  refine ⟨by rw [hmm]; exact hm0, hh, hnn, hle, htw, by rw [hmm]; exact hsp, by rw [hmm]; omega, ?_, by omega, hmay⟩
  rw [hmm, show k.length + 1 + (v.length + 1) = n' - m - 1 by omega, hrs, hs, hval]
def getR (b : List UInt8) : List R2 × Nat := getP b.length b
theorem getP_fuel : ∀ (f : Nat) (b : List UInt8), b.length ≤ f → getP f b = getP b.length b := by
  intro f
  induction f using Nat.strongRecOn with
  | _ f ih =>
    intro b hb
    cases b with
    | nil => cases f <;> rfl
    | cons c b =>
      cases f with
      | zero => simp at hb
      | succ f =>
        simp only [List.length_cons, getP, List.isEmpty_cons]
        cases ho : oneP (c :: b) with
        | bad e => rfl
        | one k v n =>
          have hk := oneP_ok ho
          have hn : 1 ≤ n := by have := hk.sz; omega
          have hl : ((c :: b).drop n).length ≤ b.length := by simp; omega
          simp only [List.length_cons] at hb
          have e1 : getP f ((c :: b).drop n) = getP b.length ((c :: b).drop n) := by
            rcases Nat.lt_or_ge b.length f with h | h
            · rw [ih f (by omega) _ (by omega), ih b.length (by omega) _ hl]
            · rw [show f = b.length by omega]
          simp only [e1]
theorem getR_nil : getR [] = ([], 0) := rfl
def comb (acc : List R2) : List R2 × Nat → List R2 × Nat
  | (l, 0) => (acc ++ l, 0)
  | (_, e + 1) => ([], e + 1)
theorem getR_bad {b : List UInt8} {e : Nat} (hb : b ≠ []) (ho : oneP b = .bad e) : getR b = ([], e) := by
  cases b with
  | nil => exact (hb rfl).elim
  | cons c b => simp only [getR, List.length_cons, getP, List.isEmpty_cons, ho]; rfl
theorem getR_one {b k v : List UInt8} {n : Nat} (hb : b ≠ []) (ho : oneP b = .one k v n) : getR b = comb [(k, v)] (getR (b.drop n)) := by
  have hk := oneP_ok ho
  cases b with
  | nil => exact (hb rfl).elim
  | cons c b =>
    have hn : 1 ≤ n := by have := hk.sz; omega
    have hl : ((c :: b).drop n).length ≤ b.length := by simp; omega
    unfold getR
    simp only [List.length_cons, getP, List.isEmpty_cons, ho]
    rw [getP_fuel _ _ hl]
    generalize getP ((c :: b).drop n).length ((c :: b).drop n) = r
    obtain ⟨l, e⟩ := r
    cases e <;> rfl
theorem comb_comb (a b : List R2) (r : List R2 × Nat) : comb a (comb b r) = comb (a ++ b) r := by
  obtain ⟨l, e⟩ := r
  cases e <;> simp [comb]
theorem oneP_bad_pos {b : List UInt8} {e : Nat} (h : oneP b = .bad e) : e = 4 ∨ e = 5 := by
  unfold oneP at h
  simp only at h
  repeat' (split at h)
  all_goals first | (injection h with h; omega) | cases h
end Go.Proofs.YtlhjehcfpnjbmaaDoor
