/- PATHS: plain lists: what is cut at slashes, joined, and the words of the chapter. -/
import Derived.Test.YtkijhaibcnhedaaDoorKeep
import Derived.Lib.SplitLaws
import Derived.Lib.IndexBytes
import Derived.Lib.Join
import Derived.Lib.LastIndexByte
import Derived.Lib.IndexAny
namespace Go.Proofs.YtkijhaibcnhedaaDoor
/-- cut at each slash -/
def spl : List UInt8 → List (List UInt8)
  | [] => [[]]
  | c :: l => if c = 47 then [] :: spl l else match spl l with | [] => [[c]] | h :: t => (c :: h) :: t
theorem spl_ne : ∀ l, spl l ≠ []
  | [] => by simp [spl]
  | c :: l => by
    unfold spl
    split
    · simp
    · split <;> simp
theorem spl_length : ∀ l, (spl l).length ≤ l.length + 1
  | [] => Nat.le_refl _
  | c :: l => by
    have ih := spl_length l
    unfold spl
    split
    · simp; omega
    · split
      · simp
      · rename_i h t he
        rw [he] at ih
        simp at ih ⊢; omega
theorem spl_none : ∀ {a : List UInt8}, (∀ x ∈ a, x ≠ 47) → spl a = [a]
  | [], _ => rfl
  | c :: a, h => by
    rw [spl, if_neg (h c (by simp)), spl_none (fun x hx => h x (by simp [hx]))]
theorem spl_cut : ∀ {a : List UInt8} (b : List UInt8), (∀ x ∈ a, x ≠ 47) → spl (a ++ 47 :: b) = a :: spl b
  | [], b, _ => by rw [List.nil_append, spl, if_pos rfl]
  | c :: a, b, h => by
    rw [List.cons_append, spl, if_neg (h c (by simp)), spl_cut b (fun x hx => h x (by simp [hx]))]
theorem first_of (c : UInt8) (s : List UInt8) : (Lib.indexByte s c = -1 ∧ ∀ x ∈ s, x ≠ c) ∨ ∃ o : Nat, Lib.indexByte s c = o ∧ o < s.length ∧ s = s.take o ++ c :: s.drop (o + 1) ∧ ∀ x ∈ s.take o, x ≠ c := by
  have h1 := Lib.indexByte_ge s c
  rcases (by omega : Lib.indexByte s c = -1 ∨ 0 ≤ Lib.indexByte s c) with h2 | h2
  · refine .inl ⟨h2, fun x hx e => ?_⟩
    obtain ⟨k, hk⟩ := List.getElem?_of_mem hx
    exact Lib.indexByte_none h2 k (by rw [hk, e])
  · obtain ⟨o, ho⟩ : ∃ o : Nat, Lib.indexByte s c = o := ⟨(Lib.indexByte s c).toNat, by omega⟩
    obtain ⟨h3, h4⟩ := Lib.indexByte_some ho
    have hlt : o < s.length := (List.getElem?_eq_some_iff.1 h3).1
    have e1 : s[o] = c := by rw [List.getElem?_eq_getElem hlt] at h3; injection h3
    refine .inr ⟨o, ho, hlt, ?_, fun x hx e => ?_⟩
    · conv => lhs; rw [← List.take_append_drop o s]
      rw [List.drop_eq_getElem_cons hlt, e1]
    · obtain ⟨k, hk⟩ := List.getElem?_of_mem hx
      have hk2 : k < o := by
        have := (List.getElem?_eq_some_iff.1 hk).1
        simp at this; omega
      rw [List.getElem?_take_of_lt hk2] at hk
      exact h4 k hk2 (by rw [hk, e])
theorem splitK_spl : ∀ (k : Nat) (l : List UInt8), l.count 47 = k → Lib.splitK [47] 0 k l = spl l
  | 0, l, h => by
    rw [spl_none (fun x hx e => by subst e; exact absurd hx (List.count_eq_zero.1 h))]; rfl
  | k + 1, l, h => by
    rcases first_of 47 l with ⟨h1, h2⟩ | ⟨o, h1, h2, h3, h4⟩
    · exfalso
      have : l.count 47 = 0 := List.count_eq_zero.2 (fun hm => h2 47 hm rfl)
      omega
    · have hc : (l.drop (o + 1)).count 47 = k := by
        rw [h3, List.count_append, List.count_cons_self, List.count_eq_zero.2 (fun hm => h4 47 hm rfl)] at h
        omega
      conv => rhs; rw [h3]
      rw [spl_cut _ h4, Lib.splitK, Lib.index_one, h1, if_neg (by simp), ← splitK_spl k _ hc]
      simp
theorem splitB_spl (l : List UInt8) : (Lib.splitB ⟨#[47]⟩ 0 (Lib.countB ⟨l.toArray⟩ ⟨#[47]⟩) ⟨l.toArray⟩) = (spl l).map fun x => ⟨x.toArray⟩ := by
  have h1 := Lib.splitB_data ⟨#[47]⟩ 0 (Lib.countB ⟨l.toArray⟩ ⟨#[47]⟩) ⟨l.toArray⟩
  have h2 : Lib.countB ⟨l.toArray⟩ ⟨#[47]⟩ = l.count 47 := Lib.count_one 47 l
  rw [h2] at h1 ⊢
  have h3 : (Lib.splitB ⟨#[47]⟩ 0 (l.count 47) ⟨l.toArray⟩).map (·.data.toList) = spl l := h1.trans (splitK_spl _ _ rfl)
  rw [← h3, List.map_map]
  conv => lhs; rw [← List.map_id (Lib.splitB _ _ _ _)]
  apply List.map_congr_left
  intro x _
  obtain ⟨⟨x⟩⟩ := x
  rfl
theorem count_spl (l : List UInt8) : Lib.countB ⟨l.toArray⟩ ⟨#[47]⟩ + 1 = (spl l).length := by
  have h := Lib.splitB_all ⟨#[47]⟩ (by decide) 0 _ ⟨l.toArray⟩ rfl
  rw [splitB_spl, List.length_map] at h
  exact h.symm
/-- Split -/
def splitP (p : List UInt8) : List (List UInt8) := if p = [] then [] else spl p
/-- names set side by side, a slash between -/
def joinS : List (List UInt8) → List UInt8
  | [] => []
  | [x] => x
  | x :: y :: r => x ++ 47 :: joinS (y :: r)
theorem joinS_cons (x : List UInt8) {r : List (List UInt8)} (hr : r ≠ []) : joinS (x :: r) = x ++ 47 :: joinS r := by
  cases r with
  | nil => exact absurd rfl hr
  | cons y r => rfl
theorem join_eq : ∀ l : List (List UInt8), Lib.join l [47] = joinS l
  | [] => rfl
  | [x] => Lib.join_one x [47]
  | x :: y :: r => by
    have ih := join_eq (y :: r)
    rw [Lib.join_cons] at ih ⊢
    rw [joinS, ← ih]
    simp [Lib.joinTail]
theorem joinS_spl : ∀ l, joinS (spl l) = l
  | [] => rfl
  | c :: l => by
    have ih := joinS_spl l
    have hne := spl_ne l
    unfold spl
    split
    · rename_i h
      subst h
      rw [joinS_cons _ hne, ih]; rfl
    · split
      · rename_i h; exact absurd h hne
      · rename_i h t he
        rw [he] at ih
        cases t with
        | nil => have ih : h = l := ih; show c :: h = c :: l; rw [ih]
        | cons y r => rw [joinS] at ih ⊢; rw [← ih]; rfl
/-- no name of the list has a slash -/
def NoSl (l : List (List UInt8)) : Prop := ∀ x ∈ l, ∀ c ∈ x, c ≠ 47
theorem spl_nosl : ∀ l, NoSl (spl l)
  | [] => fun x hx c hc => by simp [spl] at hx; subst hx; cases hc
  | a :: l => by
    have ih := spl_nosl l
    unfold spl
    split
    · intro x hx c hc
      rcases List.mem_cons.1 hx with rfl | hx
      · cases hc
      · exact ih x hx c hc
    · rename_i ha
      split
      · intro x hx c hc
        obtain rfl := List.mem_singleton.1 hx
        obtain rfl := List.mem_singleton.1 hc
        exact ha
      · rename_i h t he
        rw [he] at ih
        intro x hx c hc
        rcases List.mem_cons.1 hx with rfl | hx
        · rcases List.mem_cons.1 hc with rfl | hc
          · exact ha
          · exact ih h (by simp) c hc
        · exact ih x (by simp [hx]) c hc
theorem spl_joinS : ∀ l : List (List UInt8), l ≠ [] → NoSl l → spl (joinS l) = l
  | [], h, _ => absurd rfl h
  | [x], _, h => spl_none (fun c hc => h x (by simp) c hc)
  | x :: y :: r, _, h => by
    rw [joinS, spl_cut _ (fun c hc => h x (by simp) c hc), spl_joinS (y :: r) (by simp) (fun z hz => h z (by simp [hz]))]
/-- Join -/
def joinP (l : List (List UInt8)) : List UInt8 := joinS (l.filter fun x => !x.isEmpty)
/-- MayName -/
def mayN (s : List UInt8) : Bool := !s.isEmpty && decide (s.length ≤ 251) && s != [46] && s != [46, 46] && !(s.any fun c => c == 47 || c == 0) && !([46, 119, 104, 46] : List UInt8).isPrefixOf s
/-- May -/
def mayP (p : List UInt8) : Bool := decide (p.length ≤ 4080) && decide ((splitP p).length < 255) && (splitP p).all mayN
/-- the place of the last slash and one more; 0 without one -/
def cutAt : List UInt8 → Nat
  | [] => 0
  | c :: l => if 0 < cutAt l then cutAt l + 1 else if c = 47 then 1 else 0
def parentP (p : List UInt8) : List UInt8 := p.take (cutAt p - 1)
def baseP (p : List UInt8) : List UInt8 := p.drop (cutAt p)
theorem cutAt_le : ∀ p, cutAt p ≤ p.length
  | [] => Nat.le_refl _
  | c :: l => by
    have := cutAt_le l
    unfold cutAt
    rw [List.length_cons]
    split
    · omega
    · split <;> omega
theorem cutAt_snoc (c : UInt8) : ∀ l, cutAt (l ++ [c]) = if c = 47 then l.length + 1 else cutAt l
  | [] => by simp [cutAt]
  | a :: l => by
    rw [List.cons_append, cutAt, cutAt_snoc c l]
    by_cases h : c = 47
    · rw [if_pos h, if_pos h, if_pos (by omega)]; simp
    · rw [if_neg h, if_neg h]; rfl
theorem cutAt_take (p : List UInt8) (k : Nat) (hk : k < p.length) : cutAt (p.take (k + 1)) = if p[k] = 47 then k + 1 else cutAt (p.take k) := by
  rw [List.take_succ_eq_append_getElem hk, cutAt_snoc, List.length_take, Nat.min_eq_left (by omega)]
theorem lastIdx_cut (s : List UInt8) : ∀ k, k ≤ s.length → Lib.lastIdx ⟨s.toArray⟩ 47 k = (cutAt (s.take k) : Int) - 1
  | 0, _ => rfl
  | k + 1, h => by
    have hk : k < s.length := by omega
    have hg : (⟨s.toArray⟩ : ByteArray).data[k]! = s[k] := by
      show s.toArray[k]! = s[k]
      simp [hk]
    rw [Lib.lastIdx, hg, cutAt_take s k hk, lastIdx_cut s k (by omega)]
    by_cases h47 : s[k] = 47
    · rw [if_pos (by rw [h47]; rfl), if_pos h47]; omega
    · rw [if_neg (fun e => h47 (UInt8.toNat_inj.1 (by have : (s[k].toNat : Int) = ((47 : UInt8).toNat : Int) := e; omega))), if_neg h47]
theorem lastIndexByte_cut (s : List UInt8) : Lib.lastIndexByte ⟨s.toArray⟩ 47 = (cutAt s : Int) - 1 := by
  have := lastIdx_cut s s.length (Nat.le_refl _)
  rw [List.take_length] at this
  exact this
/-- what stands ahead of each slash -/
def aboveP (p : List UInt8) : List (List UInt8) := (List.range p.length).filterMap fun i => if p[i]? = some 47 then some (p.take i) else none
def underP (dir p : List UInt8) : Bool := !p.isEmpty && (dir.isEmpty || (dir ++ [47]).isPrefixOf p)
/-- Clean -/
def keptP (raw : List UInt8) : List (List UInt8) := (spl raw).filter fun s => !(s.isEmpty || s == [46])
def cleanP (raw : List UInt8) : List UInt8 × Int :=
  if raw.contains 0 || ([47] : List UInt8).isPrefixOf raw || (spl raw).contains [46, 46] then ([], 30)
  else if decide (255 < (keptP raw).length) || decide (4096 < (joinS (keptP raw)).length) || (keptP raw).any (fun s => decide (255 < s.length)) then ([], 3) else (joinS (keptP raw), 0)
end Go.Proofs.YtkijhaibcnhedaaDoor
