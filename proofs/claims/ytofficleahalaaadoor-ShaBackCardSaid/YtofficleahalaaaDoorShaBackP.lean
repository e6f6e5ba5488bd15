/- NAMES, ONE TO ONE: plain facts. -/
import Derived.Test.YtofficleahalaaaDoorShaParse
import Derived.Lib.Case
import Derived.Lib.IndexAny
namespace Go.Proofs.YtofficleahalaaaDoor
theorem hv_hex : ∀ n, n < 16 → hv (hexDigit n).toNat = n := by decide
theorem hex_hv : ∀ c, c < 256 → hv c < 16 → hexDigit (hv c) = UInt8.ofNat c := by decide +kernel
theorem nameOf_length (d : List UInt8) : (nameOf d).length = 7 + 2 * d.length := by simp [nameOf, hexes_length]; omega
theorem nameOf_take (d : List UInt8) : (nameOf d).take 7 = pre7 := by simp [nameOf, pre7]
theorem nameOf_drop (d : List UInt8) : (nameOf d).drop 7 = hexes d := by simp [nameOf]
/-- two digits, one byte -/
def pairs : List UInt8 → List UInt8
  | a :: b :: r => UInt8.ofNat (16 * hv a.toNat + hv b.toNat) :: pairs r
  | _ => []
theorem pairs_hexes : ∀ d : List UInt8, pairs (hexes d) = d
  | [] => rfl
  | c :: d => by
    have h := c.toNat_lt
    have e : hexes (c :: d) = hexDigit (c.toNat / 16) :: hexDigit (c.toNat % 16) :: hexes d := rfl
    rw [e, pairs, hv_hex _ (by omega), hv_hex _ (by omega), pairs_hexes d]
    congr 1
    apply UInt8.toNat_inj.1
    rw [UInt8.toNat_ofNat']; omega
theorem hexes_pairs : ∀ (k : Nat) (u : List UInt8), u.length = 2 * k → (∀ v ∈ vals u, v < 16) → hexes (pairs u) = u
  | 0, u, h, _ => by obtain rfl : u = [] := List.eq_nil_of_length_eq_zero (by omega); rfl
  | k + 1, a :: b :: r, h, hv16 => by
    have ha : hv a.toNat < 16 := hv16 _ (by simp [vals])
    have hb : hv b.toNat < 16 := hv16 _ (by simp [vals])
    have ih := hexes_pairs k r (by simp at h; omega) (fun v hv' => hv16 v (by simp only [vals, List.map_cons, List.mem_cons]; exact .inr (.inr hv')))
    have e : hexes (pairs (a :: b :: r)) = hexOf (UInt8.ofNat (16 * hv a.toNat + hv b.toNat)) ++ hexes (pairs r) := rfl
    rw [e, ih]
    have e2 : (UInt8.ofNat (16 * hv a.toNat + hv b.toNat)).toNat = 16 * hv a.toNat + hv b.toNat := by rw [UInt8.toNat_ofNat']; omega
    unfold hexOf
    rw [e2, show (16 * hv a.toNat + hv b.toNat) / 16 = hv a.toNat by omega, show (16 * hv a.toNat + hv b.toNat) % 16 = hv b.toNat by omega, hex_hv _ a.toNat_lt ha, hex_hv _ b.toNat_lt hb]
    simp
  | k + 1, [a], h, _ => by simp at h; omega
  | k + 1, [], h, _ => by simp at h
theorem pairs_length : ∀ (k : Nat) (u : List UInt8), u.length = 2 * k → (pairs u).length = k
  | 0, u, h => by obtain rfl : u = [] := List.eq_nil_of_length_eq_zero (by omega); rfl
  | k + 1, a :: b :: r, h => by simp only [pairs, List.length_cons]; rw [pairs_length k r (by simp at h; omega)]
  | k + 1, [a], h => by simp at h; omega
  | k + 1, [], h => by simp at h
theorem pairs_get : ∀ (k : Nat) (u : List UInt8), u.length = 2 * k → ∀ j, j < k → (pairs u)[j]? = some (UInt8.ofNat (16 * (vals u).getD (2 * j) 0 + (vals u).getD (2 * j + 1) 0))
  | 0, u, h, j, hj => by omega
  | k + 1, a :: b :: r, h, 0, hj => by simp [pairs, vals]
  | k + 1, a :: b :: r, h, j + 1, hj => by
    have ih := pairs_get k r (by simp at h; omega) j (by omega)
    rw [show 2 * (j + 1) = 2 * j + 1 + 1 by omega]
    simpa [pairs, vals] using ih
  | k + 1, [a], h, j, hj => by simp at h; omega
  | k + 1, [], h, j, hj => by simp at h
theorem digs_pairs (u : List UInt8) (hu : u.length = 64) : digs (vals u) 64 = pairs u := by
  apply List.ext_getElem?
  intro j
  by_cases hj : j < 32
  · rw [pairs_get 32 u (by omega) j hj]
    simp [digs, hj, dig1, show 2 * j + 1 < 64 by omega]
  · rw [List.getElem?_eq_none (by rw [digs_length]; omega), List.getElem?_eq_none (by rw [pairs_length 32 u (by omega)]; omega)]
theorem vals_hexes (d : List UInt8) : ∀ v ∈ vals (hexes d), v < 16 := by
  intro v hv'
  simp only [vals, List.mem_map, hexes, List.mem_flatMap] at hv'
  obtain ⟨c, ⟨x, hx, hc⟩, rfl⟩ := hv'
  have := x.toNat_lt
  simp [hexOf] at hc
  rcases hc with rfl | rfl
  · rw [hv_hex _ (by omega)]; omega
  · rw [hv_hex _ (by omega)]; omega
theorem names_nameOf (d : List UInt8) (hd : d.length = 32) : Names (nameOf d) := ⟨by rw [nameOf_length, hd], nameOf_take d, by rw [nameOf_drop]; exact vals_hexes d⟩
/-- Parse of Name -/
theorem parse_name (d : List UInt8) (hd : d.length = 32) : parseD (nameOf d) = d ∧ parseE (nameOf d) = 0 := by
  unfold parseD parseE
  rw [if_pos (names_nameOf d hd), if_pos (names_nameOf d hd), nameOf_drop, digs_pairs _ (by rw [hexes_length, hd]), pairs_hexes]
  exact ⟨rfl, rfl⟩
/-- a text of another length is none's -/
theorem parse_long (l : List UInt8) (h : l.length ≠ 71) : parseD l = List.replicate 32 0 ∧ parseE l = 5 := by
  unfold parseD parseE
  rw [if_neg (fun h' => h h'.1), if_neg (fun h' => h h'.1)]
  exact ⟨rfl, rfl⟩
/-- Name of Parse -/
theorem name_parse (l : List UInt8) (h : Names l) : nameOf (parseD l) = l := by
  obtain ⟨h1, h2, h3⟩ := h
  have hu : (l.drop 7).length = 64 := by simp [h1]
  unfold parseD
  rw [if_pos ⟨h1, h2, h3⟩, digs_pairs _ hu]
  unfold nameOf
  rw [hexes_pairs 32 _ (by omega) h3]
  have := List.take_append_drop 7 l
  rw [h2] at this
  exact this
theorem parse_cases (l : List UInt8) : (parseE l = 0 ∧ nameOf (parseD l) = l) ∨ (parseE l = 5 ∧ parseD l = List.replicate 32 0) := by
  by_cases h : Names l
  · exact .inl ⟨by unfold parseE; rw [if_pos h], name_parse l h⟩
  · exact .inr ⟨by unfold parseE; rw [if_neg h], by unfold parseD; rw [if_neg h]⟩
/-- great letters -/
theorem up_hv : ∀ n, n < 16 → (hv (Lib.upperB (hexDigit n)).toNat < 16 ↔ ([97, 98, 99, 100, 101, 102] : List UInt8).contains (hexDigit n) = false) := by decide
theorem low_hex : ∀ n, n < 16 → Lib.lowerB (hexDigit n) = hexDigit n := by decide
theorem ascii_hex : ∀ n, n < 16 → (hexDigit n).toNat < 128 := by decide
theorem mem_hexes (d : List UInt8) (c : UInt8) (h : c ∈ hexes d) : ∃ n, n < 16 ∧ c = hexDigit n := by
  simp only [hexes, List.mem_flatMap] at h
  obtain ⟨x, _, hc⟩ := h
  have := x.toNat_lt
  simp [hexOf] at hc
  rcases hc with rfl | rfl
  · exact ⟨_, by omega, rfl⟩
  · exact ⟨_, by omega, rfl⟩
theorem containsAny_iff (chars : List UInt8) : ∀ l : List UInt8, Lib.containsAny l chars = l.any fun c => chars.contains c
  | [] => by simp [Lib.containsAny, Lib.indexAny]
  | b :: l => by
    have ih := containsAny_iff chars l
    have hg := Lib.indexAny_ge chars l
    unfold Lib.containsAny at ih ⊢
    rw [List.any_cons, ← ih, Lib.indexAny]
    split
    · rename_i h; rw [h]; rfl
    · rename_i h
      have hf : chars.contains b = false := by simpa using h
      rw [hf, Bool.false_or]
      split
      · rename_i h2
        have : Lib.indexAny l chars = -1 := by simpa using h2
        rw [this]
      · rename_i h2
        have h3 : Lib.indexAny l chars ≠ -1 := by simpa using h2
        rw [Bool.eq_iff_iff, decide_eq_true_iff, decide_eq_true_iff]; omega
def upName (d : List UInt8) : List UInt8 := [115, 104, 97, 50, 53, 54, 58] ++ Lib.trimPrefix (Lib.toUpperA (nameOf d)) [83, 72, 65, 50, 53, 54, 58]
theorem upName_eq (d : List UInt8) : upName d = pre7 ++ Lib.toUpperA (hexes d) := by
  have e : Lib.toUpperA (nameOf d) = [83, 72, 65, 50, 53, 54, 58] ++ Lib.toUpperA (hexes d) := by
    unfold nameOf Lib.toUpperA; rw [List.map_append]; rfl
  have hp : Lib.hasPrefix (Lib.toUpperA (nameOf d)) [83, 72, 65, 50, 53, 54, 58] = true := by
    rw [hasPrefix_iff, e]; simp
  unfold upName Lib.trimPrefix
  rw [if_pos hp, e]; simp [pre7]
theorem up_parse (d : List UInt8) (hd : d.length = 32) : (parseE (upName d) == 0) = !Lib.containsAny (hexes d) [97, 98, 99, 100, 101, 102] := by
  have hn : Names (upName d) ↔ ∀ c ∈ hexes d, ([97, 98, 99, 100, 101, 102] : List UInt8).contains c = false := by
    rw [upName_eq]
    constructor
    · intro h c hc
      obtain ⟨n, hn, rfl⟩ := mem_hexes d c hc
      refine (up_hv n hn).1 (h.2.2 _ ?_)
      simp only [vals, List.mem_map]
      exact ⟨Lib.upperB (hexDigit n), by simp [pre7, Lib.toUpperA]; exact ⟨_, hc, rfl⟩, rfl⟩
    · intro h
      refine ⟨by simp [pre7, Lib.toUpperA, hexes_length, hd], by simp [pre7], fun v hv' => ?_⟩
      simp only [vals, List.mem_map] at hv'
      obtain ⟨c, hc, rfl⟩ := hv'
      simp [pre7, Lib.toUpperA] at hc
      obtain ⟨x, hx, rfl⟩ := hc
      obtain ⟨n, hn, rfl⟩ := mem_hexes d x hx
      exact (up_hv n hn).2 (h _ hx)
  rw [containsAny_iff, Bool.eq_iff_iff, beq_iff_eq, Bool.not_eq_true', List.any_eq_false]
  constructor
  · intro h c hc
    have : Names (upName d) := by
      by_cases hh : Names (upName d)
      · exact hh
      · unfold parseE at h; rw [if_neg hh] at h; cases h
    simpa using hn.1 this c hc
  · intro h
    have : Names (upName d) := hn.2 (fun c hc => by simpa using h c hc)
    unfold parseE; rw [if_pos this]
theorem low_name (d : List UInt8) : Lib.toLowerA (nameOf d) = nameOf d := by
  unfold Lib.toLowerA
  rw [List.map_congr_left (g := id), List.map_id]
  intro c hc
  simp only [nameOf, List.mem_append] at hc
  rcases hc with hc | hc
  · revert hc; revert c; decide
  · obtain ⟨n, hn, rfl⟩ := mem_hexes d c hc
    exact low_hex n hn
theorem ascii_name (d : List UInt8) : ∀ c ∈ nameOf d, c.toNat < 128 := by
  intro c hc
  simp only [nameOf, List.mem_append] at hc
  rcases hc with hc | hc
  · revert hc; revert c; decide
  · obtain ⟨n, hn, rfl⟩ := mem_hexes d c hc
    exact ascii_hex n hn
end Go.Proofs.YtofficleahalaaaDoor
