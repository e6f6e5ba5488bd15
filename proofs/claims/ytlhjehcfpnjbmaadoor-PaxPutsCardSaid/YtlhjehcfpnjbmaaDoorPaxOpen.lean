/- AN ARGUMENT THAT IS A SLICE OF RECORDS, OPENED; one that is a uint16. -/
import Derived.Test.YtlhjehcfpnjbmaaDoorPaxPut
import Derived.Test.YtlhjehcfpnjbmaaDoorLaw
import Derived.Deep.SlicePairs
namespace Go.Proofs.YtlhjehcfpnjbmaaDoor
open Go.ChangeShapes Go.WideShapes Go.ChangeAt Go.RowKit
def strOf : Value → List UInt8
  | .string s => s.data.toList
  | _ => []
theorem rcells_inv : ∀ (l : List R2) (j : Nat) (u : Value), (rcells l)[j]? = some u → ∃ i p, l[i]? = some p ∧ ((j = i * 2 ∧ u = .string ⟨p.1.toArray⟩) ∨ (j = i * 2 + 1 ∧ u = .string ⟨p.2.toArray⟩))
  | [], j, u, h => by simp [rcells] at h
  | p :: l, 0, u, h => by
    rw [rcells_cons] at h
    simp at h
    exact ⟨0, p, rfl, .inl ⟨rfl, h.symm⟩⟩
  | p :: l, 1, u, h => by
    rw [rcells_cons] at h
    simp at h
    exact ⟨0, p, rfl, .inr ⟨rfl, h.symm⟩⟩
  | p :: l, j + 2, u, h => by
    rw [rcells_cons] at h
    obtain ⟨i, q, h1, h2⟩ := rcells_inv l j u (by simpa using h)
    refine ⟨i + 1, q, by simpa using h1, ?_⟩
    rcases h2 with ⟨e, hu⟩ | ⟨e, hu⟩
    · exact .inl ⟨by omega, hu⟩
    · exact .inr ⟨by omega, hu⟩
set_option maxRecDepth 100000 in
theorem opened_recs {H : Type} {enc : TypeId × Value → H} {r : Reach} {base : Nat} {W : World} {v : Value} {d : DataW H} {p : List MemPlace}
    (hok : Value.okWide Tryd.prog W r base 22 v) (h0 : DataW.Trod enc Tryd.prog W 0 (fun _ => true) true 22 v d p) :
    ∃ l : List R2, RdV W (· < W.heap.size) 2 v l.length (rcells l) ∧ l.length ≤ 9223372036854775807 ∧ ∀ q ∈ l, q.1.length ≤ 9223372036854775807 ∧ q.2.length ≤ 9223372036854775807 := by
  obtain ⟨fuel, hf⟩ := h0
  rcases okSlice Tryd.underlying22 hok with rfl | ⟨b, off, len, cap, rfl, h1, h2, h3⟩
  · exact ⟨[], RdV.ofNil, Nat.zero_le _, fun q hq => by cases hq⟩
  · rcases Deep.open_slice_pairs Tryd.underlying22 Tryd.underlying33 (by kernel_rfl) rfl rfl (by kernel_rfl) (by kernel_rfl) hf with ⟨hcs, _⟩ | ⟨a, len', cap', m, n, V0, V1, D0, D1, P0, P1, hcs, _, hl, hm, hmm, _, hx⟩
    · cases hcs
    · have hcs : [Value.slice (some ⟨b, off, none⟩) len cap] = [Value.slice (some a) len' cap'] := hcs
      injection hcs with hcs _
      injection hcs with hc1 hc2 hc3
      injection hc1 with hc1
      subst hc1 hc2 hc3
      have hlm : len ≤ m := by rw [hmm]; split <;> omega
      have hs : ∀ i, i < len → V0 i = .string ⟨(strOf (V0 i)).toArray⟩ ∧ V1 i = .string ⟨(strOf (V1 i)).toArray⟩ ∧ (strOf (V0 i)).length ≤ maxLen ∧ (strOf (V1 i)).length ≤ maxLen := by
        intro i hi
        obtain ⟨_, _, t0, t1⟩ := hx i (by omega)
        obtain ⟨s0, e0, _, m0⟩ := DataW.trod_string Tryd.underlying9 t0
        obtain ⟨s1, e1, _, m1⟩ := DataW.trod_string Tryd.underlying9 t1
        injection e0 with e0 _
        injection e1 with e1 _
        rw [e0, e1]
        obtain ⟨⟨l0⟩⟩ := s0
        obtain ⟨⟨l1⟩⟩ := s1
        exact ⟨rfl, rfl, m0, m1⟩
      have hll : ((List.range len).map fun i => (strOf (V0 i), strOf (V1 i))).length = len := by simp
      refine ⟨(List.range len).map fun i => (strOf (V0 i), strOf (V1 i)), ⟨rcells_length _, ⟨_, cap, by rw [hll], by omega, h2, .inr ⟨b, off, rfl, h3⟩⟩, ?_⟩, ?_, ?_⟩
      · intro b' off' m' c' he j u hu
        injection he with e1 _ _; injection e1 with e1; injection e1 with e1 e2 _; subst e1 e2
        obtain ⟨i, q, hq, hju⟩ := rcells_inv _ j u hu
        have hi : i < len := by
          have := (List.getElem?_eq_some_iff.1 hq).1
          simpa using this
        have hqe : q = (strOf (V0 i), strOf (V1 i)) := by
          rw [List.getElem?_map, List.getElem?_range hi] at hq
          simp at hq
          exact hq.symm
        subst hqe
        obtain ⟨k0, k1, _, _⟩ := hx i (by omega)
        obtain ⟨s0, s1, _, _⟩ := hs i hi
        rw [Addr.add_mid] at k0 k1
        rcases hju with ⟨rfl, rfl⟩ | ⟨rfl, rfl⟩
        · rw [k0, s0]; rfl
        · rw [k1, s1]; rfl
      · rw [hll]; unfold maxLen at h2; omega
      · intro q hq
        simp only [List.mem_map, List.mem_range] at hq
        obtain ⟨i, hi, rfl⟩ := hq
        obtain ⟨_, _, m0, m1⟩ := hs i hi
        unfold maxLen at m0 m1
        exact ⟨by simp only; omega, by simp only; omega⟩
theorem okU16 {P : Program} {w : World} {r : Reach} {base : Nat} {t : TypeId} {v : Value} (ht : P.underlying t = some (.int .u16)) (h : Value.okWide P w r base t v) : ∃ n : Nat, v = .int .u16 (n : Int) ∧ n < 65536 := by
  simp only [Value.okWide, ht, Cell.okWide] at h
  have hm1 : IntKind.u16.min = 0 := rfl
  have hm2 : IntKind.u16.max = 65535 := rfl
  cases v <;> simp only [Cell.ok, ht] at h
  rename_i k x
  obtain ⟨rfl, h1, h2⟩ := h
  rw [hm1] at h1; rw [hm2] at h2
  exact ⟨x.toNat, by congr 1; omega, by omega⟩
end Go.Proofs.YtlhjehcfpnjbmaaDoor
