/- AN ARGUMENT THAT IS A SLICE OF TEXTS, OPENED. -/
import Derived.Test.YtkijhaibcnhedaaDoorPathFns
import Derived.Test.YtkijhaibcnhedaaDoorLaw
import Derived.SliceStrings
namespace Go.Proofs.YtkijhaibcnhedaaDoor
open Go.ChangeShapes Go.WideShapes Go.ChangeAt Go.RowKit
set_option maxRecDepth 100000 in
theorem opened_strs {H : Type} {enc : TypeId × Value → H} {r : Reach} {base : Nat} {W : World} {v : Value} {d : DataW H} {p : List MemPlace}
    (hok : Value.okWide Tryd.prog W r base 22 v) (h0 : DataW.Trod enc Tryd.prog W 0 (fun _ => true) true 22 v d p) :
    ∃ l : List (List UInt8), RdS W (· < W.heap.size) v l ∧ l.length ≤ 9223372036854775807 ∧ ∀ q ∈ l, q.length ≤ 9223372036854775807 := by
  obtain ⟨fuel, hf⟩ := h0
  rcases okSlice Tryd.underlying22 hok with rfl | ⟨b, off, len, cap, rfl, h1, h2, h3⟩
  · exact ⟨[], RdV.ofNil, Nat.zero_le _, fun q hq => by cases hq⟩
  · rcases open_strings Tryd.underlying22 Tryd.underlying9 (by kernel_rfl) hf with ⟨hcs, _⟩ | ⟨a, len', cap', ss, hcs, _, hl, hm, hsl, _, hcell, hsz⟩
    · cases hcs
    · have hcs : [Value.slice (some ⟨b, off, none⟩) len cap] = [Value.slice (some a) len' cap'] := hcs
      injection hcs with hcs _
      injection hcs with hc1 hc2 hc3
      injection hc1 with hc1
      subst hc1 hc2 hc3
      have hlm : len ≤ ss.length := by rw [hsl]; split <;> omega
      have hll : ((ss.take len).map fun s => s.data.toList).length = len := by simp; omega
      refine ⟨(ss.take len).map fun s => s.data.toList, ⟨by simp, ⟨_, cap, by rw [hll], by omega, h2, .inr ⟨b, off, rfl, h3⟩⟩, ?_⟩, ?_, ?_⟩
      · intro b' off' m' c' he j u hu
        injection he with e1 _ _; injection e1 with e1; injection e1 with e1 e2 _; subst e1 e2
        have hj : j < len := by
          have := (List.getElem?_eq_some_iff.1 hu).1
          rwa [List.length_map, hll] at this
        have h5 := hcell j (by omega)
        rw [Addr.add_mid] at h5
        rw [h5, ← hu]
        simp [List.getD_eq_getElem?_getD, hj, strV, show j < ss.length by omega]
      · rw [hll]; unfold maxLen at h2; omega
      · intro q hq
        simp only [List.mem_map] at hq
        obtain ⟨s, hs, rfl⟩ := hq
        have := hsz s (List.mem_of_mem_take hs)
        unfold maxLen at this
        exact this
end Go.Proofs.YtkijhaibcnhedaaDoor
