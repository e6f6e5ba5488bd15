/- ShaParts' argument, opened. -/
import Derived.Test.YtofficleahalaaaDoorNest
import Derived.Test.YtofficleahalaaaDoorShaAll
namespace Go.Proofs.YtofficleahalaaaDoor
open Go.ChangeShapes Go.WideShapes Go.ChangeAt Go.RowKit
set_option maxRecDepth 100000 in
theorem opened_parts {H : Type} {enc : TypeId × Value → H} {r : Reach} {base : Nat} {W : World} {v : Value} {d : DataW H} {p : List MemPlace}
    (hok : Value.okWide Tryd.prog W r base 31 v) (h0 : DataW.Trod enc Tryd.prog W 0 (fun _ => true) true 31 v d p) : ∃ ls : List (List UInt8), Parts W (fun b => b < W.heap.size) v ls := by
  obtain ⟨fuel, hf⟩ := h0
  rcases okSlice Tryd.underlying31 hok with rfl | ⟨b, off, len, cap, rfl, h1, h2, h3⟩
  · exact ⟨[], ⟨_, _, rfl, Nat.zero_le _, Nat.zero_le _, .inl ⟨rfl, rfl⟩⟩, fun _ _ _ _ e j hj => by cases hj⟩
  · rcases Deep.open_slice1 Tryd.underlying31 (by kernel_rfl) hf with ⟨hcs, _⟩ | ⟨a, len', cap', m, n, V, D, Pl, hcs, _, hl, hm, hmm, _, hx⟩
    · cases hcs
    · have hcs : [Value.slice (some ⟨b, off, none⟩) len cap] = [Value.slice (some a) len' cap'] := hcs
      injection hcs with hcs _
      injection hcs with hc1 hc2 hc3
      injection hc1 with hc1
      subst hc1 hc2 hc3
      simp only [if_true] at hmm
      obtain ⟨L, hL⟩ := Deep.choose_lt (α := List UInt8) (n := len) (p := fun i l => Reads W (fun b => b < W.heap.size) (V i) l) (fun i hi => reads_of_trod Tryd.underlying22 Tryd.underlying5 (by kernel_rfl) (hx i (by omega)).2)
      refine ⟨(List.range len).map L, ⟨_, cap, by rw [List.length_map, List.length_range], by simpa using h1, h2, .inr ⟨b, off, rfl, h3⟩⟩, fun b' off' n' c' he j hj => ?_⟩
      injection he with e1 _ _; injection e1 with e1; injection e1 with e1 e2 _; subst e1 e2
      have hj' : j < len := by simpa using hj
      refine ⟨V j, ?_, ?_⟩
      · have := (hx j (by omega)).1
        rwa [Addr.add_mid] at this
      · have := hL j hj'
        simpa using this
end Go.Proofs.YtofficleahalaaaDoor
