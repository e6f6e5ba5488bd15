/- A SLICE OF BYTES OF THE CALL's OWN, its bytes whichever. -/
import Derived.Test.YtofficleahalaaaDoorHp
namespace Go.Proofs.YtofficleahalaaaDoor
open Go.RowKit
/-- the first items alone -/
theorem Hp.take {M : Nat → Prop} {w wr : World} {ls : List As} (h : Hp M w wr ls) (n : Nat) : Hp M w wr (ls.take n) := by
  refine ⟨h.c, fun A hA => h.p A (List.mem_of_mem_take hA), fun i j A B hi hj => ?_⟩
  rw [List.getElem?_take] at hi hj
  split at hi
  · split at hj
    · exact h.d i j A B hi hj
    · cases hj
  · cases hi
/-- v's own block: its first n cells are bytes, whichever -/
def someA (v : Value) (n : Nat) : As := ⟨fun b => v.ownBlock = some b, fun w => ∀ b, v.ownBlock = some b → ∃ c, Row w b 5 c ∧ ∀ j, j < n → ∃ x : UInt8, c[j]? = some (.int .u8 (x.toNat : Int)), fun w w' h hp b hb => by
  obtain ⟨c, h1, h2⟩ := hp b hb
  exact ⟨c, by unfold Row; rw [h b hb]; exact h1, h2⟩⟩
theorem someA_of {w : World} {base : Nat} {v : Value} {l : List UInt8} (h : Owns w base 5 v l) : (someA v l.length).P w := by
  obtain ⟨_, h⟩ := h
  rcases h with ⟨rfl, h0⟩ | ⟨g, cap, cur, rfl, hb, hh, hn, hm, hs, ht⟩
  · intro b hb; cases hb
  · intro b hb
    obtain rfl : g = b := by injection hb
    refine ⟨cur, hh, fun j hj => ⟨l[j], ?_⟩⟩
    have := bcells_get l j hj
    rw [← ht, List.getElem?_take, if_pos (by omega)] at this
    simpa using this
theorem owns_blk {w : World} {base : Nat} {v : Value} {l : List UInt8} (h : Owns w base 5 v l) (hl : 0 < l.length) : ∃ b cap, v = .slice (some ⟨b, 0, none⟩) l.length cap ∧ l.length ≤ cap := by
  obtain ⟨_, h⟩ := h
  rcases h with ⟨rfl, h0⟩ | ⟨g, cap, cur, rfl, hb, hh, hn, hm, hs, ht⟩
  · omega
  · exact ⟨g, cap, rfl, hn⟩
theorem someA_set {M : Nat → Prop} {w wr : World} {ls : List As} (h : Hp M w wr ls) (i : Nat) {b cap n k : Nat} (hi : ls[i]? = some (someA (.slice (some ⟨b, 0, none⟩) n cap) n)) (y : UInt8) : Hp M w (wr.setCell ⟨b, k, none⟩ (.int .u8 (y.toNat : Int))) (ls.set i (someA (.slice (some ⟨b, 0, none⟩) n cap) n)) := by
  refine h.upd i hi _ (Chg.setCell (M := fun k => (someA (.slice (some ⟨b, 0, none⟩) n cap) n).blk k) (p := ⟨b, k, none⟩) (.refl _ _ _) (.inr rfl) _) ?_ (fun _ hb => .inl hb)
  intro b' hb'
  obtain rfl : b = b' := by injection hb'
  obtain ⟨c, h1, h2⟩ := h.get i hi b rfl
  refine ⟨_, h1.set k _, fun j hj => ?_⟩
  obtain ⟨x, hx⟩ := h2 j hj
  by_cases hjk : k = j
  · subst hjk
    have hlt := (Array.getElem?_eq_some_iff.1 hx).1
    exact ⟨y, by rw [Array.getElem?_setIfInBounds_self_of_lt hlt]⟩
  · exact ⟨x, by rw [Array.getElem?_setIfInBounds_ne hjk]; exact hx⟩
end Go.Proofs.YtofficleahalaaaDoor
