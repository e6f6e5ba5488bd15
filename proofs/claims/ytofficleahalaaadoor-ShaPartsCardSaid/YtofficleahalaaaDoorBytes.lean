/- bytes.Clone, bytes.Equal, string(b): on what reads as bytes. -/
import Derived.Test.YtofficleahalaaaDoorHp
import Derived.Test.YtofficleahalaaaDoorConv
import Derived.Test.YtofficleahalaaaDoorShelf
import Derived.Shelf.Bytes.SlEqualAll
import Derived.Lib.SlBytesConst
import Derived.Lib.SmallJoins
namespace Go.Proofs.YtofficleahalaaaDoor
open Go.RowKit
theorem clone_any (v : Value) (l : List UInt8) (N : Nat → Prop) (w : World) (hv : Reads w N v l) (hl : l.length ≤ 140737488355328) :
    Calls Tryd.prog 8 #[v] w fun e w' => ∃ v', e = .returned v' ∧ Owns w' w.heap.size 5 v' l ∧ Below w.heap.size w w' := by
  obtain ⟨a, cap, hu, h1, h2, h3⟩ := hv.shape
  have hv' := hv
  subst hu
  have hb := hv'.bytesIn.2
  rcases h3 with h3 | ⟨b, off, rfl, _⟩
  · obtain rfl : l = [] := List.eq_nil_of_length_eq_zero (by omega)
    cases a with
    | none =>
      refine (Tryd.bytes_Clone_nil _ _ w).mono ?_
      rintro e w' ⟨rfl, rfl⟩
      exact ⟨_, rfl, Owns.nil _ _ _, Below.refl _ _⟩
    | some a =>
      refine (Tryd.bytes_Clone_at a 0 cap [] w rfl (by decide) (fun i hi => by omega)).mono ?_
      rintro e w' ⟨v', rfl, ho, _, hbl⟩
      exact ⟨v', rfl, ho, hbl⟩
  · refine (Tryd.bytes_Clone_at ⟨b, off, none⟩ l.length cap (ints l) w (ints_length l) hl (fun i hi => ?_)).mono ?_
    · rw [Addr.add_mid, hv'.cell b off _ _ rfl i hi]
      simp [ints, List.getD_eq_getElem?_getD, hi]
    · rintro e w' ⟨v', rfl, ho, _, hbl⟩
      rw [ints_cells] at ho
      exact ⟨v', rfl, ho, hbl⟩
theorem equal_any (v1 v2 : Value) (l1 l2 : List UInt8) (N1 N2 : Nat → Prop) (w : World) (h1 : Reads w N1 v1 l1) (h2 : Reads w N2 v2 l2) :
    Calls Tryd.prog 11 #[v1, v2] w fun e w' => e = .returned (.bool (l1 == l2)) ∧ w = w' := by
  obtain ⟨a, cap, hu, _⟩ := h1.shape
  obtain ⟨a2, cap2, hu2, _⟩ := h2.shape
  subst hu hu2
  refine (Tryd.bytes_Equal_all a a2 _ _ _ _ (ints l1) (ints l2) w (ints_length _) (ints_length _) h1.bytesIn.2 h2.bytesIn.2).mono ?_
  rintro e w' ⟨rfl, rfl⟩
  exact ⟨by rw [bytesOf_ints, bytesOf_ints], rfl⟩
end Go.Proofs.YtofficleahalaaaDoor
