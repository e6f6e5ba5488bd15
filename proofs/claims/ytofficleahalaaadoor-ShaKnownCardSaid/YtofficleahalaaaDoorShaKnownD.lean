/- THE DIGESTS OF ShaKnown, hidden. -/
import Derived.Test.YtofficleahalaaaDoorShaMilD
import Derived.Test.YtofficleahalaaaDoorShaNames
namespace Go.Proofs.YtofficleahalaaaDoor
open Go.RowKit
theorem convS (l : List UInt8) (n : Nat) (hn : l.length = n) (hl : l.length ≤ maxLen) : ∃ cf : World → Nat, ∃ rf : World → Array Value, ∃ mf : World → Nat × Nat,
    (∀ w, (convert 9 22 (.string ⟨l.toArray⟩)).run Tryd.prog w = .ok (.slice (some ⟨w.heap.size, 0, none⟩) n (cf w)) (w.drew.alloc (.cells (rf w) 5 (mf w)))) ∧
    (∀ w, Reads (w.drew.alloc (.cells (rf w) 5 (mf w))) (fun b => b = w.heap.size) (.slice (some ⟨w.heap.size, 0, none⟩) n (cf w)) l) := by
  subst hn
  have hsz : (⟨l.toArray⟩ : ByteArray).size = l.length := by simp [ByteArray.size]
  refine ⟨fun w => grownCap w l.length 0 5, fun w => bytesRow ⟨l.toArray⟩ (grownCap w l.length 0 5), fun w => ((bytesRow ⟨l.toArray⟩ (grownCap w l.length 0 5)).size, (bytesRow ⟨l.toArray⟩ (grownCap w l.length 0 5)).size + 1), fun w => ?_, fun w => ?_⟩
  · have := run_bytes_of_string (P := Tryd.prog) w 9 22 5 ⟨l.toArray⟩ Tryd.underlying9 Tryd.underlying22 Tryd.underlying5
    rw [hsz] at this
    exact this
  · refine ⟨⟨_, _, rfl, grownCap_ge _ _ _ _, grownCap_le_maxLen _ _ _ _ hl, .inr ⟨_, _, rfl, rfl⟩⟩, fun b off m cap he j hj => ?_⟩
    injection he with e1 _ _; injection e1 with e1; injection e1 with e1 e2 _; subst e1 e2
    rw [show w.heap.size = w.drew.heap.size from rfl, World.cell?_alloc_mark, Nat.zero_add]
    have h2 : j < (bytesRow ⟨l.toArray⟩ (grownCap w l.length 0 5)).size := by simp [bytesRow]; omega
    simp [bytesRow, Array.getElem?_append, hj]
theorem Parts.nil {w : World} {N : Nat → Prop} : Parts w N (.slice none 0 0) [] :=
  ⟨⟨_, 0, rfl, Nat.le_refl _, by unfold maxLen; omega, .inl ⟨rfl, rfl⟩⟩, fun b off n cap he j hj => by injection he with e1; cases e1⟩
theorem dlits (w : World) (HK : ∀ w', Below w.heap.size w w' → Consts w' ∧ Begins w') : ∃ c0 c2 c3 : Array Value,
    (∀ x, Below w.heap.size w x → ∀ v, Reads x (· < x.heap.size) v [97, 98, 99, 100, 98, 99, 100, 101, 99, 100, 101, 102, 100, 101, 102, 103, 101, 102, 103, 104, 102, 103, 104, 105, 103, 104, 105, 106, 104, 105, 106, 107, 105, 106, 107, 108, 106, 107, 108, 109, 107, 108, 109, 110, 108, 109, 110, 111, 109, 110, 111, 112, 110, 111, 112, 113] → Calls Tryd.prog 9 #[v] x fun e w' => e = .returned (.agg c3) ∧ Below x.heap.size x w') ∧
    (∀ x, Below w.heap.size w x → ∀ v, Reads x (· < x.heap.size) v (List.replicate 1000000 97) → Calls Tryd.prog 9 #[v] x fun e w' => e = .returned (.agg c2) ∧ Below x.heap.size x w') ∧
    (∀ x, Below w.heap.size w x → Calls Tryd.prog 9 #[.slice none 0 0] x fun e w' => e = .returned (.agg c0) ∧ Below x.heap.size x w') ∧
    (∀ x, Below w.heap.size w x → Calls Tryd.prog 18 #[.slice none 0 0] x fun e w' => e = .returned (.agg c0) ∧ Below x.heap.size x w') ∧
    (∀ x, Below w.heap.size w x → Calls Tryd.prog 13 #[] x fun e w' => ∃ S, e = .returned (.pointer (some ⟨S, 0, none⟩)) ∧ (Calls Tryd.prog 16 #[.pointer (some ⟨S, 0, none⟩)] w' fun e w2 => e = .returned (.agg c0) ∧ Below w'.heap.size w' w2) ∧ Below x.heap.size x w') ∧
    (∀ x, Calls Tryd.prog 21 #[.agg c3] x fun e w' => e = .returned (.string ⟨#[115, 104, 97, 50, 53, 54, 58, 50, 52, 56, 100, 54, 97, 54, 49, 100, 50, 48, 54, 51, 56, 98, 56, 101, 53, 99, 48, 50, 54, 57, 51, 48, 99, 51, 101, 54, 48, 51, 57, 97, 51, 51, 99, 101, 52, 53, 57, 54, 52, 102, 102, 50, 49, 54, 55, 102, 54, 101, 99, 101, 100, 100, 52, 49, 57, 100, 98, 48, 54, 99, 49]⟩) ∧ Below x.heap.size x w') ∧
    (∀ x, Calls Tryd.prog 21 #[.agg c2] x fun e w' => e = .returned (.string ⟨#[115, 104, 97, 50, 53, 54, 58, 99, 100, 99, 55, 54, 101, 53, 99, 57, 57, 49, 52, 102, 98, 57, 50, 56, 49, 97, 49, 99, 55, 101, 50, 56, 52, 100, 55, 51, 101, 54, 55, 102, 49, 56, 48, 57, 97, 52, 56, 97, 52, 57, 55, 50, 48, 48, 101, 48, 52, 54, 100, 51, 57, 99, 99, 99, 55, 49, 49, 50, 99, 100, 48]⟩) ∧ Below x.heap.size x w') ∧
    (∀ w, (binOp .eql 25 (.agg c0) (.agg c0)).run Tryd.prog w = .ok (.bool true) w) := by
  refine ⟨(bcells (digest [])).toArray, (bcells (digest (List.replicate 1000000 97))).toArray, (bcells (digest [97, 98, 99, 100, 98, 99, 100, 101, 99, 100, 101, 102, 100, 101, 102, 103, 101, 102, 103, 104, 102, 103, 104, 105, 103, 104, 105, 106, 104, 105, 106, 107, 105, 106, 107, 108, 106, 107, 108, 109, 107, 108, 109, 110, 108, 109, 110, 111, 109, 110, 111, 112, 110, 111, 112, 113])).toArray, ?_, ?_, ?_, ?_, ?_, ?_, ?_, ?_⟩
  · intro x hb v hv
    exact sumb_any v _ x (HK x hb).1 (HK x hb).2 hv (by decide)
  · intro x hb v hv
    exact sumb_any v _ x (HK x hb).1 (HK x hb).2 hv (by rw [List.length_replicate]; decide)
  · intro x hb
    exact sumb_any _ _ x (HK x hb).1 (HK x hb).2 Reads.ofNil (by decide)
  · intro x hb
    exact all_any _ [] x (HK x hb).1 (HK x hb).2 Parts.nil (by decide)
  · intro x hb
    refine (new_any x (HK x hb).1 (HK x hb).2).mono ?_
    rintro e w' ⟨rfl, hs, hb', _⟩
    exact ⟨_, rfl, sum_any [] _ _ w' hs (by decide), hb'⟩
  · intro x
    have := name_any (digest [97, 98, 99, 100, 98, 99, 100, 101, 99, 100, 101, 102, 100, 101, 102, 103, 101, 102, 103, 104, 102, 103, 104, 105, 103, 104, 105, 106, 104, 105, 106, 107, 105, 106, 107, 108, 106, 107, 108, 109, 107, 108, 109, 110, 108, 109, 110, 111, 109, 110, 111, 112, 110, 111, 112, 113]) (digest_length _) x
    rw [know3] at this
    exact this
  · intro x
    have := name_any (digest (List.replicate 1000000 97)) (digest_length _) x
    rw [know2] at this
    exact this
  · exact eqDig _ (digest_length _)
end Go.Proofs.YtofficleahalaaaDoor
