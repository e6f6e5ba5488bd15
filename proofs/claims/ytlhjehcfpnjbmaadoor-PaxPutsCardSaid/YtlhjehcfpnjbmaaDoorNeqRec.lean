/- two records set side by side. -/
import Derived.Test.YtlhjehcfpnjbmaaDoorPaxSize
namespace Go.Proofs.YtlhjehcfpnjbmaaDoor
open Go.RowKit
theorem neq_rec (k v : List UInt8) (w : World) : (binOp .neq 33 (recV k v) (recV k v)).run Tryd.prog w = .ok (.bool false) w := by
  have h := run_equalIn_struct (P := Tryd.prog) w 9999 33 #[.string ⟨k.toArray⟩, .string ⟨v.toArray⟩] #[.string ⟨k.toArray⟩, .string ⟨v.toArray⟩] (by kernel_rfl) (by kernel_rfl)
  have p0 := run_part_one (P := Tryd.prog) (e := 9) Tryd.underlying9 rfl #[.string ⟨k.toArray⟩, .string ⟨v.toArray⟩] 0 (.string ⟨k.toArray⟩) rfl
  have p1 := run_part_one (P := Tryd.prog) (e := 9) Tryd.underlying9 rfl #[.string ⟨k.toArray⟩, .string ⟨v.toArray⟩] 1 (.string ⟨v.toArray⟩) rfl
  simp only [Program.fieldsOf, Tryd.underlying33] at h
  rw [run_neq_struct]
  have e2 : ∀ (l : List UInt8) (d : Nat) (w : World), (Op.equalIn (d + 1) 9 (.string ⟨l.toArray⟩) (.string ⟨l.toArray⟩)).run Tryd.prog w = .ok true w := fun l d w => by
    rw [run_equalIn_string w d 9 _ _ Tryd.underlying9]; simp
  have h2 : (Op.equalIn 10000 33 (recV k v) (recV k v)).run Tryd.prog w = .ok true w := by
    refine h.trans ?_
    simp [Op.eqFields, p0, p1, e2]
  rw [h2]; rfl
end Go.Proofs.YtlhjehcfpnjbmaaDoor
