/- s[:i] OF A STRING. -/
import Derived.Test.YtkijhaibcnhedaaDoorIns
namespace Go.Proofs.YtkijhaibcnhedaaDoor
open Go.RowKit
theorem run_slice_to {P : Program} {T : TypeId} (hu : P.underlying T = some .string) (l : List UInt8) (k1 : IntKind) (i : Nat) (h1 : i ≤ l.length) (w : World) :
    (Instr.slice T (.string ⟨l.toArray⟩) none (some (.int k1 (i : Int))) none).run P w = .ok (.string ⟨(l.take i).toArray⟩) w := by
  have hsz : ByteArray.size ⟨l.toArray⟩ = l.length := rfl
  simp [Instr.slice, Instr.sliceBounds, Instr.sliceBound, asIntOf, run_underlying hu, hsz, h1, ByteArray.extract_mk]
end Go.Proofs.YtkijhaibcnhedaaDoor
