/- A text padded with bytes 0, read back. -/
import Derived.Test.YtohballfhhndbaaDoorFldBackS
namespace Go.Proofs.YtohballfhhndbaaDoor
open Go.RowKit
theorem cstr_pad : ∀ (t : List UInt8) (k : Nat), ¬ (0 : UInt8) ∈ t → cstr (t ++ List.replicate k 0) = t
  | [], k, _ => by cases k <;> simp [cstr, List.replicate_succ]
  | c :: t, k, h => by
    have hc : c ≠ 0 := fun e => h (by simp [e])
    have ih := cstr_pad t k (fun e => h (by simp [e]))
    unfold cstr at ih ⊢
    rw [List.cons_append, List.takeWhile_cons_of_pos (by simpa using hc), ih]
end Go.Proofs.YtohballfhhndbaaDoor
