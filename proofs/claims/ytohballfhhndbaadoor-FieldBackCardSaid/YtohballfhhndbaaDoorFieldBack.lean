/- FieldBack: there and back. -/
import Derived.Test.YtohballfhhndbaaDoorFbA
import Derived.Test.YtohballfhhndbaaDoorFbB
import Derived.Test.YtohballfhhndbaaDoorFbC
namespace Go.Proofs.YtohballfhhndbaaDoor
open Go.RowKit
theorem fieldback_any (n : Int) (h0 : -9223372036854775808 ≤ n) (h1 : n ≤ 9223372036854775807) (many : Nat) (s : List UInt8) (B : Nat) (w : World) (hB : B ≤ w.heap.size) (hT : Tz B w) :
    Calls Tryd.prog 8 #[.int .i64 n, .int .u8 (many : Int), .string ⟨s.toArray⟩] w fun e w' => e = .returned (.bool true) ∧ Below w.heap.size w w' := by
  obtain ⟨j, hj⟩ : ∃ j, many % 19 + 1 = j := ⟨_, rfl⟩
  rcases (by omega : j < 19 ∨ j = 19) with h19 | h19
  all_goals
    by_cases hz : (0 : UInt8) ∈ s.take (min s.length 300)
    all_goals
      by_cases he : 0 ≤ n ∧ n.toNat < 8 ^ j
      · first
          | exact back_AMN n h0 h1 many j hj s B w hB hT h19 hz n.toNat (by omega) he.2
          | exact back_AMZ n h0 h1 many j hj s B w hB hT h19 hz n.toNat (by omega) he.2
          | exact back_ALN n h0 h1 many j hj s B w hB hT h19 hz n.toNat (by omega) he.2
          | exact back_ALZ n h0 h1 many j hj s B w hB hT h19 hz n.toNat (by omega) he.2
      · have hno : n < 0 ∨ 8 ^ j ≤ n.toNat := by
          by_cases h5 : n < 0
          · exact .inl h5
          · exact .inr (Nat.le_of_not_lt (fun h => he ⟨by omega, h⟩))
        by_cases hf : n / 2 ^ (8 * (j + 1) - 2) = 0 ∨ n / 2 ^ (8 * (j + 1) - 2) = -1
        · first
            | exact back_BMN n h0 h1 many j hj s B w hB hT h19 hz hno hf
            | exact back_BMZ n h0 h1 many j hj s B w hB hT h19 hz hno hf
            | exact back_BLN n h0 h1 many j hj s B w hB hT h19 hz hno hf
            | exact back_BLZ n h0 h1 many j hj s B w hB hT h19 hz hno hf
        · first
            | exact back_CMN n h0 h1 many j hj s B w hB hT h19 hz hno hf
            | exact back_CMZ n h0 h1 many j hj s B w hB hT h19 hz hno hf
            | exact back_CLN n h0 h1 many j hj s B w hB hT h19 hz hno hf
            | exact back_CLZ n h0 h1 many j hj s B w hB hT h19 hz hno hf
end Go.Proofs.YtohballfhhndbaaDoor
