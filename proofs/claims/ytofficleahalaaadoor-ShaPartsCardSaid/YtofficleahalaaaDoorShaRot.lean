/- THE TURNED WORDS OF sha AND OF THE REFERENCE: rotr. -/
import Derived.Test.YtofficleahalaaaDoorShaSpec
import Derived.WalkKit
import Derived.WalkSpells
import Derived.WalkLawsBesides
import Derived.Deep.QuietTactic
import Derived.BigQuiet
import Derived.Lib.Hide
import Derived.Laws.BitsAllLaws
namespace Go.Proofs.YtofficleahalaaaDoor
open Go.RowKit
theorem wrap_neg (k : Nat) (h3 : 0 < k) (h4 : k < 32) : IntKind.u64.wrap (-(k:Int)) = ((18446744073709551616 - k : Nat) : Int) := by
  have e : IntKind.u64.wrap (-(k:Int)) = (-(k : Int)) % 18446744073709551616 := by simp [IntKind.wrap, IntKind.bits, IntKind.signed]
  rw [e]; omega
theorem neg_and (k : Nat) (h3 : 0 < k) (h4 : k < 32) : bits BinOp.and IntKind.u64 (IntKind.u64.wrap (-(k:Int))) 31 = ((32 - k : Nat) : Int) := by
  rw [wrap_neg k h3 h4]
  have h := u64_and_nat (18446744073709551616 - k) 31 (by omega) (by omega)
  rw [show ((31 : Nat) : Int) = 31 from rfl] at h
  rw [h, nat_mask5]
  omega
theorem rotr_eq (x k j : Nat) (h1 : x < 4294967296) (hj : j = 32 - k) : bits BinOp.or IntKind.u32 ((x : Int) * 2 ^ j % 4294967296) ((x : Int) / 2 ^ k) = ((rotr x k : Nat) : Int) := by
  have h := u32_or_nat (x * 2 ^ j % 4294967296) (x / 2 ^ k) (Nat.mod_lt _ (by decide)) (Nat.lt_of_le_of_lt (Nat.div_le_self _ _) h1)
  have e1 : ((x * 2 ^ j % 4294967296 : Nat) : Int) = (x : Int) * 2 ^ j % 4294967296 := by simp
  have e2 : ((x / 2 ^ k : Nat) : Int) = (x : Int) / 2 ^ k := by simp
  rw [e1, e2] at h
  rw [h, rotr, ← hj, Nat.or_comm]
theorem rotr_eq' (x k : Nat) (h1 : x < 4294967296) : bits BinOp.or IntKind.u32 ((x : Int) / 2 ^ k) ((x : Int) * 2 ^ (32 - k) % 4294967296) = ((rotr x k : Nat) : Int) := by
  have h := u32_or_nat (x / 2 ^ k) (x * 2 ^ (32 - k) % 4294967296) (Nat.lt_of_le_of_lt (Nat.div_le_self _ _) h1) (Nat.mod_lt _ (by decide))
  have e1 : ((x * 2 ^ (32 - k) % 4294967296 : Nat) : Int) = (x : Int) * 2 ^ (32 - k) % 4294967296 := by simp
  have e2 : ((x / 2 ^ k : Nat) : Int) = (x : Int) / 2 ^ k := by simp
  rw [e1, e2] at h
  rw [h, rotr]
set_option maxHeartbeats 400000 in
theorem rot_any (x k j : Nat) (w : World) (h1 : x < 4294967296) (h3 : 0 < k) (h4 : k < 32) (hj : j = 32 - k) :
    Calls Tryd.prog 68 #[.int .u32 x, .int .i64 (-(k:Int))] w fun e w' => e = .returned (.int .u32 (rotr x k)) ∧ w' = w := by
  have hb := neg_and k h3 h4
  rw [← hj] at hb
  have hj1 : j < 32 := by omega
  have hk1 : 32 - j = k := by omega
  have H := Keep.keep hj; clear hj
  have H1 := Keep.keep hk1; clear hk1
  go_enter Tryd.func68, Tryd.ntmps68
  go_wp2
  go_ret
  exact ⟨by show Ending.returned (Value.int IntKind.u32 (bits BinOp.or IntKind.u32 (↑x * 2 ^ j % 4294967296) (↑x / 2 ^ (32 - j)))) = _; rw [H1.out, rotr_eq x k j h1 H.out], rfl⟩
set_option maxHeartbeats 400000 in
theorem turn_any (x k : Nat) (w : World) (h1 : x < 4294967296) (h3 : 0 < k) (h4 : k < 32) :
    Calls Tryd.prog 51 #[.int .u32 x, .int .i64 k] w fun e w' => e = .returned (.int .u32 (rotr x k)) ∧ w' = w := by
  go_enter Tryd.func51, Tryd.ntmps51
  go_wp2_with (go_at_call 68; refine (rot_any x k _ _ h1 h3 h4 rfl).mono ?_; rintro e w' ⟨rfl, rfl⟩)
  go_ret
  exact ⟨rfl, rfl⟩
set_option maxHeartbeats 400000 in
theorem turned_any (x k : Nat) (w : World) (h1 : x < 4294967296) (h3 : 0 < k) (h4 : k < 32) :
    Calls Tryd.prog 49 #[.int .u32 x, .int .i64 k] w fun e w' => e = .returned (.int .u32 (rotr x k)) ∧ ∃ n, w' = w.drewN n := by
  go_enter Tryd.func49, Tryd.ntmps49
  go_wp2
  go_quiet (fail)
  go_wp2
  go_ret
  exact ⟨by show Ending.returned (Value.int IntKind.u32 (bits BinOp.or IntKind.u32 (↑x / 2 ^ k) (↑x * 2 ^ (32 - k) % 4294967296))) = _; rw [rotr_eq' x k h1], _, rfl⟩
theorem turn_int (x k : Int) (w : World) (h0 : 0 ≤ x) (h1 : x < 4294967296) (h3 : 0 < k) (h4 : k < 32) :
    Calls Tryd.prog 51 #[.int .u32 x, .int .i64 k] w fun e w' => e = .returned (.int .u32 ((rotr x.toNat k.toNat : Nat) : Int)) ∧ w' = w := by
  obtain ⟨n, rfl⟩ := Int.eq_ofNat_of_zero_le (Int.le_of_lt h3)
  obtain ⟨m, rfl⟩ := Int.eq_ofNat_of_zero_le h0
  exact turn_any m n w (by omega) (by omega) (by omega)
theorem turned_int (x k : Int) (w : World) (h0 : 0 ≤ x) (h1 : x < 4294967296) (h3 : 0 < k) (h4 : k < 32) :
    Calls Tryd.prog 49 #[.int .u32 x, .int .i64 k] w fun e w' => e = .returned (.int .u32 ((rotr x.toNat k.toNat : Nat) : Int)) ∧ ∃ n, w' = w.drewN n := by
  obtain ⟨n, rfl⟩ := Int.eq_ofNat_of_zero_le (Int.le_of_lt h3)
  obtain ⟨m, rfl⟩ := Int.eq_ofNat_of_zero_le h0
  exact turned_any m n w (by omega) (by omega) (by omega)
end Go.Proofs.YtofficleahalaaaDoor
