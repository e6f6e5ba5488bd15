/- portolanref10: Digits, Text, Number. -/
import Derived.Test.YtlhjehcfpnjbmaaDoorPaxNum
namespace Go.Proofs.YtlhjehcfpnjbmaaDoor
open Go.RowKit
theorem kone_of (n : Int) (c : UInt8) (h : n = (c.toNat : Int)) (wx : World) : (convert 23 9 (.slice (some ⟨wx.heap.size, 0, none⟩) 1 1)).run Tryd.prog (wx.alloc (.cells #[.int .u8 n] 5)) = .ok (.string ⟨[c].toArray⟩) (wx.alloc (.cells #[.int .u8 n] 5)) :=
  run_string_of (Reads.one wx 5 n c h _ rfl)
set_option maxHeartbeats 1000000 in
set_option maxRecDepth 100000 in
theorem rdig_any (n : Nat) (hn : n < 18446744073709551616) (w : World) :
    Calls Tryd.prog 28 #[.int .u64 (n : Int)] w fun e w' => e = .returned (.string ⟨(Lib.decDigits n).toArray⟩) ∧ Below w.heap.size w w' := by
  have hlen := Lib.decDigits_length n
  have h20 := Lib.nDigits_le20 n hn
  rw [← hlen] at h20
  clear hlen
  obtain ⟨D, hD⟩ : ∃ D, Lib.decDigits n = D := ⟨_, rfl⟩
  rw [hD] at h20 ⊢
  have HD := Keep.keep hD
  clear hD
  go_enter Tryd.func28, Tryd.ntmps28
  go_wp2_with fail
  go_loopg [0, 3] 19 (fun g u0 u3 wx => ∃ (m : Nat) (s : List UInt8), m < 10 ^ (g + 1) ∧ m ≤ n ∧ u0 = .int .u64 (m : Int) ∧ u3 = .string ⟨s.toArray⟩ ∧ D = Lib.decDigits m ++ s ∧ Below w.heap.size w wx)
  case atStart => exact ⟨n, [], by have : (10:Nat) ^ (19 + 1) = 100000000000000000000 := by decide
                                   omega, Nat.le_refl _, rfl, rfl, by rw [HD.out]; simp, Below.refl _ _⟩
  case round =>
    obtain ⟨m, s, hm, hmn, rfl, rfl, hDs, hbw⟩ := hrel
    have HDS := Keep.keep hDs; have HM := Keep.keep hm; have HBW := Keep.keep hbw
    have hsl : s.length ≤ 20 := by
      have := congrArg List.length hDs
      simp at this; omega
    clear hDs hm hbw
    by_cases h9 : 9 < m
    · have hd1 : decide ((9 : Int) < (m : Int)) = true := decide_eq_true (by omega)
      have hm0 := HM.out
      have hgk : gk ≠ 0 := fun e => by rw [e] at hm0; simp at hm0; omega
      obtain ⟨g, rfl⟩ : ∃ g, gk = g + 1 := ⟨gk - 1, by omega⟩
      clear hm0
      have hd3 : (m : Int).tmod 10 = (m : Int) % 10 := Int.tmod_eq_emod_of_nonneg (by omega)
      have hd4 : (m : Int).tdiv 10 = ((m / 10 : Nat) : Int) := by rw [Int.tdiv_eq_ediv_of_nonneg (by omega)]; rfl
      have hct := digit_toNat (m % 10) (by omega)
      have hdd : Lib.decDigits m = Lib.decDigits (m / 10) ++ [UInt8.ofNat (48 + m % 10)] := by rw [Lib.decDigits, dif_neg (by omega)]
      generalize UInt8.ofNat (48 + m % 10) = c at *
      have k1 := kone_of (48 + (m : Int) % 10) c (by omega)
      have k2 := run_cat (P := Tryd.prog) [c] s (by simp; omega)
      have HDD := Keep.keep hdd
      clear hdd hct
      go_wp2_with fail
      go_roundg g
      case measure => omega
      case rel =>
        have hm0 := HM.out
        rw [Nat.pow_succ] at hm0
        refine ⟨m / 10, c :: s, by omega, by omega, by simp, rfl, ?_, HBW.out.alloc HBW.out.size _⟩
        rw [HDS.out, HDD.out]; simp
    · have hd1 : decide ((9 : Int) < (m : Int)) = false := decide_eq_false (by omega)
      have hct := digit_toNat m (by omega)
      have hdd : Lib.decDigits m = [UInt8.ofNat (48 + m)] := Lib.decDigits_one (by omega)
      generalize UInt8.ofNat (48 + m) = c at *
      have k1 := kone_of (48 + (m : Int)) c (by omega)
      have k2 := run_cat (P := Tryd.prog) [c] s (by simp; omega)
      have HDD := Keep.keep hdd
      clear hdd hct
      go_wp2_with fail
      go_ret
      refine ⟨?_, HBW.out.alloc HBW.out.size _⟩
      rw [HDS.out, HDD.out]; rfl
set_option maxHeartbeats 1000000 in
set_option maxRecDepth 100000 in
theorem rtext_any (n : Int) (h0 : -9223372036854775808 ≤ n) (h1 : n ≤ 9223372036854775807) (w : World) :
    Calls Tryd.prog 20 #[.int .i64 n] w fun e w' => e = .returned (.string ⟨(Lib.itoa n).toArray⟩) ∧ Below w.heap.size w w' := by
  have hlen := Lib.itoa_length_le n h0 h1
  rcases Int.lt_or_le n 0 with h | h
  · obtain ⟨u, rfl⟩ : ∃ u : Nat, n = -(u : Int) := ⟨n.natAbs, by omega⟩
    have hi := Lib.itoa_neg u (by omega)
    rw [hi] at hlen ⊢
    have HD := Keep.keep (fun w' => rdig_any u (by omega) w')
    have hd : decide (-(u : Int) < 0) = true := decide_eq_true h
    have hcat := run_cat (P := Tryd.prog) [45] (Lib.decDigits u) (by simp at hlen ⊢; omega)
    generalize Lib.decDigits u = t at *
    have e1 : -(-(u : Int) + 1) = (u : Int) - 1 := by omega
    have e2 : (u : Int) - 1 + 1 = (u : Int) := by omega
    have hu : 1 ≤ u := by omega
    go_enter Tryd.func20, Tryd.ntmps20
    go_wp2_with (go_at_call 28; ((with_reducible refine (HD.out _).mono ?_); rintro e w1 ⟨rfl, hb1⟩))
    go_ret
    exact ⟨rfl, hb1⟩
  · obtain ⟨u, rfl⟩ : ∃ u : Nat, n = (u : Int) := ⟨n.toNat, by omega⟩
    rw [Lib.itoa_nonneg]
    have HD := Keep.keep (fun w' => rdig_any u (by omega) w')
    have hd : decide ((u : Int) < 0) = false := decide_eq_false (by omega)
    go_enter Tryd.func20, Tryd.ntmps20
    go_wp2_with (go_at_call 28; ((with_reducible refine (HD.out _).mono ?_); rintro e w1 ⟨rfl, hb1⟩))
    go_ret
    exact ⟨rfl, hb1⟩
end Go.Proofs.YtlhjehcfpnjbmaaDoor
