/- pax: digits, twice. -/
import Derived.Test.YtlhjehcfpnjbmaaDoorPaxGetP
import Derived.Test.YtlhjehcfpnjbmaaDoorPaxSize
namespace Go.Proofs.YtlhjehcfpnjbmaaDoor
open Go.RowKit
theorem digN_stop {c : UInt8} {b : List UInt8} {m n : Nat} (h : (isDig c && decide (m < 9)) = false) : digN (c :: b) m n = (m, n) := by simp only [digN, h]; rfl
theorem digN_go {c : UInt8} {b : List UInt8} {m n : Nat} (h : (isDig c && decide (m < 9)) = true) : digN (c :: b) m n = digN b (m + 1) (10 * n + (c.toNat - 48)) := by simp only [digN, h]; rfl
set_option maxHeartbeats 1000000 in
set_option maxRecDepth 100000 in
theorem digits_any (v : Value) (l : List UInt8) (N : Nat → Prop) (w : World) (hr : Reads w N v l) :
    Calls Tryd.prog 36 #[v] w fun e w' => e = .returned (.tuple #[.int .i64 ((digN l 0 0).1 : Int), .int .i64 ((digN l 0 0).2 : Int)]) ∧ w = w' := by
  obtain ⟨a, cap, rfl, hcap, hmx, hsh⟩ := hr.shape
  have HR := Keep.keep hr; have HSH := Keep.keep hsh
  have hmx' : l.length ≤ 9223372036854775807 := by unfold maxLen at hmx; omega
  clear hr hsh hmx
  go_enter Tryd.func36, Tryd.ntmps36
  go_wp2_with fail
  go_loopg [2, 3] 10 (fun g u1 u2 wx => ∃ m n : Nat, m + g = 10 ∧ m ≤ l.length ∧ u1 = .int .i64 (m : Int) ∧ u2 = .int .i64 (n : Int) ∧ n < 10 ^ m ∧ digN (l.drop m) m n = digN l 0 0 ∧ wx = w)
  case atStart => exact ⟨0, 0, by omega, by omega, rfl, rfl, by decide, rfl, rfl⟩
  case round =>
    obtain ⟨m, n, hmg, hml, rfl, rfl, hn, hd, rfl⟩ := hrel
    have HD := Keep.keep hd; have HN := Keep.keep hn
    clear hd hn
    by_cases hlt : m < l.length
    · rcases HSH.out with ⟨rfl, hc0⟩ | ⟨b, off, rfl, hN⟩
      · omega
      have hcell := HR.out.cell b off _ _ rfl m hlt
      have hgd : l.getD m 0 = l[m] := by simp [List.getD_eq_getElem?_getD, hlt]
      have hdr : l.drop m = l[m] :: l.drop (m + 1) := List.drop_eq_getElem_cons hlt
      rw [hdr] at HD
      obtain ⟨c, hc⟩ : ∃ c, l[m] = c := ⟨_, rfl⟩
      rw [hc] at HD
      clear hgd hdr
      have hc' : wr.cell? ⟨b, off + m, none⟩ = some (.int .u8 (c.toNat : Int)) := by rw [hcell, hc]
      clear hcell hc
      have hcb := c.toNat_lt
      by_cases h1 : 48 ≤ c.toNat
      · have hd1 : decide ((48 : Int) ≤ (c.toNat : Int)) = true := decide_eq_true (by omega)
        by_cases h2 : c.toNat ≤ 57
        · have hd2 : decide ((c.toNat : Int) ≤ (57 : Int)) = true := decide_eq_true (by omega)
          by_cases h3 : m < 9
          · have hd3 : decide ((m : Int) < (9 : Int)) = true := decide_eq_true (by omega)
            obtain ⟨g, rfl⟩ : ∃ g, gk = g + 1 := ⟨gk - 1, by omega⟩
            have hp : n < 1000000000 := by
              have h4 := HN.out
              have h5 : (10:Nat) ^ m ≤ 10 ^ 9 := Nat.pow_le_pow_right (by omega) (by omega)
              omega
            have hw1 := IntWalk.u8_in ((c.toNat : Int) - 48) (by omega)
            go_wp2_with fail
            go_roundg g
            case measure => omega
            case rel =>
              refine ⟨m + 1, 10 * n + (c.toNat - 48), by omega, by omega, by simp, ?_, ?_, ?_, rfl⟩
              · simp; omega
              · have h4 := HN.out
                rw [Nat.pow_succ]; omega
              · rw [← HD.out, digN_go (by simp [isDig, h1, h2, h3])]
          · have hd3 : decide ((m : Int) < (9 : Int)) = false := decide_eq_false (by omega)
            go_wp2_with fail
            go_ret2
            have := HD.out
            rw [digN_stop (by simp [h3])] at this
            rw [← this]
            exact ⟨rfl, rfl⟩
        · have hd2 : decide ((c.toNat : Int) ≤ (57 : Int)) = false := decide_eq_false (by omega)
          go_wp2_with fail
          go_ret2
          have := HD.out
          rw [digN_stop (by simp [isDig, h2])] at this
          rw [← this]
          exact ⟨rfl, rfl⟩
      · have hd1 : decide ((48 : Int) ≤ (c.toNat : Int)) = false := decide_eq_false (by omega)
        go_wp2_with fail
        go_ret2
        have := HD.out
        rw [digN_stop (by simp [isDig, h1])] at this
        rw [← this]
        exact ⟨rfl, rfl⟩
    · obtain rfl : m = l.length := by omega
      go_wp2_with fail
      go_ret2
      have := HD.out
      rw [List.drop_length] at this
      rw [← this]
      exact ⟨rfl, rfl⟩
theorem twiceN_go {f n : Nat} (h : 10 < n ∧ n % 10 = 0) : twiceN (f + 1) n = twiceN f (n / 10) := by simp [twiceN, h]
theorem twiceN_stop {f n : Nat} (h : ¬ (10 < n ∧ n % 10 = 0)) : twiceN (f + 1) n = (n == 10) := by
  have : (decide (10 < n) && n % 10 == 0) = false := by
    cases h1 : decide (10 < n) <;> simp_all
  simp [twiceN, this]
set_option maxHeartbeats 1000000 in
set_option maxRecDepth 100000 in
theorem twice_any (n : Nat) (hn : n < 1000000000) (w : World) :
    Calls Tryd.prog 38 #[.int .i64 (n : Int)] w fun e w' => e = .returned (.bool (twiceB n)) ∧ w = w' := by
  go_enter Tryd.func38, Tryd.ntmps38
  go_wp2_with fail
  go_loopg [0] 19 (fun g u wx => ∃ m : Nat, m < 10 ^ g ∧ m ≤ n ∧ u = .int .i64 (m : Int) ∧ twiceN (g + 1) m = twiceB n ∧ wx = w)
  case atStart => exact ⟨n, by have : (10:Nat) ^ 19 = 10000000000000000000 := by decide
                               omega, by omega, rfl, rfl, rfl⟩
  case round =>
    obtain ⟨m, hm, hmn, rfl, ht, rfl⟩ := hrel
    have HT := Keep.keep ht; have HM := Keep.keep hm
    have hbe : ((m : Int) == 10) = (m == 10) := by rw [Bool.eq_iff_iff, beq_iff_eq, beq_iff_eq]; omega
    clear ht hm
    by_cases h1 : 10 < m
    · have hd1 : decide ((10 : Int) < (m : Int)) = true := decide_eq_true (by omega)
      by_cases h2 : m % 10 = 0
      · have hd2 : ((m : Int) % 10 == 0) = true := by rw [beq_iff_eq]; omega
        have hd3 : (m : Int).tmod 10 = (m : Int) % 10 := Int.tmod_eq_emod_of_nonneg (by omega)
        have hd4 : (m : Int).tdiv 10 = ((m / 10 : Nat) : Int) := by rw [Int.tdiv_eq_ediv_of_nonneg (by omega)]; rfl
        have hm0 := HM.out
        obtain ⟨g, rfl⟩ : ∃ g, gk = g + 1 := ⟨gk - 1, by rcases Nat.eq_zero_or_pos gk with rfl | h
                                                         · simp at hm0; omega
                                                         · omega⟩
        clear hm0
        go_wp2_with fail
        go_roundg g
        case measure => omega
        case rel =>
          have hm0 := HM.out
          rw [Nat.pow_succ] at hm0
          refine ⟨m / 10, by omega, by omega, by simp, ?_, rfl⟩
          rw [← HT.out, twiceN_go ⟨h1, h2⟩]
      · have hd2 : ((m : Int) % 10 == 0) = false := by rw [beq_eq_false_iff_ne]; omega
        have hd3 : (m : Int).tmod 10 = (m : Int) % 10 := Int.tmod_eq_emod_of_nonneg (by omega)
        go_wp2_with fail
        go_ret
        rw [← HT.out, twiceN_stop (by omega)]
        exact ⟨rfl, rfl⟩
    · have hd1 : decide ((10 : Int) < (m : Int)) = false := decide_eq_false (by omega)
      go_wp2_with fail
      go_ret
      rw [← HT.out, twiceN_stop (by omega)]
      exact ⟨rfl, rfl⟩
end Go.Proofs.YtlhjehcfpnjbmaaDoor
