/- field.wide, octal, Number. -/
import Derived.Test.YtohballfhhndbaaDoorFldRWideB
import Derived.Test.YtohballfhhndbaaDoorSlFrom
namespace Go.Proofs.YtohballfhhndbaaDoor
open Go.RowKit
theorem or_low (x c : Int) (i : Nat) (hi : i ≤ 63) (hx : x % 2 ^ i = 0) (h0 : 0 ≤ c) (h1 : c < 2 ^ i) : bits .or .i64 x c = IntKind.i64.wrap (x + c) := by
  have hp : (2 : Int) ^ i ≤ 9223372036854775808 := by
    have : (2 : Nat) ^ i ≤ 2 ^ 63 := Nat.pow_le_pow_right (by decide) hi
    have h2 : ((2 ^ i : Nat) : Int) ≤ ((2 ^ 63 : Nat) : Int) := by exact_mod_cast this
    rw [Int.natCast_pow] at h2
    exact h2
  have hX : ∃ q : Nat, (x % 18446744073709551616).toNat = 2 ^ i * q := by
    have hd : (2 : Int) ^ i ∣ x % 18446744073709551616 := by
      have h64 : (2 : Int) ^ i ∣ 18446744073709551616 := ⟨2 ^ (64 - i), by rw [← Int.pow_add, show i + (64 - i) = 64 by omega]; rfl⟩
      exact (Int.dvd_iff_emod_eq_zero).2 (by rw [Int.emod_emod_of_dvd _ h64]; exact hx)
    obtain ⟨q, hq⟩ := hd
    have hq0 : 0 ≤ q := by
      have h5 : 0 ≤ x % 18446744073709551616 := Int.emod_nonneg _ (by decide)
      have h6 : (0 : Int) < 2 ^ i := Int.pow_pos (by decide)
      rw [hq] at h5
      exact Int.nonneg_of_mul_nonneg_right h5 h6 
    refine ⟨q.toNat, ?_⟩
    rw [hq]
    have : ((2 : Int) ^ i * q) = ((2 ^ i * q.toNat : Nat) : Int) := by
      rw [Int.natCast_mul, Int.natCast_pow, Int.toNat_of_nonneg hq0]; rfl
    rw [this, Int.toNat_natCast]
  obtain ⟨q, hq⟩ := hX
  have hc : (c % 18446744073709551616).toNat < 2 ^ i := by
    have : (((c % 18446744073709551616).toNat : Nat) : Int) < ((2 ^ i : Nat) : Int) := by
      rw [Int.natCast_pow]
      have e : ((2 : Nat) : Int) = 2 := rfl
      rw [e]
      omega
    exact Int.ofNat_lt.1 this
  show IntKind.i64.wrap (((BitVec.ofInt 64 x ||| BitVec.ofInt 64 c).toNat : Nat) : Int) = _
  rw [BitVec.toNat_or, BitVec.toNat_ofInt, BitVec.toNat_ofInt]
  have e64 : ((2 ^ 64 : Nat) : Int) = 18446744073709551616 := rfl
  rw [e64, hq, ← Nat.two_pow_add_eq_or_of_lt hc, ← hq, IntKind.wrap_i64, IntKind.wrap_i64]
  omega
def stepW (n : Int) (d : UInt8) : Int := n * 256 + (d.toNat : Int)
theorem foldW_snoc (l : List UInt8) (n : Int) (i : Nat) (h : i < l.length) : (l.take (i + 1)).foldl stepW n = (l.take i).foldl stepW n * 256 + (l[i].toNat : Int) := by
  rw [List.take_add_one, List.getElem?_eq_getElem h, List.foldl_append]
  rfl
theorem foldW_cut (l : List UInt8) (n : Int) (i : Nat) : l.foldl stepW n = (l.drop i).foldl stepW ((l.take i).foldl stepW n) := by
  rw [← List.foldl_append, List.take_append_drop]
theorem first7_range (c : UInt8) : -64 ≤ first7 c ∧ first7 c ≤ 63 := by unfold first7; split <;> omega
/-- what a number in base 256 tells -/
def widS (l : List UInt8) : Int × Int := if -9223372036854775808 ≤ valW l ∧ valW l ≤ 9223372036854775807 then (valW l, 0) else (0, 3)
theorem slU8 : SlTy Tryd.prog 22 5 (.int .u8 0) 1 := SlTy.mk' Tryd.underlying22 (by kernel_rfl) rfl
theorem reads_at {w : World} {N : Nat → Prop} {a : Option Addr} {n cap : Nat} {l : List UInt8} (h : Reads w N (.slice a n cap) l) {i : Nat} (hi : i < l.length) :
    ∃ b off, a = some ⟨b, off, none⟩ ∧ w.cell? ⟨b, off + i, none⟩ = some (.int .u8 (l[i].toNat : Int)) := by
  obtain ⟨b, off, cap', he, h1, h2, h3⟩ := h.has (by omega)
  injection he with e1 e2 e3
  subst e1
  exact ⟨b, off, rfl, h.cell b off _ _ rfl i hi⟩
set_option maxHeartbeats 2000000 in
set_option maxRecDepth 100000 in
theorem widn_any (v : Value) (c : UInt8) (t : List UInt8) (w : World) (hr : Reads w (· < w.heap.size) v (c :: t)) (hl : t.length ≤ 19) :
    Calls Tryd.prog 36 #[v] w fun e w' => e = .returned (.tuple #[.int .i64 (widS (c :: t)).1, .int .i64 (widS (c :: t)).2]) ∧ w = w' := by
  obtain ⟨a, cap, rfl, hcap, hmx, -⟩ := hr.shape
  simp only [List.length_cons] at hcap hmx
  unfold maxLen at hmx
  obtain ⟨b, off, rfl, hc0⟩ := reads_at hr (i := 0) (by simp)
  simp only [List.getElem_cons_zero, Nat.add_zero] at hc0
  obtain ⟨a', hsl, hsr⟩ := slice_from slU8 (some ⟨b, off, none⟩) (t.length + 1) cap 1 .i64 (by omega) (by omega)
  have hrt := hsr w _ _ hr
  simp only [List.drop_succ_cons, List.drop_zero, Nat.add_sub_cancel] at hrt hsl
  have hand : bits .and .u8 (c.toNat : Int) 127 = ((c.toNat % 128 : Nat) : Int) := by
    have := u8_and_nat c.toNat 127 c.toNat_lt (by decide)
    rw [show c.toNat &&& 127 = c.toNat % 128 from Nat.and_two_pow_sub_one_eq_mod c.toNat 7] at this
    exact this
  have hval : valW (c :: t) = t.foldl stepW (first7 c) := rfl
  have hf7 := first7_range c
  have HRT := Keep.keep hrt
  have HV := Keep.keep hval
  obtain ⟨f, hf⟩ : ∃ f : Nat, c.toNat % 128 = f := ⟨_, rfl⟩
  have hff : first7 c = if 64 ≤ f then (f : Int) - 128 else (f : Int) := by unfold first7; rw [hf]
  have hf128 : f < 128 := by omega
  rw [hf] at hand
  have hslz : ∀ w, (Instr.slice 22 (.slice (some ⟨b, off, none⟩) (t.length + 1) cap) (some (.int .i64 1)) none none).run Tryd.prog w = .ok (.slice a' t.length (cap - 1)) w := hsl
  clear hr hsr hrt hval hf hsl
  by_cases h64 : 64 ≤ f
  · have hd : decide ((64 : Int) ≤ (f : Int)) = true := decide_eq_true (by omega)
    have hd' : decide (64 ≤ f) = true := decide_eq_true h64
    rw [if_pos h64] at hff
    go_enter Tryd.func36, Tryd.ntmps36
    go_wp2_with fail
    go_loopg [5, 7, 21] t.length (fun g u5 _ u21 wx => ∃ (i : Nat) (n : Int), i + g = t.length ∧ u21 = .int .i64 (i : Int) ∧ u5 = .int .i64 n ∧ (t.take i).foldl stepW (first7 c) = n ∧ -9223372036854775808 ≤ n ∧ n ≤ 9223372036854775807 ∧ wx = w)
    case atStart => exact ⟨0, _, by omega, rfl, rfl, hff, by omega, by omega, rfl⟩
    case round =>
      obtain ⟨i, n, hig, rfl, rfl, hn, hn0, hn1, rfl⟩ := hrel
      have HN := Keep.keep hn
      clear hn hff hc0 hand
      by_cases hi : i < t.length
      · obtain ⟨g, rfl⟩ : ∃ g, gk = g + 1 := ⟨gk - 1, by omega⟩
        obtain ⟨b2, off2, ha2, hcell⟩ := reads_at HRT.out hi
        subst ha2
        have hdi : decide ((i : Int) < (t.length : Int)) = true := decide_eq_true (by omega)
        have hsn := foldW_snoc t (first7 c) i hi
        rw [HN.out] at hsn
        have hcut := foldW_cut t (first7 c) i
        rw [HN.out] at hcut
        have hdr : t.drop i ≠ [] := by
          intro e
          have := congrArg List.length e
          simp at this
          omega
        obtain ⟨d, hdd⟩ : ∃ d, t[i] = d := ⟨_, rfl⟩
        rw [hdd] at hsn hcell
        have hd256 : d.toNat < 256 := d.toNat_lt
        have hfar := far_off (t.drop i) n hdr
        have HFAR : Keep (¬ (-36028797018963968 ≤ n ∧ n ≤ 36028797018963967) → widS (c :: t) = (0, 3)) := ⟨fun h => by
          unfold widS
          rw [if_neg]
          rw [HV.out, hcut]
          exact hfar h⟩
        have HSN := Keep.keep hsn
        clear hsn hcut hfar hdr hdd
        by_cases hin : -36028797018963968 ≤ n ∧ n ≤ 36028797018963967
        · obtain ⟨hi0, hi1⟩ := hin
          have hor : bits .or .i64 (n * 256) (d.toNat : Int) = n * 256 + (d.toNat : Int) := by
            rw [or_low (n * 256) d.toNat 8 (by decide) (by simp) (by omega) (by simp; omega), IntWalk.i64_in _ (by omega)]
          have hwn : IntKind.i64.wrap (n * 256) = n * 256 := IntWalk.i64_in _ (by omega)
          clear HFAR
          by_cases hz : 0 ≤ n
          · have hq : n / 36028797018963968 = 0 := by omega
            go_wp2_with fail
            go_roundg g
            case measure => omega
            case rel => exact ⟨i + 1, _, by omega, by simp, rfl, HSN.out, by omega, by omega, rfl⟩
          · have hq : n / 36028797018963968 = -1 := by omega
            go_wp2_with fail
            go_roundg g
            case measure => omega
            case rel => exact ⟨i + 1, _, by omega, by simp, rfl, HSN.out, by omega, by omega, rfl⟩
        · have HE : Keep (widS (c :: t) = (0, 3)) := ⟨HFAR.out hin⟩
          obtain ⟨q, hq⟩ : ∃ q, n / 36028797018963968 = q := ⟨_, rfl⟩
          have hq0 : (q != 0) = true := by rw [bne_iff_ne]; omega
          have hq1 : (q != -1) = true := by rw [bne_iff_ne]; omega
          clear HFAR hin
          go_wp2_with fail
          go_ret2
          exact ⟨by rw [HE.out]; rfl, rfl⟩
      · obtain rfl : i = t.length := by omega
        have hn := HN.out
        rw [List.take_length, ← HV.out] at hn
        have HE : Keep (widS (c :: t) = (n, 0)) := ⟨by unfold widS; rw [hn, if_pos ⟨hn0, hn1⟩]⟩
        clear hn
        go_wp2_with fail
        go_ret2
        exact ⟨by rw [HE.out]; rfl, rfl⟩
  · have hd : decide ((64 : Int) ≤ (f : Int)) = false := decide_eq_false (by omega)
    have hd' : decide (64 ≤ f) = false := decide_eq_false h64
    rw [if_neg h64] at hff
    go_enter Tryd.func36, Tryd.ntmps36
    go_wp2_with fail
    go_loopg [5, 7, 21] t.length (fun g u5 _ u21 wx => ∃ (i : Nat) (n : Int), i + g = t.length ∧ u21 = .int .i64 (i : Int) ∧ u5 = .int .i64 n ∧ (t.take i).foldl stepW (first7 c) = n ∧ -9223372036854775808 ≤ n ∧ n ≤ 9223372036854775807 ∧ wx = w)
    case atStart => exact ⟨0, _, by omega, rfl, rfl, hff, by omega, by omega, rfl⟩
    case round =>
      obtain ⟨i, n, hig, rfl, rfl, hn, hn0, hn1, rfl⟩ := hrel
      have HN := Keep.keep hn
      clear hn hff hc0 hand
      by_cases hi : i < t.length
      · obtain ⟨g, rfl⟩ : ∃ g, gk = g + 1 := ⟨gk - 1, by omega⟩
        obtain ⟨b2, off2, ha2, hcell⟩ := reads_at HRT.out hi
        subst ha2
        have hdi : decide ((i : Int) < (t.length : Int)) = true := decide_eq_true (by omega)
        have hsn := foldW_snoc t (first7 c) i hi
        rw [HN.out] at hsn
        have hcut := foldW_cut t (first7 c) i
        rw [HN.out] at hcut
        have hdr : t.drop i ≠ [] := by
          intro e
          have := congrArg List.length e
          simp at this
          omega
        obtain ⟨d, hdd⟩ : ∃ d, t[i] = d := ⟨_, rfl⟩
        rw [hdd] at hsn hcell
        have hd256 : d.toNat < 256 := d.toNat_lt
        have hfar := far_off (t.drop i) n hdr
        have HFAR : Keep (¬ (-36028797018963968 ≤ n ∧ n ≤ 36028797018963967) → widS (c :: t) = (0, 3)) := ⟨fun h => by
          unfold widS
          rw [if_neg]
          rw [HV.out, hcut]
          exact hfar h⟩
        have HSN := Keep.keep hsn
        clear hsn hcut hfar hdr hdd
        by_cases hin : -36028797018963968 ≤ n ∧ n ≤ 36028797018963967
        · obtain ⟨hi0, hi1⟩ := hin
          have hor : bits .or .i64 (n * 256) (d.toNat : Int) = n * 256 + (d.toNat : Int) := by
            rw [or_low (n * 256) d.toNat 8 (by decide) (by simp) (by omega) (by simp; omega), IntWalk.i64_in _ (by omega)]
          have hwn : IntKind.i64.wrap (n * 256) = n * 256 := IntWalk.i64_in _ (by omega)
          clear HFAR
          by_cases hz : 0 ≤ n
          · have hq : n / 36028797018963968 = 0 := by omega
            go_wp2_with fail
            go_roundg g
            case measure => omega
            case rel => exact ⟨i + 1, _, by omega, by simp, rfl, HSN.out, by omega, by omega, rfl⟩
          · have hq : n / 36028797018963968 = -1 := by omega
            go_wp2_with fail
            go_roundg g
            case measure => omega
            case rel => exact ⟨i + 1, _, by omega, by simp, rfl, HSN.out, by omega, by omega, rfl⟩
        · have HE : Keep (widS (c :: t) = (0, 3)) := ⟨HFAR.out hin⟩
          obtain ⟨q, hq⟩ : ∃ q, n / 36028797018963968 = q := ⟨_, rfl⟩
          have hq0 : (q != 0) = true := by rw [bne_iff_ne]; omega
          have hq1 : (q != -1) = true := by rw [bne_iff_ne]; omega
          clear HFAR hin
          go_wp2_with fail
          go_ret2
          exact ⟨by rw [HE.out]; rfl, rfl⟩
      · obtain rfl : i = t.length := by omega
        have hn := HN.out
        rw [List.take_length, ← HV.out] at hn
        have HE : Keep (widS (c :: t) = (n, 0)) := ⟨by unfold widS; rw [hn, if_pos ⟨hn0, hn1⟩]⟩
        clear hn
        go_wp2_with fail
        go_ret2
        exact ⟨by rw [HE.out]; rfl, rfl⟩
end Go.Proofs.YtohballfhhndbaaDoor
