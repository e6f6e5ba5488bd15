/- field.Octal; portolanref09.Octal. -/
import Derived.Test.YtohballfhhndbaaDoorFldFmt
import Derived.Test.YtohballfhhndbaaDoorConvS
import Derived.Test.YtohballfhhndbaaDoorIns
namespace Go.Proofs.YtohballfhhndbaaDoor
open Go.RowKit
/-- blocks laid since w -/
abbrev NewIn (w w' : World) (b : Nat) : Prop := w.heap.size ≤ b ∧ b < w'.heap.size
theorem Reads.none {w : World} {N : Nat → Prop} : Reads w N (.slice none 0 0) [] :=
  ⟨⟨_, 0, rfl, Nat.le_refl _, by unfold maxLen; omega, .inl ⟨rfl, rfl⟩⟩, fun b off n cap he j hj => by injection he with e1; cases e1⟩
theorem fits_any (many : Int) (w : World) : Calls Tryd.prog 32 #[.int .i64 many] w fun e w' => e = .returned (.bool (decide (2 ≤ many) && decide (many ≤ 20))) ∧ w = w' := by
  go_enter Tryd.func32, Tryd.ntmps32
  by_cases h : 2 ≤ many
  · have hd : decide (2 ≤ many) = true := decide_eq_true h
    go_wp2_with fail
    go_ret
    exact ⟨by first | rfl | simp [h], rfl⟩
  · have hd : decide (2 ≤ many) = false := decide_eq_false h
    go_wp2_with fail
    go_ret
    exact ⟨rfl, rfl⟩
set_option maxHeartbeats 1000000 in
set_option maxRecDepth 100000 in
theorem octal_any (n many : Int) (h0 : -9223372036854775808 ≤ n) (h1 : n ≤ 9223372036854775807) (B : Nat) (w : World) (hB : B ≤ w.heap.size) (hT : Tz B w) :
    Calls Tryd.prog 10 #[.int .i64 n, .int .i64 many] w fun e w' => ∃ v, e = .returned (.tuple #[v, .int .i64 (octS n many).2]) ∧ Reads w' (NewIn w w') v (octS n many).1 ∧ Below w.heap.size w w' := by
  have HF := Keep.keep (fun w => fits_any many w)
  by_cases hm : many < 2 ∨ 20 < many
  · have hs : octS n many = ([], 1) := by unfold octS; rw [if_pos hm]
    have hb : (decide (2 ≤ many) && decide (many ≤ 20)) = false := by
      rcases hm with h | h
      · rw [decide_eq_false (by omega)]; rfl
      · rw [decide_eq_false (p := many ≤ 20) (by omega), Bool.and_false]
    rw [hb] at HF
    rw [hs]
    clear hs hb hm
    go_enter Tryd.func10, Tryd.ntmps10
    go_wp2_with (go_at_call 32; ((with_reducible refine (HF.out _).mono ?_); rintro e w1 ⟨rfl, rfl⟩))
    go_ret2
    exact ⟨_, rfl, Reads.none, Below.refl _ _⟩
  · obtain ⟨k, rfl⟩ : ∃ k : Nat, many = (k : Int) + 1 := ⟨(many - 1).toNat, by omega⟩
    have hk1 : 1 ≤ k := by omega
    have hk2 : k ≤ 19 := by omega
    have hb : (decide (2 ≤ (k : Int) + 1) && decide ((k : Int) + 1 ≤ 20)) = true := by
      rw [decide_eq_true (by omega), decide_eq_true (by omega)]; rfl
    have hkt : ((k : Int) + 1).toNat - 1 = k := by omega
    rw [hb] at HF
    by_cases hn : n < 0
    · have hs : octS n ((k : Int) + 1) = ([], 3) := by unfold octS; rw [if_neg hm, if_pos (.inl hn)]
      rw [hs]
      have HM := Keep.keep (fmt_neg n hn h0 B w hB hT)
      have hd : decide (n < 0) = true := decide_eq_true hn
      clear hs hb hm hn
      go_enter Tryd.func10, Tryd.ntmps10
      go_wp2_with (first
        | (go_at_call 32; ((with_reducible refine (HF.out _).mono ?_); rintro e w1 ⟨rfl, rfl⟩))
        | (go_at_call 33; ((with_reducible refine HM.out.mono ?_); rintro e w1 ⟨l, rfl, hb1⟩)))
      go_ret2
      exact ⟨_, rfl, Reads.none, hb1⟩
    · obtain ⟨x, rfl⟩ : ∃ x : Nat, n = (x : Int) := ⟨n.toNat, by omega⟩
      have hs : octS (x : Int) ((k : Int) + 1) = if 8 ^ k ≤ x then ([], 3) else (octK k x ++ [0], 0) := by
        unfold octS
        rw [if_neg hm, hkt, Int.toNat_natCast]
        by_cases h : 8 ^ k ≤ x
        · rw [if_pos (.inr h), if_pos h]
        · rw [if_neg (by rintro (h' | h'); exact hn h'; exact h h'), if_neg h]
      have HS := Keep.keep hs
      have HM := Keep.keep (fmt_pos x (by omega) B w hB hT)
      have hd : decide ((x : Int) < 0) = false := decide_eq_false hn
      clear hs hb hm hn
      go_enter Tryd.func10, Tryd.ntmps10
      go_wp2_with (go_at_call 32; ((with_reducible refine (HF.out _).mono ?_); rintro e w1 ⟨rfl, rfl⟩))
      refine HM.out.mono ?_
      rintro e w1 ⟨m, rfl, hx1, hx2, hb1⟩
      have HB1 := Keep.keep hb1
      have HX1 := Keep.keep hx1; have HX2 := Keep.keep hx2
      clear hb1 hx1 hx2
      obtain ⟨t, ht⟩ : ∃ t, octK (m + 1) x = t := ⟨_, rfl⟩
      have htl : t.length = m + 1 := by rw [← ht, octK_length]
      have hts : (⟨t.toArray⟩ : ByteArray).size = m + 1 := htl
      rw [ht]
      have HTT := Keep.keep ht
      clear ht
      by_cases hmk : k < m + 1
      · have hs2 : octS (x : Int) ((k : Int) + 1) = ([], 3) := by
          rw [HS.out, if_pos]
          rcases HX2.out with h | h
          · omega
          · exact Nat.le_trans (Nat.pow_le_pow_right (by decide) (by omega)) h
        have HS2 := Keep.keep hs2
        have hd2 : decide ((k : Int) < (m : Int) + 1) = true := decide_eq_true (by omega)
        clear hs2
        go_wp2_with fail
        go_ret2
        exact ⟨_, by rw [HS2.out]; rfl, by rw [HS2.out]; exact Reads.none, HB1.out⟩
      · obtain ⟨c, hc⟩ : ∃ c : Nat, c + (m + 1) = k := ⟨k - (m + 1), by omega⟩
        have hkx : x < 8 ^ k := Nat.lt_of_lt_of_le HX1.out (Nat.pow_le_pow_right (by decide) (by omega))
        have hs2 : octS (x : Int) ((k : Int) + 1) = (octK k x ++ [0], 0) := by rw [HS.out, if_neg (by omega)]
        have ho : octK k x = List.replicate c 48 ++ t := by rw [← HTT.out, ← hc]; exact octK_pad (m + 1) c x HX1.out
        rw [ho, List.append_assoc] at hs2
        have hd2 : decide ((k : Int) < (m : Int) + 1) = false := decide_eq_false (by omega)
        have hkc : (k : Int) - ((m : Int) + 1) = (c : Int) := by omega
        have HR := Keep.keep (fun (w : World) => Tryd.strings_Repeat ⟨#[48]⟩ c w (by omega) (by show 1 * c ≤ _; omega))
        have hrl : Lib.repeatL (⟨#[48]⟩ : ByteArray).data.toList c = List.replicate c 48 := by
          have := Lib.repeatL_replicate 48 1 c
          rw [Nat.mul_one] at this
          exact this
        rw [hrl] at HR
        have hrs : (List.replicate c (48 : UInt8)).length = c := List.length_replicate
        generalize List.replicate c (48 : UInt8) = z at *
        have k1 := run_cat (P := Tryd.prog) z t (by omega)
        have k2 := run_cat (P := Tryd.prog) (z ++ t) [0] (by simp; omega)
        obtain ⟨cf, rf, mf, hcv, hcr⟩ := convS (z ++ (t ++ [0])) (k + 1) (by simp; omega) (by unfold maxLen; simp; omega)
        have HCR := Keep.keep hcr
        have HS2 := Keep.keep hs2
        clear hs2 ho hkx hrl hcr
        go_wp2_with (go_at_call 34; ((with_reducible refine (HR.out _).mono ?_); rintro e w2 ⟨rfl, hb2⟩))
        go_ret2
        have hB2 := HB1.out.trans (hb2.mono HB1.out.size)
        exact ⟨_, by rw [HS2.out]; rfl, by rw [HS2.out]; exact (HCR.out w2).mono (fun b hb => ⟨by rw [hb]; exact hB2.size, by rw [hb]; simp⟩), hB2.drew.alloc hB2.size _⟩
end Go.Proofs.YtohballfhhndbaaDoor
