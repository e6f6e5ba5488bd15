/- portolanref10: Number. -/
import Derived.Test.YtlhjehcfpnjbmaaDoorPaxRNum
namespace Go.Proofs.YtlhjehcfpnjbmaaDoor
open Go.RowKit
theorem dv_go {n : Nat} {c : UInt8} {l : List UInt8} (h : 48 ≤ c.toNat ∧ c.toNat ≤ 57) : dv n (c :: l) = dv (10 * n + (c.toNat - 48)) l := by simp only [dv, h]; rfl
theorem dv_stop {n : Nat} {c : UInt8} {l : List UInt8} (h : ¬ (48 ≤ c.toNat ∧ c.toNat ≤ 57)) : dv n (c :: l) = none := by simp only [dv, h, if_false]
/-- what is left when the sign has been seen -/
def refQ (l : List UInt8) (f : Nat) : Option Int :=
  match dv 0 (l.drop f) with
  | none => none
  | some n => if (f = 0 ∧ 9223372036854775807 < n) ∨ 9223372036854775808 < n then none
      else if Lib.itoa (if f = 1 then -(n : Int) else n) = l then some (if f = 1 then -(n : Int) else n) else none
theorem refP_Q (l : List UInt8) : refP l = if l.length = frm l ∨ 19 < l.length - frm l then none else refQ l (frm l) := rfl
set_option maxHeartbeats 1000000 in
set_option maxRecDepth 100000 in
theorem rnum_any (l : List UInt8) (hl : l.length ≤ 30) (w : World) :
    Calls Tryd.prog 19 #[.string ⟨l.toArray⟩] w fun e w' => e = .returned (numV (refP l)) ∧ Below w.heap.size w w' := by
  obtain ⟨o, ho⟩ : ∃ o, refP l = o := ⟨_, rfl⟩
  rw [ho]
  rw [refP_Q] at ho
  have HTX := Keep.keep (fun (v : Int) (h0 : -9223372036854775808 ≤ v) (h1 : v ≤ 9223372036854775807) (wx : World) => rtext_any v h0 h1 wx)
  cases hle : l with
  | nil =>
    subst hle
    have hf : frm [] = 0 := rfl
    rw [hf, if_pos (.inl rfl)] at ho
    subst ho
    go_enter Tryd.func19, Tryd.ntmps19
    go_wp2_with fail
    go_ret2
    exact ⟨rfl, Below.refl _ _⟩
  | cons c0 l' =>
  rw [← hle]
  have hl0 : 0 < l.length := by rw [hle]; simp
  have hc0 : l[0]? = some c0 := by rw [hle]; rfl
  have hfr : frm l = if c0 = 45 then 1 else 0 := by rw [hle]; unfold frm; simp
  have hg0 : (⟨l.toArray⟩ : ByteArray)[0]'hl0 = c0 := by
    have h : l[0] = c0 := by rw [List.getElem?_eq_getElem hl0] at hc0; injection hc0
    exact h
  clear hle hc0
  obtain ⟨f, hf⟩ : ∃ f, frm l = f := ⟨_, rfl⟩
  rw [hf] at ho hfr
  have hc45 : ((c0.toNat : Int) == 45) = decide (c0 = 45) := by
    rw [Bool.eq_iff_iff, beq_iff_eq, decide_eq_true_eq]
    constructor
    · intro e; exact UInt8.toNat_inj.1 (by have : c0.toNat = 45 := by omega
                                           rw [this]; rfl)
    · intro e; rw [e]; rfl
  have hf01 : (decide (c0 = 45) = true ∧ f = 1) ∨ (decide (c0 = 45) = false ∧ f = 0) := by
    by_cases h : c0 = 45
    · left; exact ⟨decide_eq_true h, by rw [hfr, if_pos h]⟩
    · right; exact ⟨decide_eq_false h, by rw [hfr, if_neg h]⟩
  clear hfr hf
  generalize decide (c0 = 45) = neg at *
  have HO := Keep.keep ho
  clear ho
  rcases hf01 with ⟨rfl, rfl⟩ | ⟨rfl, rfl⟩
  · by_cases hln : l.length = 1 ∨ 19 < l.length - 1
    · have ho := HO.out
      rw [if_pos hln] at ho
      subst ho
      by_cases hl1 : l.length = 1
      · have hd1 : ((l.length : Int) == 1) = true := by rw [beq_iff_eq]; omega
        clear hln hl1
        go_enter Tryd.func19, Tryd.ntmps19
        go_wp2_with fail
        go_ret2
        exact ⟨rfl, Below.refl _ _⟩
      · have hd1 : ((l.length : Int) == 1) = false := by rw [beq_eq_false_iff_ne]; omega
        have hd2 : decide (19 < (l.length : Int) - 1) = true := decide_eq_true (by omega)
        clear hln hl1
        go_enter Tryd.func19, Tryd.ntmps19
        go_wp2_with fail
        go_ret2
        exact ⟨rfl, Below.refl _ _⟩
    · have hd1 : ((l.length : Int) == 1) = false := by rw [beq_eq_false_iff_ne]; omega
      have hd2 : decide (19 < (l.length : Int) - 1) = false := decide_eq_false (by omega)
      have ho := HO.out
      rw [if_neg hln] at ho
      have HO := Keep.keep ho
      have hl19 : l.length ≤ 20 := by omega
      have hl1 : 1 < l.length := by omega
      clear hln ho
      go_enter Tryd.func19, Tryd.ntmps19
      go_wp2_with fail
      go_loopg [5, 6] l.length (fun g u5 u6 wx => ∃ i n : Nat, i + g = l.length + 1 ∧ 1 ≤ i ∧ i ≤ l.length ∧ u5 = .int .u64 (n : Int) ∧ u6 = .int .i64 (i : Int) ∧ n < 10 ^ (i - 1) ∧ dv n (l.drop i) = dv 0 (l.drop 1) ∧ wx = w)
      case atStart => exact ⟨1, 0, by omega, by omega, by omega, rfl, rfl, by decide, rfl, rfl⟩
      case round =>
        obtain ⟨i, n, hig, hi1, hil, rfl, rfl, hn, hdv, rfl⟩ := hrel
        have HN := Keep.keep hn; have HDV := Keep.keep hdv
        have hn19 : n < 10000000000000000000 := by
          have : (10:Nat) ^ (i - 1) ≤ 10 ^ 19 := Nat.pow_le_pow_right (by omega) (by omega)
          omega
        clear hn hdv
        by_cases hlt : i < l.length
        · obtain ⟨c, hc⟩ : ∃ c, l[i] = c := ⟨_, rfl⟩
          have hgi : (⟨l.toArray⟩ : ByteArray)[i]'hlt = c := hc
          have hdr : l.drop i = c :: l.drop (i + 1) := by rw [← hc]; exact List.drop_eq_getElem_cons hlt
          rw [hdr] at HDV
          clear hc hdr
          have hcb := c.toNat_lt
          have hdi : decide ((i : Int) < (l.length : Int)) = true := decide_eq_true (by omega)
          by_cases h1 : c.toNat < 48
          · have hd3 : decide ((c.toNat : Int) < 48) = true := decide_eq_true (by omega)
            have hq : o = none := by
              have := HDV.out
              rw [dv_stop (by omega)] at this
              rw [← HO.out, refQ, ← this]
            have HQ := Keep.keep hq
            clear hq
            go_wp2_with fail
            go_ret2
            exact ⟨by rw [HQ.out]; rfl, Below.refl _ _⟩
          · have hd3 : decide ((c.toNat : Int) < 48) = false := decide_eq_false (by omega)
            by_cases h2 : 57 < c.toNat
            · have hd4 : decide ((57 : Int) < (c.toNat : Int)) = true := decide_eq_true (by omega)
              have hq : o = none := by
                have := HDV.out
                rw [dv_stop (by omega)] at this
                rw [← HO.out, refQ, ← this]
              have HQ := Keep.keep hq
              clear hq
              go_wp2_with fail
              go_ret2
              exact ⟨by rw [HQ.out]; rfl, Below.refl _ _⟩
            · have hd4 : decide ((57 : Int) < (c.toNat : Int)) = false := decide_eq_false (by omega)
              have hgo := HDV.out
              rw [dv_go (by omega)] at hgo
              have HGO := Keep.keep hgo
              clear hgo
              obtain ⟨g, rfl⟩ : ∃ g, gk = g + 1 := ⟨gk - 1, by omega⟩
              have hn18 : n < 1000000000000000000 := by
                have h3 := HN.out
                have : (10:Nat) ^ (i - 1) ≤ 10 ^ 18 := Nat.pow_le_pow_right (by omega) (by omega)
                omega
              go_wp2_with fail
              go_roundg g
              case measure => omega
              case rel =>
                refine ⟨i + 1, 10 * n + (c.toNat - 48), by omega, by omega, by omega, by simp; omega, by simp, ?_, HGO.out, rfl⟩
                have h3 := HN.out
                rw [show i + 1 - 1 = (i - 1) + 1 by omega, Nat.pow_succ]
                omega
        · obtain rfl : i = l.length := by omega
          have hdv2 := HDV.out
          rw [List.drop_length] at hdv2
          have ho := HO.out
          unfold refQ at ho
          rw [← hdv2] at ho
          simp only [dv] at ho
          by_cases hbig : 9223372036854775808 < n
          · have hdb : decide ((9223372036854775808 : Int) < (n : Int)) = true := decide_eq_true (by omega)
            rw [if_pos (.inr hbig)] at ho
            subst ho
            clear hbig hdv2
            go_wp2_with fail
            go_ret2
            exact ⟨rfl, Below.refl _ _⟩
          · have hdb : decide ((9223372036854775808 : Int) < (n : Int)) = false := decide_eq_false (by omega)
            rw [if_neg (by omega), if_pos trivial] at ho
            have HT := Keep.keep (HTX.out (-(n : Int)) (by omega) (by omega) wr)
            have HO := Keep.keep ho
            clear ho hdv2
            rcases Nat.eq_zero_or_pos n with rfl | hn1
            · have e0 : -((0 : Nat) : Int) = 0 := rfl
              rw [e0] at HT HO
              have ew : wrap64 (wrap64 (-wrap64 (IntKind.u64.wrap (-1))) - 1) = 0 := by decide +kernel
              generalize Lib.itoa 0 = t at *
              by_cases htl : t = l
              · have hbe : (t == l) = true := by rw [htl]; exact beq_self_eq_true l
                have HTL := Keep.keep htl
                clear htl
                go_wp2_with (go_at_call 20; ((with_reducible refine HT.out.mono ?_); rintro e w2 ⟨rfl, hb2⟩))
                go_ret2
                have ho := HO.out
                rw [if_pos HTL.out] at ho
                subst ho
                exact ⟨rfl, hb2⟩
              · have hbe : (t == l) = false := beq_eq_false_iff_ne.2 htl
                have HTL := Keep.keep htl
                clear htl
                go_wp2_with (go_at_call 20; ((with_reducible refine HT.out.mono ?_); rintro e w2 ⟨rfl, hb2⟩))
                go_ret2
                have ho := HO.out
                rw [if_neg HTL.out] at ho
                subst ho
                exact ⟨rfl, hb2⟩
            · have e1 : -((n : Int) - 1) - 1 = -(n : Int) := by omega
              generalize Lib.itoa (-(n : Int)) = t at *
              by_cases htl : t = l
              · have hbe : (t == l) = true := by rw [htl]; exact beq_self_eq_true l
                have HTL := Keep.keep htl
                clear htl
                go_wp2_with (go_at_call 20; ((with_reducible refine HT.out.mono ?_); rintro e w2 ⟨rfl, hb2⟩))
                go_ret2
                have ho := HO.out
                rw [if_pos HTL.out] at ho
                subst ho
                exact ⟨rfl, hb2⟩
              · have hbe : (t == l) = false := beq_eq_false_iff_ne.2 htl
                have HTL := Keep.keep htl
                clear htl
                go_wp2_with (go_at_call 20; ((with_reducible refine HT.out.mono ?_); rintro e w2 ⟨rfl, hb2⟩))
                go_ret2
                have ho := HO.out
                rw [if_neg HTL.out] at ho
                subst ho
                exact ⟨rfl, hb2⟩
  · by_cases hln : l.length = 0 ∨ 19 < l.length - 0
    · have ho := HO.out
      rw [if_pos hln] at ho
      subst ho
      by_cases hl1 : l.length = 0
      · omega
      · have hd1 : ((l.length : Int) == 0) = false := by rw [beq_eq_false_iff_ne]; omega
        have hd2 : decide (19 < (l.length : Int)) = true := decide_eq_true (by omega)
        clear hln hl1
        go_enter Tryd.func19, Tryd.ntmps19
        go_wp2_with fail
        go_ret2
        exact ⟨rfl, Below.refl _ _⟩
    · have hd1 : ((l.length : Int) == 0) = false := by rw [beq_eq_false_iff_ne]; omega
      have hd2 : decide (19 < (l.length : Int)) = false := decide_eq_false (by omega)
      have ho := HO.out
      rw [if_neg hln] at ho
      have HO := Keep.keep ho
      have hl19 : l.length ≤ 19 := by omega
      have hl1 : 0 < l.length := by omega
      clear hln ho
      go_enter Tryd.func19, Tryd.ntmps19
      go_wp2_with fail
      go_loopg [5, 6] l.length (fun g u5 u6 wx => ∃ i n : Nat, i + g = l.length + 0 ∧ 0 ≤ i ∧ i ≤ l.length ∧ u5 = .int .u64 (n : Int) ∧ u6 = .int .i64 (i : Int) ∧ n < 10 ^ (i - 0) ∧ dv n (l.drop i) = dv 0 (l.drop 0) ∧ wx = w)
      case atStart => exact ⟨0, 0, by omega, by omega, by omega, rfl, rfl, by decide, rfl, rfl⟩
      case round =>
        obtain ⟨i, n, hig, hi1, hil, rfl, rfl, hn, hdv, rfl⟩ := hrel
        have HN := Keep.keep hn; have HDV := Keep.keep hdv
        have hn19 : n < 10000000000000000000 := by
          have : (10:Nat) ^ (i - 0) ≤ 10 ^ 19 := Nat.pow_le_pow_right (by omega) (by omega)
          omega
        clear hn hdv
        by_cases hlt : i < l.length
        · obtain ⟨c, hc⟩ : ∃ c, l[i] = c := ⟨_, rfl⟩
          have hgi : (⟨l.toArray⟩ : ByteArray)[i]'hlt = c := hc
          have hdr : l.drop i = c :: l.drop (i + 1) := by rw [← hc]; exact List.drop_eq_getElem_cons hlt
          rw [hdr] at HDV
          clear hc hdr
          have hcb := c.toNat_lt
          have hdi : decide ((i : Int) < (l.length : Int)) = true := decide_eq_true (by omega)
          by_cases h1 : c.toNat < 48
          · have hd3 : decide ((c.toNat : Int) < 48) = true := decide_eq_true (by omega)
            have hq : o = none := by
              have := HDV.out
              rw [dv_stop (by omega)] at this
              rw [← HO.out, refQ, ← this]
            have HQ := Keep.keep hq
            clear hq
            go_wp2_with fail
            go_ret2
            exact ⟨by rw [HQ.out]; rfl, Below.refl _ _⟩
          · have hd3 : decide ((c.toNat : Int) < 48) = false := decide_eq_false (by omega)
            by_cases h2 : 57 < c.toNat
            · have hd4 : decide ((57 : Int) < (c.toNat : Int)) = true := decide_eq_true (by omega)
              have hq : o = none := by
                have := HDV.out
                rw [dv_stop (by omega)] at this
                rw [← HO.out, refQ, ← this]
              have HQ := Keep.keep hq
              clear hq
              go_wp2_with fail
              go_ret2
              exact ⟨by rw [HQ.out]; rfl, Below.refl _ _⟩
            · have hd4 : decide ((57 : Int) < (c.toNat : Int)) = false := decide_eq_false (by omega)
              have hgo := HDV.out
              rw [dv_go (by omega)] at hgo
              have HGO := Keep.keep hgo
              clear hgo
              obtain ⟨g, rfl⟩ : ∃ g, gk = g + 1 := ⟨gk - 1, by omega⟩
              have hn18 : n < 1000000000000000000 := by
                have h3 := HN.out
                have : (10:Nat) ^ (i - 0) ≤ 10 ^ 18 := Nat.pow_le_pow_right (by omega) (by omega)
                omega
              go_wp2_with fail
              go_roundg g
              case measure => omega
              case rel =>
                refine ⟨i + 1, 10 * n + (c.toNat - 48), by omega, by omega, by omega, by simp; omega, by simp, ?_, HGO.out, rfl⟩
                have h3 := HN.out
                rw [show i + 1 - 0 = (i - 0) + 1 by omega, Nat.pow_succ]
                omega
        · obtain rfl : i = l.length := by omega
          have hdv2 := HDV.out
          rw [List.drop_length] at hdv2
          have ho := HO.out
          unfold refQ at ho
          rw [← hdv2] at ho
          simp only [dv] at ho
          by_cases hbig : 9223372036854775807 < n
          · have hdb : decide ((9223372036854775807 : Int) < (n : Int)) = true := decide_eq_true (by omega)
            rw [if_pos (.inl ⟨trivial, hbig⟩)] at ho
            subst ho
            clear hbig hdv2
            go_wp2_with fail
            go_ret2
            exact ⟨rfl, Below.refl _ _⟩
          · have hdb : decide ((9223372036854775807 : Int) < (n : Int)) = false := decide_eq_false (by omega)
            have hdb2 : decide ((9223372036854775808 : Int) < (n : Int)) = false := decide_eq_false (by omega)
            rw [if_neg (by rintro (⟨_, h⟩ | h) <;> omega)] at ho
            have h01 : ((0 : Nat) = 1) = False := by simp
            simp only [h01, if_false] at ho
            clear h01
            have HT := Keep.keep (HTX.out (n : Int) (by omega) (by omega) wr)
            have HO := Keep.keep ho
            clear ho hdv2
            generalize Lib.itoa (n : Int) = t at *
            by_cases htl : t = l
            · have hbe : (t == l) = true := by rw [htl]; exact beq_self_eq_true l
              have HTL := Keep.keep htl
              clear htl
              go_wp2_with (go_at_call 20; ((with_reducible refine HT.out.mono ?_); rintro e w2 ⟨rfl, hb2⟩))
              go_ret2
              have ho := HO.out
              rw [if_pos HTL.out] at ho
              subst ho
              exact ⟨rfl, hb2⟩
            · have hbe : (t == l) = false := beq_eq_false_iff_ne.2 htl
              have HTL := Keep.keep htl
              clear htl
              go_wp2_with (go_at_call 20; ((with_reducible refine HT.out.mono ?_); rintro e w2 ⟨rfl, hb2⟩))
              go_ret2
              have ho := HO.out
              rw [if_neg HTL.out] at ho
              subst ho
              exact ⟨rfl, hb2⟩
end Go.Proofs.YtlhjehcfpnjbmaaDoor
