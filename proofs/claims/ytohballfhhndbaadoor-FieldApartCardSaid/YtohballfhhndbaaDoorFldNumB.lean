/- bytes.TrimLeft at one byte; field.octal, Number. -/
import Derived.Test.YtohballfhhndbaaDoorFldNum
namespace Go.Proofs.YtohballfhhndbaaDoor
open Go.RowKit
set_option maxHeartbeats 1000000 in
set_option maxRecDepth 100000 in
theorem trimb_any (v : Value) (l : List UInt8) (c : UInt8) (N : Nat → Prop) (w : World) (hr : Reads w N v l) (hl : l.length ≤ 1000000000) :
    Calls Tryd.prog 66 #[v, .int .u8 (c.toNat : Int)] w fun e w' => (∃ v', e = .returned v' ∧ Reads w N v' (l.dropWhile (· == c))) ∧ w = w' := by
  obtain ⟨a, cap, rfl, hcap, hmx, -⟩ := hr.shape
  have HR := Keep.keep hr
  clear hr
  go_enter Tryd.func66, Tryd.ntmps66
  go_wp2_with fail
  go_loopg [0] l.length (fun g u0 wx => ∃ (m : List UInt8) (a' : Option Addr) (cap' : Nat), m.length = g ∧ u0 = .slice a' m.length cap' ∧ Reads w N (.slice a' m.length cap') m ∧ l.dropWhile (· == c) = m.dropWhile (· == c) ∧ m.length ≤ l.length ∧ wx = w)
  case atStart => exact ⟨l, a, cap, rfl, rfl, HR.out, rfl, Nat.le_refl _, rfl⟩
  case round =>
    obtain ⟨m, a', cap', hmg, rfl, hm, hdw, hml, rfl⟩ := hrel
    have HM := Keep.keep hm; have HD := Keep.keep hdw; have HMG := Keep.keep hmg; have HML := Keep.keep hml
    clear hm hdw hmg hml
    cases m with
    | nil =>
      go_wp2_with fail
      go_ret
      exact ⟨⟨_, rfl, by rw [HD.out]; exact Reads.none⟩, rfl⟩
    | cons d r =>
      obtain ⟨b, off, rfl, hcell⟩ := reads_at HM.out (i := 0) (by simp)
      simp only [List.getElem_cons_zero, Nat.add_zero] at hcell
      have hmc : r.length + 1 ≤ cap' := by
        obtain ⟨a0, c0, he, h1, _⟩ := HM.out.shape
        injection he with _ _ he
        subst he
        simpa using h1
      simp only [List.length_cons] at HMG HML HM ⊢
      have hrl : r.length ≤ 1000000000 := by have := HML.out; omega
      have hpos : decide ((0 : Int) < (r.length : Int) + 1) = true := decide_eq_true (by omega)
      by_cases hdc : d = c
      · subst hdc
        obtain ⟨a2, hsl, hsr⟩ := slice_from slU8 (some ⟨b, off, none⟩) (r.length + 1) cap' 1 .i64 (by omega) hmc
        have hrt := hsr wr _ _ HM.out
        simp only [List.drop_succ_cons, List.drop_zero, Nat.add_sub_cancel] at hrt hsl
        have hslz : ∀ w, (Instr.slice 22 (.slice (some ⟨b, off, none⟩) (r.length + 1) cap') (some (.int .i64 1)) none none).run Tryd.prog w = .ok (.slice a2 r.length (cap' - 1)) w := hsl
        have HRT := Keep.keep hrt
        clear hsl hsr hrt
        go_wp2_with fail
        go_roundg r.length
        case measure => rw [← HMG.out]; omega
        case rel => exact ⟨r, a2, cap' - 1, rfl, rfl, HRT.out, by rw [HD.out]; simp, by have := HML.out; omega, rfl⟩
      · have hne : ((d.toNat : Int) == (c.toNat : Int)) = false := by
          rw [beq_eq_false_iff_ne]; intro e; exact hdc (UInt8.toNat_inj.1 (by omega))
        have hz : (((r.length : Int) + 1) == 0) = false := by rw [beq_eq_false_iff_ne]; omega
        have hdd : (d == c) = false := beq_eq_false_iff_ne.2 hdc
        have HDD := Keep.keep hdd
        clear hdd hdc
        go_wp2_with fail
        go_ret
        exact ⟨⟨_, rfl, by rw [HD.out, List.dropWhile_cons, HDD.out]; exact HM.out⟩, rfl⟩
set_option maxHeartbeats 1000000 in
set_option maxRecDepth 100000 in
theorem triml_any (v : Value) (l : List UInt8) (N : Nat → Prop) (w : World) (hr : Reads w N v l) (hl : l.length ≤ 1000000000) :
    Calls Tryd.prog 52 #[v, .string ⟨#[32]⟩] w fun e w' => (∃ v', e = .returned v' ∧ Reads w N v' (l.dropWhile (· == 32))) ∧ w = w' := by
  obtain ⟨a, cap, rfl, hcap, hmx, -⟩ := hr.shape
  have HT := Keep.keep (trimb_any _ l 32 N w hr hl)
  clear hr
  cases l with
  | nil =>
    go_enter Tryd.func52, Tryd.ntmps52
    go_wp2_with fail
    go_ret
    exact ⟨⟨_, rfl, Reads.none⟩, rfl⟩
  | cons d r =>
    have hz : (((r.length : Int) + 1) == 0) = false := by rw [beq_eq_false_iff_ne]; omega
    simp only [List.length_cons] at HT ⊢
    go_enter Tryd.func52, Tryd.ntmps52
    go_wp2_with fail
    refine HT.out.mono ?_
    rintro e w1 ⟨⟨v', rfl, h1⟩, rfl⟩
    have H1 := Keep.keep h1
    clear h1
    go_wp2_with fail
    go_ret
    exact ⟨⟨_, rfl, H1.out⟩, rfl⟩
set_option maxHeartbeats 2000000 in
set_option maxRecDepth 100000 in
theorem octn_any (v : Value) (l : List UInt8) (w : World) (hr : Reads w (· < w.heap.size) v l) (hl : l.length ≤ 1000000000) :
    Calls Tryd.prog 37 #[v] w fun e w' => e = .returned (.tuple #[.int .i64 (octV 0 (l.dropWhile (· == 32))).1, .int .i64 (octV 0 (l.dropWhile (· == 32))).2]) ∧ w = w' := by
  have HT := Keep.keep (triml_any v l _ w hr hl)
  have hlm : (l.dropWhile (· == 32)).length ≤ 1000000000 := Nat.le_trans (List.dropWhile_suffix _).length_le hl
  generalize l.dropWhile (· == 32) = m at *
  clear hr hl
  go_enter Tryd.func37, Tryd.ntmps37
  go_wp2_with fail
  refine HT.out.mono ?_
  rintro e w1 ⟨⟨v', rfl, h1⟩, rfl⟩
  obtain ⟨a, cap, rfl, -, -, -⟩ := h1.shape
  have HR := Keep.keep h1
  clear h1 HT
  go_wp2_with fail
  go_loopg [4, 6, 11] m.length (fun g u4 _ u11 wx => ∃ (i : Nat) (n : Int), i + g = m.length ∧ u11 = .int .i64 (i : Int) ∧ u4 = .int .i64 n ∧ octV 0 m = octV n (m.drop i) ∧ -9223372036854775808 ≤ n ∧ n ≤ 9223372036854775807 ∧ wx = w)
  case atStart => exact ⟨0, 0, by omega, rfl, rfl, rfl, by omega, by omega, rfl⟩
  case round =>
    obtain ⟨i, n, hig, rfl, rfl, hn, hn0, hn1, rfl⟩ := hrel
    have HN := Keep.keep hn
    clear hn
    by_cases hi : i < m.length
    · obtain ⟨g, rfl⟩ : ∃ g, gk = g + 1 := ⟨gk - 1, by omega⟩
      obtain ⟨b2, off2, ha2, hcell⟩ := reads_at HR.out hi
      subst ha2
      have hdi : decide ((i : Int) < (m.length : Int)) = true := decide_eq_true (by omega)
      have hdr : m.drop i = m[i] :: m.drop (i + 1) := List.drop_eq_getElem_cons hi
      obtain ⟨c, hc⟩ : ∃ c, m[i] = c := ⟨_, rfl⟩
      rw [hc] at hdr hcell
      have hc256 : c.toNat < 256 := c.toNat_lt
      have hv : octV n (m.drop i) = if c = 32 ∨ c = 0 then (n, 0) else if c.toNat < 48 ∨ 55 < c.toNat then (0, 5) else octV (IntKind.i64.wrap (IntKind.i64.wrap (8 * n) + (c.toNat - 48 : Int))) (m.drop (i + 1)) := by rw [hdr]; rfl
      rw [← HN.out] at hv
      have ef : ∀ k : UInt8, c ≠ k → ((c.toNat : Int) == (k.toNat : Int)) = false := fun k h => by
        rw [beq_eq_false_iff_ne]; intro e; exact h (UInt8.toNat_inj.1 (by omega))
      clear hdr hc
      by_cases h32 : c = 32
      · have HE : Keep (octV 0 m = (n, 0)) := ⟨by rw [hv, if_pos (.inl h32)]⟩
        have hd : ((c.toNat : Int) == 32) = true := by rw [h32]; rfl
        clear hv ef h32
        go_wp2_with fail
        go_ret2
        exact ⟨by rw [HE.out]; rfl, rfl⟩
      · have hd : ((c.toNat : Int) == 32) = false := ef 32 h32
        by_cases h0 : c = 0
        · have HE : Keep (octV 0 m = (n, 0)) := ⟨by rw [hv, if_pos (.inr h0)]⟩
          have hd0 : ((c.toNat : Int) == 0) = true := by rw [h0]; rfl
          clear hv ef h32 h0
          go_wp2_with fail
          go_ret2
          exact ⟨by rw [HE.out]; rfl, rfl⟩
        · have hd0 : ((c.toNat : Int) == 0) = false := ef 0 h0
          rw [if_neg (by rintro (h | h); exact h32 h; exact h0 h)] at hv
          by_cases hlo : c.toNat < 48
          · have HE : Keep (octV 0 m = (0, 5)) := ⟨by rw [hv, if_pos (.inl hlo)]⟩
            have hdl : decide ((c.toNat : Int) < 48) = true := decide_eq_true (by omega)
            clear hv ef h32 h0
            go_wp2_with fail
            go_ret2
            exact ⟨by rw [HE.out]; rfl, rfl⟩
          · have hdl : decide ((c.toNat : Int) < 48) = false := decide_eq_false (by omega)
            by_cases hhi : 55 < c.toNat
            · have HE : Keep (octV 0 m = (0, 5)) := ⟨by rw [hv, if_pos (.inr hhi)]⟩
              have hdh : decide ((55 : Int) < (c.toNat : Int)) = true := decide_eq_true (by omega)
              clear hv ef h32 h0
              go_wp2_with fail
              go_ret2
              exact ⟨by rw [HE.out]; rfl, rfl⟩
            · have hdh : decide ((55 : Int) < (c.toNat : Int)) = false := decide_eq_false (by omega)
              rw [if_neg (by omega)] at hv
              obtain ⟨z, hz⟩ : ∃ z, IntKind.i64.wrap (IntKind.i64.wrap (8 * n) + ((c.toNat : Int) - 48)) = z := ⟨_, rfl⟩
              have hor : bits .or .i64 (wrap64 (n * 8)) ((c.toNat : Int) - 48) = z := by
                rw [← IntWalk.i64_left, Int.mul_comm n 8, ← hz]
                exact or_low _ _ 3 (by decide) (by rw [IntKind.wrap_i64]; omega) (by omega) (by simp; omega)
              have hz01 : -9223372036854775808 ≤ z ∧ z ≤ 9223372036854775807 := by rw [← hz, IntKind.wrap_i64]; omega
              obtain ⟨hz0, hz1⟩ := hz01
              rw [hz] at hv
              have HV := Keep.keep hv
              clear hv ef h32 h0 hz
              go_wp2_with fail
              go_roundg g
              case measure => omega
              case rel => exact ⟨i + 1, z, by omega, by simp, rfl, HV.out, hz0, hz1, rfl⟩
    · obtain rfl : i = m.length := by omega
      have HE : Keep (octV 0 m = (n, 0)) := ⟨by rw [HN.out, List.drop_length]; rfl⟩
      go_wp2_with fail
      go_ret2
      exact ⟨by rw [HE.out]; rfl, rfl⟩
set_option maxHeartbeats 1000000 in
set_option maxRecDepth 100000 in
theorem num_any (v : Value) (l : List UInt8) (w : World) (hr : Reads w (· < w.heap.size) v l) (hl : l.length ≤ 1000000000) :
    Calls Tryd.prog 14 #[v] w fun e w' => e = .returned (.tuple #[.int .i64 (numS l).1, .int .i64 (numS l).2]) ∧ w = w' := by
  obtain ⟨a, cap, rfl, hcap, hmx, -⟩ := hr.shape
  cases l with
  | nil =>
    clear hr
    go_enter Tryd.func14, Tryd.ntmps14
    go_wp2_with fail
    go_ret2
    exact ⟨rfl, rfl⟩
  | cons c t =>
    obtain ⟨b, off, rfl, hc0⟩ := reads_at hr (i := 0) (by simp)
    simp only [List.getElem_cons_zero, Nat.add_zero] at hc0
    have HO := Keep.keep (octn_any _ _ w hr hl)
    have HW := Keep.keep (fun h => widn_any _ c t w hr h)
    simp only [List.length_cons] at hl hcap HO HW ⊢
    have hlt : decide ((t.length : Int) + 1 < 1) = false := decide_eq_false (by omega)
    have hns : numS (c :: t) = if 20 < t.length + 1 then (0, 1) else if 128 ≤ c.toNat then widS (c :: t) else octV 0 ((c :: t).dropWhile (· == 32)) := rfl
    have hc256 : c.toNat < 256 := c.toNat_lt
    clear hr
    by_cases h20 : 20 < t.length + 1
    · have HE : Keep (numS (c :: t) = (0, 1)) := ⟨by rw [hns, if_pos h20]⟩
      have hd : decide ((20 : Int) < (t.length : Int) + 1) = true := decide_eq_true (by omega)
      clear hns h20 HW HO
      go_enter Tryd.func14, Tryd.ntmps14
      go_wp2_with fail
      go_ret2
      exact ⟨by rw [HE.out]; rfl, rfl⟩
    · have hd : decide ((20 : Int) < (t.length : Int) + 1) = false := decide_eq_false (by omega)
      rw [if_neg h20] at hns
      have HW2 := Keep.keep (HW.out (by omega))
      clear h20 HW
      by_cases h128 : 128 ≤ c.toNat
      · have HE : Keep (numS (c :: t) = widS (c :: t)) := ⟨by rw [hns, if_pos h128]⟩
        have hd8 : decide ((128 : Int) ≤ (c.toNat : Int)) = true := decide_eq_true (by omega)
        rw [← HE.out] at HW2
        clear hns h128 HO
        go_enter Tryd.func14, Tryd.ntmps14
        go_wp2_with (go_at_call 36; ((with_reducible refine HW2.out.mono ?_); rintro e w1 ⟨rfl, rfl⟩))
        go_ret2
        exact ⟨rfl, rfl⟩
      · have HE : Keep (numS (c :: t) = octV 0 ((c :: t).dropWhile (· == 32))) := ⟨by rw [hns, if_neg h128]⟩
        have hd8 : decide ((128 : Int) ≤ (c.toNat : Int)) = false := decide_eq_false (by omega)
        rw [← HE.out] at HO
        clear hns h128 HW2
        go_enter Tryd.func14, Tryd.ntmps14
        go_wp2_with (go_at_call 37; ((with_reducible refine HO.out.mono ?_); rintro e w1 ⟨rfl, rfl⟩))
        go_ret2
        exact ⟨rfl, rfl⟩
end Go.Proofs.YtohballfhhndbaaDoor
