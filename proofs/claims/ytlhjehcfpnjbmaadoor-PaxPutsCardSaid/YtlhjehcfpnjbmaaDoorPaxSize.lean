/- pax: may AND Size. -/
import Derived.Test.YtlhjehcfpnjbmaaDoorPaxSpec
import Derived.Test.YtlhjehcfpnjbmaaDoorIAny
import Derived.Test.YtlhjehcfpnjbmaaDoorGen
namespace Go.Proofs.YtlhjehcfpnjbmaaDoor
open Go.RowKit
/-- the table of tens -/
abbrev Pow (B : Nat) (w : World) : Prop := Lib.TabBelow Tryd.prog B w "internal/strconv.uint64pow10" .u64 Lib.pow10Tab
abbrev recV (k v : List UInt8) : Value := .agg #[.string ⟨k.toArray⟩, .string ⟨v.toArray⟩]
set_option maxHeartbeats 1000000 in
set_option maxRecDepth 100000 in
theorem may_any (k v : List UInt8) (w : World) :
    Calls Tryd.prog 23 #[recV k v] w fun e w' => e = .returned (.bool (mayK k)) ∧ Below w.heap.size w w' := by
  have hsz : (⟨k.toArray⟩ : ByteArray).size = k.length := by simp [ByteArray.size]
  cases hk : k.isEmpty
  · by_cases hl : k.length ≤ 255
    · have hm : mayK k = !k.any (badB.contains ·) := by simp [mayK, hk, hl]
      rw [hm]; clear hm
      have hli : decide ((k.length : Int) ≤ 255) = true := decide_eq_true (by omega)
      have HC := Keep.keep (fun w' => cany_any k badB (by decide) (by decide) (by decide) (by omega) w')
      have hbad : (⟨badB.toArray⟩ : ByteArray) = ⟨#[0, 61, 10]⟩ := rfl
      rw [hbad] at HC
      generalize k.any (badB.contains ·) = b at *
      clear hl hbad
      cases b
      all_goals
        go_enter Tryd.func23, Tryd.ntmps23
        go_wp2_with (go_at_call 33; ((with_reducible refine (HC.out _).mono ?_); rintro e w1 ⟨rfl, hb1⟩))
        go_ret
        exact ⟨rfl, ((Below.refl _ _).alloc (Nat.le_refl _) _).trans (hb1.mono (by simp))⟩
    · have hm : mayK k = false := by simp [mayK, hl]
      rw [hm]; clear hm
      have hli : decide ((k.length : Int) ≤ 255) = false := decide_eq_false (by omega)
      clear hl
      go_enter Tryd.func23, Tryd.ntmps23
      go_wp2_with fail
      go_ret
      exact ⟨rfl, (Below.refl _ _).alloc (Nat.le_refl _) _⟩
  · have hm : mayK k = false := by simp [mayK, hk]
    rw [hm]; clear hm
    go_enter Tryd.func23, Tryd.ntmps23
    go_wp2_with fail
    go_ret
    exact ⟨rfl, (Below.refl _ _).alloc (Nat.le_refl _) _⟩
theorem itoa_nat (n : Nat) : Lib.itoa (n : Int) = Lib.decDigits n := by
  unfold Lib.itoa
  rw [if_neg (by omega)]; simp
/-- strconv.Itoa of a natural number -/
theorem itoa_any (n : Nat) (hn : n ≤ 9223372036854775807) (B : Nat) (w : World) (hB : B ≤ w.heap.size) (hT : Pow B w) :
    Calls Tryd.prog 25 #[.int .i64 (n : Int)] w fun e w' => e = .returned (.string ⟨(Lib.decDigits n).toArray⟩) ∧ Below w.heap.size w w' := by
  refine (Tryd.strconv_Itoa (n : Int) (by omega) (by omega) w hT.here).mono ?_
  rintro e w' ⟨rfl, k, os, rfl⟩
  rw [itoa_nat]
  exact ⟨rfl, below_of_grow⟩
set_option maxHeartbeats 1000000 in
set_option maxRecDepth 100000 in
theorem size_any (k v : List UInt8) (hv : v.length ≤ 100000000000000000) (B : Nat) (w : World) (hB : B ≤ w.heap.size) (hT : Pow B w) :
    Calls Tryd.prog 10 #[recV k v] w fun e w' => e = .returned (.int .i64 ((sz k v : Nat) : Int)) ∧ Below w.heap.size w w' := by
  have hsz : (⟨k.toArray⟩ : ByteArray).size = k.length := by simp [ByteArray.size]
  have hsv : (⟨v.toArray⟩ : ByteArray).size = v.length := by simp [ByteArray.size]
  have HM := Keep.keep (fun w' => may_any k v w')
  have HT := Keep.keep hT
  have HBB := Keep.keep hB
  clear hT hB
  cases hm : mayK k
  · have h0 : sz k v = 0 := by simp [sz, hm]
    rw [h0]; rw [hm] at HM
    clear h0 hm
    go_enter Tryd.func10, Tryd.ntmps10
    go_wp2_with (go_at_call 23; ((with_reducible refine (HM.out _).mono ?_); rintro e w1 ⟨rfl, hb1⟩))
    go_ret
    exact ⟨rfl, ((Below.refl _ _).alloc (Nat.le_refl _) _).trans (hb1.mono (by simp))⟩
  · have h0 : sz k v = szR k v + dsz (szR k v) := by simp [sz, hm]
    have hkl : k.length ≤ 255 := by
      have := hm
      simp only [mayK, Bool.and_eq_true, decide_eq_true_eq] at this
      exact this.1.2
    rw [h0]; rw [hm] at HM
    clear h0 hm
    have hr : szR k v ≤ 1000000000000000000 := by unfold szR; omega
    have hrl : (k.length : Int) + (v.length : Int) + 3 = (szR k v : Nat) := by unfold szR; omega
    generalize szR k v = r at *
    go_enter Tryd.func10, Tryd.ntmps10
    go_wp2_with fail
    refine calls_at (R := fun w2 => Hp NoM w w2 [rowA w.heap.size 33 #[.string ⟨k.toArray⟩, .string ⟨v.toArray⟩]]) ((Hp.begin _ w).newRow _ _) ?_
    intro w1 H1
    refine (HM.out w1).mono ?_
    rintro e w2 ⟨rfl, hb2⟩
    have H2 := Keep.keep (H1.out.call hb2)
    have hc0 := (H2.out.row 0 rfl).cell (i := 0) rfl
    have hc1 := (H2.out.row 0 rfl).cell (i := 1) rfl
    clear hb2
    go_wp2_with fail
    have HB2 := Keep.keep H2.out.below
    obtain ⟨hd1, hd21, -, -⟩ := dsz_spec r hr
    have HR := Keep.keep hr
    clear hr H1 H2
    generalize hD : dsz r = D at *
    go_loopg [4] D (fun g u wx => ∃ j : Nat, 1 ≤ j ∧ j ≤ D ∧ D ≤ j + g ∧ u = .int .i64 ((r : Int) + (j : Int)) ∧ Below w.heap.size w wx)
    case atStart => exact ⟨1, by omega, by omega, by omega, rfl, HB2.out⟩
    case round =>
      obtain ⟨j, hj1, hjD, hjg, rfl, hbw⟩ := hrel
      have hR := HR.out
      have hdr : (r : Int) + (j : Int) = ((r + j : Nat) : Int) := by omega
      have HI := Keep.keep (fun wx (h : Below w.heap.size w wx) => itoa_any (r + j) (by omega) B wx (Nat.le_trans HBB.out h.size) (HT.out.on (h.mono HBB.out)))
      rw [← hdr] at HI
      have hdl := Lib.decDigits_length (r + j)
      have hle := dsz_le r hR j (by omega)
      have hfi := dsz_first r hR j
      have hfx : j = D → Lib.nDigits (r + j) = D := fun e => by rw [e, ← hD]; exact dsz_fix r hR
      generalize Lib.decDigits (r + j) = t at *
      rw [← hdl] at hfx hfi hle
      have hst : (⟨t.toArray⟩ : ByteArray).size = t.length := by simp [ByteArray.size]
      have HBW := Keep.keep hbw
      clear hdl hdr hbw hR
      rcases (by omega : j = D ∨ j < D) with rfl | hjl
      · have hfx := hfx rfl
        have hne : ((r : Int) + (j : Int) != (r : Int) + (t.length : Int)) = false := by
          rw [bne_eq_false_iff_eq]; omega
        clear hfi hle
        go_wp2_with (go_at_call 25; ((with_reducible refine (HI.out _ HBW.out).mono ?_); rintro e w3 ⟨rfl, hb3⟩))
        go_ret
        exact ⟨congrArg (fun z : Int => Ending.returned (.int .i64 z)) (show (r : Int) + (j : Int) = ((r + dsz r : Nat) : Int) by omega), HBW.out.trans (hb3.mono HBW.out.size)⟩
      · have hlt := hfi (by omega) hj1
        have hne : ((r : Int) + (j : Int) != (r : Int) + (t.length : Int)) = true := by
          rw [bne_iff_ne]; omega
        obtain ⟨g, rfl⟩ : ∃ g, gk = g + 1 := ⟨gk - 1, by omega⟩
        clear hfi hfx
        go_wp2_with (go_at_call 25; first | ((with_reducible refine (HI.out _ HBW.out).mono ?_); rintro e w3 ⟨rfl, hb3⟩; have HBW3 := Keep.keep (HBW.out.trans (hb3.mono HBW.out.size))) | ((with_reducible refine (HI.out _ HBW3.out).mono ?_); rintro e w4 ⟨rfl, hb4⟩))
        go_roundg g
        case measure => omega
        case rel => exact ⟨t.length, by omega, by omega, by omega, rfl, HBW3.out.trans (hb4.mono HBW3.out.size)⟩
end Go.Proofs.YtlhjehcfpnjbmaaDoor
