/- PaxTexts: numbers, there and back. -/
import Derived.Test.YtlhjehcfpnjbmaaDoorPaxNum
namespace Go.Proofs.YtlhjehcfpnjbmaaDoor
open Go.RowKit
set_option maxHeartbeats 1000000 in
set_option maxRecDepth 100000 in
theorem texts_any (n : Int) (h0 : -9223372036854775808 ≤ n) (h1 : n ≤ 9223372036854775807) (l : List UInt8) (hl : l.length ≤ 9223372036854775807) (B : Nat) (w : World) (hB : B ≤ w.heap.size) (hT : Pow B w) (hE : Errs B w) :
    Calls Tryd.prog 7 #[.int .i64 n, .string ⟨l.toArray⟩] w fun e w' => e = .returned (.bool true) ∧ Below w.heap.size w w' := by
  have hkm : min (l.length : Int) 30 = ((min l.length 30 : Nat) : Int) := by omega
  have hkk : min l.length 30 ≤ l.length := by omega
  have hex := extK l (min l.length 30)
  have hsl : (l.take (min l.length 30)).length ≤ 30 := by simp; omega
  generalize hs : l.take (min l.length 30) = s at *
  clear hs
  generalize min l.length 30 = kn at *
  have hil := Lib.itoa_length_le n h0 h1
  have HTX := Keep.keep (fun (v : Int) (h0 : -9223372036854775808 ≤ v) (h1 : v ≤ 9223372036854775807) (wx : World) (h : Below w.heap.size w wx) => text_any v h0 h1 B wx (Nat.le_trans hB h.size) (hT.on (h.mono hB)))
  have HNM := Keep.keep (fun (l : List UInt8) (hl : l.length ≤ 100000) (wx : World) (h : Below w.heap.size w wx) => number_any l hl B wx (Nat.le_trans hB h.size) (hT.on (h.mono hB)) (hE.on (h.mono hB)))
  have HTL := Keep.keep (fun (wx : World) (h : Below w.heap.size w wx) => tells_any B wx (Nat.le_trans hB h.size) (hT.on (h.mono hB)))
  have HT1 := Keep.keep (HTX.out n h0 h1)
  have HN1 := Keep.keep (HNM.out (Lib.itoa n) (by omega))
  rw [numP_itoa n h0 h1] at HN1
  have HN2 := Keep.keep (HNM.out s (by omega))
  clear hT hE hB HNM hil
  obtain ⟨o, ho⟩ : ∃ o, numP s = o := ⟨_, rfl⟩
  rw [ho] at HN2
  have hb0 : Keep (Below w.heap.size w w) := ⟨Below.refl _ _⟩
  generalize Lib.itoa n = t at *
  have hnn : (n != n) = false := by rw [bne_eq_false_iff_eq]
  unfold numV at HN1 HN2
  cases o with
  | none =>
    clear ho
    go_enter Tryd.func7, Tryd.ntmps7
    go_wp2_with (first
      | (go_at_call 13; ((with_reducible refine (HT1.out _ hb0.out).mono ?_); rintro e w1 ⟨rfl, hb1⟩; have HB1 := Keep.keep hb1; clear hb1))
      | (go_at_call 18; first | ((with_reducible refine (HN1.out _ HB1.out).mono ?_); rintro e w2 ⟨rfl, hb2⟩; have HB2 := Keep.keep (HB1.out.trans (hb2.mono HB1.out.size)); clear hb2) | ((with_reducible refine (HN2.out _ HB2.out).mono ?_); rintro e w3 ⟨rfl, hb3⟩; have HB3 := Keep.keep (HB2.out.trans (hb3.mono HB2.out.size)); clear hb3))
      | (go_at_call 12; ((with_reducible refine (HTL.out _ HB3.out).mono ?_); rintro e w4 ⟨rfl, hb4⟩)))
    go_ret
    exact ⟨rfl, HB3.out.trans (hb4.mono HB3.out.size)⟩
  | some k =>
    have hks := numP_some ho
    have hkb := numP_bounds ho
    have HT2 := Keep.keep (HTX.out k hkb.1 hkb.2)
    rw [hks] at HT2
    have hss : (s == s) = true := beq_self_eq_true s
    clear ho hks hkb
    go_enter Tryd.func7, Tryd.ntmps7
    go_wp2_with (first
      | (go_at_call 13; first | ((with_reducible refine (HT1.out _ hb0.out).mono ?_); rintro e w1 ⟨rfl, hb1⟩; have HB1 := Keep.keep hb1; clear hb1) | ((with_reducible refine (HT2.out _ HB3.out).mono ?_); rintro e w5 ⟨rfl, hb5⟩; have HB5 := Keep.keep (HB3.out.trans (hb5.mono HB3.out.size)); clear hb5))
      | (go_at_call 18; first | ((with_reducible refine (HN1.out _ HB1.out).mono ?_); rintro e w2 ⟨rfl, hb2⟩; have HB2 := Keep.keep (HB1.out.trans (hb2.mono HB1.out.size)); clear hb2) | ((with_reducible refine (HN2.out _ HB2.out).mono ?_); rintro e w3 ⟨rfl, hb3⟩; have HB3 := Keep.keep (HB2.out.trans (hb3.mono HB2.out.size)); clear hb3))
      | (go_at_call 12; ((with_reducible refine (HTL.out _ HB5.out).mono ?_); rintro e w4 ⟨rfl, hb4⟩)))
    go_ret
    exact ⟨rfl, HB5.out.trans (hb4.mono HB5.out.size)⟩
end Go.Proofs.YtlhjehcfpnjbmaaDoor
