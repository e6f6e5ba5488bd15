/- PaxNumbers: numbers' texts, and texts' numbers, are the document's. -/
import Derived.Test.YtlhjehcfpnjbmaaDoorPaxRNumB
namespace Go.Proofs.YtlhjehcfpnjbmaaDoor
open Go.RowKit
set_option maxHeartbeats 1000000 in
set_option maxRecDepth 100000 in
theorem numbers_any (n : Int) (h0 : -9223372036854775808 ≤ n) (h1 : n ≤ 9223372036854775807) (l : List UInt8) (hl : l.length ≤ 9223372036854775807) (B : Nat) (w : World) (hB : B ≤ w.heap.size) (hT : Pow B w) (hE : Errs B w) :
    Calls Tryd.prog 6 #[.int .i64 n, .string ⟨l.toArray⟩] w fun e w' => e = .returned (.bool true) ∧ Below w.heap.size w w' := by
  have hkm : min (l.length : Int) 30 = ((min l.length 30 : Nat) : Int) := by omega
  have hkk : min l.length 30 ≤ l.length := by omega
  have hex := extK l (min l.length 30)
  have hsl : (l.take (min l.length 30)).length ≤ 30 := by simp; omega
  generalize hs : l.take (min l.length 30) = s at *
  clear hs
  generalize min l.length 30 = kn at *
  have HTX := Keep.keep (fun (wx : World) (h : Below w.heap.size w wx) => text_any n h0 h1 B wx (Nat.le_trans hB h.size) (hT.on (h.mono hB)))
  have HRT := Keep.keep (fun (wx : World) => rtext_any n h0 h1 wx)
  have HNM := Keep.keep (fun (wx : World) (h : Below w.heap.size w wx) => number_any s (by omega) B wx (Nat.le_trans hB h.size) (hT.on (h.mono hB)) (hE.on (h.mono hB)))
  have HRN := Keep.keep (fun (wx : World) => rnum_any s hsl wx)
  rw [refP_eq] at HRN
  have HTL := Keep.keep (fun (wx : World) (h : Below w.heap.size w wx) => tells_any B wx (Nat.le_trans hB h.size) (hT.on (h.mono hB)))
  clear hT hE hB
  obtain ⟨o, ho⟩ : ∃ o, numP s = o := ⟨_, rfl⟩
  rw [ho] at HNM HRN
  clear ho
  have hb0 : Keep (Below w.heap.size w w) := ⟨Below.refl _ _⟩
  generalize Lib.itoa n = t at *
  have htt : (t == t) = true := beq_self_eq_true t
  unfold numV at HNM HRN
  generalize o.getD 0 = ov at *
  generalize o.isSome = ob at *
  have hoo : (ov == ov) = true := beq_self_eq_true ov
  have hbb : (ob == ob) = true := beq_self_eq_true ob
  go_enter Tryd.func6, Tryd.ntmps6
  go_wp2_with (first
    | (go_at_call 18; ((with_reducible refine (HNM.out _ hb0.out).mono ?_); rintro e w1 ⟨rfl, hb1⟩; have HB1 := Keep.keep hb1; clear hb1))
    | (go_at_call 19; ((with_reducible refine (HRN.out _).mono ?_); rintro e w2 ⟨rfl, hb2⟩; have HB2 := Keep.keep (HB1.out.trans (hb2.mono HB1.out.size)); clear hb2))
    | (go_at_call 13; ((with_reducible refine (HTX.out _ HB2.out).mono ?_); rintro e w3 ⟨rfl, hb3⟩; have HB3 := Keep.keep (HB2.out.trans (hb3.mono HB2.out.size)); clear hb3))
    | (go_at_call 20; ((with_reducible refine (HRT.out _).mono ?_); rintro e w4 ⟨rfl, hb4⟩; have HB4 := Keep.keep (HB3.out.trans (hb4.mono HB3.out.size)); clear hb4))
    | (go_at_call 12; ((with_reducible refine (HTL.out _ HB4.out).mono ?_); rintro e w5 ⟨rfl, hb5⟩)))
  go_ret
  exact ⟨rfl, HB4.out.trans (hb5.mono HB4.out.size)⟩
end Go.Proofs.YtlhjehcfpnjbmaaDoor
