/- FieldNumbers: numbers as fields, and fields as numbers, are the document's. -/
import Derived.Test.YtohballfhhndbaaDoorFldWakes
import Derived.Test.YtohballfhhndbaaDoorSlTo
namespace Go.Proofs.YtohballfhhndbaaDoor
open Go.RowKit
set_option maxHeartbeats 1000000 in
set_option maxRecDepth 100000 in
theorem fieldnums_any (n many : Int) (h0 : -9223372036854775808 ≤ n) (h1 : n ≤ 9223372036854775807) (v : Value) (l : List UInt8) (B : Nat) (w : World) (hr : Reads w (· < w.heap.size) v l) (hB : B ≤ w.heap.size) (hT : Tz B w) :
    Calls Tryd.prog 3 #[.int .i64 n, .int .i64 many, v] w fun e w' => e = .returned (.bool true) ∧ Below w.heap.size w w' := by
  obtain ⟨a, cap, rfl, hcap, hmx, -⟩ := hr.shape
  have HT := Keep.keep hT; have HB := Keep.keep hB
  have hkm : min (l.length : Int) 24 = ((min l.length 24 : Nat) : Int) := by omega
  have hkk : min l.length 24 ≤ l.length := by omega
  have hsl : (l.take (min l.length 24)).length ≤ 24 := by simp; omega
  have HS := Keep.keep (reads_to hr (min l.length 24) hkk)
  have hct := slice_to (P := Tryd.prog) slU8 a l.length cap (min l.length 24) .i64 (by omega) hr.spot w
  generalize hs : l.take (min l.length 24) = s at *
  clear hs
  generalize min l.length 24 = kn at *
  have HO := Keep.keep (octal_any n many h0 h1 B w hB hT)
  have HRO := Keep.keep (fun wx => roctal_any n many h0 h1 wx)
  have HWD := Keep.keep (fun wx => wide_any n many h0 h1 wx)
  have HRW := Keep.keep (fun wx => rwide_any n many h0 h1 wx)
  have HN := Keep.keep (fun wx (h : Reads wx (· < wx.heap.size) (.slice a kn cap) s) => num_any _ s wx h (by omega))
  have HRN := Keep.keep (fun wx (h : Reads wx (· < wx.heap.size) (.slice a kn cap) s) => rnum_any _ s wx h (by omega))
  generalize numS s = q at *
  obtain ⟨q1, q2⟩ := q
  have hq1 : (q1 == q1) = true := beq_self_eq_true q1
  have hq2 : (q2 == q2) = true := beq_self_eq_true q2
  generalize octS n many = o at *
  obtain ⟨o1, o2⟩ := o
  have ho2 : (o2 == o2) = true := beq_self_eq_true o2
  generalize wideS n many = d at *
  obtain ⟨d1, d2⟩ := d
  have hd2 : (d2 == d2) = true := beq_self_eq_true d2
  simp only at HO HRO HWD HRW HN HRN
  clear hr hT hB
  go_enter Tryd.func3, Tryd.ntmps3
  go_wp2_with fail
  refine HO.out.mono ?_
  rintro e w1 ⟨v1, rfl, hr1, hb1⟩
  have HR1 := Keep.keep (hr1.mono (N' := (· < w1.heap.size)) (fun b hb => hb.2)); have HB1 := Keep.keep hb1
  clear hr1 hb1 HO
  go_wp2_with fail
  refine (HRO.out w1).mono ?_
  rintro e w2 ⟨v2, rfl, hr2, hb2⟩
  have HR2 := Keep.keep (hr2.mono (N' := (· < w2.heap.size)) (fun b hb => hb.2)); have HB2 := Keep.keep hb2
  clear hr2 hb2 HRO
  go_wp2_with fail
  refine (HWD.out w2).mono ?_
  rintro e w3 ⟨v3, rfl, hr3, hb3⟩
  have HR3 := Keep.keep (hr3.mono (N' := (· < w3.heap.size)) (fun b hb => hb.2)); have HB3 := Keep.keep hb3
  clear hr3 hb3 HWD
  go_wp2_with fail
  refine (HRW.out w3).mono ?_
  rintro e w4 ⟨v4, rfl, hr4, hb4⟩
  have HR4 := Keep.keep (hr4.mono (N' := (· < w4.heap.size)) (fun b hb => hb.2)); have HB4 := Keep.keep hb4
  clear hr4 hb4 HRW
  have B4 := Keep.keep (HB1.out.trans ((HB2.out.trans ((HB3.out.trans (HB4.out.mono HB3.out.size)).mono HB2.out.size)).mono HB1.out.size))
  have hsz := B4.out.size
  go_wp2_with fail
  refine (HN.out w4 ((HS.out.below B4.out (fun b hb => hb)).mono (fun b hb => by omega))).mono ?_
  rintro e w4' ⟨rfl, rfl⟩
  go_wp2_with fail
  refine (HRN.out w4 ((HS.out.below B4.out (fun b hb => hb)).mono (fun b hb => by omega))).mono ?_
  rintro e w5 ⟨rfl, hb5⟩
  have HB5 := Keep.keep hb5
  clear hb5 HN HRN HS
  have R1 := Keep.keep (((HR1.out.below HB2.out (fun b hb => hb)).below HB3.out (fun b hb => by have := HB2.out.size; omega)).below HB4.out (fun b hb => by have := HB2.out.size; have := HB3.out.size; omega))
  have R2 := Keep.keep ((HR2.out.below HB3.out (fun b hb => hb)).below HB4.out (fun b hb => by have := HB3.out.size; omega))
  have R3 := Keep.keep (HR3.out.below HB4.out (fun b hb => hb))
  have s2 := HB2.out.size; have s3 := HB3.out.size; have s4 := HB4.out.size
  have HE1 := Keep.keep (equal_any _ _ _ _ _ _ w5 (R1.out.below HB5.out (fun b hb => by omega)) (R2.out.below HB5.out (fun b hb => by omega)))
  have HE2 := Keep.keep (equal_any _ _ _ _ _ _ w5 (R3.out.below HB5.out (fun b hb => by omega)) (HR4.out.below HB5.out (fun b hb => hb)))
  rw [beq_self_eq_true] at HE1 HE2
  have B5 := Keep.keep (B4.out.trans (HB5.out.mono hsz))
  have HWK := Keep.keep (wakes_any B w5 (Nat.le_trans HB.out B5.out.size) (HT.out.on (B5.out.mono HB.out)))
  clear R1 R2 R3 HR1 HR2 HR3 HR4 HB1 HB2 HB3 HB4 HB5 B4
  go_wp2_with fail
  refine HE1.out.mono ?_
  rintro e w5' ⟨rfl, rfl⟩
  go_wp2_with fail
  refine HE2.out.mono ?_
  rintro e w5' ⟨rfl, rfl⟩
  go_wp2_with fail
  refine HWK.out.mono ?_
  rintro e w6 ⟨rfl, hb6⟩
  have HB6 := Keep.keep hb6
  clear hb6
  go_wp2_with fail
  go_ret
  exact ⟨rfl, B5.out.trans (HB6.out.mono B5.out.size)⟩
end Go.Proofs.YtohballfhhndbaaDoor
