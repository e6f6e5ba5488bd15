/- PathCalls: every function answers as its reference does. -/
import Derived.Test.YtkijhaibcnhedaaDoorPathWakes
import Derived.Test.YtkijhaibcnhedaaDoorPathRef4
namespace Go.Proofs.YtkijhaibcnhedaaDoor
open Go.RowKit
theorem joinP_three_len (a b c : List UInt8) : (joinP [a, b, c]).length ≤ a.length + b.length + c.length + 2 := by
  have h1 := joinS_filter_len (fun x => !x.isEmpty) [a, b, c] (by simp)
  have h2 : (joinS [a, b, c]).length = a.length + b.length + c.length + 2 := by simp [joinS]; omega
  unfold joinP
  omega
theorem rdS_three (w : World) (a b c : List UInt8) : RdS (w.alloc (.cells #[strV a, strV b, strV c] 9)) (· < (w.alloc (.cells #[strV a, strV b, strV c] 9)).heap.size) (.slice (some ⟨w.heap.size, 0, none⟩) 3 3) [a, b, c] :=
  RdV.new 9 [strV a, strV b, strV c] 1 3 _ rfl rfl (by unfold maxLen; omega) (by simp)
set_option maxHeartbeats 16000000 in
set_option maxRecDepth 100000 in
theorem calls_any (p0 q0 : List UInt8) (hp0 : p0.length ≤ 9223372036854775807) (hq0 : q0.length ≤ 9223372036854775807) (B : Nat) (w : World) (hB : B ≤ w.heap.size) (hM : Mx B w) (hC : Cls B w) :
    Calls Tryd.prog 5 #[.string ⟨p0.toArray⟩, .string ⟨q0.toArray⟩] w fun e w' => e = .returned (.bool true) ∧ Below w.heap.size w w' := by
  obtain ⟨p, hcut⟩ : ∃ p, p0.take (min p0.length 5000) = p := ⟨_, rfl⟩
  obtain ⟨q, hcutq⟩ : ∃ q, q0.take (min q0.length 5000) = q := ⟨_, rfl⟩
  have hpl : p.length ≤ 5000 := by rw [← hcut]; simp; omega
  have hql : q.length ≤ 5000 := by rw [← hcutq]; simp; omega
  have hkm : min (p0.length : Int) 5000 = ((min p0.length 5000 : Nat) : Int) := by omega
  have hkq : min (q0.length : Int) 5000 = ((min q0.length 5000 : Nat) : Int) := by omega
  have hst := run_slice_to (P := Tryd.prog) Tryd.underlying9 p0 .i64 (min p0.length 5000) (by omega)
  have hsq := run_slice_to (P := Tryd.prog) Tryd.underlying9 q0 .i64 (min q0.length 5000) (by omega)
  rw [hcut] at hst
  rw [hcutq] at hsq
  generalize min p0.length 5000 = kn at *
  generalize min q0.length 5000 = kq at *
  clear hcut hcutq
  have HWK : Keep (∀ wx, Below w.heap.size w wx → _) := ⟨fun wx (h : Below w.heap.size w wx) => wakes_any B wx (Nat.le_trans hB h.size) (hM.on (h.mono hB)) (hC.on (h.mono hB))⟩
  have KCL : Keep (∀ wx, Below w.heap.size w wx → _) := ⟨fun wx (h : Below w.heap.size w wx) => clean_any p (by omega) B wx (Nat.le_trans hB h.size) (hM.on (h.mono hB))⟩
  have KRCL : Keep (∀ wx, Below w.heap.size w wx → _) := ⟨fun wx (_ : Below w.heap.size w wx) => rclean_any p (by omega) wx⟩
  have KCS : Keep (∀ wx, Below w.heap.size w wx → _) := ⟨fun wx (h : Below w.heap.size w wx) => class_any p (by omega) B wx (Nat.le_trans hB h.size) (hM.on (h.mono hB)) (hC.on (h.mono hB))⟩
  have KRCS : Keep (∀ wx, Below w.heap.size w wx → _) := ⟨fun wx (_ : Below w.heap.size w wx) => rclass_any p (by omega) wx⟩
  have KMN : Keep (∀ wx, Below w.heap.size w wx → _) := ⟨fun wx (_ : Below w.heap.size w wx) => mayname_any p (by omega) wx⟩
  have KRMN := Keep.keep (fun wx => rmayname_any p (by omega) wx)
  have KM : Keep (∀ wx, Below w.heap.size w wx → _) := ⟨fun wx (h : Below w.heap.size w wx) => may_any p (by omega) B wx (Nat.le_trans hB h.size) (hM.on (h.mono hB))⟩
  have KRM : Keep (∀ wx, Below w.heap.size w wx → _) := ⟨fun wx (_ : Below w.heap.size w wx) => rmay_any p (by omega) wx⟩
  have KSP : Keep (∀ wx, Below w.heap.size w wx → _) := ⟨fun wx (h : Below w.heap.size w wx) => split_any p (by omega) B wx (Nat.le_trans hB h.size) (hM.on (h.mono hB))⟩
  have KRSP := Keep.keep (fun wx => rsplit_any p (by omega) wx)
  have hj3 := joinP_three_len p q p
  have KJ := Keep.keep (fun v wx (h : RdS wx (· < wx.heap.size) v [p, q, p]) => join_any v [p, q, p] wx h (by simp) (by omega))
  have KRJ := Keep.keep (fun v wx (h : RdS wx (· < wx.heap.size) v [p, q, p]) => rjoin_any v [p, q, p] wx h (by simp) (by omega))
  have KPA := Keep.keep (fun wx => parent_any p (by omega) wx)
  have KRPA := Keep.keep (fun wx => rparent_any p (by omega) wx)
  have KBA := Keep.keep (fun wx => base_any p (by omega) wx)
  have KRBA := Keep.keep (fun wx => rbase_any p (by omega) wx)
  have KAB := Keep.keep (fun wx => above_any p (by omega) wx)
  have KRAB := Keep.keep (fun wx => rabove_any p (by omega) wx)
  have KU := Keep.keep (fun wx => under_any q p (by omega) wx)
  have KRU := Keep.keep (fun wx => runder_any q p (by omega) wx)
  have KW : Keep (∀ wx, Below w.heap.size w wx → _) := ⟨fun wx (h : Below w.heap.size w wx) => white_any p (by omega) B wx (Nat.le_trans hB h.size) (hM.on (h.mono hB))⟩
  have KRW : Keep (∀ wx, Below w.heap.size w wx → _) := ⟨fun wx (_ : Below w.heap.size w wx) => rwhite_any p (by omega) wx⟩
  have KO : Keep (∀ wx, Below w.heap.size w wx → _) := ⟨fun wx (h : Below w.heap.size w wx) => opaq_any p (by omega) B wx (Nat.le_trans hB h.size) (hM.on (h.mono hB))⟩
  have KRO : Keep (∀ wx, Below w.heap.size w wx → _) := ⟨fun wx (_ : Below w.heap.size w wx) => ropaq_any p (by omega) wx⟩
  have hls : (splitP p).length ≤ 1000000000 := by
    have := spl_length p
    unfold splitP; split
    · simp
    · omega
  have hla : (aboveP p).length ≤ 1000000000 := by
    have := abvT_len p p.length
    rw [abvT_all] at this; omega
  have HB0 := Keep.keep (Below.refl w.heap.size w)
  generalize joinP [p, q, p] = xj at *
  generalize (cleanP p).1 = x1 at *
  generalize (cleanP p).2 = n1 at *
  generalize (classP p).1 = n2 at *
  generalize (classP p).2 = x2 at *
  generalize mayN p = b1 at *
  generalize mayP p = b2 at *
  generalize splitP p = l1 at *
  generalize parentP p = x3 at *
  generalize baseP p = x4 at *
  generalize aboveP p = l2 at *
  generalize underP q p = b3 at *
  generalize whiteoutP p = x5 at *
  generalize opaqueP p = x6 at *
  have e1 : (x1 == x1) = true := beq_self_eq_true _
  have e2 : (n1 == n1) = true := beq_self_eq_true _
  have e3 : (n2 == n2) = true := beq_self_eq_true _
  have e4 : (x2 == x2) = true := beq_self_eq_true _
  have e5 : (b1 == b1) = true := beq_self_eq_true _
  have e6 : (b2 == b2) = true := beq_self_eq_true _
  have e7 : (xj == xj) = true := beq_self_eq_true _
  have e8 : (x3 == x3) = true := beq_self_eq_true _
  have e9 : (x4 == x4) = true := beq_self_eq_true _
  have e10 : (b3 == b3) = true := beq_self_eq_true _
  have e11 : (x5 == x5) = true := beq_self_eq_true _
  have e12 : (x6 == x6) = true := beq_self_eq_true _
  clear hM hC hB hj3
  go_enter Tryd.func5, Tryd.ntmps5
  go_wp2_with (go_quiet (fail))
  refine (KCL.out _ (below_drewN' (Below.refl _ _) _)).mono ?_
  rintro e w1 ⟨rfl, hb⟩
  have HB1 := Keep.keep ((below_drewN' (Below.refl w.heap.size w) nq).trans (hb.mono (Nat.le_refl _)))
  clear hb
  go_wp2_with fail
  refine (KRCL.out _ HB1.out).mono ?_
  rintro e w2 ⟨rfl, hb⟩
  have HB2 := Keep.keep (HB1.out.trans (hb.mono HB1.out.size))
  clear hb
  go_wp2_with fail
  refine (KCS.out _ HB2.out).mono ?_
  rintro e w3 ⟨rfl, hb⟩
  have HB3 := Keep.keep (HB2.out.trans (hb.mono HB2.out.size))
  clear hb
  go_wp2_with fail
  refine (KRCS.out _ HB3.out).mono ?_
  rintro e w4 ⟨rfl, hb⟩
  have HB4 := Keep.keep (HB3.out.trans (hb.mono HB3.out.size))
  clear hb
  go_wp2_with fail
  refine (KMN.out _ HB4.out).mono ?_
  rintro e w5 ⟨rfl, hb⟩
  have HB5 := Keep.keep (HB4.out.trans (hb.mono HB4.out.size))
  clear hb
  go_wp2_with fail
  refine (KRMN.out _).mono ?_
  rintro e wq ⟨rfl, rfl⟩
  go_wp2_with fail
  refine (KM.out _ HB5.out).mono ?_
  rintro e w6 ⟨rfl, hb⟩
  have HB6 := Keep.keep (HB5.out.trans (hb.mono HB5.out.size))
  clear hb
  go_wp2_with fail
  refine (KRM.out _ HB6.out).mono ?_
  rintro e w7 ⟨rfl, hb⟩
  have HB7 := Keep.keep (HB6.out.trans (hb.mono HB6.out.size))
  clear hb
  go_wp2_with fail
  refine (KSP.out _ HB7.out).mono ?_
  rintro e w8 ⟨v, rfl, ho, hb⟩
  have HA1 := Keep.keep ((ownsV_reads ho).mono (N' := (· < w8.heap.size)) (fun b hb => hb.2.1))
  obtain ⟨a1, c1, rfl, -⟩ := (ownsV_reads ho).shape
  have HB8 := Keep.keep (HB7.out.trans (hb.mono HB7.out.size))
  clear ho hb
  go_wp2_with fail
  refine (KRSP.out _).mono ?_
  rintro e w9 ⟨v, rfl, ho, hb⟩
  have HS1 := Keep.keep ((ownsV_reads ho).mono (N' := (· < w9.heap.size)) (fun b hb => hb.2.1))
  have HT1 := Keep.keep ((HA1.out.below hb (fun b hb => hb)).mono (N' := (· < w9.heap.size)) (fun b hb2 => Nat.lt_of_lt_of_le hb2 hb.size))
  obtain ⟨d1, f1, rfl, -⟩ := (ownsV_reads ho).shape
  have HB9 := Keep.keep (HB8.out.trans (hb.mono HB8.out.size))
  clear ho hb
  go_wp2_with fail
  refine (sequal_any _ _ _ _ _ HT1.out HS1.out hls hls).mono ?_
  rintro e w10 ⟨rfl, hb⟩
  have HB10 := Keep.keep (HB9.out.trans (hb.mono HB9.out.size))
  clear hb
  rw [decide_eq_true (rfl : l1 = l1)]
  go_wp2_with fail
  refine calls_at (R := fun wq => Below w10.heap.size w10 wq ∧ RdS wq (· < wq.heap.size) (.slice (some ⟨w10.heap.size, 0, none⟩) 3 3) [p, q, p]) ⟨(Below.refl _ _).alloc (Nat.le_refl _) _, rdS_three w10 p q p⟩ ?_
  intro wj1 HJ1
  refine (KJ.out _ wj1 HJ1.out.2).mono ?_
  rintro e w11 ⟨rfl, hb⟩
  have HB11 := Keep.keep (HB10.out.trans ((HJ1.out.1.trans (hb.mono HJ1.out.1.size)).mono HB10.out.size))
  clear hb
  go_wp2_with fail
  refine calls_at (R := fun wq => Below w11.heap.size w11 wq ∧ RdS wq (· < wq.heap.size) (.slice (some ⟨w11.heap.size, 0, none⟩) 3 3) [p, q, p]) ⟨(Below.refl _ _).alloc (Nat.le_refl _) _, rdS_three w11 p q p⟩ ?_
  intro wj2 HJ2
  refine (KRJ.out _ wj2 HJ2.out.2).mono ?_
  rintro e w12 ⟨rfl, rfl⟩
  have HB12 := Keep.keep (HB11.out.trans (HJ2.out.1.mono HB11.out.size))
  go_wp2_with fail
  refine (KPA.out _).mono ?_
  rintro e wq ⟨rfl, rfl⟩
  go_wp2_with fail
  refine (KRPA.out _).mono ?_
  rintro e wq ⟨rfl, rfl⟩
  go_wp2_with fail
  refine (KBA.out _).mono ?_
  rintro e wq ⟨rfl, rfl⟩
  go_wp2_with fail
  refine (KRBA.out _).mono ?_
  rintro e wq ⟨rfl, rfl⟩
  go_wp2_with fail
  refine (KAB.out _).mono ?_
  rintro e w13 ⟨v, rfl, ho, hb⟩
  have HA2 := Keep.keep ((ownsV_reads ho).mono (N' := (· < w13.heap.size)) (fun b hb => hb.2.1))
  obtain ⟨a2, c2, rfl, -⟩ := (ownsV_reads ho).shape
  have HB13 := Keep.keep (HB12.out.trans (hb.mono HB12.out.size))
  clear ho hb
  go_wp2_with fail
  refine (KRAB.out _).mono ?_
  rintro e w14 ⟨v, rfl, ho, hb⟩
  have HS2 := Keep.keep ((ownsV_reads ho).mono (N' := (· < w14.heap.size)) (fun b hb => hb.2.1))
  have HT2 := Keep.keep ((HA2.out.below hb (fun b hb => hb)).mono (N' := (· < w14.heap.size)) (fun b hb2 => Nat.lt_of_lt_of_le hb2 hb.size))
  obtain ⟨d2, f2, rfl, -⟩ := (ownsV_reads ho).shape
  have HB14 := Keep.keep (HB13.out.trans (hb.mono HB13.out.size))
  clear ho hb
  go_wp2_with fail
  refine (sequal_any _ _ _ _ _ HT2.out HS2.out hla hla).mono ?_
  rintro e w15 ⟨rfl, hb⟩
  have HB15 := Keep.keep (HB14.out.trans (hb.mono HB14.out.size))
  clear hb
  rw [decide_eq_true (rfl : l2 = l2)]
  go_wp2_with fail
  refine (KU.out _).mono ?_
  rintro e wq ⟨rfl, rfl⟩
  go_wp2_with fail
  refine (KRU.out _).mono ?_
  rintro e wq ⟨rfl, rfl⟩
  go_wp2_with fail
  refine (KW.out _ HB15.out).mono ?_
  rintro e w16 ⟨rfl, hb⟩
  have HB16 := Keep.keep (HB15.out.trans (hb.mono HB15.out.size))
  clear hb
  go_wp2_with fail
  refine (KRW.out _ HB16.out).mono ?_
  rintro e w17 ⟨rfl, hb⟩
  have HB17 := Keep.keep (HB16.out.trans (hb.mono HB16.out.size))
  clear hb
  go_wp2_with fail
  refine (KO.out _ HB17.out).mono ?_
  rintro e w18 ⟨rfl, hb⟩
  have HB18 := Keep.keep (HB17.out.trans (hb.mono HB17.out.size))
  clear hb
  go_wp2_with fail
  refine (KRO.out _ HB18.out).mono ?_
  rintro e w19 ⟨rfl, hb⟩
  have HB19 := Keep.keep (HB18.out.trans (hb.mono HB18.out.size))
  clear hb
  go_wp2_with fail
  refine (HWK.out _ HB19.out).mono ?_
  rintro e w20 ⟨rfl, hb⟩
  have HB20 := Keep.keep (HB19.out.trans (hb.mono HB19.out.size))
  clear hb
  go_wp2_with fail
  go_ret
  exact ⟨rfl, HB20.out⟩
end Go.Proofs.YtkijhaibcnhedaaDoor
