/- FieldTexts: texts in fields, and fields' texts, are the document's. -/
import Derived.Test.YtohballfhhndbaaDoorFldRText
import Derived.Test.YtohballfhhndbaaDoorFldWakes
namespace Go.Proofs.YtohballfhhndbaaDoor
open Go.RowKit
set_option maxHeartbeats 1000000 in
set_option maxRecDepth 100000 in
theorem fieldtexts_any (s : List UInt8) (many : Int) (B : Nat) (w : World) (hB : B ≤ w.heap.size) (hT : Tz B w) :
    Calls Tryd.prog 7 #[.string ⟨s.toArray⟩, .int .i64 many] w fun e w' => e = .returned (.bool true) ∧ Below w.heap.size w w' := by
  have HT := Keep.keep hT; have HB := Keep.keep hB
  have hkm : min (s.length : Int) 600 = ((min s.length 600 : Nat) : Int) := by omega
  have hst := run_slice_to (P := Tryd.prog) Tryd.underlying9 s .i64 (min s.length 600) (by omega)
  have hsl : (s.take (min s.length 600)).length ≤ 600 := by simp; omega
  generalize hs : s.take (min s.length 600) = t at *
  clear hs hT hB
  generalize min s.length 600 = kn at *
  have HTX := Keep.keep (fun wx => text_any t many hsl wx)
  have HRT := Keep.keep (fun wx => rtext_any t many hsl wx)
  generalize textS t many = o at *
  obtain ⟨o1, o2⟩ := o
  have ho2 : (o2 == o2) = true := beq_self_eq_true o2
  simp only at HTX HRT
  obtain ⟨cf, rf, mf, hcv, hcr⟩ := convS t t.length rfl (by unfold maxLen; omega)
  have HCR := Keep.keep hcr
  have HSF := Keep.keep (fun v wx N (h : Reads wx N v t) => strf_any v t N wx h (by omega))
  have HRS := Keep.keep (fun v wx (h : Reads wx (· < wx.heap.size) v t) => rstr_any v t wx h (by omega))
  have htt : (cstr t == cstr t) = true := beq_self_eq_true _
  generalize cstr t = c at *
  clear hcr
  go_enter Tryd.func7, Tryd.ntmps7
  go_wp2_with fail
  refine (HTX.out _).mono ?_
  rintro e w1 ⟨v1, rfl, hr1, hb1⟩
  have HR1 := Keep.keep (hr1.mono (N' := (· < w1.heap.size)) (fun b hb => hb.2)); have HB1 := Keep.keep hb1
  clear hr1 hb1
  go_wp2_with fail
  refine (HRT.out _).mono ?_
  rintro e w2 ⟨v2, rfl, hr2, hb2⟩
  have HR2 := Keep.keep (hr2.mono (N' := (· < w2.heap.size)) (fun b hb => hb.2)); have HB2 := Keep.keep hb2
  clear hr2 hb2
  have HE1 := Keep.keep (equal_any _ _ _ _ _ _ w2 (HR1.out.below HB2.out (fun b hb => hb)) HR2.out)
  rw [beq_self_eq_true] at HE1
  have B2 := Keep.keep (HB1.out.trans (HB2.out.mono HB1.out.size))
  clear HR1 HR2 HB1 HB2
  go_wp2_with fail
  refine HE1.out.mono ?_
  rintro e w2' ⟨rfl, rfl⟩
  go_wp2_with fail
  refine calls_at (R := fun wq => Below w2.heap.size w2 wq ∧ Reads wq (fun b => b = w2.heap.size) (.slice (some ⟨w2.heap.size, 0, none⟩) t.length (cf w2)) t) ⟨((Below.refl _ _).drew).alloc (Nat.le_refl _) _, HCR.out w2⟩ ?_
  intro w3 H3
  refine (HSF.out _ _ _ H3.out.2).mono ?_
  rintro e w4 ⟨rfl, hb4⟩
  have B4 := Keep.keep ((H3.out.1.trans (hb4.mono H3.out.1.size)))
  clear hb4 H3
  go_wp2_with fail
  refine calls_at (R := fun wq => Below w4.heap.size w4 wq ∧ Reads wq (· < wq.heap.size) (.slice (some ⟨w4.heap.size, 0, none⟩) t.length (cf w4)) t) ⟨((Below.refl _ _).drew).alloc (Nat.le_refl _) _, (HCR.out w4).mono (fun b hb => by subst hb; simp)⟩ ?_
  intro w5 H5
  refine (HRS.out _ _ H5.out.2).mono ?_
  rintro e w5' ⟨rfl, rfl⟩
  have B5 := Keep.keep (B2.out.trans ((B4.out.trans (H5.out.1.mono B4.out.size)).mono B2.out.size))
  clear H5
  have HWK := Keep.keep (wakes_any B w5 (Nat.le_trans HB.out B5.out.size) (HT.out.on (B5.out.mono HB.out)))
  go_wp2_with fail
  refine HWK.out.mono ?_
  rintro e w6 ⟨rfl, hb6⟩
  have HB6 := Keep.keep hb6
  clear hb6
  go_wp2_with fail
  go_ret
  exact ⟨rfl, B5.out.trans (HB6.out.mono B5.out.size)⟩
end Go.Proofs.YtohballfhhndbaaDoor
