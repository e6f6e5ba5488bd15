/- PathWhite: a whiteout's target is the path whose whiteout it is. -/
import Derived.Test.YtkijhaibcnhedaaDoorPathWakes
import Derived.Test.YtkijhaibcnhedaaDoorPathWhiteL
namespace Go.Proofs.YtkijhaibcnhedaaDoor
open Go.RowKit
set_option maxHeartbeats 8000000 in
set_option maxRecDepth 100000 in
theorem white_A (p0 : List UInt8) (hp0 : p0.length ≤ 9223372036854775807) (p : List UInt8) (hcut : p0.take (min p0.length 5000) = p) (B : Nat) (w : World) (hB : B ≤ w.heap.size) (hM : Mx B w) (hC : Cls B w) (hm : mayP p = true) (h0 : p ≠ []) :
    Calls Tryd.prog 4 #[.string ⟨p0.toArray⟩] w fun e w' => e = .returned (.bool true) ∧ Below w.heap.size w w' := by
  have hpl : p.length ≤ 5000 := by rw [← hcut]; simp; omega
  have hkm : min (p0.length : Int) 5000 = ((min p0.length 5000 : Nat) : Int) := by omega
  have hst := run_slice_to (P := Tryd.prog) Tryd.underlying9 p0 .i64 (min p0.length 5000) (by omega)
  rw [hcut] at hst
  generalize min p0.length 5000 = kn at *
  clear hcut
  have HMAY : Keep (∀ q : List UInt8, q.length ≤ 20000 → ∀ wx, Below w.heap.size w wx → _) := ⟨fun q hq wx (h : Below w.heap.size w wx) => may_any q (by omega) B wx (Nat.le_trans hB h.size) (hM.on (h.mono hB))⟩
  have HOPQ : Keep (∀ q : List UInt8, q.length ≤ 20000 → ∀ wx, Below w.heap.size w wx → _) := ⟨fun q hq wx (h : Below w.heap.size w wx) => opaq_any q (by omega) B wx (Nat.le_trans hB h.size) (hM.on (h.mono hB))⟩
  have HWHT : Keep (∀ q : List UInt8, q.length ≤ 20000 → ∀ wx, Below w.heap.size w wx → _) := ⟨fun q hq wx (h : Below w.heap.size w wx) => white_any q (by omega) B wx (Nat.le_trans hB h.size) (hM.on (h.mono hB))⟩
  have HCLS : Keep (∀ q : List UInt8, q.length ≤ 20000 → ∀ wx, Below w.heap.size w wx → _) := ⟨fun q hq wx (h : Below w.heap.size w wx) => class_any q (by omega) B wx (Nat.le_trans hB h.size) (hM.on (h.mono hB)) (hC.on (h.mono hB))⟩
  have HWK : Keep (∀ wx, Below w.heap.size w wx → _) := ⟨fun wx (h : Below w.heap.size w wx) => wakes_any B wx (Nat.le_trans hB h.size) (hM.on (h.mono hB)) (hC.on (h.mono hB))⟩
  have HB0 := Keep.keep (Below.refl w.heap.size w)
  have hpp : (p == p) = true := beq_self_eq_true p
  have hbn := bne_nil p
  have hol : (opaqueP p).length ≤ 20000 := (by have := opaqueP_len p; omega)
  have hwl : (whiteoutP p).length ≤ 20000 := (by have := whiteoutP_len p; omega)
  have K1 := Keep.keep (HMAY.out p (by omega))
  rw [hm] at K1
  have K2 := Keep.keep (HOPQ.out p (by omega))
  have K3 := Keep.keep (HCLS.out (opaqueP p) hol)
  rw [class_opaque hm] at K3
  have K4 := Keep.keep (HWHT.out p (by omega))
  have K5 := Keep.keep (HCLS.out (whiteoutP p) hwl)
  rw [(class_whiteout hm h0).1] at K5
  have K6 := Keep.keep (HCLS.out p (by omega))
  rw [class_may hm h0] at K6
  have K7 := Keep.keep (fun wx => parent_any (whiteoutP p) (by omega) wx)
  rw [(class_whiteout hm h0).2] at K7
  have K8 := Keep.keep (fun wx => parent_any p (by omega) wx)
  have he : p.isEmpty = false := by cases p with | nil => exact absurd rfl h0 | cons c p => rfl
  rw [he] at hbn
  have hqq : (parentP p == parentP p) = true := beq_self_eq_true _
  generalize opaqueP p = po at *
  generalize whiteoutP p = pw at *
  generalize parentP p = pa at *
  clear h0 he hol hwl
  clear hM hC hB
  go_enter Tryd.func4, Tryd.ntmps4
  go_wp2_with fail
  refine (K1.out _ HB0.out).mono ?_
  rintro e w1 ⟨rfl, hb⟩
  have HB1 := Keep.keep (HB0.out.trans (hb.mono HB0.out.size))
  clear hb
  go_wp2_with fail
  refine (K2.out _ HB1.out).mono ?_
  rintro e w2 ⟨rfl, hb⟩
  have HB2 := Keep.keep (HB1.out.trans (hb.mono HB1.out.size))
  clear hb
  go_wp2_with fail
  refine (K3.out _ HB2.out).mono ?_
  rintro e w3 ⟨rfl, hb⟩
  have HB3 := Keep.keep (HB2.out.trans (hb.mono HB2.out.size))
  clear hb
  go_wp2_with fail
  refine (K4.out _ HB3.out).mono ?_
  rintro e w4 ⟨rfl, hb⟩
  have HB4 := Keep.keep (HB3.out.trans (hb.mono HB3.out.size))
  clear hb
  go_wp2_with fail
  refine (K5.out _ HB4.out).mono ?_
  rintro e w5 ⟨rfl, hb⟩
  have HB5 := Keep.keep (HB4.out.trans (hb.mono HB4.out.size))
  clear hb
  go_wp2_with fail
  refine (K6.out _ HB5.out).mono ?_
  rintro e w6 ⟨rfl, hb⟩
  have HB6 := Keep.keep (HB5.out.trans (hb.mono HB5.out.size))
  clear hb
  go_wp2_with fail
  refine (K4.out _ HB6.out).mono ?_
  rintro e w7 ⟨rfl, hb⟩
  have HB7 := Keep.keep (HB6.out.trans (hb.mono HB6.out.size))
  clear hb
  go_wp2_with fail
  refine (K7.out _).mono ?_
  rintro e wq ⟨rfl, rfl⟩
  go_wp2_with fail
  refine (K8.out _).mono ?_
  rintro e wq ⟨rfl, rfl⟩
  go_wp2_with fail
  refine (K6.out _ HB7.out).mono ?_
  rintro e w8 ⟨rfl, hb⟩
  have HB8 := Keep.keep (HB7.out.trans (hb.mono HB7.out.size))
  clear hb
  go_wp2_with fail
  refine (K1.out _ HB8.out).mono ?_
  rintro e w9 ⟨rfl, hb⟩
  have HB9 := Keep.keep (HB8.out.trans (hb.mono HB8.out.size))
  clear hb
  go_wp2_with fail
  refine (HWK.out _ HB9.out).mono ?_
  rintro e w10 ⟨rfl, hb⟩
  have HB10 := Keep.keep (HB9.out.trans (hb.mono HB9.out.size))
  clear hb
  go_wp2_with fail
  go_ret
  exact ⟨rfl, HB10.out⟩
set_option maxHeartbeats 8000000 in
set_option maxRecDepth 100000 in
theorem white_B (p0 : List UInt8) (hp0 : p0.length ≤ 9223372036854775807) (p : List UInt8) (hcut : p0.take (min p0.length 5000) = p) (B : Nat) (w : World) (hB : B ≤ w.heap.size) (hM : Mx B w) (hC : Cls B w) (he : p = []) :
    Calls Tryd.prog 4 #[.string ⟨p0.toArray⟩] w fun e w' => e = .returned (.bool true) ∧ Below w.heap.size w w' := by
  have hpl : p.length ≤ 5000 := by rw [← hcut]; simp; omega
  have hkm : min (p0.length : Int) 5000 = ((min p0.length 5000 : Nat) : Int) := by omega
  have hst := run_slice_to (P := Tryd.prog) Tryd.underlying9 p0 .i64 (min p0.length 5000) (by omega)
  rw [hcut] at hst
  generalize min p0.length 5000 = kn at *
  clear hcut
  have HMAY : Keep (∀ q : List UInt8, q.length ≤ 20000 → ∀ wx, Below w.heap.size w wx → _) := ⟨fun q hq wx (h : Below w.heap.size w wx) => may_any q (by omega) B wx (Nat.le_trans hB h.size) (hM.on (h.mono hB))⟩
  have HOPQ : Keep (∀ q : List UInt8, q.length ≤ 20000 → ∀ wx, Below w.heap.size w wx → _) := ⟨fun q hq wx (h : Below w.heap.size w wx) => opaq_any q (by omega) B wx (Nat.le_trans hB h.size) (hM.on (h.mono hB))⟩
  have HWHT : Keep (∀ q : List UInt8, q.length ≤ 20000 → ∀ wx, Below w.heap.size w wx → _) := ⟨fun q hq wx (h : Below w.heap.size w wx) => white_any q (by omega) B wx (Nat.le_trans hB h.size) (hM.on (h.mono hB))⟩
  have HCLS : Keep (∀ q : List UInt8, q.length ≤ 20000 → ∀ wx, Below w.heap.size w wx → _) := ⟨fun q hq wx (h : Below w.heap.size w wx) => class_any q (by omega) B wx (Nat.le_trans hB h.size) (hM.on (h.mono hB)) (hC.on (h.mono hB))⟩
  have HWK : Keep (∀ wx, Below w.heap.size w wx → _) := ⟨fun wx (h : Below w.heap.size w wx) => wakes_any B wx (Nat.le_trans hB h.size) (hM.on (h.mono hB)) (hC.on (h.mono hB))⟩
  have HB0 := Keep.keep (Below.refl w.heap.size w)
  have hpp : (p == p) = true := beq_self_eq_true p
  have hbn := bne_nil p
  subst he
  have K1 := Keep.keep (HMAY.out [] (by decide))
  rw [show mayP [] = true by decide] at K1
  have K2 := Keep.keep (HOPQ.out [] (by decide))
  rw [show opaqueP [] = markB by decide] at K2
  have K3 := Keep.keep (HCLS.out markB (by decide))
  rw [show classP markB = (3, []) by decide] at K3
  have K6 := Keep.keep (HCLS.out [] (by decide))
  rw [show classP [] = (0, []) by decide] at K6
  unfold markB at K2 K3
  clear hM hC hB
  go_enter Tryd.func4, Tryd.ntmps4
  go_wp2_with fail
  refine (K1.out _ HB0.out).mono ?_
  rintro e w1 ⟨rfl, hb⟩
  have HB1 := Keep.keep (HB0.out.trans (hb.mono HB0.out.size))
  clear hb
  go_wp2_with fail
  refine (K2.out _ HB1.out).mono ?_
  rintro e w2 ⟨rfl, hb⟩
  have HB2 := Keep.keep (HB1.out.trans (hb.mono HB1.out.size))
  clear hb
  go_wp2_with fail
  refine (K3.out _ HB2.out).mono ?_
  rintro e w3 ⟨rfl, hb⟩
  have HB3 := Keep.keep (HB2.out.trans (hb.mono HB2.out.size))
  clear hb
  go_wp2_with fail
  refine (K6.out _ HB3.out).mono ?_
  rintro e w4 ⟨rfl, hb⟩
  have HB4 := Keep.keep (HB3.out.trans (hb.mono HB3.out.size))
  clear hb
  go_wp2_with fail
  refine (K1.out _ HB4.out).mono ?_
  rintro e w5 ⟨rfl, hb⟩
  have HB5 := Keep.keep (HB4.out.trans (hb.mono HB4.out.size))
  clear hb
  go_wp2_with fail
  refine (HWK.out _ HB5.out).mono ?_
  rintro e w6 ⟨rfl, hb⟩
  have HB6 := Keep.keep (HB5.out.trans (hb.mono HB5.out.size))
  clear hb
  go_wp2_with fail
  go_ret
  exact ⟨rfl, HB6.out⟩
set_option maxHeartbeats 8000000 in
set_option maxRecDepth 100000 in
theorem white_C0 (p0 : List UInt8) (hp0 : p0.length ≤ 9223372036854775807) (p : List UInt8) (hcut : p0.take (min p0.length 5000) = p) (B : Nat) (w : World) (hB : B ≤ w.heap.size) (hM : Mx B w) (hC : Cls B w) (hm : mayP p = false) (hc : classP p = (0, [])) :
    Calls Tryd.prog 4 #[.string ⟨p0.toArray⟩] w fun e w' => e = .returned (.bool true) ∧ Below w.heap.size w w' := by
  have hpl : p.length ≤ 5000 := by rw [← hcut]; simp; omega
  have hkm : min (p0.length : Int) 5000 = ((min p0.length 5000 : Nat) : Int) := by omega
  have hst := run_slice_to (P := Tryd.prog) Tryd.underlying9 p0 .i64 (min p0.length 5000) (by omega)
  rw [hcut] at hst
  generalize min p0.length 5000 = kn at *
  clear hcut
  have HMAY : Keep (∀ q : List UInt8, q.length ≤ 20000 → ∀ wx, Below w.heap.size w wx → _) := ⟨fun q hq wx (h : Below w.heap.size w wx) => may_any q (by omega) B wx (Nat.le_trans hB h.size) (hM.on (h.mono hB))⟩
  have HOPQ : Keep (∀ q : List UInt8, q.length ≤ 20000 → ∀ wx, Below w.heap.size w wx → _) := ⟨fun q hq wx (h : Below w.heap.size w wx) => opaq_any q (by omega) B wx (Nat.le_trans hB h.size) (hM.on (h.mono hB))⟩
  have HWHT : Keep (∀ q : List UInt8, q.length ≤ 20000 → ∀ wx, Below w.heap.size w wx → _) := ⟨fun q hq wx (h : Below w.heap.size w wx) => white_any q (by omega) B wx (Nat.le_trans hB h.size) (hM.on (h.mono hB))⟩
  have HCLS : Keep (∀ q : List UInt8, q.length ≤ 20000 → ∀ wx, Below w.heap.size w wx → _) := ⟨fun q hq wx (h : Below w.heap.size w wx) => class_any q (by omega) B wx (Nat.le_trans hB h.size) (hM.on (h.mono hB)) (hC.on (h.mono hB))⟩
  have HWK : Keep (∀ wx, Below w.heap.size w wx → _) := ⟨fun wx (h : Below w.heap.size w wx) => wakes_any B wx (Nat.le_trans hB h.size) (hM.on (h.mono hB)) (hC.on (h.mono hB))⟩
  have HB0 := Keep.keep (Below.refl w.heap.size w)
  have hpp : (p == p) = true := beq_self_eq_true p
  have hbn := bne_nil p
  have K1 := Keep.keep (HMAY.out p (by omega))
  rw [hm] at K1
  have K2 := Keep.keep (HOPQ.out p (by omega))
  rw [show opaqueP p = [] by unfold opaqueP; rw [hm]; rfl] at K2
  have K4 := Keep.keep (HWHT.out p (by omega))
  rw [show whiteoutP p = [] by unfold whiteoutP; rw [hm]; simp] at K4
  have K6 := Keep.keep (HCLS.out p (by omega))
  rw [hc] at K6
  clear hm hc
  clear hM hC hB
  go_enter Tryd.func4, Tryd.ntmps4
  go_wp2_with fail
  refine (K1.out _ HB0.out).mono ?_
  rintro e w1 ⟨rfl, hb⟩
  have HB1 := Keep.keep (HB0.out.trans (hb.mono HB0.out.size))
  clear hb
  go_wp2_with fail
  refine (K4.out _ HB1.out).mono ?_
  rintro e w2 ⟨rfl, hb⟩
  have HB2 := Keep.keep (HB1.out.trans (hb.mono HB1.out.size))
  clear hb
  go_wp2_with fail
  refine (K2.out _ HB2.out).mono ?_
  rintro e w3 ⟨rfl, hb⟩
  have HB3 := Keep.keep (HB2.out.trans (hb.mono HB2.out.size))
  clear hb
  go_wp2_with fail
  refine (K6.out _ HB3.out).mono ?_
  rintro e w4 ⟨rfl, hb⟩
  have HB4 := Keep.keep (HB3.out.trans (hb.mono HB3.out.size))
  clear hb
  go_wp2_with fail
  refine (K1.out _ HB4.out).mono ?_
  rintro e w5 ⟨rfl, hb⟩
  have HB5 := Keep.keep (HB4.out.trans (hb.mono HB4.out.size))
  clear hb
  go_wp2_with fail
  refine (HWK.out _ HB5.out).mono ?_
  rintro e w6 ⟨rfl, hb⟩
  have HB6 := Keep.keep (HB5.out.trans (hb.mono HB5.out.size))
  clear hb
  go_wp2_with fail
  go_ret
  exact ⟨rfl, HB6.out⟩
set_option maxHeartbeats 8000000 in
set_option maxRecDepth 100000 in
theorem white_C2 (p0 : List UInt8) (hp0 : p0.length ≤ 9223372036854775807) (p : List UInt8) (hcut : p0.take (min p0.length 5000) = p) (B : Nat) (w : World) (hB : B ≤ w.heap.size) (hM : Mx B w) (hC : Cls B w) (hm : mayP p = false) (t : List UInt8) (hc : classP p = (2, t)) (hw : whiteoutP t = p) (hl : t.length ≤ p.length) :
    Calls Tryd.prog 4 #[.string ⟨p0.toArray⟩] w fun e w' => e = .returned (.bool true) ∧ Below w.heap.size w w' := by
  have hpl : p.length ≤ 5000 := by rw [← hcut]; simp; omega
  have hkm : min (p0.length : Int) 5000 = ((min p0.length 5000 : Nat) : Int) := by omega
  have hst := run_slice_to (P := Tryd.prog) Tryd.underlying9 p0 .i64 (min p0.length 5000) (by omega)
  rw [hcut] at hst
  generalize min p0.length 5000 = kn at *
  clear hcut
  have HMAY : Keep (∀ q : List UInt8, q.length ≤ 20000 → ∀ wx, Below w.heap.size w wx → _) := ⟨fun q hq wx (h : Below w.heap.size w wx) => may_any q (by omega) B wx (Nat.le_trans hB h.size) (hM.on (h.mono hB))⟩
  have HOPQ : Keep (∀ q : List UInt8, q.length ≤ 20000 → ∀ wx, Below w.heap.size w wx → _) := ⟨fun q hq wx (h : Below w.heap.size w wx) => opaq_any q (by omega) B wx (Nat.le_trans hB h.size) (hM.on (h.mono hB))⟩
  have HWHT : Keep (∀ q : List UInt8, q.length ≤ 20000 → ∀ wx, Below w.heap.size w wx → _) := ⟨fun q hq wx (h : Below w.heap.size w wx) => white_any q (by omega) B wx (Nat.le_trans hB h.size) (hM.on (h.mono hB))⟩
  have HCLS : Keep (∀ q : List UInt8, q.length ≤ 20000 → ∀ wx, Below w.heap.size w wx → _) := ⟨fun q hq wx (h : Below w.heap.size w wx) => class_any q (by omega) B wx (Nat.le_trans hB h.size) (hM.on (h.mono hB)) (hC.on (h.mono hB))⟩
  have HWK : Keep (∀ wx, Below w.heap.size w wx → _) := ⟨fun wx (h : Below w.heap.size w wx) => wakes_any B wx (Nat.le_trans hB h.size) (hM.on (h.mono hB)) (hC.on (h.mono hB))⟩
  have HB0 := Keep.keep (Below.refl w.heap.size w)
  have hpp : (p == p) = true := beq_self_eq_true p
  have hbn := bne_nil p
  have K1 := Keep.keep (HMAY.out p (by omega))
  rw [hm] at K1
  have K2 := Keep.keep (HOPQ.out p (by omega))
  rw [show opaqueP p = [] by unfold opaqueP; rw [hm]; rfl] at K2
  have K4 := Keep.keep (HWHT.out p (by omega))
  rw [show whiteoutP p = [] by unfold whiteoutP; rw [hm]; simp] at K4
  have K6 := Keep.keep (HCLS.out p (by omega))
  rw [hc] at K6
  have K9 := Keep.keep (HWHT.out t (by omega))
  rw [hw] at K9
  clear hm hc hw hl
  clear hM hC hB
  go_enter Tryd.func4, Tryd.ntmps4
  go_wp2_with fail
  refine (K1.out _ HB0.out).mono ?_
  rintro e w1 ⟨rfl, hb⟩
  have HB1 := Keep.keep (HB0.out.trans (hb.mono HB0.out.size))
  clear hb
  go_wp2_with fail
  refine (K4.out _ HB1.out).mono ?_
  rintro e w2 ⟨rfl, hb⟩
  have HB2 := Keep.keep (HB1.out.trans (hb.mono HB1.out.size))
  clear hb
  go_wp2_with fail
  refine (K2.out _ HB2.out).mono ?_
  rintro e w3 ⟨rfl, hb⟩
  have HB3 := Keep.keep (HB2.out.trans (hb.mono HB2.out.size))
  clear hb
  go_wp2_with fail
  refine (K6.out _ HB3.out).mono ?_
  rintro e w4 ⟨rfl, hb⟩
  have HB4 := Keep.keep (HB3.out.trans (hb.mono HB3.out.size))
  clear hb
  go_wp2_with fail
  refine (K9.out _ HB4.out).mono ?_
  rintro e w5 ⟨rfl, hb⟩
  have HB5 := Keep.keep (HB4.out.trans (hb.mono HB4.out.size))
  clear hb
  go_wp2_with fail
  refine (K1.out _ HB5.out).mono ?_
  rintro e w6 ⟨rfl, hb⟩
  have HB6 := Keep.keep (HB5.out.trans (hb.mono HB5.out.size))
  clear hb
  go_wp2_with fail
  refine (HWK.out _ HB6.out).mono ?_
  rintro e w7 ⟨rfl, hb⟩
  have HB7 := Keep.keep (HB6.out.trans (hb.mono HB6.out.size))
  clear hb
  go_wp2_with fail
  go_ret
  exact ⟨rfl, HB7.out⟩
set_option maxHeartbeats 8000000 in
set_option maxRecDepth 100000 in
theorem white_C3 (p0 : List UInt8) (hp0 : p0.length ≤ 9223372036854775807) (p : List UInt8) (hcut : p0.take (min p0.length 5000) = p) (B : Nat) (w : World) (hB : B ≤ w.heap.size) (hM : Mx B w) (hC : Cls B w) (hm : mayP p = false) (t : List UInt8) (hc : classP p = (3, t)) (hw : opaqueP t = p) (hl : t.length ≤ p.length) :
    Calls Tryd.prog 4 #[.string ⟨p0.toArray⟩] w fun e w' => e = .returned (.bool true) ∧ Below w.heap.size w w' := by
  have hpl : p.length ≤ 5000 := by rw [← hcut]; simp; omega
  have hkm : min (p0.length : Int) 5000 = ((min p0.length 5000 : Nat) : Int) := by omega
  have hst := run_slice_to (P := Tryd.prog) Tryd.underlying9 p0 .i64 (min p0.length 5000) (by omega)
  rw [hcut] at hst
  generalize min p0.length 5000 = kn at *
  clear hcut
  have HMAY : Keep (∀ q : List UInt8, q.length ≤ 20000 → ∀ wx, Below w.heap.size w wx → _) := ⟨fun q hq wx (h : Below w.heap.size w wx) => may_any q (by omega) B wx (Nat.le_trans hB h.size) (hM.on (h.mono hB))⟩
  have HOPQ : Keep (∀ q : List UInt8, q.length ≤ 20000 → ∀ wx, Below w.heap.size w wx → _) := ⟨fun q hq wx (h : Below w.heap.size w wx) => opaq_any q (by omega) B wx (Nat.le_trans hB h.size) (hM.on (h.mono hB))⟩
  have HWHT : Keep (∀ q : List UInt8, q.length ≤ 20000 → ∀ wx, Below w.heap.size w wx → _) := ⟨fun q hq wx (h : Below w.heap.size w wx) => white_any q (by omega) B wx (Nat.le_trans hB h.size) (hM.on (h.mono hB))⟩
  have HCLS : Keep (∀ q : List UInt8, q.length ≤ 20000 → ∀ wx, Below w.heap.size w wx → _) := ⟨fun q hq wx (h : Below w.heap.size w wx) => class_any q (by omega) B wx (Nat.le_trans hB h.size) (hM.on (h.mono hB)) (hC.on (h.mono hB))⟩
  have HWK : Keep (∀ wx, Below w.heap.size w wx → _) := ⟨fun wx (h : Below w.heap.size w wx) => wakes_any B wx (Nat.le_trans hB h.size) (hM.on (h.mono hB)) (hC.on (h.mono hB))⟩
  have HB0 := Keep.keep (Below.refl w.heap.size w)
  have hpp : (p == p) = true := beq_self_eq_true p
  have hbn := bne_nil p
  have K1 := Keep.keep (HMAY.out p (by omega))
  rw [hm] at K1
  have K2 := Keep.keep (HOPQ.out p (by omega))
  rw [show opaqueP p = [] by unfold opaqueP; rw [hm]; rfl] at K2
  have K4 := Keep.keep (HWHT.out p (by omega))
  rw [show whiteoutP p = [] by unfold whiteoutP; rw [hm]; simp] at K4
  have K6 := Keep.keep (HCLS.out p (by omega))
  rw [hc] at K6
  have K9 := Keep.keep (HOPQ.out t (by omega))
  rw [hw] at K9
  clear hm hc hw hl
  clear hM hC hB
  go_enter Tryd.func4, Tryd.ntmps4
  go_wp2_with fail
  refine (K1.out _ HB0.out).mono ?_
  rintro e w1 ⟨rfl, hb⟩
  have HB1 := Keep.keep (HB0.out.trans (hb.mono HB0.out.size))
  clear hb
  go_wp2_with fail
  refine (K4.out _ HB1.out).mono ?_
  rintro e w2 ⟨rfl, hb⟩
  have HB2 := Keep.keep (HB1.out.trans (hb.mono HB1.out.size))
  clear hb
  go_wp2_with fail
  refine (K2.out _ HB2.out).mono ?_
  rintro e w3 ⟨rfl, hb⟩
  have HB3 := Keep.keep (HB2.out.trans (hb.mono HB2.out.size))
  clear hb
  go_wp2_with fail
  refine (K6.out _ HB3.out).mono ?_
  rintro e w4 ⟨rfl, hb⟩
  have HB4 := Keep.keep (HB3.out.trans (hb.mono HB3.out.size))
  clear hb
  go_wp2_with fail
  refine (K9.out _ HB4.out).mono ?_
  rintro e w5 ⟨rfl, hb⟩
  have HB5 := Keep.keep (HB4.out.trans (hb.mono HB4.out.size))
  clear hb
  go_wp2_with fail
  refine (K1.out _ HB5.out).mono ?_
  rintro e w6 ⟨rfl, hb⟩
  have HB6 := Keep.keep (HB5.out.trans (hb.mono HB5.out.size))
  clear hb
  go_wp2_with fail
  refine (HWK.out _ HB6.out).mono ?_
  rintro e w7 ⟨rfl, hb⟩
  have HB7 := Keep.keep (HB6.out.trans (hb.mono HB6.out.size))
  clear hb
  go_wp2_with fail
  go_ret
  exact ⟨rfl, HB7.out⟩
set_option maxHeartbeats 8000000 in
set_option maxRecDepth 100000 in
theorem white_C4 (p0 : List UInt8) (hp0 : p0.length ≤ 9223372036854775807) (p : List UInt8) (hcut : p0.take (min p0.length 5000) = p) (B : Nat) (w : World) (hB : B ≤ w.heap.size) (hM : Mx B w) (hC : Cls B w) (hm : mayP p = false) (hc : classP p = (4, [])) (ht : p = tableB) :
    Calls Tryd.prog 4 #[.string ⟨p0.toArray⟩] w fun e w' => e = .returned (.bool true) ∧ Below w.heap.size w w' := by
  have hpl : p.length ≤ 5000 := by rw [← hcut]; simp; omega
  have hkm : min (p0.length : Int) 5000 = ((min p0.length 5000 : Nat) : Int) := by omega
  have hst := run_slice_to (P := Tryd.prog) Tryd.underlying9 p0 .i64 (min p0.length 5000) (by omega)
  rw [hcut] at hst
  generalize min p0.length 5000 = kn at *
  clear hcut
  have HMAY : Keep (∀ q : List UInt8, q.length ≤ 20000 → ∀ wx, Below w.heap.size w wx → _) := ⟨fun q hq wx (h : Below w.heap.size w wx) => may_any q (by omega) B wx (Nat.le_trans hB h.size) (hM.on (h.mono hB))⟩
  have HOPQ : Keep (∀ q : List UInt8, q.length ≤ 20000 → ∀ wx, Below w.heap.size w wx → _) := ⟨fun q hq wx (h : Below w.heap.size w wx) => opaq_any q (by omega) B wx (Nat.le_trans hB h.size) (hM.on (h.mono hB))⟩
  have HWHT : Keep (∀ q : List UInt8, q.length ≤ 20000 → ∀ wx, Below w.heap.size w wx → _) := ⟨fun q hq wx (h : Below w.heap.size w wx) => white_any q (by omega) B wx (Nat.le_trans hB h.size) (hM.on (h.mono hB))⟩
  have HCLS : Keep (∀ q : List UInt8, q.length ≤ 20000 → ∀ wx, Below w.heap.size w wx → _) := ⟨fun q hq wx (h : Below w.heap.size w wx) => class_any q (by omega) B wx (Nat.le_trans hB h.size) (hM.on (h.mono hB)) (hC.on (h.mono hB))⟩
  have HWK : Keep (∀ wx, Below w.heap.size w wx → _) := ⟨fun wx (h : Below w.heap.size w wx) => wakes_any B wx (Nat.le_trans hB h.size) (hM.on (h.mono hB)) (hC.on (h.mono hB))⟩
  have HB0 := Keep.keep (Below.refl w.heap.size w)
  have hpp : (p == p) = true := beq_self_eq_true p
  have hbn := bne_nil p
  have K1 := Keep.keep (HMAY.out p (by omega))
  rw [hm] at K1
  have K2 := Keep.keep (HOPQ.out p (by omega))
  rw [show opaqueP p = [] by unfold opaqueP; rw [hm]; rfl] at K2
  have K4 := Keep.keep (HWHT.out p (by omega))
  rw [show whiteoutP p = [] by unfold whiteoutP; rw [hm]; simp] at K4
  have K6 := Keep.keep (HCLS.out p (by omega))
  rw [hc] at K6
  have htab : (p == [46, 119, 104, 46, 46, 119, 104, 46, 116, 111, 99]) = true := by rw [ht]; rfl
  clear ht
  clear hm hc
  clear hM hC hB
  go_enter Tryd.func4, Tryd.ntmps4
  go_wp2_with fail
  refine (K1.out _ HB0.out).mono ?_
  rintro e w1 ⟨rfl, hb⟩
  have HB1 := Keep.keep (HB0.out.trans (hb.mono HB0.out.size))
  clear hb
  go_wp2_with fail
  refine (K4.out _ HB1.out).mono ?_
  rintro e w2 ⟨rfl, hb⟩
  have HB2 := Keep.keep (HB1.out.trans (hb.mono HB1.out.size))
  clear hb
  go_wp2_with fail
  refine (K2.out _ HB2.out).mono ?_
  rintro e w3 ⟨rfl, hb⟩
  have HB3 := Keep.keep (HB2.out.trans (hb.mono HB2.out.size))
  clear hb
  go_wp2_with fail
  refine (K6.out _ HB3.out).mono ?_
  rintro e w4 ⟨rfl, hb⟩
  have HB4 := Keep.keep (HB3.out.trans (hb.mono HB3.out.size))
  clear hb
  go_wp2_with fail
  refine (HWK.out _ HB4.out).mono ?_
  rintro e w5 ⟨rfl, hb⟩
  have HB5 := Keep.keep (HB4.out.trans (hb.mono HB4.out.size))
  clear hb
  go_wp2_with fail
  go_ret
  exact ⟨rfl, HB5.out⟩
theorem white_any_law (p0 : List UInt8) (hp0 : p0.length ≤ 9223372036854775807) (B : Nat) (w : World) (hB : B ≤ w.heap.size) (hM : Mx B w) (hC : Cls B w) :
    Calls Tryd.prog 4 #[.string ⟨p0.toArray⟩] w fun e w' => e = .returned (.bool true) ∧ Below w.heap.size w w' := by
  obtain ⟨p, hp⟩ : ∃ p, p0.take (min p0.length 5000) = p := ⟨_, rfl⟩
  by_cases h0 : p = []
  · exact white_B p0 hp0 p hp B w hB hM hC h0
  · rcases told p with ⟨h, hn⟩ | ⟨h, hm, h0⟩ | ⟨t, h, hw, hm, hl⟩ | ⟨t, h, hw, hm, hl⟩ | ⟨h, ht, hm⟩
    · have hm : mayP p = false := by
        cases hx : mayP p with
        | false => rfl
        | true => exact absurd ⟨hx, h0⟩ hn
      exact white_C0 p0 hp0 p hp B w hB hM hC hm h
    · exact white_A p0 hp0 p hp B w hB hM hC hm h0
    · exact white_C2 p0 hp0 p hp B w hB hM hC hm t h hw hl
    · exact white_C3 p0 hp0 p hp B w hB hM hC hm t h hw hl
    · exact white_C4 p0 hp0 p hp B w hB hM hC hm h ht
end Go.Proofs.YtkijhaibcnhedaaDoor
