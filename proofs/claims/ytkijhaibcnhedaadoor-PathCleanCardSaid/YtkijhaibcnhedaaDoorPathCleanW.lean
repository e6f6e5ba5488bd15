/- PathClean: what is cleaned is clean. -/
import Derived.Test.YtkijhaibcnhedaaDoorPathWakes
import Derived.Test.YtkijhaibcnhedaaDoorPathCleanL
namespace Go.Proofs.YtkijhaibcnhedaaDoor
open Go.RowKit
set_option maxHeartbeats 8000000 in
set_option maxRecDepth 100000 in
theorem cleanlaw_A (p0 : List UInt8) (hp0 : p0.length ≤ 9223372036854775807) (raw : List UInt8) (hcut : p0.take (min p0.length 5000) = raw) (B : Nat) (w : World) (hB : B ≤ w.heap.size) (hM : Mx B w) (hC : Cls B w) (hs : ([47] : List UInt8).isPrefixOf raw = true) (hc : cleanP raw = ([], 30)) :
    Calls Tryd.prog 6 #[.string ⟨p0.toArray⟩] w fun e w' => e = .returned (.bool true) ∧ Below w.heap.size w w' := by
  have hpl : raw.length ≤ 5000 := by rw [← hcut]; simp; omega
  have hkm : min (p0.length : Int) 5000 = ((min p0.length 5000 : Nat) : Int) := by omega
  have hst := run_slice_to (P := Tryd.prog) Tryd.underlying9 p0 .i64 (min p0.length 5000) (by omega)
  rw [hcut] at hst
  generalize min p0.length 5000 = kn at *
  clear hcut
  have HCL : Keep (∀ q : List UInt8, q.length ≤ 30000 → ∀ wx, Below w.heap.size w wx → _) := ⟨fun q hq wx (h : Below w.heap.size w wx) => clean_any q (by omega) B wx (Nat.le_trans hB h.size) (hM.on (h.mono hB))⟩
  have HWK : Keep (∀ wx, Below w.heap.size w wx → _) := ⟨fun wx (h : Below w.heap.size w wx) => wakes_any B wx (Nat.le_trans hB h.size) (hM.on (h.mono hB)) (hC.on (h.mono hB))⟩
  have HRA : Keep (∀ wx, Below w.heap.size w wx → Calls Tryd.prog 35 #[.string ⟨raw.toArray⟩, .string ⟨#[47]⟩, .string ⟨#[47, 46, 47, 47]⟩] wx fun e w' => e = .returned (.string ⟨(repl raw).toArray⟩) ∧ Below wx.heap.size wx w') := ⟨fun wx h => by
    obtain ⟨m, hm⟩ := (hM.on (h.mono hB)).ex
    have hcnt : Lib.countB ⟨raw.toArray⟩ ⟨#[47]⟩ ≤ 5000 := by
      have h1 := Lib.countB_le ⟨#[47]⟩ (by decide) raw.length ⟨raw.toArray⟩ (Nat.le_refl _)
      have h2 : (⟨raw.toArray⟩ : ByteArray).size = raw.length := rfl
      omega
    have h9 := Tryd.strings_ReplaceAll ⟨raw.toArray⟩ ⟨#[47]⟩ ⟨#[47, 46, 47, 47]⟩ m wx (by show raw.length < _; omega) hm (by decide) (by show raw.length + _ * 4 ≤ _; omega)
    rw [show Lib.replaceAll (⟨raw.toArray⟩ : ByteArray).data.toList (⟨#[47]⟩ : ByteArray).data.toList (⟨#[47, 46, 47, 47]⟩ : ByteArray).data.toList = repl raw from replaceAll_repl raw] at h9
    exact h9⟩
  have HHP : Keep (∀ wx, Calls Tryd.prog 17 #[.string ⟨raw.toArray⟩, .string ⟨#[47]⟩] wx fun e w' => e = .returned (.bool true) ∧ w' = wx) := ⟨fun wx => by
    have h9 := Tryd.strings_HasPrefix ⟨raw.toArray⟩ ⟨#[47]⟩ wx
    rw [show Lib.hasPrefix (⟨raw.toArray⟩ : ByteArray).data.toList (⟨#[47]⟩ : ByteArray).data.toList = true from hs] at h9
    exact h9⟩
  have hrl := repl_len raw
  have hwl : (wrapR raw).length = (repl raw).length + 4 := by unfold wrapR; simp
  have K1 := Keep.keep (HCL.out raw (by omega))
  rw [hc] at K1
  have K2 := Keep.keep (HCL.out ([47] ++ raw) (by simp; omega))
  rw [show cleanP ([47] ++ raw) = ([], 30) from clean_slash raw] at K2
  have K3 := Keep.keep (HCL.out (raw ++ [47, 46, 46]) (by simp; omega))
  rw [clean_behind raw] at K3
  have K4 := Keep.keep (HCL.out ([46, 46, 47] ++ raw) (by simp; omega))
  rw [clean_ahead raw] at K4
  have K5 := Keep.keep (HCL.out (wrapR raw) (by omega))
  have hc2 := run_cat (P := Tryd.prog) [47] raw (by simp; omega)
  have hc3 := run_cat (P := Tryd.prog) raw [47, 46, 46] (by simp; omega)
  have hc4 := run_cat (P := Tryd.prog) [46, 46, 47] raw (by simp; omega)
  have hc5 := run_cat (P := Tryd.prog) [46, 47] (repl raw) (by simp; omega)
  have hc6 := run_cat (P := Tryd.prog) ([46, 47] ++ repl raw) [47, 46] (by simp; omega)
  rw [show ([46, 47] ++ repl raw) ++ [47, 46] = wrapR raw from rfl] at hc6
  generalize [47] ++ raw = q2 at *
  generalize raw ++ [47, 46, 46] = q3 at *
  generalize [46, 46, 47] ++ raw = q4 at *
  generalize [46, 47] ++ repl raw = q5 at *
  generalize wrapR raw = q6 at *
  generalize repl raw = q7 at *
  have HB0 := Keep.keep (Below.refl w.heap.size w)
  generalize (cleanP q6).1 = z1 at *
  generalize (cleanP q6).2 = z2 at *
  clear hM hC hB hs hc hrl hwl
  go_enter Tryd.func6, Tryd.ntmps6
  go_wp2_with fail
  refine (K1.out _ HB0.out).mono ?_
  rintro e w1 ⟨rfl, hb⟩
  have HB1 := Keep.keep (HB0.out.trans (hb.mono HB0.out.size))
  clear hb
  go_wp2_with fail
  refine (K2.out _ HB1.out).mono ?_
  rintro e w2 ⟨rfl, hb⟩
  have HB2 := Keep.keep (HB1.out.trans (hb.mono HB1.out.size))
  clear hb
  go_wp2_with fail
  refine (K3.out _ HB2.out).mono ?_
  rintro e w3 ⟨rfl, hb⟩
  have HB3 := Keep.keep (HB2.out.trans (hb.mono HB2.out.size))
  clear hb
  go_wp2_with fail
  refine (K4.out _ HB3.out).mono ?_
  rintro e w4 ⟨rfl, hb⟩
  have HB4 := Keep.keep (HB3.out.trans (hb.mono HB3.out.size))
  clear hb
  go_wp2_with fail
  refine (HRA.out _ HB4.out).mono ?_
  rintro e w5 ⟨rfl, hb⟩
  have HB5 := Keep.keep (HB4.out.trans (hb.mono HB4.out.size))
  clear hb
  go_wp2_with fail
  refine (K5.out _ HB5.out).mono ?_
  rintro e w6 ⟨rfl, hb⟩
  have HB6 := Keep.keep (HB5.out.trans (hb.mono HB5.out.size))
  clear hb
  go_wp2_with fail
  refine (HHP.out _).mono ?_
  rintro e wq ⟨rfl, rfl⟩
  go_wp2_with fail
  refine (HWK.out _ HB6.out).mono ?_
  rintro e w7 ⟨rfl, hb⟩
  have HB7 := Keep.keep (HB6.out.trans (hb.mono HB6.out.size))
  clear hb
  go_wp2_with fail
  go_ret
  exact ⟨rfl, HB7.out⟩
set_option maxHeartbeats 8000000 in
set_option maxRecDepth 100000 in
theorem cleanlaw_B (p0 : List UInt8) (hp0 : p0.length ≤ 9223372036854775807) (raw : List UInt8) (hcut : p0.take (min p0.length 5000) = raw) (B : Nat) (w : World) (hB : B ≤ w.heap.size) (hM : Mx B w) (hC : Cls B w) (hs : ([47] : List UInt8).isPrefixOf raw = false) (hc : cleanP raw = ([], 30)) :
    Calls Tryd.prog 6 #[.string ⟨p0.toArray⟩] w fun e w' => e = .returned (.bool true) ∧ Below w.heap.size w w' := by
  have hpl : raw.length ≤ 5000 := by rw [← hcut]; simp; omega
  have hkm : min (p0.length : Int) 5000 = ((min p0.length 5000 : Nat) : Int) := by omega
  have hst := run_slice_to (P := Tryd.prog) Tryd.underlying9 p0 .i64 (min p0.length 5000) (by omega)
  rw [hcut] at hst
  generalize min p0.length 5000 = kn at *
  clear hcut
  have HCL : Keep (∀ q : List UInt8, q.length ≤ 30000 → ∀ wx, Below w.heap.size w wx → _) := ⟨fun q hq wx (h : Below w.heap.size w wx) => clean_any q (by omega) B wx (Nat.le_trans hB h.size) (hM.on (h.mono hB))⟩
  have HWK : Keep (∀ wx, Below w.heap.size w wx → _) := ⟨fun wx (h : Below w.heap.size w wx) => wakes_any B wx (Nat.le_trans hB h.size) (hM.on (h.mono hB)) (hC.on (h.mono hB))⟩
  have HRA : Keep (∀ wx, Below w.heap.size w wx → Calls Tryd.prog 35 #[.string ⟨raw.toArray⟩, .string ⟨#[47]⟩, .string ⟨#[47, 46, 47, 47]⟩] wx fun e w' => e = .returned (.string ⟨(repl raw).toArray⟩) ∧ Below wx.heap.size wx w') := ⟨fun wx h => by
    obtain ⟨m, hm⟩ := (hM.on (h.mono hB)).ex
    have hcnt : Lib.countB ⟨raw.toArray⟩ ⟨#[47]⟩ ≤ 5000 := by
      have h1 := Lib.countB_le ⟨#[47]⟩ (by decide) raw.length ⟨raw.toArray⟩ (Nat.le_refl _)
      have h2 : (⟨raw.toArray⟩ : ByteArray).size = raw.length := rfl
      omega
    have h9 := Tryd.strings_ReplaceAll ⟨raw.toArray⟩ ⟨#[47]⟩ ⟨#[47, 46, 47, 47]⟩ m wx (by show raw.length < _; omega) hm (by decide) (by show raw.length + _ * 4 ≤ _; omega)
    rw [show Lib.replaceAll (⟨raw.toArray⟩ : ByteArray).data.toList (⟨#[47]⟩ : ByteArray).data.toList (⟨#[47, 46, 47, 47]⟩ : ByteArray).data.toList = repl raw from replaceAll_repl raw] at h9
    exact h9⟩
  have HHP : Keep (∀ wx, Calls Tryd.prog 17 #[.string ⟨raw.toArray⟩, .string ⟨#[47]⟩] wx fun e w' => e = .returned (.bool false) ∧ w' = wx) := ⟨fun wx => by
    have h9 := Tryd.strings_HasPrefix ⟨raw.toArray⟩ ⟨#[47]⟩ wx
    rw [show Lib.hasPrefix (⟨raw.toArray⟩ : ByteArray).data.toList (⟨#[47]⟩ : ByteArray).data.toList = false from hs] at h9
    exact h9⟩
  have hrl := repl_len raw
  have hwl : (wrapR raw).length = (repl raw).length + 4 := by unfold wrapR; simp
  have K1 := Keep.keep (HCL.out raw (by omega))
  rw [hc] at K1
  have K2 := Keep.keep (HCL.out ([47] ++ raw) (by simp; omega))
  rw [show cleanP ([47] ++ raw) = ([], 30) from clean_slash raw] at K2
  have K3 := Keep.keep (HCL.out (raw ++ [47, 46, 46]) (by simp; omega))
  rw [clean_behind raw] at K3
  have K4 := Keep.keep (HCL.out ([46, 46, 47] ++ raw) (by simp; omega))
  rw [clean_ahead raw] at K4
  have K5 := Keep.keep (HCL.out (wrapR raw) (by omega))
  rw [clean_wrapR hs, hc] at K5
  have hc2 := run_cat (P := Tryd.prog) [47] raw (by simp; omega)
  have hc3 := run_cat (P := Tryd.prog) raw [47, 46, 46] (by simp; omega)
  have hc4 := run_cat (P := Tryd.prog) [46, 46, 47] raw (by simp; omega)
  have hc5 := run_cat (P := Tryd.prog) [46, 47] (repl raw) (by simp; omega)
  have hc6 := run_cat (P := Tryd.prog) ([46, 47] ++ repl raw) [47, 46] (by simp; omega)
  rw [show ([46, 47] ++ repl raw) ++ [47, 46] = wrapR raw from rfl] at hc6
  generalize [47] ++ raw = q2 at *
  generalize raw ++ [47, 46, 46] = q3 at *
  generalize [46, 46, 47] ++ raw = q4 at *
  generalize [46, 47] ++ repl raw = q5 at *
  generalize wrapR raw = q6 at *
  generalize repl raw = q7 at *
  have HB0 := Keep.keep (Below.refl w.heap.size w)
  clear hM hC hB hs hc hrl hwl
  go_enter Tryd.func6, Tryd.ntmps6
  go_wp2_with fail
  refine (K1.out _ HB0.out).mono ?_
  rintro e w1 ⟨rfl, hb⟩
  have HB1 := Keep.keep (HB0.out.trans (hb.mono HB0.out.size))
  clear hb
  go_wp2_with fail
  refine (K2.out _ HB1.out).mono ?_
  rintro e w2 ⟨rfl, hb⟩
  have HB2 := Keep.keep (HB1.out.trans (hb.mono HB1.out.size))
  clear hb
  go_wp2_with fail
  refine (K3.out _ HB2.out).mono ?_
  rintro e w3 ⟨rfl, hb⟩
  have HB3 := Keep.keep (HB2.out.trans (hb.mono HB2.out.size))
  clear hb
  go_wp2_with fail
  refine (K4.out _ HB3.out).mono ?_
  rintro e w4 ⟨rfl, hb⟩
  have HB4 := Keep.keep (HB3.out.trans (hb.mono HB3.out.size))
  clear hb
  go_wp2_with fail
  refine (HRA.out _ HB4.out).mono ?_
  rintro e w5 ⟨rfl, hb⟩
  have HB5 := Keep.keep (HB4.out.trans (hb.mono HB4.out.size))
  clear hb
  go_wp2_with fail
  refine (K5.out _ HB5.out).mono ?_
  rintro e w6 ⟨rfl, hb⟩
  have HB6 := Keep.keep (HB5.out.trans (hb.mono HB5.out.size))
  clear hb
  go_wp2_with fail
  refine (HHP.out _).mono ?_
  rintro e wq ⟨rfl, rfl⟩
  go_wp2_with fail
  refine (HWK.out _ HB6.out).mono ?_
  rintro e w7 ⟨rfl, hb⟩
  have HB7 := Keep.keep (HB6.out.trans (hb.mono HB6.out.size))
  clear hb
  go_wp2_with fail
  go_ret
  exact ⟨rfl, HB7.out⟩
set_option maxHeartbeats 8000000 in
set_option maxRecDepth 100000 in
theorem cleanlaw_C (p0 : List UInt8) (hp0 : p0.length ≤ 9223372036854775807) (raw : List UInt8) (hcut : p0.take (min p0.length 5000) = raw) (B : Nat) (w : World) (hB : B ≤ w.heap.size) (hM : Mx B w) (hC : Cls B w) (hs : ([47] : List UInt8).isPrefixOf raw = false) (hc : cleanP raw = ([], 3)) :
    Calls Tryd.prog 6 #[.string ⟨p0.toArray⟩] w fun e w' => e = .returned (.bool true) ∧ Below w.heap.size w w' := by
  have hpl : raw.length ≤ 5000 := by rw [← hcut]; simp; omega
  have hkm : min (p0.length : Int) 5000 = ((min p0.length 5000 : Nat) : Int) := by omega
  have hst := run_slice_to (P := Tryd.prog) Tryd.underlying9 p0 .i64 (min p0.length 5000) (by omega)
  rw [hcut] at hst
  generalize min p0.length 5000 = kn at *
  clear hcut
  have HCL : Keep (∀ q : List UInt8, q.length ≤ 30000 → ∀ wx, Below w.heap.size w wx → _) := ⟨fun q hq wx (h : Below w.heap.size w wx) => clean_any q (by omega) B wx (Nat.le_trans hB h.size) (hM.on (h.mono hB))⟩
  have HWK : Keep (∀ wx, Below w.heap.size w wx → _) := ⟨fun wx (h : Below w.heap.size w wx) => wakes_any B wx (Nat.le_trans hB h.size) (hM.on (h.mono hB)) (hC.on (h.mono hB))⟩
  have HRA : Keep (∀ wx, Below w.heap.size w wx → Calls Tryd.prog 35 #[.string ⟨raw.toArray⟩, .string ⟨#[47]⟩, .string ⟨#[47, 46, 47, 47]⟩] wx fun e w' => e = .returned (.string ⟨(repl raw).toArray⟩) ∧ Below wx.heap.size wx w') := ⟨fun wx h => by
    obtain ⟨m, hm⟩ := (hM.on (h.mono hB)).ex
    have hcnt : Lib.countB ⟨raw.toArray⟩ ⟨#[47]⟩ ≤ 5000 := by
      have h1 := Lib.countB_le ⟨#[47]⟩ (by decide) raw.length ⟨raw.toArray⟩ (Nat.le_refl _)
      have h2 : (⟨raw.toArray⟩ : ByteArray).size = raw.length := rfl
      omega
    have h9 := Tryd.strings_ReplaceAll ⟨raw.toArray⟩ ⟨#[47]⟩ ⟨#[47, 46, 47, 47]⟩ m wx (by show raw.length < _; omega) hm (by decide) (by show raw.length + _ * 4 ≤ _; omega)
    rw [show Lib.replaceAll (⟨raw.toArray⟩ : ByteArray).data.toList (⟨#[47]⟩ : ByteArray).data.toList (⟨#[47, 46, 47, 47]⟩ : ByteArray).data.toList = repl raw from replaceAll_repl raw] at h9
    exact h9⟩
  have HHP : Keep (∀ wx, Calls Tryd.prog 17 #[.string ⟨raw.toArray⟩, .string ⟨#[47]⟩] wx fun e w' => e = .returned (.bool false) ∧ w' = wx) := ⟨fun wx => by
    have h9 := Tryd.strings_HasPrefix ⟨raw.toArray⟩ ⟨#[47]⟩ wx
    rw [show Lib.hasPrefix (⟨raw.toArray⟩ : ByteArray).data.toList (⟨#[47]⟩ : ByteArray).data.toList = false from hs] at h9
    exact h9⟩
  have hrl := repl_len raw
  have hwl : (wrapR raw).length = (repl raw).length + 4 := by unfold wrapR; simp
  have K1 := Keep.keep (HCL.out raw (by omega))
  rw [hc] at K1
  have K2 := Keep.keep (HCL.out ([47] ++ raw) (by simp; omega))
  rw [show cleanP ([47] ++ raw) = ([], 30) from clean_slash raw] at K2
  have K3 := Keep.keep (HCL.out (raw ++ [47, 46, 46]) (by simp; omega))
  rw [clean_behind raw] at K3
  have K4 := Keep.keep (HCL.out ([46, 46, 47] ++ raw) (by simp; omega))
  rw [clean_ahead raw] at K4
  have K5 := Keep.keep (HCL.out (wrapR raw) (by omega))
  rw [clean_wrapR hs, hc] at K5
  have hc2 := run_cat (P := Tryd.prog) [47] raw (by simp; omega)
  have hc3 := run_cat (P := Tryd.prog) raw [47, 46, 46] (by simp; omega)
  have hc4 := run_cat (P := Tryd.prog) [46, 46, 47] raw (by simp; omega)
  have hc5 := run_cat (P := Tryd.prog) [46, 47] (repl raw) (by simp; omega)
  have hc6 := run_cat (P := Tryd.prog) ([46, 47] ++ repl raw) [47, 46] (by simp; omega)
  rw [show ([46, 47] ++ repl raw) ++ [47, 46] = wrapR raw from rfl] at hc6
  generalize [47] ++ raw = q2 at *
  generalize raw ++ [47, 46, 46] = q3 at *
  generalize [46, 46, 47] ++ raw = q4 at *
  generalize [46, 47] ++ repl raw = q5 at *
  generalize wrapR raw = q6 at *
  generalize repl raw = q7 at *
  have HB0 := Keep.keep (Below.refl w.heap.size w)
  clear hM hC hB hs hc hrl hwl
  go_enter Tryd.func6, Tryd.ntmps6
  go_wp2_with fail
  refine (K1.out _ HB0.out).mono ?_
  rintro e w1 ⟨rfl, hb⟩
  have HB1 := Keep.keep (HB0.out.trans (hb.mono HB0.out.size))
  clear hb
  go_wp2_with fail
  refine (K2.out _ HB1.out).mono ?_
  rintro e w2 ⟨rfl, hb⟩
  have HB2 := Keep.keep (HB1.out.trans (hb.mono HB1.out.size))
  clear hb
  go_wp2_with fail
  refine (K3.out _ HB2.out).mono ?_
  rintro e w3 ⟨rfl, hb⟩
  have HB3 := Keep.keep (HB2.out.trans (hb.mono HB2.out.size))
  clear hb
  go_wp2_with fail
  refine (K4.out _ HB3.out).mono ?_
  rintro e w4 ⟨rfl, hb⟩
  have HB4 := Keep.keep (HB3.out.trans (hb.mono HB3.out.size))
  clear hb
  go_wp2_with fail
  refine (HRA.out _ HB4.out).mono ?_
  rintro e w5 ⟨rfl, hb⟩
  have HB5 := Keep.keep (HB4.out.trans (hb.mono HB4.out.size))
  clear hb
  go_wp2_with fail
  refine (K5.out _ HB5.out).mono ?_
  rintro e w6 ⟨rfl, hb⟩
  have HB6 := Keep.keep (HB5.out.trans (hb.mono HB5.out.size))
  clear hb
  go_wp2_with fail
  refine (HHP.out _).mono ?_
  rintro e wq ⟨rfl, rfl⟩
  go_wp2_with fail
  refine (HWK.out _ HB6.out).mono ?_
  rintro e w7 ⟨rfl, hb⟩
  have HB7 := Keep.keep (HB6.out.trans (hb.mono HB6.out.size))
  clear hb
  go_wp2_with fail
  go_ret
  exact ⟨rfl, HB7.out⟩
set_option maxHeartbeats 8000000 in
set_option maxRecDepth 100000 in
theorem cleanlaw_D (p0 : List UInt8) (hp0 : p0.length ≤ 9223372036854775807) (raw : List UInt8) (hcut : p0.take (min p0.length 5000) = raw) (B : Nat) (w : World) (hB : B ≤ w.heap.size) (hM : Mx B w) (hC : Cls B w) (hs : ([47] : List UInt8).isPrefixOf raw = false) (p : List UInt8) (hc : cleanP raw = (p, 0)) (hcl : Cleaned p) :
    Calls Tryd.prog 6 #[.string ⟨p0.toArray⟩] w fun e w' => e = .returned (.bool true) ∧ Below w.heap.size w w' := by
  have hpl : raw.length ≤ 5000 := by rw [← hcut]; simp; omega
  have hkm : min (p0.length : Int) 5000 = ((min p0.length 5000 : Nat) : Int) := by omega
  have hst := run_slice_to (P := Tryd.prog) Tryd.underlying9 p0 .i64 (min p0.length 5000) (by omega)
  rw [hcut] at hst
  generalize min p0.length 5000 = kn at *
  clear hcut
  have HCL : Keep (∀ q : List UInt8, q.length ≤ 30000 → ∀ wx, Below w.heap.size w wx → _) := ⟨fun q hq wx (h : Below w.heap.size w wx) => clean_any q (by omega) B wx (Nat.le_trans hB h.size) (hM.on (h.mono hB))⟩
  have HWK : Keep (∀ wx, Below w.heap.size w wx → _) := ⟨fun wx (h : Below w.heap.size w wx) => wakes_any B wx (Nat.le_trans hB h.size) (hM.on (h.mono hB)) (hC.on (h.mono hB))⟩
  have HRA : Keep (∀ wx, Below w.heap.size w wx → Calls Tryd.prog 35 #[.string ⟨raw.toArray⟩, .string ⟨#[47]⟩, .string ⟨#[47, 46, 47, 47]⟩] wx fun e w' => e = .returned (.string ⟨(repl raw).toArray⟩) ∧ Below wx.heap.size wx w') := ⟨fun wx h => by
    obtain ⟨m, hm⟩ := (hM.on (h.mono hB)).ex
    have hcnt : Lib.countB ⟨raw.toArray⟩ ⟨#[47]⟩ ≤ 5000 := by
      have h1 := Lib.countB_le ⟨#[47]⟩ (by decide) raw.length ⟨raw.toArray⟩ (Nat.le_refl _)
      have h2 : (⟨raw.toArray⟩ : ByteArray).size = raw.length := rfl
      omega
    have h9 := Tryd.strings_ReplaceAll ⟨raw.toArray⟩ ⟨#[47]⟩ ⟨#[47, 46, 47, 47]⟩ m wx (by show raw.length < _; omega) hm (by decide) (by show raw.length + _ * 4 ≤ _; omega)
    rw [show Lib.replaceAll (⟨raw.toArray⟩ : ByteArray).data.toList (⟨#[47]⟩ : ByteArray).data.toList (⟨#[47, 46, 47, 47]⟩ : ByteArray).data.toList = repl raw from replaceAll_repl raw] at h9
    exact h9⟩
  have HHP : Keep (∀ wx, Calls Tryd.prog 17 #[.string ⟨raw.toArray⟩, .string ⟨#[47]⟩] wx fun e w' => e = .returned (.bool false) ∧ w' = wx) := ⟨fun wx => by
    have h9 := Tryd.strings_HasPrefix ⟨raw.toArray⟩ ⟨#[47]⟩ wx
    rw [show Lib.hasPrefix (⟨raw.toArray⟩ : ByteArray).data.toList (⟨#[47]⟩ : ByteArray).data.toList = false from hs] at h9
    exact h9⟩
  have hrl := repl_len raw
  have hwl : (wrapR raw).length = (repl raw).length + 4 := by unfold wrapR; simp
  have K1 := Keep.keep (HCL.out raw (by omega))
  rw [hc] at K1
  have K2 := Keep.keep (HCL.out ([47] ++ raw) (by simp; omega))
  rw [show cleanP ([47] ++ raw) = ([], 30) from clean_slash raw] at K2
  have K3 := Keep.keep (HCL.out (raw ++ [47, 46, 46]) (by simp; omega))
  rw [clean_behind raw] at K3
  have K4 := Keep.keep (HCL.out ([46, 46, 47] ++ raw) (by simp; omega))
  rw [clean_ahead raw] at K4
  have K5 := Keep.keep (HCL.out (wrapR raw) (by omega))
  rw [clean_wrapR hs, hc] at K5
  have hc2 := run_cat (P := Tryd.prog) [47] raw (by simp; omega)
  have hc3 := run_cat (P := Tryd.prog) raw [47, 46, 46] (by simp; omega)
  have hc4 := run_cat (P := Tryd.prog) [46, 46, 47] raw (by simp; omega)
  have hc5 := run_cat (P := Tryd.prog) [46, 47] (repl raw) (by simp; omega)
  have hc6 := run_cat (P := Tryd.prog) ([46, 47] ++ repl raw) [47, 46] (by simp; omega)
  rw [show ([46, 47] ++ repl raw) ++ [47, 46] = wrapR raw from rfl] at hc6
  generalize [47] ++ raw = q2 at *
  generalize raw ++ [47, 46, 46] = q3 at *
  generalize [46, 46, 47] ++ raw = q4 at *
  generalize [46, 47] ++ repl raw = q5 at *
  generalize wrapR raw = q6 at *
  generalize repl raw = q7 at *
  have HB0 := Keep.keep (Below.refl w.heap.size w)
  have hpl2 := hcl.len
  have hpp : (p == p) = true := beq_self_eq_true p
  have HEA := Keep.keep hcl.each
  have K8 := Keep.keep (HCL.out p (by omega))
  rw [hcl.again] at K8
  have HSP : Keep (∀ wx, Below w.heap.size w wx → _) := ⟨fun wx (h : Below w.heap.size w wx) => split_any p (by omega) B wx (Nat.le_trans hB h.size) (hM.on (h.mono hB))⟩
  have HLN : Keep (∀ s ∈ splitP p, s.length ≤ 5000) := ⟨fun s hs => Nat.le_trans (splitP_mem_len p s hs) (by omega)⟩
  have hsl : (splitP p).length ≤ 5000 := by
    unfold splitP
    split
    · simp
    · have := spl_length p; omega
  clear hM hC hB hs hc hrl hwl hcl
  go_enter Tryd.func6, Tryd.ntmps6
  go_wp2_with fail
  refine (K1.out _ HB0.out).mono ?_
  rintro e w1 ⟨rfl, hb⟩
  have HB1 := Keep.keep (HB0.out.trans (hb.mono HB0.out.size))
  clear hb
  go_wp2_with fail
  refine (K2.out _ HB1.out).mono ?_
  rintro e w2 ⟨rfl, hb⟩
  have HB2 := Keep.keep (HB1.out.trans (hb.mono HB1.out.size))
  clear hb
  go_wp2_with fail
  refine (K3.out _ HB2.out).mono ?_
  rintro e w3 ⟨rfl, hb⟩
  have HB3 := Keep.keep (HB2.out.trans (hb.mono HB2.out.size))
  clear hb
  go_wp2_with fail
  refine (K4.out _ HB3.out).mono ?_
  rintro e w4 ⟨rfl, hb⟩
  have HB4 := Keep.keep (HB3.out.trans (hb.mono HB3.out.size))
  clear hb
  go_wp2_with fail
  refine (HRA.out _ HB4.out).mono ?_
  rintro e w5 ⟨rfl, hb⟩
  have HB5 := Keep.keep (HB4.out.trans (hb.mono HB4.out.size))
  clear hb
  go_wp2_with fail
  refine (K5.out _ HB5.out).mono ?_
  rintro e w6 ⟨rfl, hb⟩
  have HB6 := Keep.keep (HB5.out.trans (hb.mono HB5.out.size))
  clear hb
  go_wp2_with fail
  refine (HHP.out _).mono ?_
  rintro e wq ⟨rfl, rfl⟩
  go_wp2_with fail
  refine (HSP.out _ HB6.out).mono ?_
  rintro e ws ⟨v, rfl, ho, hb⟩
  have HBS := Keep.keep (HB6.out.trans (hb.mono HB6.out.size))
  have HRS := Keep.keep ((ownsV_reads ho).mono (N' := (· < ws.heap.size)) (fun b hb => hb.2.1))
  obtain ⟨a7, c7, rfl, hcap7, -, h37⟩ := (ownsV_reads ho).shape
  have H37 := Keep.keep h37
  clear ho hb h37
  generalize splitP p = l at *
  go_wp2_with fail
  go_loopg [14, 94] l.length (fun g _ u94 wx => ∃ i : Nat, i + g = l.length ∧ u94 = .int .i64 (i : Int) ∧ Below ws.heap.size ws wx)
  case atStart => exact ⟨0, by omega, rfl, Below.refl _ _⟩
  case round =>
    obtain ⟨i, hig, rfl, hbw⟩ := hrel
    have HBW := Keep.keep hbw
    have HBX := Keep.keep (HBS.out.trans (hbw.mono HBS.out.size))
    clear hbw
    cases gk with
    | zero =>
      obtain rfl : i = l.length := by omega
      have hle : decide ((p.length : Int) ≤ 4096) = true := decide_eq_true (by omega)
      go_wp2_with fail
      refine (K8.out _ HBX.out).mono ?_
      rintro e w10 ⟨rfl, hb10⟩
      have HB10 := Keep.keep (HBX.out.trans (hb10.mono HBX.out.size))
      clear hb10
      go_wp2_with fail
      refine (HWK.out _ HB10.out).mono ?_
      rintro e w11 ⟨rfl, hb11⟩
      have HB11 := Keep.keep (HB10.out.trans (hb11.mono HB10.out.size))
      clear hb11
      go_wp2_with fail
      go_ret
      exact ⟨rfl, HB11.out⟩
    | succ g =>
      have hi : i < l.length := by omega
      rcases H37.out with ⟨_, h37⟩ | ⟨b7, o7, rfl, -⟩
      · omega
      have hcell := (HRS.out.below HBW.out (fun b hb => hb)).cell b7 o7 _ _ rfl i (strV l[i]) (by simp [hi])
      obtain ⟨e1, e2, e3, e4, e5⟩ := HEA.out l[i] (List.getElem_mem hi)
      have hln := HLN.out l[i] (List.getElem_mem hi)
      have hbn := bne_nil l[i]
      rw [e1] at hbn
      have HCA := Keep.keep (fun wx => cany_any l[i] [47, 0] (by decide) (by decide) (by decide) (by omega) wx)
      rw [e5] at HCA
      have hd : decide ((255 : Int) < (l[i].length : Int)) = false := decide_eq_false (by omega)
      have hd2 : decide (255 < l[i].length) = false := decide_eq_false (by omega)
      generalize l[i] = x at *
      clear e1 e5
      unfold strV at hcell
      go_wp2_with fail
      refine (HCA.out _).mono ?_
      rintro e w9 ⟨rfl, hb9⟩
      have HB9 := Keep.keep (HBW.out.trans (hb9.mono HBW.out.size))
      clear hb9
      go_wp2_with fail
      go_roundg g
      case measure => omega
      case rel => exact ⟨i + 1, by omega, by simp, HB9.out⟩
theorem cleanlaw_any (p0 : List UInt8) (hp0 : p0.length ≤ 9223372036854775807) (B : Nat) (w : World) (hB : B ≤ w.heap.size) (hM : Mx B w) (hC : Cls B w) :
    Calls Tryd.prog 6 #[.string ⟨p0.toArray⟩] w fun e w' => e = .returned (.bool true) ∧ Below w.heap.size w w' := by
  obtain ⟨raw, hp⟩ : ∃ p, p0.take (min p0.length 5000) = p := ⟨_, rfl⟩
  rcases cleanR raw with ⟨h⟩ | ⟨h, hs⟩ | ⟨p, h, hs, hc⟩
  · cases hs : ([47] : List UInt8).isPrefixOf raw with
    | true => exact cleanlaw_A p0 hp0 raw hp B w hB hM hC hs h
    | false => exact cleanlaw_B p0 hp0 raw hp B w hB hM hC hs h
  · exact cleanlaw_C p0 hp0 raw hp B w hB hM hC hs h
  · exact cleanlaw_D p0 hp0 raw hp B w hB hM hC hs p h hc
end Go.Proofs.YtkijhaibcnhedaaDoor
