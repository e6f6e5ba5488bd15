/- FieldBack: the walk where it fits in base 256 alone. -/
import Derived.Test.YtohballfhhndbaaDoorFldBackP
import Derived.Test.YtohballfhhndbaaDoorFldWakes
namespace Go.Proofs.YtohballfhhndbaaDoor
open Go.RowKit

set_option maxHeartbeats 8000000 in
set_option maxRecDepth 100000 in
theorem back_BMN (n : Int) (h0 : -9223372036854775808 ≤ n) (h1 : n ≤ 9223372036854775807) (many j : Nat) (hmj : many % 19 + 1 = j) (s : List UInt8) (B : Nat) (w : World) (hB : B ≤ w.heap.size) (hT : Tz B w)
    (h19 : j < 19) (hz : ¬ (0 : UInt8) ∈ s.take (min s.length 300))
    (hno : n < 0 ∨ 8 ^ j ≤ n.toNat) (hf : n / 2 ^ (8 * (j + 1) - 2) = 0 ∨ n / 2 ^ (8 * (j + 1) - 2) = -1) :
    Calls Tryd.prog 8 #[.int .i64 n, .int .u8 (many : Int), .string ⟨s.toArray⟩] w fun e w' => e = .returned (.bool true) ∧ Below w.heap.size w w' := by
  have HT := Keep.keep hT; have HB := Keep.keep hB
  have hkm : min (s.length : Int) 300 = ((min s.length 300 : Nat) : Int) := by omega
  have hst := run_slice_to (P := Tryd.prog) Tryd.underlying9 s .i64 (min s.length 300) (by omega)
  have hsl : (s.take (min s.length 300)).length ≤ 300 := by simp; omega
  generalize hs : s.take (min s.length 300) = t at *
  clear hs
  generalize min s.length 300 = kn at *
  have hk : 2 + (many : Int) % 19 = (j : Int) + 1 := by omega
  have hj1 : 1 ≤ j := by omega
  have hj2 : j ≤ 19 := by omega
  have HO := Keep.keep (octal_any n ((j : Int) + 1) h0 h1 B w hB hT)
  have HW := Keep.keep (fun wx => wide_any n ((j : Int) + 1) h0 h1 wx)
  have HTX := Keep.keep (fun wx => text_any t 300 (by omega) wx)
  obtain ⟨T, hTT⟩ : ∃ T, T = min (8 * (j + 1) - 2) 63 := ⟨_, rfl⟩
  have hmin : min (8 * ((j : Int) + 1) - 2) 63 = (T : Int) := by omega
  have hT64 : T ≤ 63 := by omega
  have HFM := Keep.keep (fit_min n h0 h1 (j + 1) T hTT)
  obtain ⟨U, hU⟩ : ∃ U, U = 3 * j := ⟨_, rfl⟩
  have h3 : 3 * (j : Int) = (U : Int) := by omega
  have hU57 : U ≤ 57 := by omega
  have HU := Keep.keep hU
  clear hU hTT hT hB
  have hos := octS_no n j hj1 hj2 hno
  have hoq : numS [] = (0, 1) := rfl
  rw [hos] at HO
  have hol : ([] : List UInt8).length = 0 := rfl
  have HF := Keep.keep hf
  have HNO := Keep.keep hno
  have hoct : (decide (0 ≤ n) && (n / 2 ^ U == 0)) = false := by
    rcases HNO.out with h | h
    · rw [decide_eq_false (by omega)]; rfl
    · by_cases h5 : 0 ≤ n
      · obtain ⟨x, rfl⟩ : ∃ x : Nat, n = (x : Int) := ⟨n.toNat, by omega⟩
        have : ((x : Int) / 2 ^ U == 0) = false := by
          rw [beq_eq_false_iff_ne, HU.out]; intro e; have := (oct_fit x j).1 e; omega
        rw [this, Bool.and_false]
      · rw [decide_eq_false h5]; rfl
  clear hos hno hf
  have hws := wideS_ok n (j + 1) (by omega) (by omega) HF.out
  rw [show ((j + 1 : Nat) : Int) = (j : Int) + 1 by omega] at hws
  rw [hws] at HW
  have hwq := numS_wideL n (j + 1) (by omega) (by omega) h0 h1 HF.out
  have hwl := wideL_length n (j + 1)
  obtain ⟨wc, wt, hwe, hwc⟩ := wideL_head n (j + 1) (by omega)
  rw [hwe] at hwq hwl HW
  have hf2 := fit_more n (8 * (j + 1) - 2) (8 * (j + 2) - 2) (by omega) HF.out
  have hws2 := wideS_ok n (j + 2) (by omega) (by omega) hf2
  have hwq2 := numS_wideL n (j + 2) (by omega) (by omega) h0 h1 hf2
  have HW2 := Keep.keep (fun wx => wide_any n ((j : Int) + 1 + 1) h0 h1 wx)
  rw [show ((j + 2 : Nat) : Int) = (j : Int) + 1 + 1 by omega] at hws2
  rw [hws2] at HW2
  have hwl2 := wideL_length n (j + 2)
  generalize wideL n (j + 2) = d3 at *
  have HQ2 : Keep (∀ v wx, Reads wx (· < wx.heap.size) v d3 → Calls Tryd.prog 14 #[v] wx fun e w' => e = .returned (.tuple #[.int .i64 n, .int .i64 0]) ∧ wx = w') := ⟨fun v wx h => by have := num_any v d3 wx h (by omega); rw [hwq2] at this; exact this⟩
  clear hws2 hwq2 hf2
  clear hws hwe
  have HQB : Keep (∀ v wx, Reads wx (· < wx.heap.size) v (wc :: wt) → Calls Tryd.prog 14 #[v] wx fun e w' => e = .returned (.tuple #[.int .i64 n, .int .i64 0]) ∧ wx = w') := ⟨fun v wx h => by have := num_any v (wc :: wt) wx h (by omega); rw [hwq] at this; exact this⟩
  clear hwq
  have HFT := Keep.keep (HFM.out.2 HF.out)
  have HQA : Keep (∀ v wx, Reads wx (· < wx.heap.size) v [] → Calls Tryd.prog 14 #[v] wx fun e w' => e = .returned (.tuple #[.int .i64 0, .int .i64 1]) ∧ wx = w') := ⟨fun v wx h => by have := num_any v [] wx h (by omega); rw [hoq] at this; exact this⟩
  clear hoq
  have htx : textS t 300 = (t ++ List.replicate (300 - t.length) 0, 0) := by unfold textS; rw [if_neg (by rintro (h | h | h); omega; omega; exact hz h), if_neg (by omega)]; rfl
  have htl : (t ++ List.replicate (300 - t.length) (0 : UInt8)).length = 300 := by simp; omega
  have hcp := cstr_pad t (300 - t.length) hz
  have HSF : Keep (∀ v wx N, Reads wx N v (t ++ List.replicate (300 - t.length) 0) → _) := ⟨fun v wx N h => strf_any v (t ++ List.replicate (300 - t.length) 0) N wx h (by omega)⟩
  rw [hcp] at HSF
  have htt : (t == t) = true := beq_self_eq_true t
  rw [htx] at HTX
  clear htx hz
  clear hcp
  generalize t ++ List.replicate (300 - t.length) 0 = tt at *
  simp only at HO HW HTX
  clear hmj
  have hd20 : decide ((j : Int) + 1 < 20) = true := decide_eq_true (by omega)
  clear h19
  go_enter Tryd.func8, Tryd.ntmps8
  go_wp2_with fail
  refine HO.out.mono ?_
  rintro e w1 ⟨v1, rfl, hr1, hb1⟩
  have HR1 := Keep.keep (hr1.mono (N' := (· < w1.heap.size)) (fun b hb => hb.2)); have HB1 := Keep.keep hb1
  clear hr1 hb1 HO
  go_wp2_with fail
  refine (HW.out w1).mono ?_
  rintro e w2 ⟨v2, rfl, hr2, hb2⟩
  have HR2 := Keep.keep (hr2.mono (N' := (· < w2.heap.size)) (fun b hb => hb.2)); have HB2 := Keep.keep (HB1.out.trans (hb2.mono HB1.out.size))
  have HR1b := Keep.keep ((HR1.out.below hb2 (fun b hb => hb)).mono (N' := (· < w2.heap.size)) (fun b hb => Nat.lt_of_lt_of_le hb hb2.size))
  clear hr2 hb2 HW HR1 HB1
  go_wp2_with fail
  refine (HQA.out v1 w2 HR1b.out).mono ?_
  rintro e w2' ⟨rfl, rfl⟩
  go_wp2_with fail
  refine (HQB.out v2 w2 HR2.out).mono ?_
  rintro e w2' ⟨rfl, rfl⟩
  obtain ⟨a1, c1, rfl, -⟩ := HR1b.out.shape
  obtain ⟨b2, f2, c2, hv2, -⟩ := HR2.out.has (by simp)
  have hcw := HR2.out.cell b2 f2 _ _ hv2 0 (by simp)
  simp only [List.getElem_cons_zero, Nat.add_zero] at hcw
  rw [hwl] at hv2
  subst hv2
  have hwd : decide ((wc.toNat : Int) < 128) = false := decide_eq_false (by omega)
  have hwd2 : decide (wc.toNat < 128) = false := decide_eq_false (by omega)
  have hjj : (j : Int) + 1 - 1 = (j : Int) := by omega
  have hnn : (n == n) = true := beq_self_eq_true n
  clear hwc hwl
  by_cases hn0 : 0 ≤ n
  · have hdn : decide (0 ≤ n) = true := decide_eq_true hn0
    rw [hdn, Bool.true_and] at hoct
    have hf1 : (n / 2 ^ T == 0) = true := by
      have hp : (0 : Int) < 2 ^ T := Int.pow_pos (by decide)
      have := Int.ediv_nonneg hn0 (Int.le_of_lt hp)
      rcases HFT.out with h | h
      · rw [h]; rfl
      · omega
    go_upto_region 7 with fail
    simp only [List.append_eq, List.cons_append, List.nil_append]
    go_wp2_with fail
    refine (HW2.out w2).mono ?_
    rintro e w3 ⟨v3, rfl, hr3, hb3⟩
    have HR3 := Keep.keep (hr3.mono (N' := (· < w3.heap.size)) (fun b hb => hb.2)); have HB3 := Keep.keep (HB2.out.trans (hb3.mono HB2.out.size))
    clear hr3 hb3
    go_wp2_with fail
    refine (HQ2.out v3 w3 HR3.out).mono ?_
    rintro e w3' ⟨rfl, rfl⟩
    obtain ⟨a3, c3, hv3, -⟩ := HR3.out.shape
    subst hv3
    go_wp2_with fail
    refine (HTX.out w3).mono ?_
    rintro e w5 ⟨v5, rfl, hr5, hb5⟩
    have HR5 := Keep.keep hr5; have HB5 := Keep.keep (HB3.out.trans (hb5.mono HB3.out.size))
    obtain ⟨a5, c5, hv5, -⟩ := hr5.shape
    rw [htl] at hv5
    subst hv5
    clear hr5 hb5
    go_wp2_with fail
    refine (HSF.out _ _ _ HR5.out).mono ?_
    rintro e w6 ⟨rfl, hb6⟩
    have HB6 := Keep.keep (HB5.out.trans (hb6.mono HB5.out.size))
    clear hb6
    go_wp2_with fail
    refine (wakes_any B w6 (Nat.le_trans HB.out HB6.out.size) (HT.out.on (HB6.out.mono HB.out))).mono ?_
    rintro e w7 ⟨rfl, hb7⟩
    have HB7 := Keep.keep (HB6.out.trans (hb7.mono HB6.out.size))
    clear hb7
    go_wp2_with fail
    go_ret
    exact ⟨rfl, HB7.out⟩
  · have hdn : decide (0 ≤ n) = false := decide_eq_false hn0
    clear hoct
    have hf1 : (n / 2 ^ T == 0) = false := by
      have hp : (0 : Int) < 2 ^ T := Int.pow_pos (by decide)
      have := Int.ediv_neg_of_neg_of_pos (a := n) (by omega) hp
      rw [beq_eq_false_iff_ne]; omega
    have hf2 : (n / 2 ^ T == -1) = true := by
      have hp : (0 : Int) < 2 ^ T := Int.pow_pos (by decide)
      have := Int.ediv_neg_of_neg_of_pos (a := n) (by omega) hp
      rcases HFT.out with h | h
      · omega
      · rw [h]; rfl
    go_upto_region 7 with fail
    simp only [List.append_eq, List.cons_append, List.nil_append]
    go_wp2_with fail
    refine (HW2.out w2).mono ?_
    rintro e w3 ⟨v3, rfl, hr3, hb3⟩
    have HR3 := Keep.keep (hr3.mono (N' := (· < w3.heap.size)) (fun b hb => hb.2)); have HB3 := Keep.keep (HB2.out.trans (hb3.mono HB2.out.size))
    clear hr3 hb3
    go_wp2_with fail
    refine (HQ2.out v3 w3 HR3.out).mono ?_
    rintro e w3' ⟨rfl, rfl⟩
    obtain ⟨a3, c3, hv3, -⟩ := HR3.out.shape
    subst hv3
    go_wp2_with fail
    refine (HTX.out w3).mono ?_
    rintro e w5 ⟨v5, rfl, hr5, hb5⟩
    have HR5 := Keep.keep hr5; have HB5 := Keep.keep (HB3.out.trans (hb5.mono HB3.out.size))
    obtain ⟨a5, c5, hv5, -⟩ := hr5.shape
    rw [htl] at hv5
    subst hv5
    clear hr5 hb5
    go_wp2_with fail
    refine (HSF.out _ _ _ HR5.out).mono ?_
    rintro e w6 ⟨rfl, hb6⟩
    have HB6 := Keep.keep (HB5.out.trans (hb6.mono HB5.out.size))
    clear hb6
    go_wp2_with fail
    refine (wakes_any B w6 (Nat.le_trans HB.out HB6.out.size) (HT.out.on (HB6.out.mono HB.out))).mono ?_
    rintro e w7 ⟨rfl, hb7⟩
    have HB7 := Keep.keep (HB6.out.trans (hb7.mono HB6.out.size))
    clear hb7
    go_wp2_with fail
    go_ret
    exact ⟨rfl, HB7.out⟩
set_option maxHeartbeats 8000000 in
set_option maxRecDepth 100000 in
theorem back_BMZ (n : Int) (h0 : -9223372036854775808 ≤ n) (h1 : n ≤ 9223372036854775807) (many j : Nat) (hmj : many % 19 + 1 = j) (s : List UInt8) (B : Nat) (w : World) (hB : B ≤ w.heap.size) (hT : Tz B w)
    (h19 : j < 19) (hz :  (0 : UInt8) ∈ s.take (min s.length 300))
    (hno : n < 0 ∨ 8 ^ j ≤ n.toNat) (hf : n / 2 ^ (8 * (j + 1) - 2) = 0 ∨ n / 2 ^ (8 * (j + 1) - 2) = -1) :
    Calls Tryd.prog 8 #[.int .i64 n, .int .u8 (many : Int), .string ⟨s.toArray⟩] w fun e w' => e = .returned (.bool true) ∧ Below w.heap.size w w' := by
  have HT := Keep.keep hT; have HB := Keep.keep hB
  have hkm : min (s.length : Int) 300 = ((min s.length 300 : Nat) : Int) := by omega
  have hst := run_slice_to (P := Tryd.prog) Tryd.underlying9 s .i64 (min s.length 300) (by omega)
  have hsl : (s.take (min s.length 300)).length ≤ 300 := by simp; omega
  generalize hs : s.take (min s.length 300) = t at *
  clear hs
  generalize min s.length 300 = kn at *
  have hk : 2 + (many : Int) % 19 = (j : Int) + 1 := by omega
  have hj1 : 1 ≤ j := by omega
  have hj2 : j ≤ 19 := by omega
  have HO := Keep.keep (octal_any n ((j : Int) + 1) h0 h1 B w hB hT)
  have HW := Keep.keep (fun wx => wide_any n ((j : Int) + 1) h0 h1 wx)
  have HTX := Keep.keep (fun wx => text_any t 300 (by omega) wx)
  obtain ⟨T, hTT⟩ : ∃ T, T = min (8 * (j + 1) - 2) 63 := ⟨_, rfl⟩
  have hmin : min (8 * ((j : Int) + 1) - 2) 63 = (T : Int) := by omega
  have hT64 : T ≤ 63 := by omega
  have HFM := Keep.keep (fit_min n h0 h1 (j + 1) T hTT)
  obtain ⟨U, hU⟩ : ∃ U, U = 3 * j := ⟨_, rfl⟩
  have h3 : 3 * (j : Int) = (U : Int) := by omega
  have hU57 : U ≤ 57 := by omega
  have HU := Keep.keep hU
  clear hU hTT hT hB
  have hos := octS_no n j hj1 hj2 hno
  have hoq : numS [] = (0, 1) := rfl
  rw [hos] at HO
  have hol : ([] : List UInt8).length = 0 := rfl
  have HF := Keep.keep hf
  have HNO := Keep.keep hno
  have hoct : (decide (0 ≤ n) && (n / 2 ^ U == 0)) = false := by
    rcases HNO.out with h | h
    · rw [decide_eq_false (by omega)]; rfl
    · by_cases h5 : 0 ≤ n
      · obtain ⟨x, rfl⟩ : ∃ x : Nat, n = (x : Int) := ⟨n.toNat, by omega⟩
        have : ((x : Int) / 2 ^ U == 0) = false := by
          rw [beq_eq_false_iff_ne, HU.out]; intro e; have := (oct_fit x j).1 e; omega
        rw [this, Bool.and_false]
      · rw [decide_eq_false h5]; rfl
  clear hos hno hf
  have hws := wideS_ok n (j + 1) (by omega) (by omega) HF.out
  rw [show ((j + 1 : Nat) : Int) = (j : Int) + 1 by omega] at hws
  rw [hws] at HW
  have hwq := numS_wideL n (j + 1) (by omega) (by omega) h0 h1 HF.out
  have hwl := wideL_length n (j + 1)
  obtain ⟨wc, wt, hwe, hwc⟩ := wideL_head n (j + 1) (by omega)
  rw [hwe] at hwq hwl HW
  have hf2 := fit_more n (8 * (j + 1) - 2) (8 * (j + 2) - 2) (by omega) HF.out
  have hws2 := wideS_ok n (j + 2) (by omega) (by omega) hf2
  have hwq2 := numS_wideL n (j + 2) (by omega) (by omega) h0 h1 hf2
  have HW2 := Keep.keep (fun wx => wide_any n ((j : Int) + 1 + 1) h0 h1 wx)
  rw [show ((j + 2 : Nat) : Int) = (j : Int) + 1 + 1 by omega] at hws2
  rw [hws2] at HW2
  have hwl2 := wideL_length n (j + 2)
  generalize wideL n (j + 2) = d3 at *
  have HQ2 : Keep (∀ v wx, Reads wx (· < wx.heap.size) v d3 → Calls Tryd.prog 14 #[v] wx fun e w' => e = .returned (.tuple #[.int .i64 n, .int .i64 0]) ∧ wx = w') := ⟨fun v wx h => by have := num_any v d3 wx h (by omega); rw [hwq2] at this; exact this⟩
  clear hws2 hwq2 hf2
  clear hws hwe
  have HQB : Keep (∀ v wx, Reads wx (· < wx.heap.size) v (wc :: wt) → Calls Tryd.prog 14 #[v] wx fun e w' => e = .returned (.tuple #[.int .i64 n, .int .i64 0]) ∧ wx = w') := ⟨fun v wx h => by have := num_any v (wc :: wt) wx h (by omega); rw [hwq] at this; exact this⟩
  clear hwq
  have HFT := Keep.keep (HFM.out.2 HF.out)
  have HQA : Keep (∀ v wx, Reads wx (· < wx.heap.size) v [] → Calls Tryd.prog 14 #[v] wx fun e w' => e = .returned (.tuple #[.int .i64 0, .int .i64 1]) ∧ wx = w') := ⟨fun v wx h => by have := num_any v [] wx h (by omega); rw [hoq] at this; exact this⟩
  clear hoq
  have htx : textS t 300 = ([], 1) := by unfold textS; rw [if_pos (.inr (.inr hz))]
  have HHS := Keep.keep (fun wx => has_any 0 t wx)
  rw [show t.contains 0 = true by simpa using hz] at HHS
  rw [htx] at HTX
  clear htx hz
  simp only at HO HW HTX
  clear hmj
  have hd20 : decide ((j : Int) + 1 < 20) = true := decide_eq_true (by omega)
  clear h19
  go_enter Tryd.func8, Tryd.ntmps8
  go_wp2_with fail
  refine HO.out.mono ?_
  rintro e w1 ⟨v1, rfl, hr1, hb1⟩
  have HR1 := Keep.keep (hr1.mono (N' := (· < w1.heap.size)) (fun b hb => hb.2)); have HB1 := Keep.keep hb1
  clear hr1 hb1 HO
  go_wp2_with fail
  refine (HW.out w1).mono ?_
  rintro e w2 ⟨v2, rfl, hr2, hb2⟩
  have HR2 := Keep.keep (hr2.mono (N' := (· < w2.heap.size)) (fun b hb => hb.2)); have HB2 := Keep.keep (HB1.out.trans (hb2.mono HB1.out.size))
  have HR1b := Keep.keep ((HR1.out.below hb2 (fun b hb => hb)).mono (N' := (· < w2.heap.size)) (fun b hb => Nat.lt_of_lt_of_le hb hb2.size))
  clear hr2 hb2 HW HR1 HB1
  go_wp2_with fail
  refine (HQA.out v1 w2 HR1b.out).mono ?_
  rintro e w2' ⟨rfl, rfl⟩
  go_wp2_with fail
  refine (HQB.out v2 w2 HR2.out).mono ?_
  rintro e w2' ⟨rfl, rfl⟩
  obtain ⟨a1, c1, rfl, -⟩ := HR1b.out.shape
  obtain ⟨b2, f2, c2, hv2, -⟩ := HR2.out.has (by simp)
  have hcw := HR2.out.cell b2 f2 _ _ hv2 0 (by simp)
  simp only [List.getElem_cons_zero, Nat.add_zero] at hcw
  rw [hwl] at hv2
  subst hv2
  have hwd : decide ((wc.toNat : Int) < 128) = false := decide_eq_false (by omega)
  have hwd2 : decide (wc.toNat < 128) = false := decide_eq_false (by omega)
  have hjj : (j : Int) + 1 - 1 = (j : Int) := by omega
  have hnn : (n == n) = true := beq_self_eq_true n
  clear hwc hwl
  by_cases hn0 : 0 ≤ n
  · have hdn : decide (0 ≤ n) = true := decide_eq_true hn0
    rw [hdn, Bool.true_and] at hoct
    have hf1 : (n / 2 ^ T == 0) = true := by
      have hp : (0 : Int) < 2 ^ T := Int.pow_pos (by decide)
      have := Int.ediv_nonneg hn0 (Int.le_of_lt hp)
      rcases HFT.out with h | h
      · rw [h]; rfl
      · omega
    go_upto_region 7 with fail
    simp only [List.append_eq, List.cons_append, List.nil_append]
    go_wp2_with fail
    refine (HW2.out w2).mono ?_
    rintro e w3 ⟨v3, rfl, hr3, hb3⟩
    have HR3 := Keep.keep (hr3.mono (N' := (· < w3.heap.size)) (fun b hb => hb.2)); have HB3 := Keep.keep (HB2.out.trans (hb3.mono HB2.out.size))
    clear hr3 hb3
    go_wp2_with fail
    refine (HQ2.out v3 w3 HR3.out).mono ?_
    rintro e w3' ⟨rfl, rfl⟩
    obtain ⟨a3, c3, hv3, -⟩ := HR3.out.shape
    subst hv3
    go_wp2_with fail
    refine (HTX.out w3).mono ?_
    rintro e w5 ⟨v5, rfl, hr5, hb5⟩
    have HR5 := Keep.keep hr5; have HB5 := Keep.keep (HB3.out.trans (hb5.mono HB3.out.size))
    obtain ⟨a5, c5, hv5, -⟩ := hr5.shape
    simp only [List.length_nil] at hv5
    subst hv5
    clear hr5 hb5
    go_wp2_with fail
    refine (HHS.out _).mono ?_
    rintro e w5' ⟨rfl, rfl⟩
    have HB6 := HB5
    go_wp2_with fail
    refine (wakes_any B w5' (Nat.le_trans HB.out HB6.out.size) (HT.out.on (HB6.out.mono HB.out))).mono ?_
    rintro e w7 ⟨rfl, hb7⟩
    have HB7 := Keep.keep (HB6.out.trans (hb7.mono HB6.out.size))
    clear hb7
    go_wp2_with fail
    go_ret
    exact ⟨rfl, HB7.out⟩
  · have hdn : decide (0 ≤ n) = false := decide_eq_false hn0
    clear hoct
    have hf1 : (n / 2 ^ T == 0) = false := by
      have hp : (0 : Int) < 2 ^ T := Int.pow_pos (by decide)
      have := Int.ediv_neg_of_neg_of_pos (a := n) (by omega) hp
      rw [beq_eq_false_iff_ne]; omega
    have hf2 : (n / 2 ^ T == -1) = true := by
      have hp : (0 : Int) < 2 ^ T := Int.pow_pos (by decide)
      have := Int.ediv_neg_of_neg_of_pos (a := n) (by omega) hp
      rcases HFT.out with h | h
      · omega
      · rw [h]; rfl
    go_upto_region 7 with fail
    simp only [List.append_eq, List.cons_append, List.nil_append]
    go_wp2_with fail
    refine (HW2.out w2).mono ?_
    rintro e w3 ⟨v3, rfl, hr3, hb3⟩
    have HR3 := Keep.keep (hr3.mono (N' := (· < w3.heap.size)) (fun b hb => hb.2)); have HB3 := Keep.keep (HB2.out.trans (hb3.mono HB2.out.size))
    clear hr3 hb3
    go_wp2_with fail
    refine (HQ2.out v3 w3 HR3.out).mono ?_
    rintro e w3' ⟨rfl, rfl⟩
    obtain ⟨a3, c3, hv3, -⟩ := HR3.out.shape
    subst hv3
    go_wp2_with fail
    refine (HTX.out w3).mono ?_
    rintro e w5 ⟨v5, rfl, hr5, hb5⟩
    have HR5 := Keep.keep hr5; have HB5 := Keep.keep (HB3.out.trans (hb5.mono HB3.out.size))
    obtain ⟨a5, c5, hv5, -⟩ := hr5.shape
    simp only [List.length_nil] at hv5
    subst hv5
    clear hr5 hb5
    go_wp2_with fail
    refine (HHS.out _).mono ?_
    rintro e w5' ⟨rfl, rfl⟩
    have HB6 := HB5
    go_wp2_with fail
    refine (wakes_any B w5' (Nat.le_trans HB.out HB6.out.size) (HT.out.on (HB6.out.mono HB.out))).mono ?_
    rintro e w7 ⟨rfl, hb7⟩
    have HB7 := Keep.keep (HB6.out.trans (hb7.mono HB6.out.size))
    clear hb7
    go_wp2_with fail
    go_ret
    exact ⟨rfl, HB7.out⟩
set_option maxHeartbeats 8000000 in
set_option maxRecDepth 100000 in
theorem back_BLN (n : Int) (h0 : -9223372036854775808 ≤ n) (h1 : n ≤ 9223372036854775807) (many j : Nat) (hmj : many % 19 + 1 = j) (s : List UInt8) (B : Nat) (w : World) (hB : B ≤ w.heap.size) (hT : Tz B w)
    (h19 : j = 19) (hz : ¬ (0 : UInt8) ∈ s.take (min s.length 300))
    (hno : n < 0 ∨ 8 ^ j ≤ n.toNat) (hf : n / 2 ^ (8 * (j + 1) - 2) = 0 ∨ n / 2 ^ (8 * (j + 1) - 2) = -1) :
    Calls Tryd.prog 8 #[.int .i64 n, .int .u8 (many : Int), .string ⟨s.toArray⟩] w fun e w' => e = .returned (.bool true) ∧ Below w.heap.size w w' := by
  have HT := Keep.keep hT; have HB := Keep.keep hB
  have hkm : min (s.length : Int) 300 = ((min s.length 300 : Nat) : Int) := by omega
  have hst := run_slice_to (P := Tryd.prog) Tryd.underlying9 s .i64 (min s.length 300) (by omega)
  have hsl : (s.take (min s.length 300)).length ≤ 300 := by simp; omega
  generalize hs : s.take (min s.length 300) = t at *
  clear hs
  generalize min s.length 300 = kn at *
  have hk : 2 + (many : Int) % 19 = (j : Int) + 1 := by omega
  have hj1 : 1 ≤ j := by omega
  have hj2 : j ≤ 19 := by omega
  have HO := Keep.keep (octal_any n ((j : Int) + 1) h0 h1 B w hB hT)
  have HW := Keep.keep (fun wx => wide_any n ((j : Int) + 1) h0 h1 wx)
  have HTX := Keep.keep (fun wx => text_any t 300 (by omega) wx)
  obtain ⟨T, hTT⟩ : ∃ T, T = min (8 * (j + 1) - 2) 63 := ⟨_, rfl⟩
  have hmin : min (8 * ((j : Int) + 1) - 2) 63 = (T : Int) := by omega
  have hT64 : T ≤ 63 := by omega
  have HFM := Keep.keep (fit_min n h0 h1 (j + 1) T hTT)
  obtain ⟨U, hU⟩ : ∃ U, U = 3 * j := ⟨_, rfl⟩
  have h3 : 3 * (j : Int) = (U : Int) := by omega
  have hU57 : U ≤ 57 := by omega
  have HU := Keep.keep hU
  clear hU hTT hT hB
  have hos := octS_no n j hj1 hj2 hno
  have hoq : numS [] = (0, 1) := rfl
  rw [hos] at HO
  have hol : ([] : List UInt8).length = 0 := rfl
  have HF := Keep.keep hf
  have HNO := Keep.keep hno
  have hoct : (decide (0 ≤ n) && (n / 2 ^ U == 0)) = false := by
    rcases HNO.out with h | h
    · rw [decide_eq_false (by omega)]; rfl
    · by_cases h5 : 0 ≤ n
      · obtain ⟨x, rfl⟩ : ∃ x : Nat, n = (x : Int) := ⟨n.toNat, by omega⟩
        have : ((x : Int) / 2 ^ U == 0) = false := by
          rw [beq_eq_false_iff_ne, HU.out]; intro e; have := (oct_fit x j).1 e; omega
        rw [this, Bool.and_false]
      · rw [decide_eq_false h5]; rfl
  clear hos hno hf
  have hws := wideS_ok n (j + 1) (by omega) (by omega) HF.out
  rw [show ((j + 1 : Nat) : Int) = (j : Int) + 1 by omega] at hws
  rw [hws] at HW
  have hwq := numS_wideL n (j + 1) (by omega) (by omega) h0 h1 HF.out
  have hwl := wideL_length n (j + 1)
  obtain ⟨wc, wt, hwe, hwc⟩ := wideL_head n (j + 1) (by omega)
  rw [hwe] at hwq hwl HW
  clear hws hwe
  have HQB : Keep (∀ v wx, Reads wx (· < wx.heap.size) v (wc :: wt) → Calls Tryd.prog 14 #[v] wx fun e w' => e = .returned (.tuple #[.int .i64 n, .int .i64 0]) ∧ wx = w') := ⟨fun v wx h => by have := num_any v (wc :: wt) wx h (by omega); rw [hwq] at this; exact this⟩
  clear hwq
  have HFT := Keep.keep (HFM.out.2 HF.out)
  have HQA : Keep (∀ v wx, Reads wx (· < wx.heap.size) v [] → Calls Tryd.prog 14 #[v] wx fun e w' => e = .returned (.tuple #[.int .i64 0, .int .i64 1]) ∧ wx = w') := ⟨fun v wx h => by have := num_any v [] wx h (by omega); rw [hoq] at this; exact this⟩
  clear hoq
  have htx : textS t 300 = (t ++ List.replicate (300 - t.length) 0, 0) := by unfold textS; rw [if_neg (by rintro (h | h | h); omega; omega; exact hz h), if_neg (by omega)]; rfl
  have htl : (t ++ List.replicate (300 - t.length) (0 : UInt8)).length = 300 := by simp; omega
  have hcp := cstr_pad t (300 - t.length) hz
  have HSF : Keep (∀ v wx N, Reads wx N v (t ++ List.replicate (300 - t.length) 0) → _) := ⟨fun v wx N h => strf_any v (t ++ List.replicate (300 - t.length) 0) N wx h (by omega)⟩
  rw [hcp] at HSF
  have htt : (t == t) = true := beq_self_eq_true t
  rw [htx] at HTX
  clear htx hz
  clear hcp
  generalize t ++ List.replicate (300 - t.length) 0 = tt at *
  simp only at HO HW HTX
  clear hmj
  have hd20 : decide ((j : Int) + 1 < 20) = false := decide_eq_false (by omega)
  clear h19
  go_enter Tryd.func8, Tryd.ntmps8
  go_wp2_with fail
  refine HO.out.mono ?_
  rintro e w1 ⟨v1, rfl, hr1, hb1⟩
  have HR1 := Keep.keep (hr1.mono (N' := (· < w1.heap.size)) (fun b hb => hb.2)); have HB1 := Keep.keep hb1
  clear hr1 hb1 HO
  go_wp2_with fail
  refine (HW.out w1).mono ?_
  rintro e w2 ⟨v2, rfl, hr2, hb2⟩
  have HR2 := Keep.keep (hr2.mono (N' := (· < w2.heap.size)) (fun b hb => hb.2)); have HB2 := Keep.keep (HB1.out.trans (hb2.mono HB1.out.size))
  have HR1b := Keep.keep ((HR1.out.below hb2 (fun b hb => hb)).mono (N' := (· < w2.heap.size)) (fun b hb => Nat.lt_of_lt_of_le hb hb2.size))
  clear hr2 hb2 HW HR1 HB1
  go_wp2_with fail
  refine (HQA.out v1 w2 HR1b.out).mono ?_
  rintro e w2' ⟨rfl, rfl⟩
  go_wp2_with fail
  refine (HQB.out v2 w2 HR2.out).mono ?_
  rintro e w2' ⟨rfl, rfl⟩
  obtain ⟨a1, c1, rfl, -⟩ := HR1b.out.shape
  obtain ⟨b2, f2, c2, hv2, -⟩ := HR2.out.has (by simp)
  have hcw := HR2.out.cell b2 f2 _ _ hv2 0 (by simp)
  simp only [List.getElem_cons_zero, Nat.add_zero] at hcw
  rw [hwl] at hv2
  subst hv2
  have hwd : decide ((wc.toNat : Int) < 128) = false := decide_eq_false (by omega)
  have hwd2 : decide (wc.toNat < 128) = false := decide_eq_false (by omega)
  have hjj : (j : Int) + 1 - 1 = (j : Int) := by omega
  have hnn : (n == n) = true := beq_self_eq_true n
  clear hwc hwl
  by_cases hn0 : 0 ≤ n
  · have hdn : decide (0 ≤ n) = true := decide_eq_true hn0
    rw [hdn, Bool.true_and] at hoct
    have hf1 : (n / 2 ^ T == 0) = true := by
      have hp : (0 : Int) < 2 ^ T := Int.pow_pos (by decide)
      have := Int.ediv_nonneg hn0 (Int.le_of_lt hp)
      rcases HFT.out with h | h
      · rw [h]; rfl
      · omega
    go_upto_region 7 with fail
    simp only [List.append_eq, List.cons_append, List.nil_append]
    go_wp2_with fail
    refine (HTX.out w2).mono ?_
    rintro e w5 ⟨v5, rfl, hr5, hb5⟩
    have HR5 := Keep.keep hr5; have HB5 := Keep.keep (HB2.out.trans (hb5.mono HB2.out.size))
    obtain ⟨a5, c5, hv5, -⟩ := hr5.shape
    rw [htl] at hv5
    subst hv5
    clear hr5 hb5
    go_wp2_with fail
    refine (HSF.out _ _ _ HR5.out).mono ?_
    rintro e w6 ⟨rfl, hb6⟩
    have HB6 := Keep.keep (HB5.out.trans (hb6.mono HB5.out.size))
    clear hb6
    go_wp2_with fail
    refine (wakes_any B w6 (Nat.le_trans HB.out HB6.out.size) (HT.out.on (HB6.out.mono HB.out))).mono ?_
    rintro e w7 ⟨rfl, hb7⟩
    have HB7 := Keep.keep (HB6.out.trans (hb7.mono HB6.out.size))
    clear hb7
    go_wp2_with fail
    go_ret
    exact ⟨rfl, HB7.out⟩
  · have hdn : decide (0 ≤ n) = false := decide_eq_false hn0
    clear hoct
    have hf1 : (n / 2 ^ T == 0) = false := by
      have hp : (0 : Int) < 2 ^ T := Int.pow_pos (by decide)
      have := Int.ediv_neg_of_neg_of_pos (a := n) (by omega) hp
      rw [beq_eq_false_iff_ne]; omega
    have hf2 : (n / 2 ^ T == -1) = true := by
      have hp : (0 : Int) < 2 ^ T := Int.pow_pos (by decide)
      have := Int.ediv_neg_of_neg_of_pos (a := n) (by omega) hp
      rcases HFT.out with h | h
      · omega
      · rw [h]; rfl
    go_upto_region 7 with fail
    simp only [List.append_eq, List.cons_append, List.nil_append]
    go_wp2_with fail
    refine (HTX.out w2).mono ?_
    rintro e w5 ⟨v5, rfl, hr5, hb5⟩
    have HR5 := Keep.keep hr5; have HB5 := Keep.keep (HB2.out.trans (hb5.mono HB2.out.size))
    obtain ⟨a5, c5, hv5, -⟩ := hr5.shape
    rw [htl] at hv5
    subst hv5
    clear hr5 hb5
    go_wp2_with fail
    refine (HSF.out _ _ _ HR5.out).mono ?_
    rintro e w6 ⟨rfl, hb6⟩
    have HB6 := Keep.keep (HB5.out.trans (hb6.mono HB5.out.size))
    clear hb6
    go_wp2_with fail
    refine (wakes_any B w6 (Nat.le_trans HB.out HB6.out.size) (HT.out.on (HB6.out.mono HB.out))).mono ?_
    rintro e w7 ⟨rfl, hb7⟩
    have HB7 := Keep.keep (HB6.out.trans (hb7.mono HB6.out.size))
    clear hb7
    go_wp2_with fail
    go_ret
    exact ⟨rfl, HB7.out⟩
set_option maxHeartbeats 8000000 in
set_option maxRecDepth 100000 in
theorem back_BLZ (n : Int) (h0 : -9223372036854775808 ≤ n) (h1 : n ≤ 9223372036854775807) (many j : Nat) (hmj : many % 19 + 1 = j) (s : List UInt8) (B : Nat) (w : World) (hB : B ≤ w.heap.size) (hT : Tz B w)
    (h19 : j = 19) (hz :  (0 : UInt8) ∈ s.take (min s.length 300))
    (hno : n < 0 ∨ 8 ^ j ≤ n.toNat) (hf : n / 2 ^ (8 * (j + 1) - 2) = 0 ∨ n / 2 ^ (8 * (j + 1) - 2) = -1) :
    Calls Tryd.prog 8 #[.int .i64 n, .int .u8 (many : Int), .string ⟨s.toArray⟩] w fun e w' => e = .returned (.bool true) ∧ Below w.heap.size w w' := by
  have HT := Keep.keep hT; have HB := Keep.keep hB
  have hkm : min (s.length : Int) 300 = ((min s.length 300 : Nat) : Int) := by omega
  have hst := run_slice_to (P := Tryd.prog) Tryd.underlying9 s .i64 (min s.length 300) (by omega)
  have hsl : (s.take (min s.length 300)).length ≤ 300 := by simp; omega
  generalize hs : s.take (min s.length 300) = t at *
  clear hs
  generalize min s.length 300 = kn at *
  have hk : 2 + (many : Int) % 19 = (j : Int) + 1 := by omega
  have hj1 : 1 ≤ j := by omega
  have hj2 : j ≤ 19 := by omega
  have HO := Keep.keep (octal_any n ((j : Int) + 1) h0 h1 B w hB hT)
  have HW := Keep.keep (fun wx => wide_any n ((j : Int) + 1) h0 h1 wx)
  have HTX := Keep.keep (fun wx => text_any t 300 (by omega) wx)
  obtain ⟨T, hTT⟩ : ∃ T, T = min (8 * (j + 1) - 2) 63 := ⟨_, rfl⟩
  have hmin : min (8 * ((j : Int) + 1) - 2) 63 = (T : Int) := by omega
  have hT64 : T ≤ 63 := by omega
  have HFM := Keep.keep (fit_min n h0 h1 (j + 1) T hTT)
  obtain ⟨U, hU⟩ : ∃ U, U = 3 * j := ⟨_, rfl⟩
  have h3 : 3 * (j : Int) = (U : Int) := by omega
  have hU57 : U ≤ 57 := by omega
  have HU := Keep.keep hU
  clear hU hTT hT hB
  have hos := octS_no n j hj1 hj2 hno
  have hoq : numS [] = (0, 1) := rfl
  rw [hos] at HO
  have hol : ([] : List UInt8).length = 0 := rfl
  have HF := Keep.keep hf
  have HNO := Keep.keep hno
  have hoct : (decide (0 ≤ n) && (n / 2 ^ U == 0)) = false := by
    rcases HNO.out with h | h
    · rw [decide_eq_false (by omega)]; rfl
    · by_cases h5 : 0 ≤ n
      · obtain ⟨x, rfl⟩ : ∃ x : Nat, n = (x : Int) := ⟨n.toNat, by omega⟩
        have : ((x : Int) / 2 ^ U == 0) = false := by
          rw [beq_eq_false_iff_ne, HU.out]; intro e; have := (oct_fit x j).1 e; omega
        rw [this, Bool.and_false]
      · rw [decide_eq_false h5]; rfl
  clear hos hno hf
  have hws := wideS_ok n (j + 1) (by omega) (by omega) HF.out
  rw [show ((j + 1 : Nat) : Int) = (j : Int) + 1 by omega] at hws
  rw [hws] at HW
  have hwq := numS_wideL n (j + 1) (by omega) (by omega) h0 h1 HF.out
  have hwl := wideL_length n (j + 1)
  obtain ⟨wc, wt, hwe, hwc⟩ := wideL_head n (j + 1) (by omega)
  rw [hwe] at hwq hwl HW
  clear hws hwe
  have HQB : Keep (∀ v wx, Reads wx (· < wx.heap.size) v (wc :: wt) → Calls Tryd.prog 14 #[v] wx fun e w' => e = .returned (.tuple #[.int .i64 n, .int .i64 0]) ∧ wx = w') := ⟨fun v wx h => by have := num_any v (wc :: wt) wx h (by omega); rw [hwq] at this; exact this⟩
  clear hwq
  have HFT := Keep.keep (HFM.out.2 HF.out)
  have HQA : Keep (∀ v wx, Reads wx (· < wx.heap.size) v [] → Calls Tryd.prog 14 #[v] wx fun e w' => e = .returned (.tuple #[.int .i64 0, .int .i64 1]) ∧ wx = w') := ⟨fun v wx h => by have := num_any v [] wx h (by omega); rw [hoq] at this; exact this⟩
  clear hoq
  have htx : textS t 300 = ([], 1) := by unfold textS; rw [if_pos (.inr (.inr hz))]
  have HHS := Keep.keep (fun wx => has_any 0 t wx)
  rw [show t.contains 0 = true by simpa using hz] at HHS
  rw [htx] at HTX
  clear htx hz
  simp only at HO HW HTX
  clear hmj
  have hd20 : decide ((j : Int) + 1 < 20) = false := decide_eq_false (by omega)
  clear h19
  go_enter Tryd.func8, Tryd.ntmps8
  go_wp2_with fail
  refine HO.out.mono ?_
  rintro e w1 ⟨v1, rfl, hr1, hb1⟩
  have HR1 := Keep.keep (hr1.mono (N' := (· < w1.heap.size)) (fun b hb => hb.2)); have HB1 := Keep.keep hb1
  clear hr1 hb1 HO
  go_wp2_with fail
  refine (HW.out w1).mono ?_
  rintro e w2 ⟨v2, rfl, hr2, hb2⟩
  have HR2 := Keep.keep (hr2.mono (N' := (· < w2.heap.size)) (fun b hb => hb.2)); have HB2 := Keep.keep (HB1.out.trans (hb2.mono HB1.out.size))
  have HR1b := Keep.keep ((HR1.out.below hb2 (fun b hb => hb)).mono (N' := (· < w2.heap.size)) (fun b hb => Nat.lt_of_lt_of_le hb hb2.size))
  clear hr2 hb2 HW HR1 HB1
  go_wp2_with fail
  refine (HQA.out v1 w2 HR1b.out).mono ?_
  rintro e w2' ⟨rfl, rfl⟩
  go_wp2_with fail
  refine (HQB.out v2 w2 HR2.out).mono ?_
  rintro e w2' ⟨rfl, rfl⟩
  obtain ⟨a1, c1, rfl, -⟩ := HR1b.out.shape
  obtain ⟨b2, f2, c2, hv2, -⟩ := HR2.out.has (by simp)
  have hcw := HR2.out.cell b2 f2 _ _ hv2 0 (by simp)
  simp only [List.getElem_cons_zero, Nat.add_zero] at hcw
  rw [hwl] at hv2
  subst hv2
  have hwd : decide ((wc.toNat : Int) < 128) = false := decide_eq_false (by omega)
  have hwd2 : decide (wc.toNat < 128) = false := decide_eq_false (by omega)
  have hjj : (j : Int) + 1 - 1 = (j : Int) := by omega
  have hnn : (n == n) = true := beq_self_eq_true n
  clear hwc hwl
  by_cases hn0 : 0 ≤ n
  · have hdn : decide (0 ≤ n) = true := decide_eq_true hn0
    rw [hdn, Bool.true_and] at hoct
    have hf1 : (n / 2 ^ T == 0) = true := by
      have hp : (0 : Int) < 2 ^ T := Int.pow_pos (by decide)
      have := Int.ediv_nonneg hn0 (Int.le_of_lt hp)
      rcases HFT.out with h | h
      · rw [h]; rfl
      · omega
    go_upto_region 7 with fail
    simp only [List.append_eq, List.cons_append, List.nil_append]
    go_wp2_with fail
    refine (HTX.out w2).mono ?_
    rintro e w5 ⟨v5, rfl, hr5, hb5⟩
    have HR5 := Keep.keep hr5; have HB5 := Keep.keep (HB2.out.trans (hb5.mono HB2.out.size))
    obtain ⟨a5, c5, hv5, -⟩ := hr5.shape
    simp only [List.length_nil] at hv5
    subst hv5
    clear hr5 hb5
    go_wp2_with fail
    refine (HHS.out _).mono ?_
    rintro e w5' ⟨rfl, rfl⟩
    have HB6 := HB5
    go_wp2_with fail
    refine (wakes_any B w5' (Nat.le_trans HB.out HB6.out.size) (HT.out.on (HB6.out.mono HB.out))).mono ?_
    rintro e w7 ⟨rfl, hb7⟩
    have HB7 := Keep.keep (HB6.out.trans (hb7.mono HB6.out.size))
    clear hb7
    go_wp2_with fail
    go_ret
    exact ⟨rfl, HB7.out⟩
  · have hdn : decide (0 ≤ n) = false := decide_eq_false hn0
    clear hoct
    have hf1 : (n / 2 ^ T == 0) = false := by
      have hp : (0 : Int) < 2 ^ T := Int.pow_pos (by decide)
      have := Int.ediv_neg_of_neg_of_pos (a := n) (by omega) hp
      rw [beq_eq_false_iff_ne]; omega
    have hf2 : (n / 2 ^ T == -1) = true := by
      have hp : (0 : Int) < 2 ^ T := Int.pow_pos (by decide)
      have := Int.ediv_neg_of_neg_of_pos (a := n) (by omega) hp
      rcases HFT.out with h | h
      · omega
      · rw [h]; rfl
    go_upto_region 7 with fail
    simp only [List.append_eq, List.cons_append, List.nil_append]
    go_wp2_with fail
    refine (HTX.out w2).mono ?_
    rintro e w5 ⟨v5, rfl, hr5, hb5⟩
    have HR5 := Keep.keep hr5; have HB5 := Keep.keep (HB2.out.trans (hb5.mono HB2.out.size))
    obtain ⟨a5, c5, hv5, -⟩ := hr5.shape
    simp only [List.length_nil] at hv5
    subst hv5
    clear hr5 hb5
    go_wp2_with fail
    refine (HHS.out _).mono ?_
    rintro e w5' ⟨rfl, rfl⟩
    have HB6 := HB5
    go_wp2_with fail
    refine (wakes_any B w5' (Nat.le_trans HB.out HB6.out.size) (HT.out.on (HB6.out.mono HB.out))).mono ?_
    rintro e w7 ⟨rfl, hb7⟩
    have HB7 := Keep.keep (HB6.out.trans (hb7.mono HB6.out.size))
    clear hb7
    go_wp2_with fail
    go_ret
    exact ⟨rfl, HB7.out⟩
end Go.Proofs.YtohballfhhndbaaDoor
