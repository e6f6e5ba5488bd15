/- BLOCKS: Seal; field.Octal's text in a row of its own. -/
import Derived.Test.YtohballfhhndbaaDoorFldCheck
import Derived.Test.YtohballfhhndbaaDoorRowF2
namespace Go.Proofs.YtohballfhhndbaaDoor
open Go.RowKit
set_option maxHeartbeats 1000000 in
set_option maxRecDepth 100000 in
theorem octal_own (x k : Nat) (hk1 : 1 ≤ k) (hk2 : k ≤ 19) (hx0 : x < 8 ^ k) (hx9 : x ≤ 9223372036854775807) (B : Nat) (w : World) (hB : B ≤ w.heap.size) (hT : Tz B w) :
    Calls Tryd.prog 10 #[.int .i64 (x : Int), .int .i64 ((k : Int) + 1)] w fun e w' => ∃ g cap pad, e = .returned (.tuple #[.slice (some ⟨g, 0, none⟩) (k + 1) cap, .int .i64 0]) ∧ RowF w' g 5 (bcells (octK k x ++ [0]) ++ pad).toArray ∧ k + 1 + pad.length = cap ∧ cap ≤ maxLen ∧ w.heap.size ≤ g ∧ Below w.heap.size w w' := by
  have HF := Keep.keep (fun w => fits_any ((k : Int) + 1) w)
  have hb : (decide (2 ≤ (k : Int) + 1) && decide ((k : Int) + 1 ≤ 20)) = true := by
    rw [decide_eq_true (by omega), decide_eq_true (by omega)]; rfl
  rw [hb] at HF
  have HM := Keep.keep (fmt_pos x (by omega) B w hB hT)
  have hd : decide ((x : Int) < 0) = false := decide_eq_false (by omega)
  have HX0 := Keep.keep hx0
  clear hb hx0
  go_enter Tryd.func10, Tryd.ntmps10
  go_wp2_with (go_at_call 32; ((with_reducible refine (HF.out _).mono ?_); rintro e w1 ⟨rfl, rfl⟩))
  refine HM.out.mono ?_
  rintro e w1 ⟨m, rfl, hx1, hx2, hb1⟩
  have HB1 := Keep.keep hb1
  have HX1 := Keep.keep hx1
  have hmk : m + 1 ≤ k := by
    rcases hx2 with h | h
    · omega
    · have h3 : 8 ^ m < 8 ^ k := Nat.lt_of_le_of_lt h HX0.out
      have := (Nat.pow_lt_pow_iff_right (by decide : 1 < 8)).1 h3
      omega
  clear hb1 hx1 hx2
  obtain ⟨t, ht⟩ : ∃ t, octK (m + 1) x = t := ⟨_, rfl⟩
  have htl : t.length = m + 1 := by rw [← ht, octK_length]
  have hts : (⟨t.toArray⟩ : ByteArray).size = m + 1 := htl
  rw [ht]
  have HTT := Keep.keep ht
  clear ht
  obtain ⟨c, hc⟩ : ∃ c : Nat, c + (m + 1) = k := ⟨k - (m + 1), by omega⟩
  have ho : octK k x = List.replicate c 48 ++ t := by rw [← HTT.out, ← hc]; exact octK_pad (m + 1) c x HX1.out
  have hd2 : decide ((k : Int) < (m : Int) + 1) = false := decide_eq_false (by omega)
  have hkc : (k : Int) - ((m : Int) + 1) = (c : Int) := by omega
  have HR := Keep.keep (fun (w : World) => Tryd.strings_Repeat ⟨#[48]⟩ c w (by omega) (by show 1 * c ≤ _; omega))
  have hrl : Lib.repeatL (⟨#[48]⟩ : ByteArray).data.toList c = List.replicate c 48 := by
    have := Lib.repeatL_replicate 48 1 c
    rw [Nat.mul_one] at this
    exact this
  rw [hrl] at HR
  have hrs : (List.replicate c (48 : UInt8)).length = c := List.length_replicate
  generalize List.replicate c (48 : UInt8) = z at *
  have k1 := run_cat (P := Tryd.prog) z t (by omega)
  have k2 := run_cat (P := Tryd.prog) (z ++ t) [0] (by simp; omega)
  obtain ⟨cf, rf, mf, hcv, hcr⟩ := convF (z ++ (t ++ [0])) (by simp; omega)
  have hzl : (z ++ (t ++ [0])).length = k + 1 := by simp; omega
  rw [hzl] at hcv hcr
  have HO : Keep (octK k x ++ [0] = z ++ (t ++ [0])) := ⟨by rw [ho, List.append_assoc]⟩
  have HCR := Keep.keep hcr
  clear ho hrl hcr hzl
  go_wp2_with (go_at_call 34; ((with_reducible refine (HR.out _).mono ?_); rintro e w2 ⟨rfl, hb2⟩))
  go_ret2
  have hB2 := HB1.out.trans (hb2.mono HB1.out.size)
  obtain ⟨g1, g2, g3, pad, g4, g5⟩ := HCR.out w2
  refine ⟨_, _, pad, rfl, ?_, g5, g3, hB2.size, hB2.drew.alloc hB2.size _⟩
  rw [HO.out]
  exact ⟨mf w2, by rw [← g4]; exact heap_alloc_newF _ _, by rw [← g4]; exact g1⟩
theorem sumL_bound : ∀ l : List UInt8, sumL l ≤ 255 * l.length
  | [] => by simp [sumL]
  | c :: l => by
    have := sumL_bound l
    have h2 := c.toNat_lt
    simp only [sumL, List.map_cons, List.sum_cons, List.length_cons] at this ⊢
    omega
/-- chksum's text, of a sum -/
def sealT (l : List UInt8) : List UInt8 := octK 6 (sumL (setL l 148 (List.replicate 8 32))) ++ [0, 32]
def sealS (l : List UInt8) : List UInt8 := setL l 148 (sealT l)
theorem sum_lt (l : List UInt8) (hl : l.length = 512) : sumL (setL l 148 (List.replicate 8 32)) < 8 ^ 6 := by
  have h := sumL_bound (setL l 148 (List.replicate 8 32))
  rw [setL_length (by simp; omega), hl] at h
  have : (8 : Nat) ^ 6 = 262144 := by decide
  omega
set_option maxHeartbeats 4000000 in
set_option maxRecDepth 100000 in
theorem seal_any (S : Nat) (e : TypeId) (l : List UInt8) (hl : l.length = 512) (B : Nat) (w : World) (hF : Flds B w) (hT : Tz B w) (hB : B ≤ w.heap.size) (hS : BlkAt w S e l) :
    Calls Tryd.prog 20 #[.pointer (some ⟨S, 0, none⟩)] w fun e' w' => e' = .returned (.tuple #[]) ∧ BlkAt w' S e (sealS l) ∧ Chg (fun b => b = S) w.heap.size w w' := by
  have HSM := Keep.keep (sum_any S e l hl B w hF hB hS)
  have HE : Keep (sumS l = (sumL (setL l 148 (List.replicate 8 32)) : Int)) := ⟨rfl⟩
  have hlt := sum_lt l hl
  have HST : Keep (sealT l = octK 6 (sumL (setL l 148 (List.replicate 8 32))) ++ [0] ++ [32]) := ⟨by unfold sealT; simp⟩
  generalize sumL (setL l 148 (List.replicate 8 32)) = x at *
  rw [HE.out] at HSM
  have h86 : (8 : Nat) ^ 6 = 262144 := by decide
  have HO := Keep.keep (fun wx (h : Below w.heap.size w wx) => octal_own x 6 (by decide) (by decide) hlt (by omega) B wx (Nat.le_trans hB h.size) (hT.on (h.mono hB)))
  have HOL : Keep ((octK 6 x ++ [0]).length = 7) := ⟨by simp [octK_length]⟩
  have HF := Keep.keep hF; have HS := Keep.keep hS; have HB := Keep.keep hB
  clear hF hT hB hS hlt h86
  go_enter Tryd.func20, Tryd.ntmps20
  go_wp2_with fail
  refine HSM.out.mono ?_
  rintro e' w1 ⟨rfl, hb1⟩
  have HB1 := Keep.keep hb1
  clear hb1
  go_wp2_with fail
  refine (HO.out _ HB1.out).mono ?_
  rintro e' w2 ⟨g, cap, pad, rfl, hrow, hc, hcm, hg, hb2⟩
  have HROW := Keep.keep hrow; have HCM := Keep.keep hcm; have HG := Keep.keep hg
  have HB2 := Keep.keep (HB1.out.trans (hb2.mono HB1.out.size))
  have HC : Keep ((octK 6 x ++ [0]).length + pad.length = cap) := ⟨by rw [HOL.out]; exact hc⟩
  clear hrow hc hcm hg hb2 HSM HO
  go_wp2_with (with_reducible refine arm_stop ?_)
  refine Stopped.out ?_
  obtain ⟨ti, i1, i2, i3, i4⟩ := (SlTy.mk' (P := Tryd.prog) (t := 22) (e := 5) (z := .int .u8 0) (bytes := 1) Tryd.underlying22 (by kernel_rfl) rfl).i
  have hr1 : Row (w2.alloc (.cells #[.int .u8 (((32 : UInt8).toNat : Nat) : Int)] 5)) w2.heap.size 5 #[.int .u8 (((32 : UInt8).toNat : Nat) : Int)] := Row.new _ _ _
  have hrf : RowF (w2.alloc (.cells #[.int .u8 (((32 : UInt8).toNat : Nat) : Int)] 5)) g 5 (bcells (octK 6 x ++ [0]) ++ pad).toArray := HROW.out.chg (M := fun _ => False) (.of_below ((Below.refl w2.heap.size w2).alloc (Nat.le_refl _) _)) HROW.out.lt (fun h => h)
  refine arm_appF (l := octK 6 x ++ [0]) (m := [32]) (pad := pad) Tryd.underlying22 i1 i2 i3 i4 hrf HC.out (src_one Tryd.underlying22 i3 hr1 rfl) (by rw [HOL.out]; decide) HCM.out (by rw [HOL.out]; rfl) rfl ?_
  intro v' w3 hr3 hb3
  have HR3 := Keep.keep hr3
  have hsz1 := HB1.out.size
  have hg := HG.out
  have HB3 : Keep (Below w.heap.size w w3) := ⟨(HB2.out.trans (((Below.refl w2.heap.size w2).alloc (Nat.le_refl _) _).mono HB2.out.size)).trans (hb3.mono (by omega))⟩
  obtain ⟨a9, c9, hv9, -⟩ := hr3.shape
  rw [List.length_append, HOL.out] at hv9
  have hv9 : v' = .slice a9 8 c9 := hv9
  subst hv9
  clear hr3 hb3 hr1 hrf
  have HSET := Keep.keep (set_is S e l hl [99, 104, 107, 115, 117, 109] (by decide) 148 8 (by decide) _ (octK 6 x ++ [0] ++ [32]) (by rw [List.length_append, HOL.out]; rfl) B w3 (HF.out.on (HB3.out.mono HB.out)) (HS.out.below HB3.out HS.out.lt) (HR3.out.mono (fun b hb => hb.2)))
  simp only [Act.put, List.setIfInBounds_toArray, List.set_cons_succ, List.set_cons_zero]
  go_wp2_with fail
  refine HSET.out.mono ?_
  rintro e' w4 ⟨rfl, hrow4, hch4⟩
  have HR4 := Keep.keep hrow4
  have HC4 := Keep.keep ((Chg.of_below HB3.out).trans (hch4.lower HB3.out.size))
  clear hrow4 hch4
  go_wp2_with fail
  go_end0
  exact ⟨rfl, by unfold sealS; rw [HST.out]; exact HR4.out, HC4.out⟩
end Go.Proofs.YtohballfhhndbaaDoor
