/- portolanlaw10: tells (the chapter's rows). -/
import Derived.Test.YtlhjehcfpnjbmaaDoorPaxGet
import Derived.Test.YtlhjehcfpnjbmaaDoorPaxPutB
namespace Go.Proofs.YtlhjehcfpnjbmaaDoor
open Go.RowKit
abbrev tK : List UInt8 := [112, 97, 116, 104]
abbrev tV : List UInt8 := [97]
abbrev tT : List UInt8 := [57, 32, 112, 97, 116, 104, 61, 97, 10]
def t1 : List UInt8 := [57, 32, 107, 61, 97, 98, 99]
def t2 : List UInt8 := [48, 57, 32, 107, 61, 97, 98, 10]
def t3 : List UInt8 := [49, 48, 32, 112, 97, 116, 104, 61, 97, 10]
theorem tells_get : getR t1 = ([], 4) ∧ getR t2 = ([], 5) ∧ getR t3 = ([], 5) := by decide +kernel
theorem tells_may : mayK tK = true := by decide
theorem tells_sz : sz tK tV = 9 := by decide
theorem tells_put : putT [(tK, tV)] = tT := by
  simp only [putT, List.flatMap_cons, List.flatMap_nil, recT, tells_sz]
  rw [Lib.decDigits_one (by omega)]
  rfl
set_option maxHeartbeats 1000000 in
set_option maxRecDepth 100000 in
theorem tells_any (B : Nat) (w : World) (hB : B ≤ w.heap.size) (hT : Pow B w) :
    Calls Tryd.prog 12 #[] w fun e w' => e = .returned (.bool true) ∧ Below w.heap.size w w' := by
  have HT := Keep.keep hT; have HB := Keep.keep hB
  clear hT hB
  have kc := convB
  go_enter Tryd.func12, Tryd.ntmps12
  go_wp2_with fail
  refine calls_at (R := fun w2 => Hp NoM w w2 [rowA w.heap.size 33 #[.string ⟨#[112, 97, 116, 104]⟩, .string ⟨#[97]⟩]]) ((Hp.begin _ w).newRow _ _) ?_
  intro w1 H1
  refine (put_ok (.slice (some ⟨w.heap.size, 0, none⟩) 1 1) [(tK, tV)] B w1 (by simp) ?_ (Nat.le_trans HB.out H1.out.size) (HT.out.on (H1.out.below.mono HB.out)) (by simp [mayL, tells_may]) (by rw [tells_put]; decide) (by simp [tV])).mono ?_
  · exact RdV.ofRow (H1.out.row 0 rfl) (H1.out.row 0 rfl).lt 2 0 1 1 (rcells [(tK, tV)]) rfl (Nat.le_refl _) (by unfold maxLen; omega) (fun j u hu => by rw [Nat.zero_add]; simpa [rcells, tK, tV] using hu)
  rintro e w2 ⟨v2, rfl, ho2, hb2⟩
  rw [tells_put] at ho2
  have H2 := Keep.keep (H1.out.call hb2)
  have HR2 := Keep.keep (ho2.reads.mono (N' := (· < w2.heap.size)) (fun b hb => hb.2.1))
  clear ho2 hb2
  go_wp2_with fail
  refine calls_at (R := fun wq => Below w2.heap.size w2 wq ∧ Reads wq (· < wq.heap.size) (.slice (some ⟨w2.heap.size, 0, none⟩) 7 7) t1) ⟨(Below.refl _ _).alloc (Nat.le_refl _) _, (Reads.lit _ _ t1 _ _ _ rfl rfl rfl (by decide)).mono (fun b hb => by subst hb; simp)⟩ ?_
  intro w2a HA1
  refine (get_any _ t1 w2a HA1.out.2 (by decide)).mono ?_
  rintro e w3 ⟨s1, rfl, -, hbg⟩
  have hge1 : ((getR t1).2 : Int) = 4 := by rw [tells_get.1]; rfl
  have HB3 := Keep.keep ((HA1.out.1.trans (hbg.mono HA1.out.1.size)))
  clear hbg HA1
  go_wp2_with fail
  refine calls_at (R := fun wq => Below w3.heap.size w3 wq ∧ Reads wq (· < wq.heap.size) (.slice (some ⟨w3.heap.size, 0, none⟩) 8 8) t2) ⟨(Below.refl _ _).alloc (Nat.le_refl _) _, (Reads.lit _ _ t2 _ _ _ rfl rfl rfl (by decide)).mono (fun b hb => by subst hb; simp)⟩ ?_
  intro w3a HA2
  refine (get_any _ t2 w3a HA2.out.2 (by decide)).mono ?_
  rintro e w4 ⟨s2, rfl, -, hbg⟩
  have hge2 : ((getR t2).2 : Int) = 5 := by rw [tells_get.2.1]; rfl
  have HB4 := Keep.keep (HB3.out.trans ((HA2.out.1.trans (hbg.mono HA2.out.1.size)).mono HB3.out.size))
  clear hbg HA2
  go_wp2_with fail
  refine calls_at (R := fun wq => Below w4.heap.size w4 wq ∧ Reads wq (· < wq.heap.size) (.slice (some ⟨w4.heap.size, 0, none⟩) 10 10) t3) ⟨(Below.refl _ _).alloc (Nat.le_refl _) _, (Reads.lit _ _ t3 _ _ _ rfl rfl rfl (by decide)).mono (fun b hb => by subst hb; simp)⟩ ?_
  intro w4a HA3
  refine (get_any _ t3 w4a HA3.out.2 (by decide)).mono ?_
  rintro e w5 ⟨s3, rfl, -, hbg⟩
  have hge3 : ((getR t3).2 : Int) = 5 := by rw [tells_get.2.2]; rfl
  have HB5 := Keep.keep (HB4.out.trans ((HA3.out.1.trans (hbg.mono HA3.out.1.size)).mono HB4.out.size))
  clear hbg HA3
  have hcv := run_string_of (HR2.out.below HB5.out (fun _ h => h))
  have eT : (⟨tT.toArray⟩ : ByteArray) = ⟨#[57, 32, 112, 97, 116, 104, 61, 97, 10]⟩ := rfl
  rw [eT] at hcv
  have HSZ := Keep.keep (size_any tK tV (by decide) B w5 (Nat.le_trans HB.out (Nat.le_trans H2.out.size HB5.out.size)) (HT.out.on ((H2.out.below.trans (HB5.out.mono H2.out.size)).mono HB.out)))
  rw [tells_sz] at HSZ
  go_wp2_with (go_at_call 10; ((with_reducible refine HSZ.out.mono ?_); rintro e w6 ⟨rfl, hb6⟩))
  go_ret
  exact ⟨rfl, (H2.out.below.trans (HB5.out.mono H2.out.size)).trans (hb6.mono (Nat.le_trans H2.out.size HB5.out.size))⟩
end Go.Proofs.YtlhjehcfpnjbmaaDoor
