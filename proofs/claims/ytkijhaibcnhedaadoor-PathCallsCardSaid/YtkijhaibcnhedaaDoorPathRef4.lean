/- portolanref11.Class. -/
import Derived.Test.YtkijhaibcnhedaaDoorPathRef3
import Derived.Test.YtkijhaibcnhedaaDoorPathRefL
import Derived.Test.YtkijhaibcnhedaaDoorPathDel
import Derived.Test.YtkijhaibcnhedaaDoorSlTo
namespace Go.Proofs.YtkijhaibcnhedaaDoor
open Go.RowKit
theorem rclass_tab (p : List UInt8) (ht : (p == tableB) = true) (w : World) :
    Calls Tryd.prog 24 #[.string ⟨p.toArray⟩] w fun e w' => e = .returned (.tuple #[.int .i64 (classP p).1, .string ⟨(classP p).2.toArray⟩]) ∧ Below w.heap.size w w' := by
  have HE : Keep (classP p = (4, [])) := ⟨by unfold classP; rw [ht]; rfl⟩
  have htab : (p == [46, 119, 104, 46, 46, 119, 104, 46, 116, 111, 99]) = true := ht
  clear ht
  go_enter Tryd.func24, Tryd.ntmps24
  go_wp2_with fail
  go_ret2
  exact ⟨by rw [HE.out]; rfl, Below.refl _ _⟩
theorem rclass_nil (w : World) :
    Calls Tryd.prog 24 #[.string ⟨#[]⟩] w fun e w' => e = .returned (.tuple #[.int .i64 (classP []).1, .string ⟨(classP []).2.toArray⟩]) ∧ Below w.heap.size w w' := by
  have HE : Keep (classP [] = (0, [])) := ⟨by decide⟩
  have HS : Keep (Calls Tryd.prog 27 #[.string ⟨#[]⟩] w fun e w' => ∃ v, e = .returned v ∧ OwnS w' w.heap.size v (splitP []) ∧ Below w.heap.size w w') := ⟨rsplit_any [] (by simp) w⟩
  go_enter Tryd.func24, Tryd.ntmps24
  go_wp2_with fail
  refine HS.out.mono ?_
  rintro e w1 ⟨v, rfl, ho, hb⟩
  have HB := Keep.keep hb
  obtain ⟨a, c, hv, -⟩ := (ownsV_reads ho).shape
  rw [show (splitP []).length = 0 from rfl] at hv
  subst hv
  clear ho hb
  go_wp2_with fail
  go_ret2
  exact ⟨by rw [HE.out]; rfl, HB.out⟩
set_option maxHeartbeats 8000000 in
set_option maxRecDepth 100000 in
theorem rclass_any (p : List UInt8) (hp4 : p.length ≤ 400000) (w : World) :
    Calls Tryd.prog 24 #[.string ⟨p.toArray⟩] w fun e w' => e = .returned (.tuple #[.int .i64 (classP p).1, .string ⟨(classP p).2.toArray⟩]) ∧ Below w.heap.size w w' := by
  cases ht : p == tableB with
  | true => exact rclass_tab p ht w
  | false =>
  by_cases h0 : p = []
  · subst h0; exact rclass_nil w
  have hp : p.length ≤ 1000000 := by omega
  obtain ⟨init, base, hsp, hbn, hcs⟩ := split_parts h0
  have HS := Keep.keep (rsplit_any p hp w)
  have HE : Keep (classP p = refC p init base) := ⟨class_ref h0 ht hbn hcs⟩
  have hml := splitP_mem_len p
  have hlen : (splitP p).length ≤ p.length + 1 := by
    have := spl_length p
    unfold splitP; split
    · simp
    · omega
  have hj0 : (joinP init).length ≤ p.length := by
    rcases hcs with ⟨rfl, -⟩ | ⟨d, rfl, rfl⟩
    · simp [joinP, joinS]
    · have := joinS_filter_len (fun x => !x.isEmpty) (spl d) (spl_ne d)
      rw [joinS_spl] at this
      unfold joinP
      simp
      omega
  rw [hsp] at HS hml hlen
  have hbl : base.length ≤ p.length := hml base (by simp)
  have hil : init.length ≤ p.length := by simp at hlen; omega
  have HMN : Keep (∀ x ∈ init, ∀ w, Calls Tryd.prog 25 #[.string ⟨x.toArray⟩] w fun e w' => e = .returned (.bool (mayN x)) ∧ w = w') := ⟨fun x hx w => rmayname_any x (Nat.le_trans (hml x (by simp [hx])) hp) w⟩
  have HMB := Keep.keep (fun w => rmayname_any base (by omega) w)
  have HMD := Keep.keep (fun w => rmayname_any (base.drop 4) (by simp; omega) w)
  have HBG : Keep (∀ w, Calls Tryd.prog 51 #[.string ⟨base.toArray⟩, .string ⟨#[46, 119, 104, 46]⟩] w fun e w' => e = .returned (.bool (whiteB.isPrefixOf base)) ∧ w = w') := ⟨fun w => begins_any base whiteB w⟩
  have HMP := Keep.keep (fun w => rmay_any p hp w)
  have HMJ := Keep.keep (fun w => rmay_any (joinP init) (by omega) w)
  have hj2 := joinP_two_len (joinP init) (base.drop 4)
  have hdl : (base.drop 4).length ≤ base.length := by simp
  have HMT := Keep.keep (fun w => rmay_any (joinP [joinP init, base.drop 4]) (by omega) w)
  have HJ1 := Keep.keep (fun v w (h : RdS w (· < w.heap.size) v init) => rjoin_any v init w h (by omega) (by omega))
  have HJ2 := Keep.keep (fun v w (h : RdS w (· < w.heap.size) v [joinP init, base.drop 4]) => rjoin_any v [joinP init, base.drop 4] w h (by simp) (by omega))
  have HK4 : Keep (whiteB.isPrefixOf base = true → ∀ w, (Instr.slice 9 (.string ⟨base.toArray⟩) (some (.int .i64 4)) none none).run Tryd.prog w = .ok (.string ⟨(base.drop 4).toArray⟩) w) := ⟨fun h =>
    run_slice_from (P := Tryd.prog) Tryd.underlying9 base .i64 4 (by
      obtain ⟨b, rfl⟩ := List.isPrefixOf_iff_prefix.1 h
      simp [whiteB])⟩
  have htab : (p == [46, 119, 104, 46, 46, 119, 104, 46, 116, 111, 99]) = false := ht
  have hbml : (base == markB) = (base == [46, 119, 104, 46, 46, 119, 104, 46, 46, 111, 112, 113]) := rfl
  have hll : (init ++ [base]).length = init.length + 1 := by simp
  obtain ⟨n, hn⟩ : ∃ n, init.length = n := ⟨_, rfl⟩
  rw [hn] at hll hil
  clear hml hlen hcs hbn hsp ht h0 hj0 hj2 hdl hbl
  generalize classP p = out at *
  go_enter Tryd.func24, Tryd.ntmps24
  go_wp2_with fail
  refine HS.out.mono ?_
  rintro e w1 ⟨v, rfl, ho, hb⟩
  have hr0 := (ownsV_reads ho).mono (N' := (· < w1.heap.size)) (fun b hb => hb.2.1)
  have HB := Keep.keep hb
  rw [hll] at hr0
  obtain ⟨a, c, hv, hcap, hcm, h3⟩ := hr0.shape
  subst hv
  rcases h3 with ⟨_, h3⟩ | ⟨b, off, rfl, hbl2⟩
  · omega
  have HR := Keep.keep hr0
  have hcellB := hr0.cell b off _ _ rfl n (strV base) (by simp [hn])
  have HRI : Keep (RdS w1 (· < w1.heap.size) (.slice (some ⟨b, off, none⟩) n c) init) := ⟨by
    have := hr0.sub 0 n c off (init.map strV) (by rw [List.map_append]; simp [hn]) (by simp [hn]) (by simp) (by omega) (Nat.le_refl _)
    rw [← hn] at this
    rw [← hn]
    exact this⟩
  have hst := slice_to slSt (some ⟨b, off, none⟩) (n + 1) c n .i64 (by omega) (.inr ⟨b, off, rfl⟩)
  unfold strV at hcellB
  have hm1 : (((n + 1 : Nat) : Int)) - 1 = (n : Int) := by omega
  have hm2 : ((n : Int) + 1) - 1 = (n : Int) := by omega
  have hz1 : decide (((n + 1 : Nat) : Int) = 0) = false := decide_eq_false (by omega)
  clear ho hb hr0 HS hll
  go_wp2_with fail
  go_loopg [6] n (fun g u6 wx => ∃ k : Nat, k + g = n ∧ u6 = .int .i64 (k : Int) ∧ (init.take k).all mayN = true ∧ w1 = wx)
  case atStart => exact ⟨0, by omega, rfl, rfl, rfl⟩
  case round =>
    obtain ⟨k, hkg, rfl, hal, rfl⟩ := hrel
    have HAL := Keep.keep hal
    clear hal
    cases gk with
    | succ g =>
      have hk : k < init.length := by omega
      have hcell := HR.out.cell b off _ _ rfl k (strV init[k]) (by simp [hk, List.getElem?_append_left])
      have HM1 := Keep.keep (HMN.out init[k] (List.getElem_mem hk))
      have HT : Keep ((init.take (k + 1)).all mayN = mayN init[k]) := ⟨by
        rw [List.take_succ_eq_append_getElem hk, List.all_append, HAL.out]; simp⟩
      have HF : Keep (mayN init[k] = false → out = (0, [])) := ⟨fun h => by
        rw [HE.out]
        unfold refC
        have : init.all mayN = false := List.all_eq_false.2 ⟨_, List.getElem_mem hk, by rw [h]; decide⟩
        rw [this]; rfl⟩
      generalize init[k] = x at *
      unfold strV at hcell
      clear hcellB hst hn hk
      cases hm : mayN x with
      | false =>
        rw [hm] at HM1
        have HX := Keep.keep (HF.out hm)
        clear hm
        go_wp2_with fail
        refine (HM1.out _).mono ?_
        rintro e w' ⟨rfl, rfl⟩
        go_wp2_with fail
        go_ret2
        exact ⟨by rw [HX.out]; rfl, HB.out⟩
      | true =>
        rw [hm] at HM1 HT
        clear hm
        go_wp2_with fail
        refine (HM1.out _).mono ?_
        rintro e w' ⟨rfl, rfl⟩
        go_wp2_with fail
        go_roundg g
        case measure => omega
        case rel => exact ⟨k + 1, by omega, by simp, HT.out, rfl⟩
    | zero =>
      obtain rfl : k = n := by omega
      have HC : Keep (out = refF (refT p base (joinP init))) := ⟨by
        have h := HAL.out
        rw [List.take_of_length_le (by omega)] at h
        rw [HE.out]; unfold refC; rw [h]; rfl⟩
      have HRT : Keep (refT p base (joinP init) = if mayN base then (1, p) else if base == markB then (3, joinP init) else if whiteB.isPrefixOf base && mayN (base.drop 4) then (2, joinP [joinP init, base.drop 4]) else (0, [])) := ⟨rfl⟩
      clear HMN HAL HR
      generalize refT p base (joinP init) = rt at *
      generalize joinP [joinP init, base.drop 4] = jt at *
      generalize joinP init = dir at *
      generalize mayN base = b1 at *
      generalize hb2 : (base == markB) = b2 at *
      generalize hb3 : whiteB.isPrefixOf base = b3 at *
      generalize base.drop 4 = b4s at *
      generalize mayN b4s = b4 at *
      have hbm2 := hbml.symm
      clear hb2 hbml hb3
      cases b1 with
      | true =>
        have HX : Keep (out = if mayP p then (1, p) else (0, [])) := ⟨by
          rw [HC.out, HRT.out]; unfold refF; cases hm : mayP p <;> simp [hm]⟩
        generalize mayP p = b5 at *
        go_wp2_with fail
        refine (HJ1.out _ _ HRI.out).mono ?_
        rintro e w' ⟨rfl, rfl⟩
        go_wp2_with fail
        refine (HMB.out _).mono ?_
        rintro e w' ⟨rfl, rfl⟩
        go_wp2_with fail
        refine (HMP.out _).mono ?_
        rintro e w2 ⟨rfl, hb2⟩
        have HB2 := Keep.keep (HB.out.trans (hb2.mono HB.out.size))
        clear hb2
        cases b5 with
        | false =>
          go_wp2_with fail
          go_ret2
          exact ⟨by rw [HX.out]; rfl, HB2.out⟩
        | true =>
          go_wp2_with fail
          go_ret2
          exact ⟨by rw [HX.out]; rfl, HB2.out⟩
      | false =>
      cases b2 with
      | true =>
        have HX : Keep (out = if mayP dir then (3, dir) else (0, [])) := ⟨by
          rw [HC.out, HRT.out]; unfold refF; cases hm : mayP dir <;> simp [hm]⟩
        generalize mayP dir = b5 at *
        go_wp2_with fail
        refine (HJ1.out _ _ HRI.out).mono ?_
        rintro e w' ⟨rfl, rfl⟩
        go_wp2_with fail
        refine (HMB.out _).mono ?_
        rintro e w' ⟨rfl, rfl⟩
        go_wp2_with fail
        refine (HMJ.out _).mono ?_
        rintro e w2 ⟨rfl, hb2⟩
        have HB2 := Keep.keep (HB.out.trans (hb2.mono HB.out.size))
        clear hb2
        cases b5 with
        | false =>
          go_wp2_with fail
          go_ret2
          exact ⟨by rw [HX.out]; rfl, HB2.out⟩
        | true =>
          go_wp2_with fail
          go_ret2
          exact ⟨by rw [HX.out]; rfl, HB2.out⟩
      | false =>
      cases b3 with
      | false =>
        have HX : Keep (out = (0, [])) := ⟨by rw [HC.out, HRT.out]; rfl⟩
        go_wp2_with fail
        refine (HJ1.out _ _ HRI.out).mono ?_
        rintro e w' ⟨rfl, rfl⟩
        go_wp2_with fail
        refine (HMB.out _).mono ?_
        rintro e w' ⟨rfl, rfl⟩
        go_wp2_with fail
        refine (HBG.out _).mono ?_
        rintro e w' ⟨rfl, rfl⟩
        go_wp2_with fail
        go_ret2
        exact ⟨by rw [HX.out]; rfl, HB.out⟩
      | true =>
      have hk4 := HK4.out rfl
      cases b4 with
      | false =>
        have HX : Keep (out = (0, [])) := ⟨by rw [HC.out, HRT.out]; rfl⟩
        go_wp2_with fail
        refine (HJ1.out _ _ HRI.out).mono ?_
        rintro e w' ⟨rfl, rfl⟩
        go_wp2_with fail
        refine (HMB.out _).mono ?_
        rintro e w' ⟨rfl, rfl⟩
        go_wp2_with fail
        refine (HBG.out _).mono ?_
        rintro e w' ⟨rfl, rfl⟩
        go_wp2_with fail
        refine (HMD.out _).mono ?_
        rintro e w' ⟨rfl, rfl⟩
        go_wp2_with fail
        go_ret2
        exact ⟨by rw [HX.out]; rfl, HB.out⟩
      | true =>
        have HX : Keep (out = if mayP jt then (2, jt) else (0, [])) := ⟨by
          rw [HC.out, HRT.out]; unfold refF; cases hm : mayP jt <;> simp [hm]⟩
        generalize mayP jt = b5 at *
        go_wp2_with fail
        refine (HJ1.out _ _ HRI.out).mono ?_
        rintro e w' ⟨rfl, rfl⟩
        go_wp2_with fail
        refine (HMB.out _).mono ?_
        rintro e w' ⟨rfl, rfl⟩
        go_wp2_with fail
        refine (HBG.out _).mono ?_
        rintro e w' ⟨rfl, rfl⟩
        go_wp2_with fail
        refine (HMD.out _).mono ?_
        rintro e w' ⟨rfl, rfl⟩
        go_wp2_with fail
        refine calls_at (R := fun wq => Below w1.heap.size w1 wq ∧ RdS wq (· < wq.heap.size) (.slice (some ⟨w1.heap.size, 0, none⟩) 2 2) [dir, b4s]) ⟨(Below.refl _ _).alloc (Nat.le_refl _) _, rdS_two w1 dir b4s⟩ ?_
        intro w2 H2
        refine (HJ2.out _ w2 H2.out.2).mono ?_
        rintro e w' ⟨rfl, rfl⟩
        have HB2 := Keep.keep (HB.out.trans (H2.out.1.mono HB.out.size))
        go_wp2_with fail
        refine (HMT.out _).mono ?_
        rintro e w3 ⟨rfl, hb3⟩
        have HB3 := Keep.keep (HB2.out.trans (hb3.mono HB2.out.size))
        clear hb3
        cases b5 with
        | false =>
          go_wp2_with fail
          go_ret2
          exact ⟨by rw [HX.out]; rfl, HB3.out⟩
        | true =>
          go_wp2_with fail
          go_ret2
          exact ⟨by rw [HX.out]; rfl, HB3.out⟩
end Go.Proofs.YtkijhaibcnhedaaDoor
