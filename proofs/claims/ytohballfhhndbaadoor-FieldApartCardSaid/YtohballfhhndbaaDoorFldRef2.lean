/- portolanref09: Check. -/
import Derived.Test.YtohballfhhndbaaDoorFldRef
namespace Go.Proofs.YtohballfhhndbaaDoor
open Go.RowKit
theorem sliceAt_a512 (S a b : Nat) (hab : a ≤ b) (hb : b ≤ 512) (w : World) :
    (Instr.sliceAt 35 (.pointer (some ⟨S, 0, none⟩)) (some (.int .i64 (a : Int))) (some (.int .i64 (b : Int))) none).run Tryd.prog w = .ok (.slice (some ⟨S, if a = 512 then 0 else a, none⟩) (b - a) (512 - a)) w := by
  have hl : Tryd.prog.arrayLen 35 = 512 := by kernel_rfl
  have he : Tryd.prog.elem 35 = 5 := by kernel_rfl
  have hs : ∀ w, (sizeOf 5).run Tryd.prog w = .ok 1 w := fun w => by kernel_rfl
  rw [run_sliceAt_array_lh w 35 ⟨S, 0, none⟩ (by rw [hl, he]; exact Tryd.underlying35) .i64 .i64 (a : Int) (b : Int) (by omega) (by omega) (by rw [hl]; omega), hl, he, hs]
  by_cases h : a = 512
  · subst h
    simp [Result.andThen, slicedAt]
  · simp [Result.andThen, slicedAt, Addr.add_mid, h, show ¬ (512 = a) by omega]
set_option maxHeartbeats 4000000 in
set_option maxRecDepth 100000 in
theorem rcheck_any (l : List UInt8) (hl : l.length = 512) (w : World) : Calls Tryd.prog 25 #[.agg (bcells l).toArray] w fun e w' => e = .returned (.int .i64 (checkS l)) ∧ Below w.heap.size w w' := by
  have HL := Keep.keep hl
  have HSM := Keep.keep (fun wx => rsum_any l hl wx)
  have hf8 : (fldL l (148, 8)).length ≤ 1000 := by simp [fldL]; omega
  have HN := Keep.keep (fun v wx (h : Reads wx (· < wx.heap.size) v (fldL l (148, 8))) => rnum_any v _ wx h (by omega))
  have HE : Keep (checkS l = if (numS (fldL l (148, 8))).2 != 0 || (fldL l (257, 6) != magic1 && fldL l (257, 6) != magic2) then 5 else if (numS (fldL l (148, 8))).1 != sumS l then 21 else 0) := ⟨rfl⟩
  obtain ⟨out, hout⟩ : ∃ r, checkS l = r := ⟨_, rfl⟩
  rw [hout] at HE ⊢
  clear hout
  go_enter Tryd.func25, Tryd.ntmps25
  go_upto_region 1 with fail
  refine wp_world (R := fun w1 => Hp NoM w w1 [rowA w.heap.size 35 (bcells l).toArray]) ((Hp.begin NoM w).newRow _ _) ?_
  intro w1 H1
  obtain ⟨g0, hg0⟩ : ∃ g, w.heap.size = g := ⟨_, rfl⟩
  have HBW : Keep (Below w.heap.size w w1) := Keep.keep H1.out.below
  have HGL : Keep (g0 < w1.heap.size) := ⟨by rw [← hg0]; exact (H1.out.row 0 rfl).lt⟩
  rw [hg0] at H1 ⊢
  have hsl1 : ∀ wx, (Instr.sliceAt 35 (.pointer (some ⟨g0, 0, none⟩)) (some (.int .i64 148)) (some (.int .i64 156)) none).run Tryd.prog wx = .ok (.slice (some ⟨g0, 148, none⟩) 8 364) wx := sliceAt_a512 g0 148 156 (by decide) (by decide)
  have hsl2 : ∀ wx, (Instr.sliceAt 35 (.pointer (some ⟨g0, 0, none⟩)) (some (.int .i64 257)) (some (.int .i64 263)) none).run Tryd.prog wx = .ok (.slice (some ⟨g0, 257, none⟩) 6 255) wx := sliceAt_a512 g0 257 263 (by decide) (by decide)
  have HR1 : Keep (Reads w1 (· < w1.heap.size) (.slice (some ⟨g0, 148, none⟩) 8 364) (fldL l (148, 8))) := ⟨BlkAt.reads (H1.out.row 0 rfl) HL.out (N := (· < w1.heap.size)) HGL.out 148 8 364 (by omega) (by omega) (by omega)⟩
  have HR2 : Keep (∀ wx, Below w1.heap.size w1 wx → Reads wx (· < wx.heap.size) (.slice (some ⟨g0, 257, none⟩) 6 255) (fldL l (257, 6))) := ⟨fun wx h => ((BlkAt.reads (H1.out.row 0 rfl) HL.out (N := (· < w1.heap.size)) HGL.out 257 6 255 (by omega) (by omega) (by omega)).below h (fun b hb => hb)).mono (fun b hb => Nat.lt_of_lt_of_le hb h.size)⟩
  have HRW : Keep (∀ wx, Below w1.heap.size w1 wx → Row wx g0 35 (bcells l).toArray) := ⟨fun wx h => (H1.out.row 0 rfl).below h HGL.out⟩
  have HSZ : Keep ((bcells l).toArray.size = 512) := ⟨by simp [bcells_length, HL.out]⟩
  have HN1 := Keep.keep (HN.out _ w1 HR1.out)
  generalize (numS (fldL l (148, 8))).1 = n at *
  generalize (numS (fldL l (148, 8))).2 = en at *
  generalize fldL l (257, 6) = mg at *
  generalize sumS l = sm at *
  simp only [bne] at HE
  obtain ⟨b1, hmg1⟩ : ∃ b, (mg == magic1) = b := ⟨_, rfl⟩
  obtain ⟨b2, hmg2⟩ : ∃ b, (mg == magic2) = b := ⟨_, rfl⟩
  obtain ⟨b0, hen⟩ : ∃ b, (en == 0) = b := ⟨_, rfl⟩
  obtain ⟨b3, hns⟩ : ∃ b, (n == sm) = b := ⟨_, rfl⟩
  simp only [hmg1, hmg2, hen, hns] at HE
  have hm1 : (mg == [117, 115, 116, 97, 114, 0]) = b1 := hmg1
  have hm2 : (mg == [117, 115, 116, 97, 114, 32]) = b2 := hmg2
  have henb : (en != 0) = !b0 := by unfold bne; rw [hen]
  have hnsb : (n != sm) = !b3 := by unfold bne; rw [hns]
  clear hmg1 hmg2 hf8 hg0 H1 hl HR1 HN
  go_wp2_with fail
  refine HN1.out.mono ?_
  rintro e w2 ⟨rfl, hb⟩
  have HB2 : Keep (Below w1.heap.size w1 w2) := Keep.keep hb
  have HBB := Keep.keep (HBW.out.trans (hb.mono HBW.out.size))
  have hcv := run_string_of (HR2.out w2 HB2.out)
  have HROW := Keep.keep (HRW.out w2 HB2.out)
  clear hb HN1 HR2 HRW
  cases b0 with
  | false =>
    have HX : Keep (out = 5) := ⟨by rw [HE.out]; rfl⟩
    go_wp2_with fail
    go_ret
    exact ⟨by rw [HX.out]; rfl, HBB.out⟩
  | true =>
  cases b1 with
  | true =>
    go_wp2_with ((with_reducible refine arm_loadRow HROW.out agg512' HSZ.out ?_ ?_); (focus rfl); simp only [Act.put, List.setIfInBounds_toArray, List.set_cons_succ, List.set_cons_zero])
    refine (HSM.out _).mono ?_
    rintro e w3 ⟨rfl, hb⟩
    have HB3 := Keep.keep (HBB.out.trans (hb.mono HBB.out.size))
    clear hb HROW HSZ HSM
    generalize (bcells l).toArray = cs at *
    cases b3 with
    | true =>
      have HX : Keep (out = 0) := ⟨by rw [HE.out]; rfl⟩
      go_wp2_with fail
      go_ret
      exact ⟨by rw [HX.out]; rfl, HB3.out⟩
    | false =>
      have HX : Keep (out = 21) := ⟨by rw [HE.out]; rfl⟩
      go_wp2_with fail
      go_ret
      exact ⟨by rw [HX.out]; rfl, HB3.out⟩
  | false =>
  cases b2 with
  | false =>
    have HX : Keep (out = 5) := ⟨by rw [HE.out]; rfl⟩
    go_wp2_with fail
    go_ret
    exact ⟨by rw [HX.out]; rfl, HBB.out⟩
  | true =>
    go_wp2_with ((with_reducible refine arm_loadRow HROW.out agg512' HSZ.out ?_ ?_); (focus rfl); simp only [Act.put, List.setIfInBounds_toArray, List.set_cons_succ, List.set_cons_zero])
    refine (HSM.out _).mono ?_
    rintro e w3 ⟨rfl, hb⟩
    have HB3 := Keep.keep (HBB.out.trans (hb.mono HBB.out.size))
    clear hb HROW HSZ HSM
    generalize (bcells l).toArray = cs at *
    cases b3 with
    | true =>
      have HX : Keep (out = 0) := ⟨by rw [HE.out]; rfl⟩
      go_wp2_with fail
      go_ret
      exact ⟨by rw [HX.out]; rfl, HB3.out⟩
    | false =>
      have HX : Keep (out = 21) := ⟨by rw [HE.out]; rfl⟩
      go_wp2_with fail
      go_ret
      exact ⟨by rw [HX.out]; rfl, HB3.out⟩
end Go.Proofs.YtohballfhhndbaaDoor
