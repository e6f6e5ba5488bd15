/- FieldApart: the fields lie side by side. -/
import Derived.Test.YtohballfhhndbaaDoorFieldBlocks
import Derived.Test.YtohballfhhndbaaDoorFldApR
namespace Go.Proofs.YtohballfhhndbaaDoor
open Go.RowKit
theorem lns_all : (lnsL.take 16).sum = 500 := rfl
theorem plc_at (k : Nat) (hk : k < 16) : plc (nmsL[k]'(by rw [nms_len]; omega)) = ((lnsL.take k).sum, lnsL[k]'(by rw [lns_len]; omega)) := by
  unfold plc
  rw [place_at ⟨k, hk⟩]; rfl
theorem apart_all (l : List UInt8) (o n : Nat) : l.take o ++ fldL l (o, n) = l.take (o + n) := by
  unfold fldL
  rw [List.take_add]
/-- the block that is laid, field by field -/
def layA (l : List UInt8) (o : Nat) : List UInt8 := l.take o ++ List.replicate (512 - o) 0
theorem layA_len {l : List UInt8} (hl : l.length = 512) {o : Nat} (ho : o ≤ 512) : (layA l o).length = 512 := by
  unfold layA; simp; omega
theorem layA_set {l : List UInt8} (hl : l.length = 512) {o n : Nat} (ho : o + n ≤ 512) : setL (layA l o) o (fldL l (o, n)) = layA l (o + n) := by
  have hf : (fldL l (o, n)).length = n := by simp [fldL]; omega
  have h1 : (layA l o).take o = l.take o := by
    unfold layA
    rw [List.take_append_of_le_length (by simp; omega), List.take_take, Nat.min_self]
  have h2 : (layA l o).drop (o + n) = List.replicate (512 - (o + n)) 0 := by
    unfold layA
    rw [List.drop_append, List.drop_eq_nil_of_le (by simp; omega), List.nil_append, List.drop_replicate]
    congr 1; simp; omega
  unfold setL
  rw [hf, h1, h2, apart_all]; rfl
theorem layA_zero (l : List UInt8) : layA l 0 = List.replicate 512 0 := by unfold layA; rw [List.take_zero, List.nil_append]
theorem nms_short : ∀ k : Fin 16, (nmsL[k.val]'(by have := k.2; rw [nms_len]; omega)).length ≤ 1000 := by decide +kernel
theorem fit_at : ∀ k : Fin 16, (lnsL.take k.val).sum + (lnsL[k.val]'(by have := k.2; rw [lns_len]; omega)) ≤ 500 := by decide +kernel
theorem aggA16 : AggTy Tryd.prog 36 16 := ⟨⟨_, Tryd.underlying36, rfl⟩, by kernel_rfl⟩
set_option maxHeartbeats 8000000 in
set_option maxRecDepth 100000 in
theorem apart_any (l : List UInt8) (hl : l.length = 512) (B : Nat) (w : World) (hF : Flds B w) (hT : Tz B w) (hB : B ≤ w.heap.size) :
    Calls Tryd.prog 4 #[.agg (bcells l).toArray] w fun e w' => e = .returned (.bool true) ∧ Below w.heap.size w w' := by
  have HF := Keep.keep hF; have HT := Keep.keep hT; have HB := Keep.keep hB; have HL := Keep.keep hl
  have HZ : Keep (Tryd.zeroCells37.size = 512) := ⟨by kernel_rfl⟩
  have HZ0 : Keep (Tryd.zeroCells37 = (bcells (layA l 0)).toArray) := ⟨by rw [layA_zero]; kernel_rfl⟩
  have HN16 : Keep ((nmsL.map strW).toArray.size = 16) := ⟨rfl⟩
  clear hF hT hB hl
  go_enter Tryd.func4, Tryd.ntmps4
  go_upto_region 1 with fail
  refine wp_world (R := fun w1 => Hp NoM w w1 [rowA w.heap.size 35 (bcells l).toArray]) ((Hp.begin NoM w).newRow _ _) ?_
  intro w1 H1
  obtain ⟨g0, hg0⟩ : ∃ g, w.heap.size = g := ⟨_, rfl⟩
  rw [hg0] at H1 ⊢
  go_upto_region 2 with fail
  refine wp_world (R := fun w2 => Hp NoM w w2 [rowA g0 35 (bcells l).toArray, rowA w1.heap.size 36 (nmsL.map strW).toArray]) (H1.out.newRow _ _) ?_
  intro w2 H2
  obtain ⟨g1, hg1⟩ : ∃ g, w1.heap.size = g := ⟨_, rfl⟩
  rw [hg1] at H2 ⊢
  rw [show (Value.agg #[Value.string { data := #[110, 97, 109, 101] }, Value.string { data := #[109, 111, 100, 101] }, Value.string { data := #[117, 105, 100] }, Value.string { data := #[103, 105, 100] }, Value.string { data := #[115, 105, 122, 101] }, Value.string { data := #[109, 116, 105, 109, 101] }, Value.string { data := #[99, 104, 107, 115, 117, 109] }, Value.string { data := #[116, 121, 112, 101] }, Value.string { data := #[108, 105, 110, 107, 110, 97, 109, 101] }, Value.string { data := #[109, 97, 103, 105, 99] }, Value.string { data := #[118, 101, 114, 115, 105, 111, 110] }, Value.string { data := #[117, 110, 97, 109, 101] }, Value.string { data := #[103, 110, 97, 109, 101] }, Value.string { data := #[100, 101, 118, 109, 97, 106, 111, 114] }, Value.string { data := #[100, 101, 118, 109, 105, 110, 111, 114] }, Value.string { data := #[112, 114, 101, 102, 105, 120] }]) = Value.agg (nmsL.map strW).toArray from rfl]
  have HCN : Keep (∀ k (hk : k < nmsL.length), (nmsL.map strW).toArray[k]? = some (strW nmsL[k])) := ⟨fun k hk => by rw [List.getElem?_toArray, List.getElem?_map, List.getElem?_eq_getElem hk]; rfl⟩
  generalize (nmsL.map strW).toArray = cn at *
  clear hg1 H1
  go_upto_region 4 with fail
  refine wp_world (R := fun w3 => Hp NoM w w3 [rowA g0 35 (bcells l).toArray, rowA g1 36 cn, rowA w2.heap.size 37 (bcells (layA l 0)).toArray]) (H2.out.newRow' _ _ _ _ rfl HZ0.out.symm) ?_
  intro w3 H3
  obtain ⟨g2, hg2⟩ : ∃ g, w2.heap.size = g := ⟨_, rfl⟩
  rw [hg2] at H3 ⊢
  clear hg2 H2
  go_upto_region 5 with (first
    | ((with_reducible refine arm_loadRow (H3.out.row 0 rfl) agg512 (bcs HL.out) ?_ ?_); (focus rfl); simp only [Act.put, List.setIfInBounds_toArray, List.set_cons_succ, List.set_cons_zero])
    | ((with_reducible refine arm_storeRow (Row.new w3 37 _) aggBlk HZ.out (bcs HL.out) (bc1 l) ?_ ?_ ?_); (focus rfl); (focus rfl); simp only [Act.put, World.setRow_alloc_new]))
  refine wp_world (R := fun w4 => Hp NoM w w4 [rowA g0 35 (bcells l).toArray, rowA g1 36 cn, rowA g2 37 (bcells (layA l 0)).toArray, rowA w3.heap.size 37 (bcells l).toArray]) (H3.out.newRow _ _) ?_
  intro w4 H4
  obtain ⟨g3, hg3⟩ : ∃ g, w3.heap.size = g := ⟨_, rfl⟩
  rw [hg3] at H4 ⊢
  clear hg3 H3
  go_wp2_with ((with_reducible refine arm_loadRow (H4.out.row 1 rfl) aggA16 HN16.out ?_ ?_); (focus rfl); simp only [Act.put, List.setIfInBounds_toArray, List.set_cons_succ, List.set_cons_zero])
  go_loopg [4, 8, 9, 10, 14] 16 (fun g u4 _ _ _ u14 wx => ∃ k : Nat, k + g = 16 ∧ u14 = .int .i64 (k : Int) ∧ Hp NoM w wx [rowA g0 35 (bcells l).toArray, rowA g1 36 cn, rowA g2 37 (bcells (layA l (lnsL.take k).sum)).toArray, rowA g3 37 (bcells l).toArray, byA g0 5 u4 (l.take (lnsL.take k).sum)])
  case atStart => exact ⟨0, by omega, rfl, H4.out.nilB _ _⟩
  case round =>
    obtain ⟨k, hkg, rfl, hH⟩ := hrel
    have HH := Keep.keep hH
    have hown := hH.bs 4 rfl
    obtain ⟨a4, c4, hv4, -⟩ := hown.reads.shape
    have hS := lns_bound ⟨k, by omega⟩
    simp only at hS
    rw [show (l.take (lnsL.take k).sum).length = (lnsL.take k).sum by rw [List.length_take, HL.out]; omega] at hv4
    subst hv4
    clear hS
    clear hH hown
    cases gk with
    | zero =>
      obtain rfl : k = 16 := by omega
      rw [lns_all] at HH ⊢
      have HWK := Keep.keep (fun wx (h : Below wr.heap.size wr wx) => wakes_any B wx (Nat.le_trans HB.out (HH.out.call h).size) (HT.out.on ((HH.out.call h).below.mono HB.out)))
      clear hkg
      go_wp2_with fail
      refine apreg (s4 := .slice a4 500 c4) HL.out rfl rfl rfl rfl ⟨_, _, rfl⟩ ?_ HWK.out rfl ?_
      · intro wx h
        have HP := HH.out.call h
        have hla := layA_len HL.out (o := 500) (by decide)
        have e1 : ((layA l 500).drop 0).take 500 = l.take 500 := by
          unfold layA
          rw [List.drop_zero, List.take_append_of_le_length (by simp [HL.out]), List.take_take, Nat.min_self]
        have e2 : ((layA l 500).drop 500).take 12 = List.replicate 12 0 := by
          unfold layA
          rw [List.drop_append, List.drop_eq_nil_of_le (by simp; omega), List.nil_append]
          simp [HL.out]
        have r2 := BlkAt.reads (HP.row 0 rfl) HL.out (N := fun _ => True) trivial 0 500 512 (by omega) (by omega) (by omega)
        have r3 := BlkAt.reads (HP.row 2 rfl) hla (N := fun _ => True) trivial 0 500 512 (by omega) (by omega) (by omega)
        have r4 := BlkAt.reads (HP.row 2 rfl) hla (N := fun _ => True) trivial 500 12 12 (by omega) (by omega) (by omega)
        rw [e1] at r3
        rw [e2] at r4
        exact ⟨(HP.bs 4 rfl).reads.mono (fun _ _ => trivial), by rw [List.drop_zero] at r2; exact r2, r3, r4⟩
      intro a1 w1 ha hb h2
      have HE := Keep.keep (HH.out.call hb).below
      simp only [List.foldl_cons, List.foldl_nil, h2] at ha
      clear h2 hb
      generalize slot a1 34 = x34 at *
      generalize slot a1 35 = x35 at *
      generalize slot a1 36 = x36 at *
      generalize slot a1 37 = x37 at *
      generalize slot a1 38 = x38 at *
      generalize slot a1 39 = x39 at *
      generalize slot a1 40 = x40 at *
      generalize slot a1 41 = x41 at *
      generalize slot a1 42 = x42 at *
      generalize slot a1 43 = x43 at *
      generalize slot a1 44 = x44 at *
      generalize slot a1 45 = x45 at *
      generalize slot a1 46 = x46 at *
      generalize slot a1 47 = x47 at *
      generalize slot a1 48 = x48 at *
      generalize slot a1 49 = x49 at *
      generalize slot a1 50 = x50 at *
      generalize slot a1 51 = x51 at *
      generalize slot a1 52 = x52 at *
      generalize slot a1 53 = x53 at *
      generalize slot a1 54 = x54 at *
      subst ha
      simp only [Act.put, List.setIfInBounds_toArray, List.set_cons_succ, List.set_cons_zero]
      go_wp2_with fail
      go_ret
      exact ⟨rfl, HE.out⟩
    | succ g =>
      have hk : k < 16 := by omega
      have hkn : k < nmsL.length := hk
      have hkl : k < lnsL.length := hk
      have hplc : plc nmsL[k] = ((lnsL.take k).sum, lnsL[k]) := plc_at k hk
      have hfit : (lnsL.take k).sum + lnsL[k] ≤ 500 := fit_at ⟨k, hk⟩
      have hpos := (placeOf_fit (place_at ⟨k, hk⟩)).2
      have hsl := nms_short ⟨k, hk⟩
      simp only at hpos hsl
      have hidx := fun wx => run_index_agg Tryd.underlying36 Tryd.underlying9 rfl (by kernel_rfl) cn .i64 k hk _ (HCN.out k hkn) wx
      have HFD := Keep.keep (field_all g3 37 l HL.out nmsL[k] hsl B wr (HF.out.on (HH.out.below.mono HB.out)) (HH.out.row 3 rfl))
      have HSU : Keep ((lnsL.take (k + 1)).sum = (lnsL.take k).sum + lnsL[k]) := ⟨by rw [List.take_succ_eq_append_getElem hkl, List.sum_append]; simp⟩
      rw [hplc] at HFD
      have HSR : Keep (setR (layA l (lnsL.take k).sum) nmsL[k] (fldL l ((lnsL.take k).sum, lnsL[k])) = (layA l ((lnsL.take k).sum + lnsL[k]), 0)) := ⟨by
        unfold setR
        rw [hplc, if_pos ⟨hpos, by simp [fldL, HL.out]; omega⟩, layA_set HL.out (by omega)]⟩
      have HLA : Keep ((layA l (lnsL.take k).sum).length = 512) := ⟨layA_len HL.out (by omega)⟩
      have HSD := Keep.keep (fun (v : Value) (wx : World) (h1 : Flds B wx) (h2 : BlkAt wx g2 37 (layA l (lnsL.take k).sum)) (h3 : Reads wx (· < wx.heap.size) v (fldL l ((lnsL.take k).sum, lnsL[k]))) => set_all g2 37 (layA l (lnsL.take k).sum) HLA.out nmsL[k] hsl v (fldL l ((lnsL.take k).sum, lnsL[k])) B wx h1 h2 h3)
      simp only [HSR.out] at HSD
      have hdp : decide (0 < lnsL[k]) = true := decide_eq_true hpos
      simp only [hdp] at HFD
      clear HSR hplc hdp HLA
      generalize nmsL[k] = s at *
      generalize lnsL[k] = n at *
      unfold strW at hidx
      obtain ⟨o, ho⟩ : ∃ o, (lnsL.take k).sum = o := ⟨_, rfl⟩
      rw [ho] at HH HFD HSU HSD hfit ⊢
      clear ho
      have hlen : (l.take o).length = o := by rw [List.length_take, HL.out]; omega
      have hfl : (fldL l (o, n)).length = n := by simp [fldL, HL.out]; omega
      have HFL := Keep.keep hfl; have HLN := Keep.keep hlen
      have HAP := Keep.keep (apart_all l o n)
      clear hfl hlen
      go_wp2_with fail
      refine HFD.out.mono ?_
      rintro e w5 ⟨vc, rfl, ho, hb5⟩
      have H5 := Keep.keep (HH.out.call hb5)
      have HRN := Keep.keep (ho.reads.mono (N' := fun b => wr.heap.size ≤ b ∧ b < w5.heap.size) (fun b hb => ⟨hb.1, hb.2.1⟩))
      have HG2 : Keep (g2 < wr.heap.size) := ⟨(HH.out.row 2 rfl).lt⟩
      have HRC := Keep.keep (ho.reads.mono (N' := (· < w5.heap.size)) (fun b hb => hb.2.1))
      obtain ⟨ac, cc, hvc, -⟩ := ho.reads.shape
      subst hvc
      have HS5 := Keep.keep (HSD.out _ w5 (HF.out.on (H5.out.below.mono HB.out)) (H5.out.row 2 rfl) HRC.out)
      clear ho hb5 HFD HSD HH
      go_wp2_with fail
      refine HS5.out.mono ?_
      rintro e w6 ⟨rfl, hr6, hc6⟩
      have H6 : Keep (Hp NoM w w6 [rowA g0 35 (bcells l).toArray, rowA g1 36 cn, rowA g2 37 (bcells (layA l (o + n))).toArray, rowA g3 37 (bcells l).toArray, byA g0 5 (.slice a4 o c4) (l.take o)]) := ⟨H5.out.chgRow 2 rfl hc6 hr6⟩
      have HR6 := Keep.keep (HRN.out.chg hc6 (fun b hb => ⟨hb.2, fun e => by have := HG2.out; omega⟩))
      clear hr6 hc6 HS5 H5
      go_wp2_with (with_reducible refine arm_stop ?_)
      refine Stopped.out ?_
      refine arm_append (SlTy.mk' (P := Tryd.prog) (t := 22) (e := 5) (z := .int .u8 0) (bytes := 1) Tryd.underlying22 (by kernel_rfl) rfl) (H6.out.bs 4 rfl) HR6.out (by rw [HLN.out, HFL.out]; omega) (by rw [← hg0]; exact H6.out.size) rfl rfl ?_
      intro v' w7 ho hg hb
      have H7 := Keep.keep (H6.out.growB 4 rfl hg ho hb)
      obtain ⟨a7, c7, hv7, -⟩ := ho.reads.shape
      subst hv7
      clear ho hg hb H6 HR6
      simp only [Act.put, List.setIfInBounds_toArray, List.set_cons_succ, List.set_cons_zero]
      go_wp2_with fail
      go_roundg g
      case measure => omega
      case rel => exact ⟨k + 1, by omega, by simp, by rw [HSU.out, ← HAP.out]; exact H7.out⟩
end Go.Proofs.YtohballfhhndbaaDoor
