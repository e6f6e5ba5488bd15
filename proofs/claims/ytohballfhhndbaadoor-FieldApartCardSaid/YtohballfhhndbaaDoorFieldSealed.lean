/- FieldSealed: sealed blocks. -/
import Derived.Test.YtohballfhhndbaaDoorFldSealL
namespace Go.Proofs.YtohballfhhndbaaDoor
open Go.RowKit
theorem Hp.chgRow {M : Nat → Prop} {w wr w' : World} {ls : List As} (h : Hp M w wr ls) (i : Nat) {b : Nat} {e : TypeId} {c c' : Array Value} (hi : ls[i]? = some (rowA b e c)) (hc : Chg (fun k => k = b) wr.heap.size wr w') (hr : Row w' b e c') : Hp M w w' (ls.set i (rowA b e c')) :=
  h.upd i hi (rowA b e c') hc hr (fun _ hb => .inl hb)
theorem agg512 : AggTy Tryd.prog 35 512 := ⟨⟨_, Tryd.underlying35, rfl⟩, by kernel_rfl⟩
theorem bcs {l : List UInt8} (hl : l.length = 512) : (bcells l).toArray.size = 512 := by simp [bcells_length, hl]
theorem bc1 (l : List UInt8) : (bcells l).toArray.all (·.oneCell') = true := all_oneCell_toArray (bcells_one _)
theorem bset {l : List UInt8} {k : Nat} {c : UInt8} : (bcells l).toArray.setIfInBounds k (.int .u8 (c.toNat : Int)) = (bcells (l.set k c)).toArray := by
  rw [List.setIfInBounds_toArray]
  congr 1
  simp [bcells, List.map_set]
set_option maxHeartbeats 8000000 in
set_option maxRecDepth 100000 in
theorem sealed_any (l : List UInt8) (hl : l.length = 512) (at_ : Nat) (hat : at_ < 65536) (c : UInt8) (B : Nat) (w : World) (hF : Flds B w) (hT : Tz B w) (hB : B ≤ w.heap.size) :
    Calls Tryd.prog 5 #[.agg (bcells l).toArray, .int .u16 (at_ : Int), .int .u8 (c.toNat : Int)] w fun e w' => e = .returned (.bool true) ∧ Below w.heap.size w w' := by
  have HF := Keep.keep hF; have HT := Keep.keep hT; have HB := Keep.keep hB
  have hkm : (at_ : Int) % 512 = ((at_ % 512 : Nat) : Int) := by omega
  have hk : at_ % 512 < 512 := Nat.mod_lt _ (by decide)
  have hl1 : (setL l 257 magic1).length = 512 := by rw [setL_length (by simp [magic1]; omega), hl]
  have hm1 : fldL (setL l 257 magic1) (257, 6) = magic1 := fldL_setL (l := l) (m := magic1) (a := 257) (by simp [magic1]; omega)
  have HZ : Keep (Tryd.zeroCells37.size = 512) := ⟨by kernel_rfl⟩
  have HL := Keep.keep hl
  have kc := convB
  clear hF hT hB
  obtain ⟨k, hkk⟩ : ∃ k, at_ % 512 = k := ⟨_, rfl⟩
  rw [hkk] at hkm hk
  obtain ⟨l1, hll1⟩ : ∃ l1, setL l 257 magic1 = l1 := ⟨_, rfl⟩
  rw [hll1] at hl1 hm1
  have HLL1 := Keep.keep hll1; have HL1 := Keep.keep hl1; have HM1 := Keep.keep hm1
  have hl2 := sealS_length hl1
  have HID := Keep.keep (seal_idem hl1)
  have HCH := Keep.keep (check_sealed hl1 hm1)
  have HCO : Keep (∀ hne : c ≠ (sealS l1)[k]'(by omega), (k < 148 ∨ 156 ≤ k) → checkS ((sealS l1).set k c) = 21 ∨ (checkS ((sealS l1).set k c) = 5 ∧ 257 ≤ k ∧ k ≤ 262)) := ⟨fun hne ho => check_other hl1 hm1 k hk c hne ho⟩
  have hlt := sum_lt (sealS l1) hl2
  have hsm : sumS (sealS l1) = (sumL (setL (sealS l1) 148 (List.replicate 8 32)) : Int) := rfl
  have hbd := sumL_bound (setL (sealS l1) 148 (List.replicate 8 32))
  rw [setL_length (by simp; omega), hl2] at hbd
  generalize sumL (setL (sealS l1) 148 (List.replicate 8 32)) = x at *
  have h86 : (8 : Nat) ^ 6 = 262144 := by decide
  have HMO : Keep (checkS (setL (sealS l1) 148 (octK 6 (x + 1) ++ [0, 32])) = 21) := ⟨check_more hl2 (by rw [← hm1]; exact fldL_apart (by rw [sealT_length]; omega) (by rw [sealT_length]; omega)) (x + 1) (by omega) (by rw [hsm]; omega)⟩
  have HSM := Keep.keep hsm
  obtain ⟨l2, hll2⟩ : ∃ l2, sealS l1 = l2 := ⟨_, rfl⟩
  have HLL2 := Keep.keep hll2
  rw [hll2] at hl2
  have HL2 := Keep.keep hl2
  have HX1 : Keep (x + 1 < 8 ^ 6) := ⟨by omega⟩
  have hx5 : x ≤ 130560 := by omega
  clear hkk hll1 hl1 hm1 hlt hsm hbd h86 hll2 hl2 hl
  go_enter Tryd.func5, Tryd.ntmps5
  go_upto_region 1 with fail
  refine wp_world (R := fun w1 => Hp NoM w w1 [rowA w.heap.size 35 (bcells l).toArray]) ((Hp.begin NoM w).newRow _ _) ?_
  intro w1 H1
  go_wp2_with (first
    | ((with_reducible refine arm_loadRow (H1.out.row 0 rfl) agg512 (bcs HL.out) ?_ ?_); (focus rfl); simp only [Act.put, List.setIfInBounds_toArray, List.set_cons_succ, List.set_cons_zero])
    | ((with_reducible refine arm_storeRow (Row.new w1 37 _) aggBlk HZ.out (bcs HL.out) (bc1 l) ?_ ?_ ?_); (focus rfl); (focus rfl); simp only [Act.put, World.setRow_alloc_new]))
  refine calls_at (R := fun wq => Hp NoM w wq [rowA w.heap.size 35 (bcells l).toArray, rowA w1.heap.size 37 (bcells l).toArray] ∧ Reads wq (· < wq.heap.size) (.slice (some ⟨w1.heap.size + 1, 0, none⟩) 6 6) magic1) ⟨(H1.out.newRow _ _).alloc _, (Reads.lit _ _ magic1 _ _ _ (by simp) rfl rfl (by unfold maxLen; decide)).mono (fun b hb => by subst hb; simp)⟩ ?_
  intro w2 H2
  generalize w1.heap.size = g1 at *
  have HSET := set_is g1 37 l HL.out [109, 97, 103, 105, 99] (by decide) 257 6 (by decide) _ magic1 rfl B w2 (HF.out.on (H2.out.1.below.mono HB.out)) (H2.out.1.row 1 rfl) H2.out.2
  rw [HLL1.out] at HSET
  refine HSET.mono ?_
  rintro e w3 ⟨rfl, hr3, hc3⟩
  have H3 : Keep (Hp NoM w w3 [rowA w.heap.size 35 (bcells l).toArray, rowA g1 37 (bcells l1).toArray]) := ⟨H2.out.1.chgRow 1 rfl hc3 hr3⟩
  clear hr3 hc3 HSET H1 H2
  go_wp2_with fail
  have HSE := seal_any g1 37 l1 HL1.out B w3 (HF.out.on (H3.out.below.mono HB.out)) (HT.out.on (H3.out.below.mono HB.out)) (Nat.le_trans HB.out H3.out.size) (H3.out.row 1 rfl)
  rw [HLL2.out] at HSE
  refine HSE.mono ?_
  rintro e w4 ⟨rfl, hr4, hc4⟩
  have H4 : Keep (Hp NoM w w4 [rowA w.heap.size 35 (bcells l).toArray, rowA g1 37 (bcells l2).toArray]) := ⟨H3.out.chgRow 1 rfl hc4 hr4⟩
  clear hr4 hc4 HSE H3
  go_upto_region 5 with fail
  go_wp2_with (first
    | ((with_reducible refine arm_loadRow (H4.out.row 1 rfl) aggBlk (bcs HL2.out) ?_ ?_); (focus rfl); simp only [Act.put, List.setIfInBounds_toArray, List.set_cons_succ, List.set_cons_zero])
    | ((with_reducible refine arm_storeRow (Row.new w4 37 _) aggBlk HZ.out (bcs HL2.out) (bc1 l2) ?_ ?_ ?_); (focus rfl); (focus rfl); simp only [Act.put, World.setRow_alloc_new]))
  refine calls_at (R := fun wq => Hp NoM w wq [rowA w.heap.size 35 (bcells l).toArray, rowA g1 37 (bcells l2).toArray, rowA w4.heap.size 37 (bcells l2).toArray]) (H4.out.newRow _ _) ?_
  intro w5 H5
  generalize w4.heap.size = g2 at *
  have HSE := seal_any g1 37 l2 HL2.out B w5 (HF.out.on (H5.out.below.mono HB.out)) (HT.out.on (H5.out.below.mono HB.out)) (Nat.le_trans HB.out H5.out.size) (H5.out.row 1 rfl)
  rw [← HLL2.out, HID.out, HLL2.out] at HSE
  refine HSE.mono ?_
  rintro e w6 ⟨rfl, hr6, hc6⟩
  have H6 : Keep (Hp NoM w w6 [rowA w.heap.size 35 (bcells l).toArray, rowA g1 37 (bcells l2).toArray, rowA g2 37 (bcells l2).toArray]) := ⟨H5.out.chgRow 1 rfl hc6 hr6⟩
  clear hr6 hc6 HSE H4 H5
  have hneq : ∀ wx, (binOp .neq 37 (.agg (bcells l2).toArray) (.agg (bcells l2).toArray)).run Tryd.prog wx = .ok (.bool false) wx := fun wx => by
    rw [run_neq_bytes Tryd.underlying37 Tryd.underlying5 (by kernel_rfl) l2 l2 HL2.out HL2.out wx, beq_self_eq_true]; rfl
  go_upto_region 7 with fail
  go_wp2_with (first
    | ((with_reducible refine arm_loadRow (H6.out.row 1 rfl) aggBlk (bcs HL2.out) ?_ ?_); (focus rfl); simp only [Act.put, List.setIfInBounds_toArray, List.set_cons_succ, List.set_cons_zero])
    | ((with_reducible refine arm_loadRow (H6.out.row 2 rfl) aggBlk (bcs HL2.out) ?_ ?_); (focus rfl); simp only [Act.put, List.setIfInBounds_toArray, List.set_cons_succ, List.set_cons_zero]))
  have HCK := check_any g1 37 l2 HL2.out B w6 (HF.out.on (H6.out.below.mono HB.out)) (Nat.le_trans HB.out H6.out.size) (H6.out.row 1 rfl)
  rw [← HLL2.out, HCH.out] at HCK
  refine HCK.mono ?_
  rintro e w7 ⟨rfl, hb7⟩
  have H7 := Keep.keep (H6.out.call hb7)
  clear hb7 HCK H6 hneq
  go_upto_region 10 with fail
  simp only [hkm]
  go_upto_region 11 with (first
    | ((with_reducible refine arm_loadRow (H7.out.row 1 rfl) aggBlk (bcs HL2.out) ?_ ?_); (focus rfl); simp only [Act.put, List.setIfInBounds_toArray, List.set_cons_succ, List.set_cons_zero])
    | ((with_reducible refine arm_storeRow (Row.new w7 37 _) aggBlk HZ.out (bcs HL2.out) (bc1 l2) ?_ ?_ ?_); (focus rfl); (focus rfl); simp only [Act.put, World.setRow_alloc_new]))
  refine wp_world (R := fun wq => Hp NoM w wq [rowA w.heap.size 35 (bcells l).toArray, rowA g1 37 (bcells l2).toArray, rowA g2 37 (bcells l2).toArray, rowA w7.heap.size 37 (bcells l2).toArray]) (H7.out.newRow _ _) ?_
  intro w8 H8
  generalize w7.heap.size = g3 at *
  have hkl : k < l2.length := by rw [HL2.out]; exact hk
  have hcell := (H8.out.row 3 rfl).cell (i := k) (v := .int .u8 (l2[k].toNat : Int)) (by rw [List.getElem?_toArray, bcells_get _ _ hkl])
  have hfz : w8.frozen? ⟨g3, k, none⟩ = false := (H8.out.row 3 rfl).frozen k
  have H9 : Keep (Hp NoM w (w8.setCell ⟨g3, k, none⟩ (.int .u8 (c.toNat : Int))) [rowA w.heap.size 35 (bcells l).toArray, rowA g1 37 (bcells l2).toArray, rowA g2 37 (bcells l2).toArray, rowA g3 37 (bcells (l2.set k c)).toArray]) := ⟨H8.out.setCell 3 rfl k _ bset⟩
  have hls : (l2.set k c).length = 512 := by rw [List.length_set]; exact HL2.out
  have HLS := Keep.keep hls
  have hcc := c.toNat_lt
  have hdc := (l2[k]).toNat_lt
  have HCO2 : Keep (∀ hne : c ≠ l2[k], (k < 148 ∨ 156 ≤ k) → checkS (l2.set k c) = 21 ∨ (checkS (l2.set k c) = 5 ∧ 257 ≤ k ∧ k ≤ 262)) := ⟨by
    have h := HCO.out
    simp only [HLL2.out] at h
    exact h⟩
  have HEQ : Keep (c = l2[k] → checkS (l2.set k c) = 0) := ⟨fun h => by
    have : l2.set k c = l2 := by rw [h]; exact List.set_getElem_self hkl
    rw [this, ← HLL2.out]; exact HCH.out⟩
  have HD : Keep (∀ wx, Row wx g1 37 (bcells l2).toArray → wx.cell? ⟨g1, k, none⟩ = some (.int .u8 (l2[k].toNat : Int))) := ⟨fun wx h => h.cell (by rw [List.getElem?_toArray, bcells_get _ _ hkl])⟩
  generalize l2[k] = d at *
  clear hls HCO H7 hkl
  rcases (by omega : k < 148 ∨ (148 ≤ k ∧ k < 156) ∨ 156 ≤ k) with hreg | hreg | hreg
  · by_cases heq : c = d
    · have hd1 : decide ((148 : Int) ≤ (k : Int)) = false := decide_eq_false (by omega)
      have hd1n : decide (148 ≤ k) = false := decide_eq_false (by omega)
      have hce : ((c.toNat : Int) == (d.toNat : Int)) = true := by rw [heq]; exact beq_self_eq_true _
      have hce2 : (c.toNat == d.toNat) = true := by rw [heq]; exact beq_self_eq_true _
      have hcn : ((c.toNat : Int) != (d.toNat : Int)) = false := by unfold bne; rw [hce]; rfl
      have hec := HEQ.out heq
      clear heq HEQ HCO2 hreg
      go_wp2_with fail
      refine calls_at (R := fun wq => Hp NoM w wq [rowA w.heap.size 35 (bcells l).toArray, rowA g1 37 (bcells l2).toArray, rowA g2 37 (bcells l2).toArray, rowA g3 37 (bcells (l2.set k c)).toArray]) H9.out ?_
      intro w9 H9'
      have HCK := check_any g3 37 (l2.set k c) HLS.out B w9 (HF.out.on (H9'.out.below.mono HB.out)) (Nat.le_trans HB.out H9'.out.size) (H9'.out.row 3 rfl)
      rw [hec] at HCK
      refine HCK.mono ?_
      rintro e w10 ⟨rfl, hb10⟩
      have H10 := Keep.keep (H9'.out.call hb10)
      clear hb10 HCK H9 H9' H8 hcell hfz
      have hcd := HD.out w10 (H10.out.row 1 rfl)
      have HSU := sum_any g1 37 l2 HL2.out B w10 (HF.out.on (H10.out.below.mono HB.out)) (Nat.le_trans HB.out H10.out.size) (H10.out.row 1 rfl)
      rw [← HLL2.out, HSM.out] at HSU
      go_wp2_with fail
      refine HSU.mono ?_
      rintro e w11 ⟨rfl, hb11⟩
      have H11 := Keep.keep (H10.out.call hb11)
      clear hb11 HSU H10
      have HOC := octal_own (x + 1) 6 (by decide) (by decide) HX1.out (by omega) B w11 (Nat.le_trans HB.out H11.out.size) (HT.out.on (H11.out.below.mono HB.out))
      rw [show ((x + 1 : Nat) : Int) = (x : Int) + 1 by omega] at HOC
      go_wp2_with fail
      refine HOC.mono ?_
      rintro e w12 ⟨g, cap, pad, rfl, hrow, hpc, hcm, hg, hb12⟩
      have H12 := Keep.keep (H11.out.call hb12)
      have HROW := Keep.keep hrow; have HCM := Keep.keep hcm
      have HG : Keep (g1 < g ∧ w.heap.size ≤ g) := ⟨by have := (H11.out.new 1 rfl (b := g1) rfl).2; have := H11.out.size; omega⟩
      have HOL : Keep ((octK 6 (x + 1) ++ [0]).length = 7) := ⟨by simp [octK_length]⟩
      have HPC : Keep ((octK 6 (x + 1) ++ [0]).length + pad.length = cap) := ⟨by rw [HOL.out]; exact hpc⟩
      have HG2 : Keep (g2 < g ∧ g3 < g ∧ w11.heap.size ≤ g) := ⟨by have := (H11.out.new 2 rfl (b := g2) rfl).2; have := (H11.out.new 3 rfl (b := g3) rfl).2; omega⟩
      clear hrow hpc hcm hg hb12 HOC H11
      go_wp2_with (with_reducible refine arm_stop ?_)
      refine Stopped.out ?_
      obtain ⟨ti, i1, i2, i3, i4⟩ := (SlTy.mk' (P := Tryd.prog) (t := 22) (e := 5) (z := .int .u8 0) (bytes := 1) Tryd.underlying22 (by kernel_rfl) rfl).i
      have hr1 : Row (w12.alloc (.cells #[.int .u8 (((32 : UInt8).toNat : Nat) : Int)] 5)) w12.heap.size 5 #[.int .u8 (((32 : UInt8).toNat : Nat) : Int)] := Row.new _ _ _
      have hrf : RowF (w12.alloc (.cells #[.int .u8 (((32 : UInt8).toNat : Nat) : Int)] 5)) g 5 (bcells (octK 6 (x + 1) ++ [0]) ++ pad).toArray := HROW.out.chg (M := fun _ => False) (.of_below ((Below.refl w12.heap.size w12).alloc (Nat.le_refl _) _)) HROW.out.lt (fun h => h)
      refine arm_appF (l := octK 6 (x + 1) ++ [0]) (m := [32]) (pad := pad) Tryd.underlying22 i1 i2 i3 i4 hrf HPC.out (src_one Tryd.underlying22 i3 hr1 rfl) (by rw [HOL.out]; decide) HCM.out (by rw [HOL.out]; rfl) rfl ?_
      intro v' w13 hr13 hb13
      have HR13 := Keep.keep (hr13.mono (N' := (· < w13.heap.size)) (fun b hb => hb.2))
      have hr1c : BlkAt w13 g1 37 l2 := ((H12.out.row 1 rfl).below ((Below.refl w12.heap.size w12).alloc (Nat.le_refl _) _) (H12.out.row 1 rfl).lt).below hb13 HG.out.1
      have HR1 := Keep.keep hr1c
      have HB13 : Keep (Below w.heap.size w w13) := ⟨(H12.out.below.trans (((Below.refl w12.heap.size w12).alloc (Nat.le_refl _) _).mono H12.out.size)).trans (hb13.mono HG.out.2)⟩
      obtain ⟨a9, c9, hv9, -⟩ := hr13.shape
      rw [List.length_append, HOL.out] at hv9
      have hv9 : v' = .slice a9 8 c9 := hv9
      have HSW : Keep (w.heap.size ≤ g1) := ⟨(H12.out.new 1 rfl (b := g1) rfl).1⟩
      subst hv9
      clear hr13 hb13 hr1 hrf hr1c H12 HG2
      have HST := Keep.keep (set_is g1 37 l2 HL2.out [99, 104, 107, 115, 117, 109] (by decide) 148 8 (by decide) _ (octK 6 (x + 1) ++ [0] ++ [32]) (by rw [List.length_append, HOL.out]; rfl) B w13 (HF.out.on (HB13.out.mono HB.out)) HR1.out HR13.out)
      simp only [Act.put, List.setIfInBounds_toArray, List.set_cons_succ, List.set_cons_zero]
      go_wp2_with fail
      refine HST.out.mono ?_
      rintro e w14 ⟨rfl, hr14, hc14⟩
      have HB14 : Keep (Below w.heap.size w w14) := ⟨HB13.out.trans ((hc14.lower HB13.out.size).below (fun q hq e => by have := HSW.out; omega))⟩
      have HCK := check_any g1 37 _ (by rw [setL_length (by rw [List.length_append, HOL.out, HL2.out]; decide), HL2.out]) B w14 (HF.out.on (HB14.out.mono HB.out)) (Nat.le_trans HB.out HB14.out.size) hr14
      rw [show setL l2 148 (octK 6 (x + 1) ++ [0] ++ [32]) = setL (sealS l1) 148 (octK 6 (x + 1) ++ [0, 32]) by rw [HLL2.out]; simp, HMO.out] at HCK
      clear hr14 hc14 HST HR1 HR13 HB13
      go_wp2_with fail
      refine HCK.mono ?_
      rintro e w15 ⟨rfl, hb15⟩
      have HB15 := Keep.keep (HB14.out.trans (hb15.mono HB14.out.size))
      clear hb15 HCK
      go_wp2_with fail
      refine (wakes_any B w15 (Nat.le_trans HB.out HB15.out.size) (HT.out.on (HB15.out.mono HB.out))).mono ?_
      rintro e w16 ⟨rfl, hb16⟩
      have HB16 := Keep.keep (HB15.out.trans (hb16.mono HB15.out.size))
      clear hb16
      go_wp2_with fail
      go_ret
      exact ⟨rfl, HB16.out⟩
    · rcases HCO2.out heq (by omega) with hec | ⟨hec, h257, _⟩
      · have hd1 : decide ((148 : Int) ≤ (k : Int)) = false := decide_eq_false (by omega)
        have hd1n : decide (148 ≤ k) = false := decide_eq_false (by omega)
        have hce : ((c.toNat : Int) == (d.toNat : Int)) = false := by rw [beq_eq_false_iff_ne]; intro e; exact heq (UInt8.toNat_inj.1 (by omega))
        have hce2 : (c.toNat == d.toNat) = false := by rw [beq_eq_false_iff_ne]; intro e; exact heq (UInt8.toNat_inj.1 e)
        have hcn : ((c.toNat : Int) != (d.toNat : Int)) = true := by unfold bne; rw [hce]; rfl
        clear heq HEQ HCO2 hreg
        go_wp2_with fail
        refine calls_at (R := fun wq => Hp NoM w wq [rowA w.heap.size 35 (bcells l).toArray, rowA g1 37 (bcells l2).toArray, rowA g2 37 (bcells l2).toArray, rowA g3 37 (bcells (l2.set k c)).toArray]) H9.out ?_
        intro w9 H9'
        have HCK := check_any g3 37 (l2.set k c) HLS.out B w9 (HF.out.on (H9'.out.below.mono HB.out)) (Nat.le_trans HB.out H9'.out.size) (H9'.out.row 3 rfl)
        rw [hec] at HCK
        refine HCK.mono ?_
        rintro e w10 ⟨rfl, hb10⟩
        have H10 := Keep.keep (H9'.out.call hb10)
        clear hb10 HCK H9 H9' H8 hcell hfz
        have hcd := HD.out w10 (H10.out.row 1 rfl)
        have HSU := sum_any g1 37 l2 HL2.out B w10 (HF.out.on (H10.out.below.mono HB.out)) (Nat.le_trans HB.out H10.out.size) (H10.out.row 1 rfl)
        rw [← HLL2.out, HSM.out] at HSU
        go_wp2_with fail
        refine HSU.mono ?_
        rintro e w11 ⟨rfl, hb11⟩
        have H11 := Keep.keep (H10.out.call hb11)
        clear hb11 HSU H10
        have HOC := octal_own (x + 1) 6 (by decide) (by decide) HX1.out (by omega) B w11 (Nat.le_trans HB.out H11.out.size) (HT.out.on (H11.out.below.mono HB.out))
        rw [show ((x + 1 : Nat) : Int) = (x : Int) + 1 by omega] at HOC
        go_wp2_with fail
        refine HOC.mono ?_
        rintro e w12 ⟨g, cap, pad, rfl, hrow, hpc, hcm, hg, hb12⟩
        have H12 := Keep.keep (H11.out.call hb12)
        have HROW := Keep.keep hrow; have HCM := Keep.keep hcm
        have HG : Keep (g1 < g ∧ w.heap.size ≤ g) := ⟨by have := (H11.out.new 1 rfl (b := g1) rfl).2; have := H11.out.size; omega⟩
        have HOL : Keep ((octK 6 (x + 1) ++ [0]).length = 7) := ⟨by simp [octK_length]⟩
        have HPC : Keep ((octK 6 (x + 1) ++ [0]).length + pad.length = cap) := ⟨by rw [HOL.out]; exact hpc⟩
        have HG2 : Keep (g2 < g ∧ g3 < g ∧ w11.heap.size ≤ g) := ⟨by have := (H11.out.new 2 rfl (b := g2) rfl).2; have := (H11.out.new 3 rfl (b := g3) rfl).2; omega⟩
        clear hrow hpc hcm hg hb12 HOC H11
        go_wp2_with (with_reducible refine arm_stop ?_)
        refine Stopped.out ?_
        obtain ⟨ti, i1, i2, i3, i4⟩ := (SlTy.mk' (P := Tryd.prog) (t := 22) (e := 5) (z := .int .u8 0) (bytes := 1) Tryd.underlying22 (by kernel_rfl) rfl).i
        have hr1 : Row (w12.alloc (.cells #[.int .u8 (((32 : UInt8).toNat : Nat) : Int)] 5)) w12.heap.size 5 #[.int .u8 (((32 : UInt8).toNat : Nat) : Int)] := Row.new _ _ _
        have hrf : RowF (w12.alloc (.cells #[.int .u8 (((32 : UInt8).toNat : Nat) : Int)] 5)) g 5 (bcells (octK 6 (x + 1) ++ [0]) ++ pad).toArray := HROW.out.chg (M := fun _ => False) (.of_below ((Below.refl w12.heap.size w12).alloc (Nat.le_refl _) _)) HROW.out.lt (fun h => h)
        refine arm_appF (l := octK 6 (x + 1) ++ [0]) (m := [32]) (pad := pad) Tryd.underlying22 i1 i2 i3 i4 hrf HPC.out (src_one Tryd.underlying22 i3 hr1 rfl) (by rw [HOL.out]; decide) HCM.out (by rw [HOL.out]; rfl) rfl ?_
        intro v' w13 hr13 hb13
        have HR13 := Keep.keep (hr13.mono (N' := (· < w13.heap.size)) (fun b hb => hb.2))
        have hr1c : BlkAt w13 g1 37 l2 := ((H12.out.row 1 rfl).below ((Below.refl w12.heap.size w12).alloc (Nat.le_refl _) _) (H12.out.row 1 rfl).lt).below hb13 HG.out.1
        have HR1 := Keep.keep hr1c
        have HB13 : Keep (Below w.heap.size w w13) := ⟨(H12.out.below.trans (((Below.refl w12.heap.size w12).alloc (Nat.le_refl _) _).mono H12.out.size)).trans (hb13.mono HG.out.2)⟩
        obtain ⟨a9, c9, hv9, -⟩ := hr13.shape
        rw [List.length_append, HOL.out] at hv9
        have hv9 : v' = .slice a9 8 c9 := hv9
        have HSW : Keep (w.heap.size ≤ g1) := ⟨(H12.out.new 1 rfl (b := g1) rfl).1⟩
        subst hv9
        clear hr13 hb13 hr1 hrf hr1c H12 HG2
        have HST := Keep.keep (set_is g1 37 l2 HL2.out [99, 104, 107, 115, 117, 109] (by decide) 148 8 (by decide) _ (octK 6 (x + 1) ++ [0] ++ [32]) (by rw [List.length_append, HOL.out]; rfl) B w13 (HF.out.on (HB13.out.mono HB.out)) HR1.out HR13.out)
        simp only [Act.put, List.setIfInBounds_toArray, List.set_cons_succ, List.set_cons_zero]
        go_wp2_with fail
        refine HST.out.mono ?_
        rintro e w14 ⟨rfl, hr14, hc14⟩
        have HB14 : Keep (Below w.heap.size w w14) := ⟨HB13.out.trans ((hc14.lower HB13.out.size).below (fun q hq e => by have := HSW.out; omega))⟩
        have HCK := check_any g1 37 _ (by rw [setL_length (by rw [List.length_append, HOL.out, HL2.out]; decide), HL2.out]) B w14 (HF.out.on (HB14.out.mono HB.out)) (Nat.le_trans HB.out HB14.out.size) hr14
        rw [show setL l2 148 (octK 6 (x + 1) ++ [0] ++ [32]) = setL (sealS l1) 148 (octK 6 (x + 1) ++ [0, 32]) by rw [HLL2.out]; simp, HMO.out] at HCK
        clear hr14 hc14 HST HR1 HR13 HB13
        go_wp2_with fail
        refine HCK.mono ?_
        rintro e w15 ⟨rfl, hb15⟩
        have HB15 := Keep.keep (HB14.out.trans (hb15.mono HB14.out.size))
        clear hb15 HCK
        go_wp2_with fail
        refine (wakes_any B w15 (Nat.le_trans HB.out HB15.out.size) (HT.out.on (HB15.out.mono HB.out))).mono ?_
        rintro e w16 ⟨rfl, hb16⟩
        have HB16 := Keep.keep (HB15.out.trans (hb16.mono HB15.out.size))
        clear hb16
        go_wp2_with fail
        go_ret
        exact ⟨rfl, HB16.out⟩
      · omega
  · by_cases heq : c = d
    · have hd1 : decide ((148 : Int) ≤ (k : Int)) = true := decide_eq_true (by omega)
      have hd1n : decide (148 ≤ k) = true := decide_eq_true (by omega)
      have hd2 : decide ((k : Int) < 156) = true := decide_eq_true (by omega)
      have hd2n : decide (k < 156) = true := decide_eq_true (by omega)
      have hce : ((c.toNat : Int) == (d.toNat : Int)) = true := by rw [heq]; exact beq_self_eq_true _
      have hce2 : (c.toNat == d.toNat) = true := by rw [heq]; exact beq_self_eq_true _
      have hcn : ((c.toNat : Int) != (d.toNat : Int)) = false := by unfold bne; rw [hce]; rfl
      have hec := HEQ.out heq
      clear heq HEQ HCO2 hreg
      go_wp2_with fail
      refine calls_at (R := fun wq => Hp NoM w wq [rowA w.heap.size 35 (bcells l).toArray, rowA g1 37 (bcells l2).toArray, rowA g2 37 (bcells l2).toArray, rowA g3 37 (bcells (l2.set k c)).toArray]) H9.out ?_
      intro w9 H9'
      have HCK := check_any g3 37 (l2.set k c) HLS.out B w9 (HF.out.on (H9'.out.below.mono HB.out)) (Nat.le_trans HB.out H9'.out.size) (H9'.out.row 3 rfl)
      rw [hec] at HCK
      refine HCK.mono ?_
      rintro e w10 ⟨rfl, hb10⟩
      have H10 := Keep.keep (H9'.out.call hb10)
      clear hb10 HCK H9 H9' H8 hcell hfz
      have hcd := HD.out w10 (H10.out.row 1 rfl)
      have HSU := sum_any g1 37 l2 HL2.out B w10 (HF.out.on (H10.out.below.mono HB.out)) (Nat.le_trans HB.out H10.out.size) (H10.out.row 1 rfl)
      rw [← HLL2.out, HSM.out] at HSU
      go_wp2_with fail
      refine HSU.mono ?_
      rintro e w11 ⟨rfl, hb11⟩
      have H11 := Keep.keep (H10.out.call hb11)
      clear hb11 HSU H10
      have HOC := octal_own (x + 1) 6 (by decide) (by decide) HX1.out (by omega) B w11 (Nat.le_trans HB.out H11.out.size) (HT.out.on (H11.out.below.mono HB.out))
      rw [show ((x + 1 : Nat) : Int) = (x : Int) + 1 by omega] at HOC
      go_wp2_with fail
      refine HOC.mono ?_
      rintro e w12 ⟨g, cap, pad, rfl, hrow, hpc, hcm, hg, hb12⟩
      have H12 := Keep.keep (H11.out.call hb12)
      have HROW := Keep.keep hrow; have HCM := Keep.keep hcm
      have HG : Keep (g1 < g ∧ w.heap.size ≤ g) := ⟨by have := (H11.out.new 1 rfl (b := g1) rfl).2; have := H11.out.size; omega⟩
      have HOL : Keep ((octK 6 (x + 1) ++ [0]).length = 7) := ⟨by simp [octK_length]⟩
      have HPC : Keep ((octK 6 (x + 1) ++ [0]).length + pad.length = cap) := ⟨by rw [HOL.out]; exact hpc⟩
      have HG2 : Keep (g2 < g ∧ g3 < g ∧ w11.heap.size ≤ g) := ⟨by have := (H11.out.new 2 rfl (b := g2) rfl).2; have := (H11.out.new 3 rfl (b := g3) rfl).2; omega⟩
      clear hrow hpc hcm hg hb12 HOC H11
      go_wp2_with (with_reducible refine arm_stop ?_)
      refine Stopped.out ?_
      obtain ⟨ti, i1, i2, i3, i4⟩ := (SlTy.mk' (P := Tryd.prog) (t := 22) (e := 5) (z := .int .u8 0) (bytes := 1) Tryd.underlying22 (by kernel_rfl) rfl).i
      have hr1 : Row (w12.alloc (.cells #[.int .u8 (((32 : UInt8).toNat : Nat) : Int)] 5)) w12.heap.size 5 #[.int .u8 (((32 : UInt8).toNat : Nat) : Int)] := Row.new _ _ _
      have hrf : RowF (w12.alloc (.cells #[.int .u8 (((32 : UInt8).toNat : Nat) : Int)] 5)) g 5 (bcells (octK 6 (x + 1) ++ [0]) ++ pad).toArray := HROW.out.chg (M := fun _ => False) (.of_below ((Below.refl w12.heap.size w12).alloc (Nat.le_refl _) _)) HROW.out.lt (fun h => h)
      refine arm_appF (l := octK 6 (x + 1) ++ [0]) (m := [32]) (pad := pad) Tryd.underlying22 i1 i2 i3 i4 hrf HPC.out (src_one Tryd.underlying22 i3 hr1 rfl) (by rw [HOL.out]; decide) HCM.out (by rw [HOL.out]; rfl) rfl ?_
      intro v' w13 hr13 hb13
      have HR13 := Keep.keep (hr13.mono (N' := (· < w13.heap.size)) (fun b hb => hb.2))
      have hr1c : BlkAt w13 g1 37 l2 := ((H12.out.row 1 rfl).below ((Below.refl w12.heap.size w12).alloc (Nat.le_refl _) _) (H12.out.row 1 rfl).lt).below hb13 HG.out.1
      have HR1 := Keep.keep hr1c
      have HB13 : Keep (Below w.heap.size w w13) := ⟨(H12.out.below.trans (((Below.refl w12.heap.size w12).alloc (Nat.le_refl _) _).mono H12.out.size)).trans (hb13.mono HG.out.2)⟩
      obtain ⟨a9, c9, hv9, -⟩ := hr13.shape
      rw [List.length_append, HOL.out] at hv9
      have hv9 : v' = .slice a9 8 c9 := hv9
      have HSW : Keep (w.heap.size ≤ g1) := ⟨(H12.out.new 1 rfl (b := g1) rfl).1⟩
      subst hv9
      clear hr13 hb13 hr1 hrf hr1c H12 HG2
      have HST := Keep.keep (set_is g1 37 l2 HL2.out [99, 104, 107, 115, 117, 109] (by decide) 148 8 (by decide) _ (octK 6 (x + 1) ++ [0] ++ [32]) (by rw [List.length_append, HOL.out]; rfl) B w13 (HF.out.on (HB13.out.mono HB.out)) HR1.out HR13.out)
      simp only [Act.put, List.setIfInBounds_toArray, List.set_cons_succ, List.set_cons_zero]
      go_wp2_with fail
      refine HST.out.mono ?_
      rintro e w14 ⟨rfl, hr14, hc14⟩
      have HB14 : Keep (Below w.heap.size w w14) := ⟨HB13.out.trans ((hc14.lower HB13.out.size).below (fun q hq e => by have := HSW.out; omega))⟩
      have HCK := check_any g1 37 _ (by rw [setL_length (by rw [List.length_append, HOL.out, HL2.out]; decide), HL2.out]) B w14 (HF.out.on (HB14.out.mono HB.out)) (Nat.le_trans HB.out HB14.out.size) hr14
      rw [show setL l2 148 (octK 6 (x + 1) ++ [0] ++ [32]) = setL (sealS l1) 148 (octK 6 (x + 1) ++ [0, 32]) by rw [HLL2.out]; simp, HMO.out] at HCK
      clear hr14 hc14 HST HR1 HR13 HB13
      go_wp2_with fail
      refine HCK.mono ?_
      rintro e w15 ⟨rfl, hb15⟩
      have HB15 := Keep.keep (HB14.out.trans (hb15.mono HB14.out.size))
      clear hb15 HCK
      go_wp2_with fail
      refine (wakes_any B w15 (Nat.le_trans HB.out HB15.out.size) (HT.out.on (HB15.out.mono HB.out))).mono ?_
      rintro e w16 ⟨rfl, hb16⟩
      have HB16 := Keep.keep (HB15.out.trans (hb16.mono HB15.out.size))
      clear hb16
      go_wp2_with fail
      go_ret
      exact ⟨rfl, HB16.out⟩
    · have hd1 : decide ((148 : Int) ≤ (k : Int)) = true := decide_eq_true (by omega)
      have hd1n : decide (148 ≤ k) = true := decide_eq_true (by omega)
      have hd2 : decide ((k : Int) < 156) = true := decide_eq_true (by omega)
      have hd2n : decide (k < 156) = true := decide_eq_true (by omega)
      have hce : ((c.toNat : Int) == (d.toNat : Int)) = false := by rw [beq_eq_false_iff_ne]; intro e; exact heq (UInt8.toNat_inj.1 (by omega))
      have hce2 : (c.toNat == d.toNat) = false := by rw [beq_eq_false_iff_ne]; intro e; exact heq (UInt8.toNat_inj.1 e)
      have hcn : ((c.toNat : Int) != (d.toNat : Int)) = true := by unfold bne; rw [hce]; rfl
      generalize hec : checkS (l2.set k c) = ec at *
      clear hec
      clear heq HEQ HCO2 hreg
      go_wp2_with fail
      refine calls_at (R := fun wq => Hp NoM w wq [rowA w.heap.size 35 (bcells l).toArray, rowA g1 37 (bcells l2).toArray, rowA g2 37 (bcells l2).toArray, rowA g3 37 (bcells (l2.set k c)).toArray]) H9.out ?_
      intro w9 H9'
      have HCK := check_any g3 37 (l2.set k c) HLS.out B w9 (HF.out.on (H9'.out.below.mono HB.out)) (Nat.le_trans HB.out H9'.out.size) (H9'.out.row 3 rfl)
      refine HCK.mono ?_
      rintro e w10 ⟨rfl, hb10⟩
      have H10 := Keep.keep (H9'.out.call hb10)
      clear hb10 HCK H9 H9' H8 hcell hfz
      have hcd := HD.out w10 (H10.out.row 1 rfl)
      have HSU := sum_any g1 37 l2 HL2.out B w10 (HF.out.on (H10.out.below.mono HB.out)) (Nat.le_trans HB.out H10.out.size) (H10.out.row 1 rfl)
      rw [← HLL2.out, HSM.out] at HSU
      go_wp2_with fail
      refine HSU.mono ?_
      rintro e w11 ⟨rfl, hb11⟩
      have H11 := Keep.keep (H10.out.call hb11)
      clear hb11 HSU H10
      have HOC := octal_own (x + 1) 6 (by decide) (by decide) HX1.out (by omega) B w11 (Nat.le_trans HB.out H11.out.size) (HT.out.on (H11.out.below.mono HB.out))
      rw [show ((x + 1 : Nat) : Int) = (x : Int) + 1 by omega] at HOC
      go_wp2_with fail
      refine HOC.mono ?_
      rintro e w12 ⟨g, cap, pad, rfl, hrow, hpc, hcm, hg, hb12⟩
      have H12 := Keep.keep (H11.out.call hb12)
      have HROW := Keep.keep hrow; have HCM := Keep.keep hcm
      have HG : Keep (g1 < g ∧ w.heap.size ≤ g) := ⟨by have := (H11.out.new 1 rfl (b := g1) rfl).2; have := H11.out.size; omega⟩
      have HOL : Keep ((octK 6 (x + 1) ++ [0]).length = 7) := ⟨by simp [octK_length]⟩
      have HPC : Keep ((octK 6 (x + 1) ++ [0]).length + pad.length = cap) := ⟨by rw [HOL.out]; exact hpc⟩
      have HG2 : Keep (g2 < g ∧ g3 < g ∧ w11.heap.size ≤ g) := ⟨by have := (H11.out.new 2 rfl (b := g2) rfl).2; have := (H11.out.new 3 rfl (b := g3) rfl).2; omega⟩
      clear hrow hpc hcm hg hb12 HOC H11
      go_wp2_with (with_reducible refine arm_stop ?_)
      refine Stopped.out ?_
      obtain ⟨ti, i1, i2, i3, i4⟩ := (SlTy.mk' (P := Tryd.prog) (t := 22) (e := 5) (z := .int .u8 0) (bytes := 1) Tryd.underlying22 (by kernel_rfl) rfl).i
      have hr1 : Row (w12.alloc (.cells #[.int .u8 (((32 : UInt8).toNat : Nat) : Int)] 5)) w12.heap.size 5 #[.int .u8 (((32 : UInt8).toNat : Nat) : Int)] := Row.new _ _ _
      have hrf : RowF (w12.alloc (.cells #[.int .u8 (((32 : UInt8).toNat : Nat) : Int)] 5)) g 5 (bcells (octK 6 (x + 1) ++ [0]) ++ pad).toArray := HROW.out.chg (M := fun _ => False) (.of_below ((Below.refl w12.heap.size w12).alloc (Nat.le_refl _) _)) HROW.out.lt (fun h => h)
      refine arm_appF (l := octK 6 (x + 1) ++ [0]) (m := [32]) (pad := pad) Tryd.underlying22 i1 i2 i3 i4 hrf HPC.out (src_one Tryd.underlying22 i3 hr1 rfl) (by rw [HOL.out]; decide) HCM.out (by rw [HOL.out]; rfl) rfl ?_
      intro v' w13 hr13 hb13
      have HR13 := Keep.keep (hr13.mono (N' := (· < w13.heap.size)) (fun b hb => hb.2))
      have hr1c : BlkAt w13 g1 37 l2 := ((H12.out.row 1 rfl).below ((Below.refl w12.heap.size w12).alloc (Nat.le_refl _) _) (H12.out.row 1 rfl).lt).below hb13 HG.out.1
      have HR1 := Keep.keep hr1c
      have HB13 : Keep (Below w.heap.size w w13) := ⟨(H12.out.below.trans (((Below.refl w12.heap.size w12).alloc (Nat.le_refl _) _).mono H12.out.size)).trans (hb13.mono HG.out.2)⟩
      obtain ⟨a9, c9, hv9, -⟩ := hr13.shape
      rw [List.length_append, HOL.out] at hv9
      have hv9 : v' = .slice a9 8 c9 := hv9
      have HSW : Keep (w.heap.size ≤ g1) := ⟨(H12.out.new 1 rfl (b := g1) rfl).1⟩
      subst hv9
      clear hr13 hb13 hr1 hrf hr1c H12 HG2
      have HST := Keep.keep (set_is g1 37 l2 HL2.out [99, 104, 107, 115, 117, 109] (by decide) 148 8 (by decide) _ (octK 6 (x + 1) ++ [0] ++ [32]) (by rw [List.length_append, HOL.out]; rfl) B w13 (HF.out.on (HB13.out.mono HB.out)) HR1.out HR13.out)
      simp only [Act.put, List.setIfInBounds_toArray, List.set_cons_succ, List.set_cons_zero]
      go_wp2_with fail
      refine HST.out.mono ?_
      rintro e w14 ⟨rfl, hr14, hc14⟩
      have HB14 : Keep (Below w.heap.size w w14) := ⟨HB13.out.trans ((hc14.lower HB13.out.size).below (fun q hq e => by have := HSW.out; omega))⟩
      have HCK := check_any g1 37 _ (by rw [setL_length (by rw [List.length_append, HOL.out, HL2.out]; decide), HL2.out]) B w14 (HF.out.on (HB14.out.mono HB.out)) (Nat.le_trans HB.out HB14.out.size) hr14
      rw [show setL l2 148 (octK 6 (x + 1) ++ [0] ++ [32]) = setL (sealS l1) 148 (octK 6 (x + 1) ++ [0, 32]) by rw [HLL2.out]; simp, HMO.out] at HCK
      clear hr14 hc14 HST HR1 HR13 HB13
      go_wp2_with fail
      refine HCK.mono ?_
      rintro e w15 ⟨rfl, hb15⟩
      have HB15 := Keep.keep (HB14.out.trans (hb15.mono HB14.out.size))
      clear hb15 HCK
      go_wp2_with fail
      refine (wakes_any B w15 (Nat.le_trans HB.out HB15.out.size) (HT.out.on (HB15.out.mono HB.out))).mono ?_
      rintro e w16 ⟨rfl, hb16⟩
      have HB16 := Keep.keep (HB15.out.trans (hb16.mono HB15.out.size))
      clear hb16
      go_wp2_with fail
      go_ret
      exact ⟨rfl, HB16.out⟩
  · by_cases heq : c = d
    · have hd1 : decide ((148 : Int) ≤ (k : Int)) = true := decide_eq_true (by omega)
      have hd1n : decide (148 ≤ k) = true := decide_eq_true (by omega)
      have hd2 : decide ((k : Int) < 156) = false := decide_eq_false (by omega)
      have hd2n : decide (k < 156) = false := decide_eq_false (by omega)
      have hce : ((c.toNat : Int) == (d.toNat : Int)) = true := by rw [heq]; exact beq_self_eq_true _
      have hce2 : (c.toNat == d.toNat) = true := by rw [heq]; exact beq_self_eq_true _
      have hcn : ((c.toNat : Int) != (d.toNat : Int)) = false := by unfold bne; rw [hce]; rfl
      have hec := HEQ.out heq
      clear heq HEQ HCO2 hreg
      go_wp2_with fail
      refine calls_at (R := fun wq => Hp NoM w wq [rowA w.heap.size 35 (bcells l).toArray, rowA g1 37 (bcells l2).toArray, rowA g2 37 (bcells l2).toArray, rowA g3 37 (bcells (l2.set k c)).toArray]) H9.out ?_
      intro w9 H9'
      have HCK := check_any g3 37 (l2.set k c) HLS.out B w9 (HF.out.on (H9'.out.below.mono HB.out)) (Nat.le_trans HB.out H9'.out.size) (H9'.out.row 3 rfl)
      rw [hec] at HCK
      refine HCK.mono ?_
      rintro e w10 ⟨rfl, hb10⟩
      have H10 := Keep.keep (H9'.out.call hb10)
      clear hb10 HCK H9 H9' H8 hcell hfz
      have hcd := HD.out w10 (H10.out.row 1 rfl)
      have HSU := sum_any g1 37 l2 HL2.out B w10 (HF.out.on (H10.out.below.mono HB.out)) (Nat.le_trans HB.out H10.out.size) (H10.out.row 1 rfl)
      rw [← HLL2.out, HSM.out] at HSU
      go_wp2_with fail
      refine HSU.mono ?_
      rintro e w11 ⟨rfl, hb11⟩
      have H11 := Keep.keep (H10.out.call hb11)
      clear hb11 HSU H10
      have HOC := octal_own (x + 1) 6 (by decide) (by decide) HX1.out (by omega) B w11 (Nat.le_trans HB.out H11.out.size) (HT.out.on (H11.out.below.mono HB.out))
      rw [show ((x + 1 : Nat) : Int) = (x : Int) + 1 by omega] at HOC
      go_wp2_with fail
      refine HOC.mono ?_
      rintro e w12 ⟨g, cap, pad, rfl, hrow, hpc, hcm, hg, hb12⟩
      have H12 := Keep.keep (H11.out.call hb12)
      have HROW := Keep.keep hrow; have HCM := Keep.keep hcm
      have HG : Keep (g1 < g ∧ w.heap.size ≤ g) := ⟨by have := (H11.out.new 1 rfl (b := g1) rfl).2; have := H11.out.size; omega⟩
      have HOL : Keep ((octK 6 (x + 1) ++ [0]).length = 7) := ⟨by simp [octK_length]⟩
      have HPC : Keep ((octK 6 (x + 1) ++ [0]).length + pad.length = cap) := ⟨by rw [HOL.out]; exact hpc⟩
      have HG2 : Keep (g2 < g ∧ g3 < g ∧ w11.heap.size ≤ g) := ⟨by have := (H11.out.new 2 rfl (b := g2) rfl).2; have := (H11.out.new 3 rfl (b := g3) rfl).2; omega⟩
      clear hrow hpc hcm hg hb12 HOC H11
      go_wp2_with (with_reducible refine arm_stop ?_)
      refine Stopped.out ?_
      obtain ⟨ti, i1, i2, i3, i4⟩ := (SlTy.mk' (P := Tryd.prog) (t := 22) (e := 5) (z := .int .u8 0) (bytes := 1) Tryd.underlying22 (by kernel_rfl) rfl).i
      have hr1 : Row (w12.alloc (.cells #[.int .u8 (((32 : UInt8).toNat : Nat) : Int)] 5)) w12.heap.size 5 #[.int .u8 (((32 : UInt8).toNat : Nat) : Int)] := Row.new _ _ _
      have hrf : RowF (w12.alloc (.cells #[.int .u8 (((32 : UInt8).toNat : Nat) : Int)] 5)) g 5 (bcells (octK 6 (x + 1) ++ [0]) ++ pad).toArray := HROW.out.chg (M := fun _ => False) (.of_below ((Below.refl w12.heap.size w12).alloc (Nat.le_refl _) _)) HROW.out.lt (fun h => h)
      refine arm_appF (l := octK 6 (x + 1) ++ [0]) (m := [32]) (pad := pad) Tryd.underlying22 i1 i2 i3 i4 hrf HPC.out (src_one Tryd.underlying22 i3 hr1 rfl) (by rw [HOL.out]; decide) HCM.out (by rw [HOL.out]; rfl) rfl ?_
      intro v' w13 hr13 hb13
      have HR13 := Keep.keep (hr13.mono (N' := (· < w13.heap.size)) (fun b hb => hb.2))
      have hr1c : BlkAt w13 g1 37 l2 := ((H12.out.row 1 rfl).below ((Below.refl w12.heap.size w12).alloc (Nat.le_refl _) _) (H12.out.row 1 rfl).lt).below hb13 HG.out.1
      have HR1 := Keep.keep hr1c
      have HB13 : Keep (Below w.heap.size w w13) := ⟨(H12.out.below.trans (((Below.refl w12.heap.size w12).alloc (Nat.le_refl _) _).mono H12.out.size)).trans (hb13.mono HG.out.2)⟩
      obtain ⟨a9, c9, hv9, -⟩ := hr13.shape
      rw [List.length_append, HOL.out] at hv9
      have hv9 : v' = .slice a9 8 c9 := hv9
      have HSW : Keep (w.heap.size ≤ g1) := ⟨(H12.out.new 1 rfl (b := g1) rfl).1⟩
      subst hv9
      clear hr13 hb13 hr1 hrf hr1c H12 HG2
      have HST := Keep.keep (set_is g1 37 l2 HL2.out [99, 104, 107, 115, 117, 109] (by decide) 148 8 (by decide) _ (octK 6 (x + 1) ++ [0] ++ [32]) (by rw [List.length_append, HOL.out]; rfl) B w13 (HF.out.on (HB13.out.mono HB.out)) HR1.out HR13.out)
      simp only [Act.put, List.setIfInBounds_toArray, List.set_cons_succ, List.set_cons_zero]
      go_wp2_with fail
      refine HST.out.mono ?_
      rintro e w14 ⟨rfl, hr14, hc14⟩
      have HB14 : Keep (Below w.heap.size w w14) := ⟨HB13.out.trans ((hc14.lower HB13.out.size).below (fun q hq e => by have := HSW.out; omega))⟩
      have HCK := check_any g1 37 _ (by rw [setL_length (by rw [List.length_append, HOL.out, HL2.out]; decide), HL2.out]) B w14 (HF.out.on (HB14.out.mono HB.out)) (Nat.le_trans HB.out HB14.out.size) hr14
      rw [show setL l2 148 (octK 6 (x + 1) ++ [0] ++ [32]) = setL (sealS l1) 148 (octK 6 (x + 1) ++ [0, 32]) by rw [HLL2.out]; simp, HMO.out] at HCK
      clear hr14 hc14 HST HR1 HR13 HB13
      go_wp2_with fail
      refine HCK.mono ?_
      rintro e w15 ⟨rfl, hb15⟩
      have HB15 := Keep.keep (HB14.out.trans (hb15.mono HB14.out.size))
      clear hb15 HCK
      go_wp2_with fail
      refine (wakes_any B w15 (Nat.le_trans HB.out HB15.out.size) (HT.out.on (HB15.out.mono HB.out))).mono ?_
      rintro e w16 ⟨rfl, hb16⟩
      have HB16 := Keep.keep (HB15.out.trans (hb16.mono HB15.out.size))
      clear hb16
      go_wp2_with fail
      go_ret
      exact ⟨rfl, HB16.out⟩
    · rcases HCO2.out heq (by omega) with hec | ⟨hec, h257, h262⟩
      · have hd1 : decide ((148 : Int) ≤ (k : Int)) = true := decide_eq_true (by omega)
        have hd1n : decide (148 ≤ k) = true := decide_eq_true (by omega)
        have hd2 : decide ((k : Int) < 156) = false := decide_eq_false (by omega)
        have hd2n : decide (k < 156) = false := decide_eq_false (by omega)
        have hce : ((c.toNat : Int) == (d.toNat : Int)) = false := by rw [beq_eq_false_iff_ne]; intro e; exact heq (UInt8.toNat_inj.1 (by omega))
        have hce2 : (c.toNat == d.toNat) = false := by rw [beq_eq_false_iff_ne]; intro e; exact heq (UInt8.toNat_inj.1 e)
        have hcn : ((c.toNat : Int) != (d.toNat : Int)) = true := by unfold bne; rw [hce]; rfl
        clear heq HEQ HCO2 hreg
        go_wp2_with fail
        refine calls_at (R := fun wq => Hp NoM w wq [rowA w.heap.size 35 (bcells l).toArray, rowA g1 37 (bcells l2).toArray, rowA g2 37 (bcells l2).toArray, rowA g3 37 (bcells (l2.set k c)).toArray]) H9.out ?_
        intro w9 H9'
        have HCK := check_any g3 37 (l2.set k c) HLS.out B w9 (HF.out.on (H9'.out.below.mono HB.out)) (Nat.le_trans HB.out H9'.out.size) (H9'.out.row 3 rfl)
        rw [hec] at HCK
        refine HCK.mono ?_
        rintro e w10 ⟨rfl, hb10⟩
        have H10 := Keep.keep (H9'.out.call hb10)
        clear hb10 HCK H9 H9' H8 hcell hfz
        have hcd := HD.out w10 (H10.out.row 1 rfl)
        have HSU := sum_any g1 37 l2 HL2.out B w10 (HF.out.on (H10.out.below.mono HB.out)) (Nat.le_trans HB.out H10.out.size) (H10.out.row 1 rfl)
        rw [← HLL2.out, HSM.out] at HSU
        go_wp2_with fail
        refine HSU.mono ?_
        rintro e w11 ⟨rfl, hb11⟩
        have H11 := Keep.keep (H10.out.call hb11)
        clear hb11 HSU H10
        have HOC := octal_own (x + 1) 6 (by decide) (by decide) HX1.out (by omega) B w11 (Nat.le_trans HB.out H11.out.size) (HT.out.on (H11.out.below.mono HB.out))
        rw [show ((x + 1 : Nat) : Int) = (x : Int) + 1 by omega] at HOC
        go_wp2_with fail
        refine HOC.mono ?_
        rintro e w12 ⟨g, cap, pad, rfl, hrow, hpc, hcm, hg, hb12⟩
        have H12 := Keep.keep (H11.out.call hb12)
        have HROW := Keep.keep hrow; have HCM := Keep.keep hcm
        have HG : Keep (g1 < g ∧ w.heap.size ≤ g) := ⟨by have := (H11.out.new 1 rfl (b := g1) rfl).2; have := H11.out.size; omega⟩
        have HOL : Keep ((octK 6 (x + 1) ++ [0]).length = 7) := ⟨by simp [octK_length]⟩
        have HPC : Keep ((octK 6 (x + 1) ++ [0]).length + pad.length = cap) := ⟨by rw [HOL.out]; exact hpc⟩
        have HG2 : Keep (g2 < g ∧ g3 < g ∧ w11.heap.size ≤ g) := ⟨by have := (H11.out.new 2 rfl (b := g2) rfl).2; have := (H11.out.new 3 rfl (b := g3) rfl).2; omega⟩
        clear hrow hpc hcm hg hb12 HOC H11
        go_wp2_with (with_reducible refine arm_stop ?_)
        refine Stopped.out ?_
        obtain ⟨ti, i1, i2, i3, i4⟩ := (SlTy.mk' (P := Tryd.prog) (t := 22) (e := 5) (z := .int .u8 0) (bytes := 1) Tryd.underlying22 (by kernel_rfl) rfl).i
        have hr1 : Row (w12.alloc (.cells #[.int .u8 (((32 : UInt8).toNat : Nat) : Int)] 5)) w12.heap.size 5 #[.int .u8 (((32 : UInt8).toNat : Nat) : Int)] := Row.new _ _ _
        have hrf : RowF (w12.alloc (.cells #[.int .u8 (((32 : UInt8).toNat : Nat) : Int)] 5)) g 5 (bcells (octK 6 (x + 1) ++ [0]) ++ pad).toArray := HROW.out.chg (M := fun _ => False) (.of_below ((Below.refl w12.heap.size w12).alloc (Nat.le_refl _) _)) HROW.out.lt (fun h => h)
        refine arm_appF (l := octK 6 (x + 1) ++ [0]) (m := [32]) (pad := pad) Tryd.underlying22 i1 i2 i3 i4 hrf HPC.out (src_one Tryd.underlying22 i3 hr1 rfl) (by rw [HOL.out]; decide) HCM.out (by rw [HOL.out]; rfl) rfl ?_
        intro v' w13 hr13 hb13
        have HR13 := Keep.keep (hr13.mono (N' := (· < w13.heap.size)) (fun b hb => hb.2))
        have hr1c : BlkAt w13 g1 37 l2 := ((H12.out.row 1 rfl).below ((Below.refl w12.heap.size w12).alloc (Nat.le_refl _) _) (H12.out.row 1 rfl).lt).below hb13 HG.out.1
        have HR1 := Keep.keep hr1c
        have HB13 : Keep (Below w.heap.size w w13) := ⟨(H12.out.below.trans (((Below.refl w12.heap.size w12).alloc (Nat.le_refl _) _).mono H12.out.size)).trans (hb13.mono HG.out.2)⟩
        obtain ⟨a9, c9, hv9, -⟩ := hr13.shape
        rw [List.length_append, HOL.out] at hv9
        have hv9 : v' = .slice a9 8 c9 := hv9
        have HSW : Keep (w.heap.size ≤ g1) := ⟨(H12.out.new 1 rfl (b := g1) rfl).1⟩
        subst hv9
        clear hr13 hb13 hr1 hrf hr1c H12 HG2
        have HST := Keep.keep (set_is g1 37 l2 HL2.out [99, 104, 107, 115, 117, 109] (by decide) 148 8 (by decide) _ (octK 6 (x + 1) ++ [0] ++ [32]) (by rw [List.length_append, HOL.out]; rfl) B w13 (HF.out.on (HB13.out.mono HB.out)) HR1.out HR13.out)
        simp only [Act.put, List.setIfInBounds_toArray, List.set_cons_succ, List.set_cons_zero]
        go_wp2_with fail
        refine HST.out.mono ?_
        rintro e w14 ⟨rfl, hr14, hc14⟩
        have HB14 : Keep (Below w.heap.size w w14) := ⟨HB13.out.trans ((hc14.lower HB13.out.size).below (fun q hq e => by have := HSW.out; omega))⟩
        have HCK := check_any g1 37 _ (by rw [setL_length (by rw [List.length_append, HOL.out, HL2.out]; decide), HL2.out]) B w14 (HF.out.on (HB14.out.mono HB.out)) (Nat.le_trans HB.out HB14.out.size) hr14
        rw [show setL l2 148 (octK 6 (x + 1) ++ [0] ++ [32]) = setL (sealS l1) 148 (octK 6 (x + 1) ++ [0, 32]) by rw [HLL2.out]; simp, HMO.out] at HCK
        clear hr14 hc14 HST HR1 HR13 HB13
        go_wp2_with fail
        refine HCK.mono ?_
        rintro e w15 ⟨rfl, hb15⟩
        have HB15 := Keep.keep (HB14.out.trans (hb15.mono HB14.out.size))
        clear hb15 HCK
        go_wp2_with fail
        refine (wakes_any B w15 (Nat.le_trans HB.out HB15.out.size) (HT.out.on (HB15.out.mono HB.out))).mono ?_
        rintro e w16 ⟨rfl, hb16⟩
        have HB16 := Keep.keep (HB15.out.trans (hb16.mono HB15.out.size))
        clear hb16
        go_wp2_with fail
        go_ret
        exact ⟨rfl, HB16.out⟩
      · have hd1 : decide ((148 : Int) ≤ (k : Int)) = true := decide_eq_true (by omega)
        have hd1n : decide (148 ≤ k) = true := decide_eq_true (by omega)
        have hd2 : decide ((k : Int) < 156) = false := decide_eq_false (by omega)
        have hd2n : decide (k < 156) = false := decide_eq_false (by omega)
        have hce : ((c.toNat : Int) == (d.toNat : Int)) = false := by rw [beq_eq_false_iff_ne]; intro e; exact heq (UInt8.toNat_inj.1 (by omega))
        have hce2 : (c.toNat == d.toNat) = false := by rw [beq_eq_false_iff_ne]; intro e; exact heq (UInt8.toNat_inj.1 e)
        have hcn : ((c.toNat : Int) != (d.toNat : Int)) = true := by unfold bne; rw [hce]; rfl
        have hd3 : decide ((k : Int) < 257) = false := decide_eq_false (by omega)
        have hd3n : decide (k < 257) = false := decide_eq_false (by omega)
        have hd4 : decide ((262 : Int) < (k : Int)) = false := decide_eq_false (by omega)
        have hd4n : decide (262 < k) = false := decide_eq_false (by omega)
        clear heq HEQ HCO2 hreg
        go_wp2_with fail
        refine calls_at (R := fun wq => Hp NoM w wq [rowA w.heap.size 35 (bcells l).toArray, rowA g1 37 (bcells l2).toArray, rowA g2 37 (bcells l2).toArray, rowA g3 37 (bcells (l2.set k c)).toArray]) H9.out ?_
        intro w9 H9'
        have HCK := check_any g3 37 (l2.set k c) HLS.out B w9 (HF.out.on (H9'.out.below.mono HB.out)) (Nat.le_trans HB.out H9'.out.size) (H9'.out.row 3 rfl)
        rw [hec] at HCK
        refine HCK.mono ?_
        rintro e w10 ⟨rfl, hb10⟩
        have H10 := Keep.keep (H9'.out.call hb10)
        clear hb10 HCK H9 H9' H8 hcell hfz
        have hcd := HD.out w10 (H10.out.row 1 rfl)
        have HSU := sum_any g1 37 l2 HL2.out B w10 (HF.out.on (H10.out.below.mono HB.out)) (Nat.le_trans HB.out H10.out.size) (H10.out.row 1 rfl)
        rw [← HLL2.out, HSM.out] at HSU
        go_wp2_with fail
        refine HSU.mono ?_
        rintro e w11 ⟨rfl, hb11⟩
        have H11 := Keep.keep (H10.out.call hb11)
        clear hb11 HSU H10
        have HOC := octal_own (x + 1) 6 (by decide) (by decide) HX1.out (by omega) B w11 (Nat.le_trans HB.out H11.out.size) (HT.out.on (H11.out.below.mono HB.out))
        rw [show ((x + 1 : Nat) : Int) = (x : Int) + 1 by omega] at HOC
        go_wp2_with fail
        refine HOC.mono ?_
        rintro e w12 ⟨g, cap, pad, rfl, hrow, hpc, hcm, hg, hb12⟩
        have H12 := Keep.keep (H11.out.call hb12)
        have HROW := Keep.keep hrow; have HCM := Keep.keep hcm
        have HG : Keep (g1 < g ∧ w.heap.size ≤ g) := ⟨by have := (H11.out.new 1 rfl (b := g1) rfl).2; have := H11.out.size; omega⟩
        have HOL : Keep ((octK 6 (x + 1) ++ [0]).length = 7) := ⟨by simp [octK_length]⟩
        have HPC : Keep ((octK 6 (x + 1) ++ [0]).length + pad.length = cap) := ⟨by rw [HOL.out]; exact hpc⟩
        have HG2 : Keep (g2 < g ∧ g3 < g ∧ w11.heap.size ≤ g) := ⟨by have := (H11.out.new 2 rfl (b := g2) rfl).2; have := (H11.out.new 3 rfl (b := g3) rfl).2; omega⟩
        clear hrow hpc hcm hg hb12 HOC H11
        go_wp2_with (with_reducible refine arm_stop ?_)
        refine Stopped.out ?_
        obtain ⟨ti, i1, i2, i3, i4⟩ := (SlTy.mk' (P := Tryd.prog) (t := 22) (e := 5) (z := .int .u8 0) (bytes := 1) Tryd.underlying22 (by kernel_rfl) rfl).i
        have hr1 : Row (w12.alloc (.cells #[.int .u8 (((32 : UInt8).toNat : Nat) : Int)] 5)) w12.heap.size 5 #[.int .u8 (((32 : UInt8).toNat : Nat) : Int)] := Row.new _ _ _
        have hrf : RowF (w12.alloc (.cells #[.int .u8 (((32 : UInt8).toNat : Nat) : Int)] 5)) g 5 (bcells (octK 6 (x + 1) ++ [0]) ++ pad).toArray := HROW.out.chg (M := fun _ => False) (.of_below ((Below.refl w12.heap.size w12).alloc (Nat.le_refl _) _)) HROW.out.lt (fun h => h)
        refine arm_appF (l := octK 6 (x + 1) ++ [0]) (m := [32]) (pad := pad) Tryd.underlying22 i1 i2 i3 i4 hrf HPC.out (src_one Tryd.underlying22 i3 hr1 rfl) (by rw [HOL.out]; decide) HCM.out (by rw [HOL.out]; rfl) rfl ?_
        intro v' w13 hr13 hb13
        have HR13 := Keep.keep (hr13.mono (N' := (· < w13.heap.size)) (fun b hb => hb.2))
        have hr1c : BlkAt w13 g1 37 l2 := ((H12.out.row 1 rfl).below ((Below.refl w12.heap.size w12).alloc (Nat.le_refl _) _) (H12.out.row 1 rfl).lt).below hb13 HG.out.1
        have HR1 := Keep.keep hr1c
        have HB13 : Keep (Below w.heap.size w w13) := ⟨(H12.out.below.trans (((Below.refl w12.heap.size w12).alloc (Nat.le_refl _) _).mono H12.out.size)).trans (hb13.mono HG.out.2)⟩
        obtain ⟨a9, c9, hv9, -⟩ := hr13.shape
        rw [List.length_append, HOL.out] at hv9
        have hv9 : v' = .slice a9 8 c9 := hv9
        have HSW : Keep (w.heap.size ≤ g1) := ⟨(H12.out.new 1 rfl (b := g1) rfl).1⟩
        subst hv9
        clear hr13 hb13 hr1 hrf hr1c H12 HG2
        have HST := Keep.keep (set_is g1 37 l2 HL2.out [99, 104, 107, 115, 117, 109] (by decide) 148 8 (by decide) _ (octK 6 (x + 1) ++ [0] ++ [32]) (by rw [List.length_append, HOL.out]; rfl) B w13 (HF.out.on (HB13.out.mono HB.out)) HR1.out HR13.out)
        simp only [Act.put, List.setIfInBounds_toArray, List.set_cons_succ, List.set_cons_zero]
        go_wp2_with fail
        refine HST.out.mono ?_
        rintro e w14 ⟨rfl, hr14, hc14⟩
        have HB14 : Keep (Below w.heap.size w w14) := ⟨HB13.out.trans ((hc14.lower HB13.out.size).below (fun q hq e => by have := HSW.out; omega))⟩
        have HCK := check_any g1 37 _ (by rw [setL_length (by rw [List.length_append, HOL.out, HL2.out]; decide), HL2.out]) B w14 (HF.out.on (HB14.out.mono HB.out)) (Nat.le_trans HB.out HB14.out.size) hr14
        rw [show setL l2 148 (octK 6 (x + 1) ++ [0] ++ [32]) = setL (sealS l1) 148 (octK 6 (x + 1) ++ [0, 32]) by rw [HLL2.out]; simp, HMO.out] at HCK
        clear hr14 hc14 HST HR1 HR13 HB13
        go_wp2_with fail
        refine HCK.mono ?_
        rintro e w15 ⟨rfl, hb15⟩
        have HB15 := Keep.keep (HB14.out.trans (hb15.mono HB14.out.size))
        clear hb15 HCK
        go_wp2_with fail
        refine (wakes_any B w15 (Nat.le_trans HB.out HB15.out.size) (HT.out.on (HB15.out.mono HB.out))).mono ?_
        rintro e w16 ⟨rfl, hb16⟩
        have HB16 := Keep.keep (HB15.out.trans (hb16.mono HB15.out.size))
        clear hb16
        go_wp2_with fail
        go_ret
        exact ⟨rfl, HB16.out⟩
end Go.Proofs.YtohballfhhndbaaDoor
