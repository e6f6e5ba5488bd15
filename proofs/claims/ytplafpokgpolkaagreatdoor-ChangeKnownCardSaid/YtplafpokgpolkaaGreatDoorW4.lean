/- PARTS OF ONE PROOF, set in one file: FewS2, StRo, StS1, StS2. Each part tells its own conditions. -/
import Derived.Test.YtplafpokgpolkaaGreatDoorW3
/- portolanlaw19.Few. -/
namespace Go.Proofs.YtplafpokgpolkaaGreatDoor
open Go.RowKit
set_option maxHeartbeats 8000000 in
set_option maxRecDepth 100000 in
theorem few19K (v : Value) (l : List Mv) (w : World) (K : Nat → Prop) (hK : ∀ b, K b → b < w.heap.size) (hr : Mbs w (· < w.heap.size) K v l) :
    Calls Tryz.prog 21 #[v] w fun e w' => ∃ v' l', e = .returned v' ∧ l'.map (·.1) = few19 (l.map (·.1)) ∧ RowM w.heap.size K w' v' l' ∧ Below w.heap.size w w' := by
  have HK := Keep.keep hK
  obtain ⟨a, cap, hv, hcap, hmx, h3⟩ := hr.rd.shape
  have HR := Keep.keep hr; have H3 := Keep.keep h3
  unfold maxLen at hmx
  clear hr h3 hK
  subst hv
  go_enter Tryz.func21, Tryz.ntmps21
  go_wp2_with fail
  go_loopg [3, 10] (min l.length 14) (fun g u3 u10 wx => ∃ (k : Nat) (acc : List Mv), k + g = min l.length 14 ∧ u10 = .int .i64 (k : Int) ∧ acc.map (·.1) = ((l.map (·.1)).take k).map cut19 ∧ acc.length = k ∧ RowM w.heap.size K wx u3 acc ∧ Below w.heap.size w wx)
  case atStart => exact ⟨0, [], by omega, rfl, rfl, rfl, RowM.nil _ _ _, Below.refl _ _⟩
  case round =>
    obtain ⟨k, acc, hkg, rfl, hmap, hal, hrow, hbl⟩ := hrel
    have HM := Keep.keep hmap; have HH := Keep.keep hrow; have HB := Keep.keep hbl
    obtain ⟨a3, c3, hu3, -⟩ := (ownsV_reads hrow.own).shape
    rw [hal] at hu3
    subst hu3
    clear hmap hrow hbl
    cases gk with
    | zero =>
      have HF : Keep (acc.map (·.1) = few19 (l.map (·.1))) := ⟨by
        rw [HM.out]; unfold few19
        congr 1
        rw [List.take_eq_take_iff, List.length_map]; omega⟩
      by_cases hk : k < l.length
      · obtain rfl : k = 14 := by omega
        have hd1 : decide ((14 : Int) < (l.length : Int)) = true := decide_eq_true (by omega)
        obtain ⟨b, off, rfl, hbl⟩ : ∃ b off, a = some ⟨b, off, none⟩ ∧ b < w.heap.size := by
          rcases H3.out with h | ⟨b, off, h, hb⟩
          · omega
          · exact ⟨b, off, h, hb⟩
        have hrx := HR.out.below HB.out (fun b hb => hb) HK.out
        have hld := hrx.load hk
        clear hrx
        obtain ⟨cx, hcx⟩ : ∃ cx, mcell l[14] = cx := ⟨_, rfl⟩
        have hsz : cx.size = 9 := by rw [← hcx]; rfl
        have HSZ := Keep.keep hsz
        have hna := (HR.out.nd _ (List.getElem_mem hk))
        have h1c : cx.all (·.oneCell') = true := by rw [← hcx]; exact mcell_one hna
        have H1C := Keep.keep h1c
        rw [hcx] at hld
        clear hcx hsz h1c hna
        go_wp2_with (first | ((with_reducible refine arm_loadM hld ?_ ?_); (focus rfl); simp only [Act.put, List.setIfInBounds_toArray, List.set_cons_succ, List.set_cons_zero]) | ((with_reducible refine arm_storeRow (Row.new wr 32 _) aggM ?_ HSZ.out H1C.out ?_ ?_ ?_); (focus rfl); (focus rfl); (focus rfl); simp only [Act.put, World.setRow_alloc_new]))
        go_ret
        exact ⟨_, rfl, acc, HF.out, HH.out.below ((Below.refl _ _).alloc (Nat.le_refl _) _), HB.out.trans (((Below.refl _ _).alloc (Nat.le_refl _) _).mono HB.out.size)⟩
      · have hd1 : decide ((k : Int) < (l.length : Int)) = false := decide_eq_false (by omega)
        go_wp2_with fail
        go_ret
        exact ⟨_, rfl, acc, HF.out, HH.out, HB.out⟩
    | succ g =>
      generalize wr = wo at *
      have hk : k < l.length := by omega
      have hd1 : decide ((k : Int) < (l.length : Int)) = true := decide_eq_true (by omega)
      have hd2 : ((k : Int) == 14) = false := by rw [beq_eq_false_iff_ne]; omega
      obtain ⟨b, off, rfl, hbl⟩ : ∃ b off, a = some ⟨b, off, none⟩ ∧ b < w.heap.size := by
        rcases H3.out with h | ⟨b, off, h, hb⟩
        · omega
        · exact ⟨b, off, h, hb⟩
      have hrx := HR.out.below HB.out (fun b hb => hb) HK.out
      have hld := hrx.load hk
      have hndx := HR.out.nd _ (List.getElem_mem hk)
      have HTK : Keep (((l.map (·.1)).take (k + 1)).map cut19 = ((l.map (·.1)).take k).map cut19 ++ [cut19 l[k].1]) := ⟨by
        rw [List.take_succ_eq_append_getElem (by simpa using hk), List.map_append]; simp⟩
      clear hrx
      generalize l[k] = x at *
      obtain ⟨⟨xp, ⟨kind, mode, uid, gid, time, attrs, data, link⟩⟩, av, dv⟩ := x
      obtain ⟨aa, la, ca, ad, ld, cd, e1, e2⟩ := hndx.shape
      dsimp only at hndx e1 e2
      subst e1 e2
      have HX := Keep.keep hndx
      unfold mcell mbC strV at hld
      dsimp only at hld
      clear hndx
      go_upto_region 6 with ((with_reducible refine arm_loadM hld ?_ ?_); (focus rfl); simp only [Act.put, List.setIfInBounds_toArray, List.set_cons_succ, List.set_cons_zero])
      refine wp_world (R := fun w5 => Hp NoM wo w5 [rowA wo.heap.size 32 (fsR kind mode uid gid time (.slice aa la ca) ad ld cd xp link)]) ((Hp.begin NoM wo).newRow _ _) ?_
      intro w5 H5
      obtain ⟨B5, hB5⟩ : ∃ B5, wo.heap.size = B5 := ⟨_, rfl⟩
      have HB5 := Keep.keep hB5
      rw [hB5] at H5 ⊢
      clear hB5
      have hlt5 := (H5.out.row 0 rfl).lt
      have HDL : Keep (ld = data.length ∧ ld ≤ cd) := ⟨⟨HX.out.dt.len.1, by have := HX.out.dt.len; dsimp only at this; omega⟩⟩
      clear hld
      refine wp_region_spcO [some 17, some 18, some 19, some 20, some 21, some 22, some 23, some 24, some 25, some 26, some 27, some 28, some 29, some 30, some 31, some 32, some 33, some 34, some 35, some 36, some 37, some 38, none, some 39, some 40, none, some 41, some 42, none] (fsC w5 B5 kind mode uid gid time (.slice aa la ca) ad ld cd xp link) (fsT B5 xp link ad ld cd) (fsS B5 xp link ad ld cd) (by kernel_rfl) rfl (by decide) (by intro d hd; simp at hd; show d < 91; omega) (by kernel_rfl) ⟨(Chg.refl _ _ _).drew, xp, link, ld, .inl rfl, .inl rfl, .inl rfl, H5.out.row 0 rfl⟩ (fun i v w w' h _ hb => fsT_stays i v w w' h hb) ?_ ?_
      · intro i hi a1 w6 hF hC hT
        have hi : i < 29 := hi
        obtain ⟨hCh, q, j, m, hq, hj, hm, hrow⟩ := id hC
        have b5 : a1.eval (.tmp 5) = .pointer (some ⟨B5, 0, none⟩) := (hF.same 5 (by decide)).trans rfl
        have hkr : fsS B5 xp link ad ld cd w6 w6 := fsS.refl _ _ _ _ _ _ _
        rcases (by omega : i = 0 ∨ i = 1 ∨ i = 2 ∨ i = 3 ∨ i = 4 ∨ i = 5 ∨ i = 6 ∨ i = 7 ∨ i = 8 ∨ i = 9 ∨ i = 10 ∨ i = 11 ∨ i = 12 ∨ i = 13 ∨ i = 14 ∨ i = 15 ∨ i = 16 ∨ i = 17 ∨ i = 18 ∨ i = 19 ∨ i = 20 ∨ i = 21 ∨ i = 22 ∨ i = 23 ∨ i = 24 ∨ i = 25 ∨ i = 26 ∨ i = 27 ∨ i = 28) with rfl | rfl | rfl | rfl | rfl | rfl | rfl | rfl | rfl | rfl | rfl | rfl | rfl | rfl | rfl | rfl | rfl | rfl | rfl | rfl | rfl | rfl | rfl | rfl | rfl | rfl | rfl | rfl | rfl
        · exact spcO_val (d := 17) rfl (wanted_none rfl) (run_fieldAddr (m := 0) Tryz.underlying32 rfl (by kernel_rfl) b5) hC hkr rfl
        · have hx : a1.eval (.tmp 17) = .pointer (some ⟨B5, 0, none⟩) := hT 0 (by kernel_rfl)
          exact spcO_val (d := 18) rfl (wanted_none rfl) (run_loadCell (run_isAgg_plain Tryz.underlying9 rfl) (hrow.cell (i := 0) rfl) hx) hC hkr ⟨q, rfl, hq⟩
        · obtain ⟨q', hx, hq'⟩ := hT 1 (by kernel_rfl)
          have hx : a1.eval (.tmp 18) = .string ⟨q'.toArray⟩ := hx
          refine spcO_call (d := 19) (vs := #[.string ⟨q'.toArray⟩]) rfl (wanted_none rfl) (Go.Proofs.enters_of Tryz.func66 (by kernel_rfl) rfl) (by simp [hx]) ?_
          refine (short_any q' w6).mono ?_
          rintro e wz ⟨rfl, rfl⟩
          refine ⟨_, rfl, hC, hkr, ?_⟩
          show Value.string _ = Value.string _
          rw [hq'.cut]
        · exact spcO_val (d := 20) rfl (wanted_none rfl) (run_fieldAddr (m := 7) Tryz.underlying32 rfl (by kernel_rfl) b5) hC hkr rfl
        · have hx : a1.eval (.tmp 20) = .pointer (some ⟨B5, 1, none⟩) := hT 3 (by kernel_rfl)
          exact spcO_val (d := 21) rfl (wanted_none rfl) (run_fieldAddr (m := 0) Tryz.underlying30 rfl (by kernel_rfl) hx) hC hkr rfl
        · have hx : a1.eval (.tmp 21) = .pointer (some ⟨B5, 8, none⟩) := hT 4 (by kernel_rfl)
          exact spcO_val (d := 22) rfl (wanted_none rfl) (run_loadCell (run_isAgg_plain Tryz.underlying9 rfl) (hrow.cell (i := 8) rfl) hx) hC hkr ⟨j, rfl, hj⟩
        · exact spcO_val (d := 23) rfl (wanted_none rfl) (run_fieldAddr (m := 7) Tryz.underlying32 rfl (by kernel_rfl) b5) hC hkr rfl
        · have hx : a1.eval (.tmp 23) = .pointer (some ⟨B5, 1, none⟩) := hT 6 (by kernel_rfl)
          exact spcO_val (d := 24) rfl (wanted_none rfl) (run_fieldAddr (m := 0) Tryz.underlying30 rfl (by kernel_rfl) hx) hC hkr rfl
        · have hx : a1.eval (.tmp 24) = .pointer (some ⟨B5, 8, none⟩) := hT 7 (by kernel_rfl)
          exact spcO_val (d := 25) rfl (wanted_none rfl) (run_loadCell (run_isAgg_plain Tryz.underlying9 rfl) (hrow.cell (i := 8) rfl) hx) hC hkr ⟨j, rfl, hj⟩
        · obtain ⟨q', hx, hq'⟩ := hT 8 (by kernel_rfl)
          exact spcO_val (d := 26) rfl (wanted_none rfl) (run_lenS hx) hC hkr ⟨q', rfl, hq'⟩
        · obtain ⟨q', hx, hq'⟩ := hT 9 (by kernel_rfl)
          refine spcO_val (d := 27) rfl (wanted_none rfl) (run_minC hx rfl) hC hkr ?_
          show Value.int .i64 _ = Value.int .i64 _
          have := hq'.mn
          congr 1
          omega
        · obtain ⟨q', hx, hq'⟩ := hT 5 (by kernel_rfl)
          have hy : a1.eval (.tmp 27) = .int .i64 ((min link.length 40 : Nat) : Int) := hT 10 (by kernel_rfl)
          refine spcO_val (d := 28) rfl (wanted_none rfl) (run_sliceS hq'.le hx hy) hC hkr ?_
          show Value.string _ = Value.string _
          rw [hq'.cut]
        · exact spcO_val (d := 29) rfl (wanted_none rfl) (run_fieldAddr (m := 7) Tryz.underlying32 rfl (by kernel_rfl) b5) hC hkr rfl
        · have hx : a1.eval (.tmp 29) = .pointer (some ⟨B5, 1, none⟩) := hT 12 (by kernel_rfl)
          exact spcO_val (d := 30) rfl (wanted_none rfl) (run_fieldAddr (m := 0) Tryz.underlying30 rfl (by kernel_rfl) hx) hC hkr rfl
        · have hx : a1.eval (.tmp 30) = .pointer (some ⟨B5, 7, none⟩) := hT 13 (by kernel_rfl)
          exact spcO_val (d := 31) rfl (wanted_none rfl) (run_loadCell (run_isAgg_plain Tryz.underlying28 rfl) (hrow.cell (i := 7) rfl) hx) hC hkr ⟨m, rfl, hm⟩
        · exact spcO_val (d := 32) rfl (wanted_none rfl) (run_fieldAddr (m := 7) Tryz.underlying32 rfl (by kernel_rfl) b5) hC hkr rfl
        · have hx : a1.eval (.tmp 32) = .pointer (some ⟨B5, 1, none⟩) := hT 15 (by kernel_rfl)
          exact spcO_val (d := 33) rfl (wanted_none rfl) (run_fieldAddr (m := 0) Tryz.underlying30 rfl (by kernel_rfl) hx) hC hkr rfl
        · have hx : a1.eval (.tmp 33) = .pointer (some ⟨B5, 7, none⟩) := hT 16 (by kernel_rfl)
          exact spcO_val (d := 34) rfl (wanted_none rfl) (run_loadCell (run_isAgg_plain Tryz.underlying28 rfl) (hrow.cell (i := 7) rfl) hx) hC hkr ⟨m, rfl, hm⟩
        · obtain ⟨m', hx, hm'⟩ := hT 17 (by kernel_rfl)
          exact spcO_val (d := 35) rfl (wanted_none rfl) (run_lenV hx) hC hkr ⟨m', rfl, hm'⟩
        · obtain ⟨m', hx, hm'⟩ := hT 18 (by kernel_rfl)
          refine spcO_val (d := 36) rfl (wanted_none rfl) (run_minC hx rfl) hC hkr ?_
          show Value.int .i64 _ = Value.int .i64 _
          rw [hm'.mn]
        · obtain ⟨m', hx, hm'⟩ := hT 14 (by kernel_rfl)
          have hy : a1.eval (.tmp 36) = .int .i64 ((min ld 40 : Nat) : Int) := hT 19 (by kernel_rfl)
          exact spcO_val (d := 37) rfl (wanted_none rfl) (run_sliceV (by have := HDL.out.2; omega) hx hy) hC hkr rfl
        · exact spcO_val (d := 38) rfl (wanted_none rfl) (run_fieldAddr (m := 0) Tryz.underlying32 rfl (by kernel_rfl) b5) hC hkr rfl
        · have hx : a1.eval (.tmp 38) = .pointer (some ⟨B5, 0, none⟩) := hT 21 (by kernel_rfl)
          have hy : a1.eval (.tmp 19) = .string ⟨(shortS xp).toArray⟩ := hT 2 (by kernel_rfl)
          have hrow' : Row (w6.setCell ⟨B5, 0, none⟩ (.string ⟨(shortS xp).toArray⟩)) B5 32 (fsR kind mode uid gid time (.slice aa la ca) ad m cd (shortS xp) j) := hrow.set' 0 _ rfl
          refine spcO_skip rfl (wanted_none rfl) (run_storeS ⟨_, hrow.cell (i := 0) rfl⟩ (hrow.frozen 0) hx hy) ⟨Chg.setCell (M := fun b => b = B5) hCh (p := ⟨B5, 0, none⟩) (.inr rfl) _, shortS xp, j, m, .inr rfl, hj, hm, hrow'⟩ ⟨fun _ => hrow'.cell (i := 0) rfl, fun h => by rw [hrow'.cell (i := 8) (v := .string ⟨j.toArray⟩) rfl, ← hrow.cell (i := 8) (v := .string ⟨j.toArray⟩) rfl]; exact h, fun h => by rw [hrow'.cell (i := 7) (v := .slice ad m cd) rfl, ← hrow.cell (i := 7) (v := .slice ad m cd) rfl]; exact h⟩ (hrow'.cell (i := 0) rfl)
        · exact spcO_val (d := 39) rfl (wanted_none rfl) (run_fieldAddr (m := 7) Tryz.underlying32 rfl (by kernel_rfl) b5) hC hkr rfl
        · have hx : a1.eval (.tmp 39) = .pointer (some ⟨B5, 1, none⟩) := hT 23 (by kernel_rfl)
          exact spcO_val (d := 40) rfl (wanted_none rfl) (run_fieldAddr (m := 0) Tryz.underlying30 rfl (by kernel_rfl) hx) hC hkr rfl
        · have hx : a1.eval (.tmp 40) = .pointer (some ⟨B5, 8, none⟩) := hT 24 (by kernel_rfl)
          have hy : a1.eval (.tmp 28) = .string ⟨(link.take 40).toArray⟩ := hT 11 (by kernel_rfl)
          have hrow' : Row (w6.setCell ⟨B5, 8, none⟩ (.string ⟨(link.take 40).toArray⟩)) B5 32 (fsR kind mode uid gid time (.slice aa la ca) ad m cd q (link.take 40)) := hrow.set' 8 _ rfl
          refine spcO_skip rfl (wanted_none rfl) (run_storeS ⟨_, hrow.cell (i := 8) rfl⟩ (hrow.frozen 8) hx hy) ⟨Chg.setCell (M := fun b => b = B5) hCh (p := ⟨B5, 8, none⟩) (.inr rfl) _, q, link.take 40, m, hq, .inr rfl, hm, hrow'⟩ ⟨fun h => by rw [hrow'.cell (i := 0) (v := .string ⟨q.toArray⟩) rfl, ← hrow.cell (i := 0) (v := .string ⟨q.toArray⟩) rfl]; exact h, fun _ => hrow'.cell (i := 8) rfl, fun h => by rw [hrow'.cell (i := 7) (v := .slice ad m cd) rfl, ← hrow.cell (i := 7) (v := .slice ad m cd) rfl]; exact h⟩ (hrow'.cell (i := 8) rfl)
        · exact spcO_val (d := 41) rfl (wanted_none rfl) (run_fieldAddr (m := 7) Tryz.underlying32 rfl (by kernel_rfl) b5) hC hkr rfl
        · have hx : a1.eval (.tmp 41) = .pointer (some ⟨B5, 1, none⟩) := hT 26 (by kernel_rfl)
          exact spcO_val (d := 42) rfl (wanted_none rfl) (run_fieldAddr (m := 0) Tryz.underlying30 rfl (by kernel_rfl) hx) hC hkr rfl
        · have hx : a1.eval (.tmp 42) = .pointer (some ⟨B5, 7, none⟩) := hT 27 (by kernel_rfl)
          have hy : a1.eval (.tmp 37) = .slice ad (min ld 40) cd := hT 20 (by kernel_rfl)
          have hrow' : Row (w6.setCell ⟨B5, 7, none⟩ (.slice ad (min ld 40) cd)) B5 32 (fsR kind mode uid gid time (.slice aa la ca) ad (min ld 40) cd q j) := hrow.set' 7 _ rfl
          refine spcO_skip rfl (wanted_none rfl) (run_storeV ⟨_, hrow.cell (i := 7) rfl⟩ (hrow.frozen 7) hx hy) ⟨Chg.setCell (M := fun b => b = B5) hCh (p := ⟨B5, 7, none⟩) (.inr rfl) _, q, j, min ld 40, hq, hj, .inr rfl, hrow'⟩ ⟨fun h => by rw [hrow'.cell (i := 0) (v := .string ⟨q.toArray⟩) rfl, ← hrow.cell (i := 0) (v := .string ⟨q.toArray⟩) rfl]; exact h, fun h => by rw [hrow'.cell (i := 8) (v := .string ⟨j.toArray⟩) rfl, ← hrow.cell (i := 8) (v := .string ⟨j.toArray⟩) rfl]; exact h, fun _ => hrow'.cell (i := 7) rfl⟩ (hrow'.cell (i := 7) rfl)
      · intro a1 w6 ha hC hT
        obtain ⟨hCh, q, j, m, hq, hj, hm, hrow⟩ := hC
        have h22 : w6.cell? ⟨B5, 0, none⟩ = some (.string ⟨(shortS xp).toArray⟩) := hT 22 (by decide)
        have h25 : w6.cell? ⟨B5, 8, none⟩ = some (.string ⟨(link.take 40).toArray⟩) := hT 25 (by decide)
        have h28 : w6.cell? ⟨B5, 7, none⟩ = some (.slice ad (min ld 40) cd) := hT 28 (by decide)
        have e1 := (hrow.cell (i := 0) (v := .string ⟨q.toArray⟩) rfl).symm.trans h22
        have e2 := (hrow.cell (i := 8) (v := .string ⟨j.toArray⟩) rfl).symm.trans h25
        have e3 := (hrow.cell (i := 7) (v := .slice ad m cd) rfl).symm.trans h28
        injection e1 with e1
        injection e2 with e2
        injection e3 with e3
        have hrow6 : Row w6 B5 32 (fsR kind mode uid gid time (.slice aa la ca) ad (min ld 40) cd (shortS xp) (link.take 40)) := by
          unfold fsR at hrow ⊢
          rw [e1, e2, e3] at hrow
          exact hrow
        have H6 := Keep.keep (H5.out.upd 0 rfl (rowA B5 32 (fsR kind mode uid gid time (.slice aa la ca) ad (min ld 40) cd (shortS xp) (link.take 40))) (hCh.mono (Nat.le_refl _) (fun _ h => h)) hrow6 (fun b hb => .inl hb))
        simp only [List.filterMap_cons, List.filterMap_nil, List.foldl_cons, List.foldl_nil] at ha
        clear hT hCh hq hj hm hrow h22 h25 h28 e1 e2 e3 hrow6 H5
        generalize slot a1 17 = x17 at *
        generalize slot a1 18 = x18 at *
        generalize slot a1 19 = x19 at *
        generalize slot a1 20 = x20 at *
        generalize slot a1 21 = x21 at *
        generalize slot a1 22 = x22 at *
        generalize slot a1 23 = x23 at *
        generalize slot a1 24 = x24 at *
        generalize slot a1 25 = x25 at *
        generalize slot a1 26 = x26 at *
        generalize slot a1 27 = x27 at *
        generalize slot a1 28 = x28 at *
        generalize slot a1 29 = x29 at *
        generalize slot a1 30 = x30 at *
        generalize slot a1 31 = x31 at *
        generalize slot a1 32 = x32 at *
        generalize slot a1 33 = x33 at *
        generalize slot a1 34 = x34 at *
        generalize slot a1 35 = x35 at *
        generalize slot a1 36 = x36 at *
        generalize slot a1 37 = x37 at *
        generalize slot a1 38 = x38 at *
        generalize slot a1 39 = x39 at *
        generalize slot a1 40 = x40 at *
        generalize slot a1 41 = x41 at *
        generalize slot a1 42 = x42 at *
        subst ha
        simp only [Act.put, List.setIfInBounds_toArray, List.set_cons_succ, List.set_cons_zero]
        have hfr := H6.out.row 0 rfl
        unfold fsR at hfr
        have k6 := hfr.cell (i := 6) rfl
        have f6 := hfr.frozen 6
        have HLA : Keep (la = attrs.length ∧ la ≤ ca) := ⟨⟨HX.out.at_.lens.1, by have := HX.out.at_.lens; omega⟩⟩
        have hmn : min (la : Int) 4 = ((min la 4 : Nat) : Int) := by omega
        have hsl := fun wx => slice_ato aa la ca (min la 4) .i64 (by have := HLA.out.2; omega) wx
        have hw6 : w.heap.size ≤ w6.heap.size := Nat.le_trans HB.out.size H6.out.size
        have HRA : Keep (RdV w6 (· < w6.heap.size) 2 (.slice aa (min la 4) ca) (attrs.take 4).length (rcells (attrs.take 4))) := ⟨by
          have hb6 : Below w.heap.size w w6 := HB.out.trans (H6.out.below.mono HB.out.size)
          have hx := HX.out.at_.below hb6 HK.out
          dsimp only at hx
          have h1 := RdV.take2 (by rw [HLA.out.1] at hx; exact hx) (min attrs.length 4) (by omega)
          have e : attrs.take (min attrs.length 4) = attrs.take 4 := by rw [List.take_eq_take_iff]; omega
          rw [e] at h1
          rw [HLA.out.1]
          exact h1.mono (fun b hb => Nat.lt_of_lt_of_le (HK.out b hb) hw6)⟩
        have HCL := Keep.keep (clA_own _ (attrs.take 4) w6 HRA.out (by rw [List.length_take]; omega))
        obtain ⟨n4, hn4⟩ : ∃ n4, min la 4 = n4 := ⟨_, rfl⟩
        have HN4 : Keep (n4 = (attrs.take 4).length ∧ n4 ≤ 4) := ⟨⟨by rw [← hn4, List.length_take, HLA.out.1]; omega, by omega⟩⟩
        rw [hn4] at hsl hmn HCL
        clear hfr hn4 HRA
        go_wp2_with fail
        refine HCL.out.mono ?_
        rintro e w7 ⟨v7, rfl, ho7, hb7⟩
        have H7 := Keep.keep (H6.out.push (slA w6.heap.size 97 2 v7 (attrs.take 4).length (rcells (attrs.take 4))) (.of_below hb7) ho7 (fun b hb => World.ownsRow.lt ho7 b hb))
        have HW6 : Keep (wo.heap.size ≤ w6.heap.size) := ⟨H6.out.size⟩
        have hal2 : acc.length = k := hal
        clear HCL hmn hsl H6 hb7
        obtain ⟨a7, c7, hv7, -⟩ := (ownsV_reads ho7).shape
        rw [← HN4.out.1] at hv7
        subst hv7
        have hr7 := H7.out.row 0 rfl
        unfold fsR at hr7
        have k6 := hr7.cell (i := 6) rfl
        have f6 := hr7.frozen 6
        clear ho7 hr7
        go_wp2_with fail
        have hn47 : n4 = (attrs.take 4).length := HN4.out.1
        have hn44 : n4 ≤ 4 := HN4.out.2
        refine wp_world (R := fun w8 => Hp NoM wo w8 [rowA B5 32 (fsR kind mode uid gid time (.slice a7 n4 c7) ad (min ld 40) cd (shortS xp) (link.take 40)), slA w6.heap.size 97 2 (.slice a7 n4 c7) n4 (rcells (attrs.take 4))]) (by rw [hn47] at H7 ⊢; exact H7.out.setCell 0 rfl 6 _ rfl) ?_
        intro w8 H8
        clear H7 k6 f6
        have HN47 := Keep.keep hn47
        clear hn47
        go_loopg [59] n4 (fun g u59 wx => ∃ i : Nat, i + g = n4 ∧ u59 = .int .i64 (i : Int) ∧ Hp NoM wo wx [rowA B5 32 (fsR kind mode uid gid time (.slice a7 n4 c7) ad (min ld 40) cd (shortS xp) (link.take 40)), slA w6.heap.size 97 2 (.slice a7 n4 c7) n4 (rcells (((attrs.take 4).take i).map cutB ++ (attrs.take 4).drop i))])
        case atStart => exact ⟨0, by omega, rfl, by simpa using H8.out⟩
        case round =>
          obtain ⟨i, hig, rfl, hHi⟩ := hrel
          have HI := Keep.keep hHi
          clear hHi H8
          have hll : (((attrs.take 4).take i).map cutB ++ (attrs.take 4).drop i).length = n4 := by
            have := HN47.out
            rw [List.length_append, List.length_map, List.length_take, List.length_drop]; omega
          have HLL := Keep.keep hll
          clear hll
          cases gk with
          | zero =>
            obtain rfl : i = n4 := by omega
            have HFA : Keep (((attrs.take 4).take i).map cutB ++ (attrs.take 4).drop i = (attrs.take 4).map cutB) := ⟨by
              rw [HN47.out, List.take_length, List.drop_length, List.append_nil]⟩
            have HRW := Keep.keep (HI.out.row 0 rfl)
            unfold fsR at HRW
            have HSZ : Keep ((#[.string ⟨(shortS xp).toArray⟩, .int .i64 kind, .int .u32 mode, .int .u32 uid, .int .u32 gid, .int .i64 time, .slice a7 i c7, .slice ad (min ld 40) cd, .string ⟨(link.take 40).toArray⟩] : Array Value).size = 9) := ⟨rfl⟩
            go_wp2_with (first | ((with_reducible refine arm_loadRow HRW.out aggM HSZ.out ?_ ?_); (focus rfl); simp only [Act.put, List.setIfInBounds_toArray, List.set_cons_succ, List.set_cons_zero]) | (with_reducible refine arm_stop ?_))
            refine Stopped.out ?_
            have hoi := HI.out.sl 1 rfl
            rw [HFA.out] at hoi
            have hbx := HI.out.below
            have HAL : Keep (Below wr.heap.size wr (wr.alloc (.cells #[.string ⟨(shortS xp).toArray⟩, .int .i64 kind, .int .u32 mode, .int .u32 uid, .int .u32 gid, .int .i64 time, .slice a7 i c7, .slice ad (min ld 40) cd, .string ⟨(link.take 40).toArray⟩] 32))) := ⟨(Below.refl _ _).alloc (Nat.le_refl _) _⟩
            have hny : NdR wr (fun b => K b ∨ (w6.heap.size ≤ b ∧ b < wr.heap.size)) (cut19 (xp, ⟨kind, mode, uid, gid, time, attrs, data, link⟩)).2 (.slice a7 i c7) (.slice ad (min ld 40) cd) := by
              refine ⟨?_, ?_⟩
              · have h1 := ownsV_reads hoi
                have e : i = ((attrs.take 4).map cutB).length := by rw [List.length_map]; exact HN47.out
                have h2 : RdV wr (fun b => w6.heap.size ≤ b ∧ b < wr.heap.size ∧ (Value.slice a7 i c7).ownBlock = some b) 2 (.slice a7 i c7) ((attrs.take 4).map cutB).length (rcells ((attrs.take 4).map cutB)) := by rw [← e]; exact h1
                exact h2.mono (fun b hb => .inr ⟨hb.1, hb.2.1⟩)
              · have hb6 : Below w.heap.size w wr := HB.out.trans (hbx.mono HB.out.size)
                have h1 := reads_to (HX.out.dt.below hb6 HK.out) (min ld 40) (by have := HDL.out.1; dsimp only; omega)
                have e : data.take (min ld 40) = data.take 40 := by rw [List.take_eq_take_iff]; have := HDL.out.1; omega
                dsimp only at h1
                rw [e] at h1
                exact h1.mono (fun b hb => .inl hb)
            have hsx := hbx.size
            have hal := HAL.out
            have hrA := (HH.out.below hbx).below hal
            have hob := World.ownsRow.lt HH.out.own
            have hm : Mbs (wr.alloc (.cells #[.string ⟨(shortS xp).toArray⟩, .int .i64 kind, .int .u32 mode, .int .u32 uid, .int .u32 gid, .int .i64 time, .slice a7 i c7, .slice ad (min ld 40) cd, .string ⟨(link.take 40).toArray⟩] 32)) (fun _ => True) (fun b => K b ∨ (w6.heap.size ≤ b ∧ b < wr.heap.size)) (.slice (some ⟨wr.heap.size, 0, none⟩) 1 1) [(cut19 (xp, ⟨kind, mode, uid, gid, time, attrs, data, link⟩), .slice a7 i c7, .slice ad (min ld 40) cd)] :=
              ⟨RdV.new (N := fun _ => True) 32 [.string ⟨(shortS xp).toArray⟩, .int .i64 kind, .int .u32 mode, .int .u32 uid, .int .u32 gid, .int .i64 time, .slice a7 i c7, .slice ad (min ld 40) cd, .string ⟨(link.take 40).toArray⟩] 9 1 _ rfl rfl (by unfold maxLen; omega) trivial, fun z hz => by
                obtain rfl : z = (cut19 (xp, ⟨kind, mode, uid, gid, time, attrs, data, link⟩), .slice a7 i c7, .slice ad (min ld 40) cd) := by simpa using hz
                exact hny.below hal (fun b hb => by
                  rcases hb with hb | hb
                  · have := HB.out.size; have := HK.out b hb; omega
                  · exact hb.2)⟩
            have hwr : w.heap.size ≤ wo.heap.size := HB.out.size
            refine arm_appM (B := w.heap.size) (K := K) hrA (by have := hal.size; omega) hm (fun b hb => ⟨hb.imp id (fun hb => by have := HW6.out; omega), by
              have := hal.size
              rcases hb with hb | hb
              · have := HK.out b hb; omega
              · omega, fun e => by
              have h1 := hob b e
              have := HW6.out
              rcases hb with hb | hb
              · have := HK.out b hb; omega
              · omega⟩) (by rw [hal2]; simp; omega) rfl rfl ?_
            intro v4 w4 hr4 hg4 hov4 hsh4
            obtain ⟨a4, c4, hv4⟩ := hsh4
            have HR4 := Keep.keep hr4
            have HB4 : Keep (Below w.heap.size w w4) := ⟨((HB.out.trans (hbx.mono hwr)).trans (hal.mono (by omega))).trans (hrA.chg (by have := hal.size; omega) hg4)⟩
            clear hr4 hg4 hov4 hm hrA hal hny hoi hbx HAL HRW
            subst hv4
            simp only [Act.put, List.setIfInBounds_toArray, List.set_cons_succ, List.set_cons_zero]
            go_wp2_with fail
            go_roundg g
            case measure => omega
            case rel => exact ⟨k + 1, acc ++ [(cut19 (xp, ⟨kind, mode, uid, gid, time, attrs, data, link⟩), .slice a7 i c7, .slice ad (min ld 40) cd)], by omega, by simp, by rw [List.map_append, HM.out, HTK.out]; rfl, by simp [hal2], HR4.out, HB4.out⟩
          | succ gi =>
            have hin : i < n4 := by omega
            have hd3 : decide ((i : Int) < (n4 : Int)) = true := decide_eq_true (by omega)
            have hi4 : i < (attrs.take 4).length := by have := HN47.out; omega
            have hri := HI.out.row 0 rfl
            unfold fsR at hri
            have k6 := hri.cell (i := 6) rfl
            clear hri
            have hoi := HI.out.sl 1 rfl
            obtain ⟨g7, rfl⟩ : ∃ g7, a7 = some ⟨g7, 0, none⟩ := by
              rcases hoi.2 with ⟨h1, h2⟩ | ⟨g', cap', cur, h1, -⟩
              · omega
              · injection h1 with h1; exact ⟨g', h1⟩
            have hxi : (((attrs.take 4).take i).map cutB ++ (attrs.take 4).drop i)[i]? = some (attrs.take 4)[i] := by
              rw [List.getElem?_append_right (by rw [List.length_map, List.length_take]; omega), List.length_map, List.length_take, Nat.min_eq_left (by omega), Nat.sub_self, List.getElem?_drop, Nat.add_zero, List.getElem?_eq_getElem hi4]
            have hld2 := own_loadAtA hoi HLL.out.symm hxi
            have HTA : Keep ((((attrs.take 4).take i).map cutB ++ (attrs.take 4).drop i).set i (cutB (attrs.take 4)[i]) = ((attrs.take 4).take (i + 1)).map cutB ++ (attrs.take 4).drop (i + 1)) := ⟨by
              rw [List.set_append_right _ _ (by rw [List.length_map, List.length_take]; omega), List.length_map, List.length_take, Nat.min_eq_left (by omega), Nat.sub_self, List.drop_eq_getElem_cons hi4, List.set_cons_zero, List.take_succ_eq_append_getElem hi4, List.map_append, List.append_assoc]
              rfl⟩
            clear hxi hoi
            generalize (attrs.take 4)[i] = xa at *
            obtain ⟨an, aw⟩ := xa
            unfold strV at hld2
            dsimp only at hld2
            go_upto_region 11 with ((with_reducible refine arm_loadM hld2 ?_ ?_); (focus rfl); simp only [Act.put, List.setIfInBounds_toArray, List.set_cons_succ, List.set_cons_zero])
            refine wp_world (R := fun w9 => Hp NoM wo w9 [rowA B5 32 (fsR kind mode uid gid time (.slice (some ⟨g7, 0, none⟩) n4 c7) ad (min ld 40) cd (shortS xp) (link.take 40)), slA w6.heap.size 97 2 (.slice (some ⟨g7, 0, none⟩) n4 c7) n4 (rcells (((attrs.take 4).take i).map cutB ++ (attrs.take 4).drop i)), rowA wr.heap.size 97 #[.string ⟨an.toArray⟩, .string ⟨aw.toArray⟩]]) (HI.out.newRow _ _) ?_
            intro w9 H9
            obtain ⟨B7, hB7⟩ : ∃ B7, wr.heap.size = B7 := ⟨_, rfl⟩
            rw [hB7] at H9 ⊢
            clear hB7 hld2 k6
            have hr9 := H9.out.row 0 rfl
            unfold fsR at hr9
            have k6 := hr9.cell (i := 6) rfl
            have c70 := (H9.out.row 2 rfl).cell (i := 0) rfl
            have c71 := (H9.out.row 2 rfl).cell (i := 1) rfl
            have mnA : min (an.length : Int) 40 = ((min an.length 40 : Nat) : Int) := by omega
            have mnB : min (aw.length : Int) 200 = ((min aw.length 200 : Nat) : Int) := by omega
            have slA1 := run_slice_to (P := Tryz.prog) Tryz.underlying9 an .i64 (min an.length 40) (Nat.min_le_left _ _)
            have slB1 := run_slice_to (P := Tryz.prog) Tryz.underlying9 aw .i64 (min aw.length 200) (Nat.min_le_left _ _)
            have eA : an.take (min an.length 40) = an.take 40 := by rw [List.take_eq_take_iff]; omega
            have eB : aw.take (min aw.length 200) = aw.take 200 := by rw [List.take_eq_take_iff]; omega
            rw [eA] at slA1
            rw [eB] at slB1
            have hbA := buildA (an.take 40) (aw.take 200)
            have hCB : Keep (cutB (an, aw) = (an.take 40, aw.take 200)) := ⟨rfl⟩
            obtain ⟨an4, han4⟩ : ∃ x, x = an.take 40 := ⟨_, rfl⟩
            obtain ⟨aw4, haw4⟩ : ∃ x, x = aw.take 200 := ⟨_, rfl⟩
            rw [← han4, ← haw4] at hCB
            rw [← han4] at slA1 hbA
            rw [← haw4] at slB1 hbA
            clear eA eB hr9 han4 haw4
            generalize min an.length 40 = mA at *
            generalize min aw.length 200 = mB at *
            refine wp_region_quiet_tail_drawn 20 (by kernel_rfl) (by kernel_rfl) ?_; simp only [List.take_succ_cons, List.take_zero, List.drop_succ_cons, List.drop_zero]; (repeat (go_big_quiet_step (fail))); refine wpQuiet_nil ?_; rintro _ ⟨nq, rfl⟩
            refine arm_setAt (base := w6.heap.size) (l := ((attrs.take 4).take i).map cutB ++ (attrs.take 4).drop i) (k := i) (cap := c7) (n := n4) (g := g7) (an4, aw4) (((H9.out.drewN nq).sl 1 rfl)) HLL.out.symm (by rw [HLL.out]; exact hin) rfl rfl ?_
            intro w10 ho10 hg10
            have HG := Keep.keep ((H9.out.drewN nq).upd 1 rfl (slA w6.heap.size 97 2 (.slice (some ⟨g7, 0, none⟩) n4 c7) n4 (rcells (((attrs.take 4).take (i + 1)).map cutB ++ (attrs.take 4).drop (i + 1)))) (chg_grown hg10) (by rw [← HTA.out, hCB.out]; exact ho10) (fun b hb => .inl hb))
            clear ho10 hg10 H9 k6 c70 c71 mnA mnB slA1 slB1 hbA
            simp only [Act.put]
            go_wp2_with fail
            go_roundg gi
            case measure => omega
            case rel => exact ⟨i + 1, by omega, by simp, HG.out.init⟩
theorem few19_any (v : Value) (l : List Mv) (w : World) (hr : Mbs w (· < w.heap.size) (· < w.heap.size) v l) :
    Calls Tryz.prog 21 #[v] w fun e w' => ∃ v' l', e = .returned v' ∧ l'.map (·.1) = few19 (l.map (·.1)) ∧ RowM w.heap.size (· < w.heap.size) w' v' l' ∧ Below w.heap.size w w' := few19K v l w _ (fun _ h => h) hr
end Go.Proofs.YtplafpokgpolkaaGreatDoor
/- slices.rotateCmpFunc over Members. -/
namespace Go.Proofs.YtplafpokgpolkaaGreatDoor
open Go.Shelf Go.RowKit Go.Lib Go.Sort
set_option maxHeartbeats 4000000 in
set_option maxRecDepth 1000000 in
theorem rot_any {α : Type} [Inhabited α] (k : Nat) (zE : ∀ w, (Go.sizeOf 32).run Tryz.prog w = .ok k w) (enc : α → List Value) (g : Nat) (cb : Array Value) (blk off cap : Nat) (a m b : Nat) (d0 d : Array α) (w0 w : World) (R : RowK enc k w0 blk off d0) (hs : d0.size = d.size) (S : SWK enc k w0 blk off d w) (ham : a < m) (hmb : m < b) (hb : b ≤ d.size) (hsz : d.size < 4611686018427387904) :
    Calls Tryz.prog 162 #[.slice (some ⟨blk, off, none⟩) d.size cap, .int .i64 a, .int .i64 m, .int .i64 b, .func (.func g) #[] cb] w fun e w' => e = .returned (.tuple #[]) ∧ ∃ d', SWK enc k w0 blk off d' w' ∧ RotOk d d' a m b := by
  have S0 : Aside (SWK enc k w0 blk off d w) := S
  clear S
  have r0 : IntKind.i64.wrap ((m : Int) - (a : Int)) = ((m - a : Nat) : Int) := by rw [IntKind.wrap_i64]; omega
  have r1 : IntKind.i64.wrap ((b : Int) - (m : Int)) = ((b - m : Nat) : Int) := by rw [IntKind.wrap_i64]; omega
  obtain ⟨i0, hi0⟩ : ∃ x, x = m - a := ⟨_, rfl⟩
  obtain ⟨j0, hj0⟩ : ∃ x, x = b - m := ⟨_, rfl⟩
  rw [← hi0] at r0
  rw [← hj0] at r1
  have G0 : Aside (RotG d d a m b i0 j0) := by
    show RotG _ _ _ _ _ _ _
    rw [hi0, hj0]
    exact RotG.start (by omega) (by omega) hb
  have hi1 : 0 < i0 ∧ a + i0 = m := by omega
  have hj1 : 0 < j0 ∧ m + j0 = b := by omega
  clear hi0 hj0
  go_enter Tryz.func162, Tryz.ntmps162
  go_wp2
  go_loopg [10, 11] (i0 + j0) (fun kx s10 s11 wr => ∃ (i j : Nat) (dk : Array α), s10 = .int .i64 i ∧ s11 = .int .i64 j ∧ 0 < i ∧ 0 < j ∧ a + i ≤ m ∧ m + j ≤ b ∧ i + j ≤ kx ∧ Aside (SWK enc k w0 blk off dk wr) ∧ Aside (RotG d dk a m b i j))
  case atStart => exact ⟨i0, j0, d, by go_num, by go_num, hi1.1, hj1.1, by omega, by omega, by omega, S0, G0⟩
  case round =>
    clear S0 G0 r0 r1
    obtain ⟨i, j, dk, rfl, rfl, hi, hj, hai, hmj, hkx, S1, G1⟩ := hrel
    have hds : dk.size = d.size := G1.out.size
    obtain ⟨x, hx⟩ : ∃ x, x = m - i := ⟨_, rfl⟩
    have rx : IntKind.i64.wrap ((m : Int) - (i : Int)) = (x : Int) := by rw [IntKind.wrap_i64]; omega
    rcases Nat.lt_trichotomy i j with hij | hij | hij
    · have e1 : ¬ (i : Int) = (j : Int) := by omega
      have e2 : ¬ (j : Int) < (i : Int) := by omega
      obtain ⟨y, hy⟩ : ∃ y, y = m + j - i := ⟨_, rfl⟩
      obtain ⟨j', hj'⟩ : ∃ y, y = j - i := ⟨_, rfl⟩
      have ry : IntKind.i64.wrap (IntKind.i64.wrap ((m : Int) + (j : Int)) - (i : Int)) = (y : Int) := by rw [show IntKind.i64.wrap ((m : Int) + (j : Int)) = (m : Int) + (j : Int) by rw [IntKind.wrap_i64]; omega, IntKind.wrap_i64]; omega
      have ry0 : IntKind.i64.wrap ((m : Int) + (j : Int) - (i : Int)) = (y : Int) := by rw [IntKind.wrap_i64]; omega
      have rj : IntKind.i64.wrap ((j : Int) - (i : Int)) = (j' : Int) := by rw [IntKind.wrap_i64]; omega
      have hc1 := Keep.keep (swr_any k zE enc g cb blk off cap x y i d0 dk w0 wr R (by omega) S1.out (by omega) (by omega) (by omega))
      rw [hds] at hc1
      have HG : Keep (∀ d', SwOk dk d' x y i → RotG d d' a m b i j') := ⟨fun d' h => by rw [hj']; exact G1.out.right hij (by rw [← hx, ← hy]; exact h)⟩
      have hj2 : j' + i = j := by omega
      clear hx hy hj' S1
      go_wp2_with fail
      refine (hc1.out).mono ?_
      rintro e w' ⟨rfl, d', S2', H2⟩
      have S2 : Aside (SWK enc k w0 blk off d' w') := S2'
      have G2 : Aside (RotG d d' a m b i j') := HG.out d' H2
      clear S2' H2
      go_wp2
      go_roundg (i + j')
      case measure => omega
      case rel => exact ⟨i, j', d', by go_num, by go_num, hi, by omega, hai, by omega, Nat.le_refl _, S2, G2⟩
    · subst hij
      have hc1 := Keep.keep (swr_any k zE enc g cb blk off cap x m i d0 dk w0 wr R (by omega) S1.out (by omega) (by omega) (by omega))
      rw [hds] at hc1
      have HG : Keep (∀ d', SwOk dk d' x m i → RotOk d d' a m b) := ⟨fun d' h => G1.out.done (by rw [← hx]; exact h)⟩
      clear hx S1
      go_wp2_with fail
      refine (hc1.out).mono ?_
      rintro e w' ⟨rfl, d', S2, H2⟩
      go_wp2
      go_end0
      exact ⟨rfl, d', S2, HG.out d' H2⟩
    · have e1 : ¬ (i : Int) = (j : Int) := by omega
      have e2 : (j : Int) < (i : Int) := by omega
      obtain ⟨i', hi'⟩ : ∃ y, y = i - j := ⟨_, rfl⟩
      have rj : IntKind.i64.wrap ((i : Int) - (j : Int)) = (i' : Int) := by rw [IntKind.wrap_i64]; omega
      have hc1 := Keep.keep (swr_any k zE enc g cb blk off cap x m j d0 dk w0 wr R (by omega) S1.out (by omega) (by omega) (by omega))
      rw [hds] at hc1
      have HG : Keep (∀ d', SwOk dk d' x m j → RotG d d' a m b i' j) := ⟨fun d' h => by rw [hi']; exact G1.out.left hij (by rw [← hx]; exact h)⟩
      have hi2 : i' + j = i := by omega
      clear hx hi' S1
      go_wp2_with fail
      refine (hc1.out).mono ?_
      rintro e w' ⟨rfl, d', S2', H2⟩
      have S2 : Aside (SWK enc k w0 blk off d' w') := S2'
      have G2 : Aside (RotG d d' a m b i' j) := HG.out d' H2
      clear S2' H2
      go_wp2
      go_roundg (i' + j)
      case measure => omega
      case rel => exact ⟨i', j, d', by go_num, by go_num, by omega, hj, by omega, hmj, Nat.le_refl _, S2, G2⟩
end Go.Proofs.YtplafpokgpolkaaGreatDoor
/- slices.symMergeCmpFunc over Members: one ahead. -/
namespace Go.Proofs.YtplafpokgpolkaaGreatDoor
open Go.Shelf Go.RowKit Go.Lib Go.Sort
set_option maxHeartbeats 4000000 in
set_option maxRecDepth 1000000 in
theorem sym1_any {α : Type} [Inhabited α] (k : Nat) (zE : ∀ w, (Go.sizeOf 32).run Tryz.prog w = .ok k w) (enc : α → List Value) (g : Nat) (cb : Array Value) (blk off cap : Nat) (cf : α → α → Int) (lx : α → α → Bool) (t : α → Nat) (O : Ord (ltOf cf) lx t) (d0 : Array α) (w0 : World) (R : RowK enc k w0 blk off d0) (hcmp : CmpLays Tryz.prog g cb enc k cf blk off d0.size w0) (eg : ∀ args w, (callFunc g args).run Tryz.prog w = .ok (.enter g args) w) (hsz : d0.size < 1000000000000) (a m b : Nat) (d : Array α) (w : World) (hs : d0.size = d.size) (S : SWK enc k w0 blk off d w) (P : SymP lx t d a m b) (h1 : m - a = 1) :
    Calls Tryz.prog 136 #[.slice (some ⟨blk, off, none⟩) d.size cap, .int .i64 a, .int .i64 m, .int .i64 b, .func (.func g) #[] cb] w fun e w' => e = .returned (.tuple #[]) ∧ ∃ d', SWK enc k w0 blk off d' w' ∧ Merged lx d d' a b := by
  have hds0 : d0.size = d.size := hs
  obtain ⟨am, mb, bs⟩ : a < m ∧ m < b ∧ b ≤ d.size := ⟨P.am, P.mb, P.bs⟩
  have HP : Aside (SymP lx t d a m b) := P
  have HC : Aside (CmpLays Tryz.prog g cb enc k cf blk off d0.size w0) := hcmp
  have HO : Aside (Ord (ltOf cf) lx t) := O
  have S0 : Aside (SWK enc k w0 blk off d w) := S
  clear S P hcmp O
  have aE : ∀ w, (isAgg 32).run Tryz.prog w = .ok true w := fun w => by kernel_rfl
  have mixed : Tryz.prog.follows Departure.mixedOrders = true := by first | rfl | kernel_rfl
  have rma : IntKind.i64.wrap ((m : Int) - (a : Int)) = ((m - a : Nat) : Int) := by rw [IntKind.wrap_i64]; omega
  have rbm : IntKind.i64.wrap ((b : Int) - (m : Int)) = ((b - m : Nat) : Int) := by rw [IntKind.wrap_i64]; omega
  obtain ⟨u0, hu0⟩ : ∃ x, x = m - a := ⟨_, rfl⟩
  obtain ⟨v0, hv0⟩ : ∃ x, x = b - m := ⟨_, rfl⟩
  rw [← hu0] at rma
  rw [← hv0] at rbm
  have h1z : (u0 : Int) = 1 := by omega
  have HMA : Keep (m = a + 1) := ⟨by omega⟩
  have ham1 : a + 1 ≤ m := by omega
  clear hu0 hv0
  go_enter Tryz.func136, Tryz.ntmps136
  go_wp2
  go_loopg [10, 11] (b - m) (fun kx s10 s11 wr => ∃ (i j : Nat), s10 = .int .i64 i ∧ s11 = .int .i64 j ∧ m ≤ i ∧ i ≤ j ∧ j ≤ b ∧ j - i ≤ kx ∧ Aside (SWK enc k w0 blk off d wr) ∧ Aside (SeaL lx d a b i j))
  case atStart => exact ⟨m, b, by go_num, by go_num, Nat.le_refl _, by omega, Nat.le_refl _, by omega, S0, by have hma := HMA.out; subst hma; exact SeaL.start (by omega)⟩
  case round =>
    clear S0
    obtain ⟨i, j, rfl, rfl, hmi, hij, hjb, hkx, S1, G1⟩ := hrel
    by_cases hlt : i < j
    · have hltz : (i : Int) < (j : Int) := by omega
      obtain ⟨h, hh0⟩ : ∃ x, x = (i + j) / 2 := ⟨_, rfl⟩
      have rdh : ((i : Int) + (j : Int)) / 2 = (h : Int) := by omega
      have hih : i ≤ h ∧ h < j := by omega
      obtain ⟨dk, hdk⟩ : ∃ x, x = d := ⟨_, rfl⟩
      have hdks : dk.size = d.size := by rw [hdk]
      rw [← hdk] at S1
      cases hL : ltOf cf dk[h]! dk[a]! with
      | true =>
        have G2 : Aside (SeaL lx d a b (h + 1) j) := by
          have hma := HMA.out
          subst hma hdk
          exact SeaL.yes HO.out HP.out G1.out hih.1 hih.2 hL
        clear hh0
        have bx1 : ((h : Nat) : Int) < (d.size : Int) := by omega
        have by1 : ((a : Nat) : Int) < (d.size : Int) := by omega
        have hv1 : decide (cf dk[h]! dk[a]! < 0) = true := hL
        obtain ⟨x1, hx1⟩ : ∃ x, x = dk[h]! := ⟨_, rfl⟩
        obtain ⟨y1, hy1⟩ : ∃ x, x = dk[a]! := ⟨_, rfl⟩
        have la1 := S1.out.ld R (by omega) Tryz.prog (h) (by omega)
        have lb1 := S1.out.ld R (by omega) Tryz.prog (a) (by omega)
        rw [← hx1] at la1 hv1
        rw [← hy1] at lb1 hv1
        have hc1 := S1.out.cmp HC.out (by omega) x1 y1
        have hw1 : cf x1 y1 < 0 := of_decide_eq_true hv1
        clear hx1 hy1
        go_wp2_with fail
        go_quiet_grown (first | (go_at_fn g; refine Calls.grown_of (hc1 _ _)))
        have S2 : Aside (SWK enc k w0 blk off dk (grow (wr.drewN nq) osq)) := S1.out.grown nq osq
        clear la1 lb1 hc1 S1
        generalize grow (wr.drewN nq) osq = w2 at S2 ⊢
        clear nq osq
        rw [hdk] at S2
        go_wp2
        go_roundg (j - (h + 1))
        case measure => omega
        case rel => exact ⟨h + 1, j, by go_num, rfl, by omega, by omega, hjb, Nat.le_refl _, S2, G2⟩
      | false =>
        have G2 : Aside (SeaL lx d a b i h) := by
          have hma := HMA.out
          subst hma hdk
          exact SeaL.no HO.out HP.out G1.out hih.1 hih.2 hL
        clear hh0
        have bx2 : ((h : Nat) : Int) < (d.size : Int) := by omega
        have by2 : ((a : Nat) : Int) < (d.size : Int) := by omega
        have hv2 : decide (cf dk[h]! dk[a]! < 0) = false := hL
        obtain ⟨x2, hx2⟩ : ∃ x, x = dk[h]! := ⟨_, rfl⟩
        obtain ⟨y2, hy2⟩ : ∃ x, x = dk[a]! := ⟨_, rfl⟩
        have la2 := S1.out.ld R (by omega) Tryz.prog (h) (by omega)
        have lb2 := S1.out.ld R (by omega) Tryz.prog (a) (by omega)
        rw [← hx2] at la2 hv2
        rw [← hy2] at lb2 hv2
        have hc2 := S1.out.cmp HC.out (by omega) x2 y2
        have hw2 : ¬ cf x2 y2 < 0 := of_decide_eq_false hv2
        clear hx2 hy2
        go_wp2_with fail
        go_quiet_grown (first | (go_at_fn g; refine Calls.grown_of (hc2 _ _)))
        have S2 : Aside (SWK enc k w0 blk off dk (grow (wr.drewN nq) osq)) := S1.out.grown nq osq
        clear la2 lb2 hc2 S1
        generalize grow (wr.drewN nq) osq = w2 at S2 ⊢
        clear nq osq
        rw [hdk] at S2
        go_wp2
        go_roundg (h - i)
        case measure => omega
        case rel => exact ⟨i, h, rfl, by go_num, hmi, by omega, by omega, Nat.le_refl _, S2, G2⟩
    · have hltz : ¬ (i : Int) < (j : Int) := by omega
      obtain rfl : i = j := by omega
      have S9 := S1
      clear S1
      obtain ⟨i1, hi1⟩ : ∃ x, x = i - 1 := ⟨_, rfl⟩
      have ri1 : (i : Int) - 1 = (i1 : Int) := by omega
      have HI1 : Keep (i = i1 + 1) := ⟨by omega⟩
      have hai1 : a ≤ i1 ∧ i1 + 1 ≤ b := by omega
      clear hi1
      go_wp2
      go_loopg [13] (i1 - a) (fun kx2 s13 wr => ∃ (q : Nat) (dk : Array α), s13 = .int .i64 q ∧ a ≤ q ∧ q ≤ i1 ∧ i1 - q ≤ kx2 ∧ Aside (SWK enc k w0 blk off dk wr) ∧ Aside (ShL d dk a b q))
      case atStart => exact ⟨a, d, by go_num, Nat.le_refl _, by omega, Nat.le_refl _, S9, ShL.start d a b⟩
      case round =>
        clear S9
        obtain ⟨q, dk, rfl, haq, hqi, hkx2, S1, H1⟩ := hrel
        have hds : dk.size = d.size := H1.out.size
        by_cases hq : q < i1
        · have hqz : (q : Int) < (i1 : Int) := by omega
          obtain ⟨y, hy⟩ : ∃ y, y = q + 1 := ⟨_, rfl⟩
          have ry : (q : Int) + 1 = (y : Int) := by omega
          have H2 : Aside (ShL d (swp dk q y) a b y) := by
            subst hy
            exact H1.out.step haq (by omega) bs
          have hyd : y < d.size := by omega
          have hyi : y ≤ i1 ∧ a ≤ y ∧ i1 - y < i1 - q := by omega
          clear hy
          go_wp2_with fail
          have bx5 : ((q : Nat) : Int) < (d.size : Int) := by omega
          have by5 : ((y : Nat) : Int) < (d.size : Int) := by omega
          have S2 : Aside (SWK enc k w0 blk off (swp dk (q) (y)) ((wr.drew.setCells blk (off + (q) * k) (enc dk[y]!)).setCells blk (off + (y) * k) (enc dk[q]!))) := S1.out.swapped R (q) (y) (by omega) (by omega)
          have la5 := S1.out.ld1 R (by omega) Tryz.prog (q) (by omega)
          have lb5 := S1.out.ld1 R (by omega) Tryz.prog (y) (by omega)
          have sa5 := S1.out.st1 R (by omega) Tryz.prog (q) (by omega) dk[y]!
          have sb5 := S1.out.st2 R (by omega) Tryz.prog (q) (y) (by omega) (by omega) dk[y]! dk[q]!
          have na5 : (enc dk[q]!).length = k := R.hk _
          have nb5 : (enc dk[y]!).length = k := R.hk _
          generalize enc dk[q]! = cI5 at S2 la5 sb5 na5
          generalize enc dk[y]! = cJ5 at S2 lb5 sa5 sb5 nb5
          clear S1
          go_big_region_o
          clear la5 lb5 sa5 sb5
          generalize (wr.drew.setCells blk (off + (q) * k) cJ5).setCells blk (off + (y) * k) cI5 = w2 at S2 ⊢
          go_wp2
          go_roundg (i1 - y)
          case measure => omega
          case rel => exact ⟨y, swp dk q y, by go_num, hyi.2.1, hyi.1, Nat.le_refl _, S2, H2⟩
        · obtain rfl : q = i1 := by omega
          have hqz : ¬ (q : Int) < (q : Int) := by omega
          go_wp2
          (try simp only [Exit.inBlock, Exit.then]); refine bodyPost_ret (results_none rfl _ _ _) rfl ?_
          have hma := HMA.out
          have hi1 := HI1.out
          subst hma
          subst hi1
          exact ⟨rfl, dk, S1.out, ShL.done HP.out G1.out H1.out⟩
end Go.Proofs.YtplafpokgpolkaaGreatDoor
/- slices.symMergeCmpFunc over Members: one behind. -/
namespace Go.Proofs.YtplafpokgpolkaaGreatDoor
open Go.Shelf Go.RowKit Go.Lib Go.Sort
set_option maxHeartbeats 4000000 in
set_option maxRecDepth 1000000 in
theorem sym2_any {α : Type} [Inhabited α] (k : Nat) (zE : ∀ w, (Go.sizeOf 32).run Tryz.prog w = .ok k w) (enc : α → List Value) (g : Nat) (cb : Array Value) (blk off cap : Nat) (cf : α → α → Int) (lx : α → α → Bool) (t : α → Nat) (O : Ord (ltOf cf) lx t) (d0 : Array α) (w0 : World) (R : RowK enc k w0 blk off d0) (hcmp : CmpLays Tryz.prog g cb enc k cf blk off d0.size w0) (eg : ∀ args w, (callFunc g args).run Tryz.prog w = .ok (.enter g args) w) (hsz : d0.size < 1000000000000) (a m b : Nat) (d : Array α) (w : World) (hs : d0.size = d.size) (S : SWK enc k w0 blk off d w) (P : SymP lx t d a m b) (h1 : ¬ m - a = 1) (h2 : b - m = 1) :
    Calls Tryz.prog 136 #[.slice (some ⟨blk, off, none⟩) d.size cap, .int .i64 a, .int .i64 m, .int .i64 b, .func (.func g) #[] cb] w fun e w' => e = .returned (.tuple #[]) ∧ ∃ d', SWK enc k w0 blk off d' w' ∧ Merged lx d d' a b := by
  have hds0 : d0.size = d.size := hs
  obtain ⟨am, mb, bs⟩ : a < m ∧ m < b ∧ b ≤ d.size := ⟨P.am, P.mb, P.bs⟩
  have HP : Aside (SymP lx t d a m b) := P
  have HC : Aside (CmpLays Tryz.prog g cb enc k cf blk off d0.size w0) := hcmp
  have HO : Aside (Ord (ltOf cf) lx t) := O
  have S0 : Aside (SWK enc k w0 blk off d w) := S
  clear S P hcmp O
  have aE : ∀ w, (isAgg 32).run Tryz.prog w = .ok true w := fun w => by kernel_rfl
  have mixed : Tryz.prog.follows Departure.mixedOrders = true := by first | rfl | kernel_rfl
  have rma : IntKind.i64.wrap ((m : Int) - (a : Int)) = ((m - a : Nat) : Int) := by rw [IntKind.wrap_i64]; omega
  have rbm : IntKind.i64.wrap ((b : Int) - (m : Int)) = ((b - m : Nat) : Int) := by rw [IntKind.wrap_i64]; omega
  obtain ⟨u0, hu0⟩ : ∃ x, x = m - a := ⟨_, rfl⟩
  obtain ⟨v0, hv0⟩ : ∃ x, x = b - m := ⟨_, rfl⟩
  rw [← hu0] at rma
  rw [← hv0] at rbm
  have h1z : ¬ (u0 : Int) = 1 := by omega
  have h1b : ((u0 : Int) == 1) = false := by rw [beq_eq_false_iff_ne]; omega
  have h2z : (v0 : Int) = 1 := by omega
  have h2b : ((v0 : Int) == 1) = true := by rw [beq_iff_eq]; omega
  have HBM : Keep (b = m + 1) := ⟨by omega⟩
  have hmb1 : m + 1 ≤ b := by omega
  clear hu0 hv0
  go_enter Tryz.func136, Tryz.ntmps136
  go_wp2
  go_loopg [14, 15] (m - a) (fun kx s14 s15 wr => ∃ (i j : Nat), s14 = .int .i64 i ∧ s15 = .int .i64 j ∧ a ≤ i ∧ i ≤ j ∧ j ≤ m ∧ j - i ≤ kx ∧ Aside (SWK enc k w0 blk off d wr) ∧ Aside (SeaR lx d a m i j))
  case atStart => exact ⟨a, m, by go_num, by go_num, Nat.le_refl _, by omega, Nat.le_refl _, by omega, S0, SeaR.start (by omega)⟩
  case round =>
    clear S0
    obtain ⟨i, j, rfl, rfl, hmi, hij, hjb, hkx, S1, G1⟩ := hrel
    by_cases hlt : i < j
    · have hltz : (i : Int) < (j : Int) := by omega
      obtain ⟨h, hh0⟩ : ∃ x, x = (i + j) / 2 := ⟨_, rfl⟩
      have rdh : ((i : Int) + (j : Int)) / 2 = (h : Int) := by omega
      have hih : i ≤ h ∧ h < j := by omega
      obtain ⟨dk, hdk⟩ : ∃ x, x = d := ⟨_, rfl⟩
      have hdks : dk.size = d.size := by rw [hdk]
      rw [← hdk] at S1
      cases hL : ltOf cf dk[m]! dk[h]! with
      | true =>
        have G2 : Aside (SeaR lx d a m i h) := by
          have hbm := HBM.out
          subst hbm hdk
          exact SeaR.yes HO.out HP.out G1.out hih.1 hih.2 hL
        clear hh0
        have bx3 : ((m : Nat) : Int) < (d.size : Int) := by omega
        have by3 : ((h : Nat) : Int) < (d.size : Int) := by omega
        have hv3 : decide (cf dk[m]! dk[h]! < 0) = true := hL
        obtain ⟨x3, hx3⟩ : ∃ x, x = dk[m]! := ⟨_, rfl⟩
        obtain ⟨y3, hy3⟩ : ∃ x, x = dk[h]! := ⟨_, rfl⟩
        have la3 := S1.out.ld R (by omega) Tryz.prog (m) (by omega)
        have lb3 := S1.out.ld R (by omega) Tryz.prog (h) (by omega)
        rw [← hx3] at la3 hv3
        rw [← hy3] at lb3 hv3
        have hc3 := S1.out.cmp HC.out (by omega) x3 y3
        have hw3 : cf x3 y3 < 0 := of_decide_eq_true hv3
        clear hx3 hy3
        go_wp2_with fail
        go_quiet_grown (first | (go_at_fn g; refine Calls.grown_of (hc3 _ _)))
        have S2 : Aside (SWK enc k w0 blk off dk (grow (wr.drewN nq) osq)) := S1.out.grown nq osq
        clear la3 lb3 hc3 S1
        generalize grow (wr.drewN nq) osq = w2 at S2 ⊢
        clear nq osq
        rw [hdk] at S2
        go_wp2
        go_roundg (h - i)
        case measure => omega
        case rel => exact ⟨i, h, rfl, by go_num, hmi, by omega, by omega, Nat.le_refl _, S2, G2⟩
      | false =>
        have G2 : Aside (SeaR lx d a m (h + 1) j) := by
          have hbm := HBM.out
          subst hbm hdk
          exact SeaR.no HO.out HP.out G1.out hih.1 hih.2 hL
        clear hh0
        have bx4 : ((m : Nat) : Int) < (d.size : Int) := by omega
        have by4 : ((h : Nat) : Int) < (d.size : Int) := by omega
        have hv4 : decide (cf dk[m]! dk[h]! < 0) = false := hL
        obtain ⟨x4, hx4⟩ : ∃ x, x = dk[m]! := ⟨_, rfl⟩
        obtain ⟨y4, hy4⟩ : ∃ x, x = dk[h]! := ⟨_, rfl⟩
        have la4 := S1.out.ld R (by omega) Tryz.prog (m) (by omega)
        have lb4 := S1.out.ld R (by omega) Tryz.prog (h) (by omega)
        rw [← hx4] at la4 hv4
        rw [← hy4] at lb4 hv4
        have hc4 := S1.out.cmp HC.out (by omega) x4 y4
        have hw4 : ¬ cf x4 y4 < 0 := of_decide_eq_false hv4
        clear hx4 hy4
        go_wp2_with fail
        go_quiet_grown (first | (go_at_fn g; refine Calls.grown_of (hc4 _ _)))
        have S2 : Aside (SWK enc k w0 blk off dk (grow (wr.drewN nq) osq)) := S1.out.grown nq osq
        clear la4 lb4 hc4 S1
        generalize grow (wr.drewN nq) osq = w2 at S2 ⊢
        clear nq osq
        rw [hdk] at S2
        go_wp2
        go_roundg (j - (h + 1))
        case measure => omega
        case rel => exact ⟨h + 1, j, by go_num, rfl, by omega, by omega, hjb, Nat.le_refl _, S2, G2⟩
    · have hltz : ¬ (i : Int) < (j : Int) := by omega
      obtain rfl : i = j := by omega
      have S9 := S1
      clear S1
      go_wp2
      go_loopg [17] (m - i) (fun kx2 s17 wr => ∃ (q : Nat) (dk : Array α), s17 = .int .i64 q ∧ i ≤ q ∧ q ≤ m ∧ q - i ≤ kx2 ∧ Aside (SWK enc k w0 blk off dk wr) ∧ Aside (ShR d dk a m q))
      case atStart => exact ⟨m, d, by go_num, hjb, Nat.le_refl _, Nat.le_refl _, S9, ShR.start d a m⟩
      case round =>
        clear S9
        obtain ⟨q, dk, rfl, hiq, hqm, hkx2, S1, H1⟩ := hrel
        have hds : dk.size = d.size := H1.out.size
        by_cases hq : i < q
        · have hqz : (i : Int) < (q : Int) := by omega
          obtain ⟨y, hy⟩ : ∃ y, y = q - 1 := ⟨_, rfl⟩
          have ry : (q : Int) - 1 = (y : Int) := by omega
          have H2 : Aside (ShR d (swp dk q y) a m y) := by
            obtain rfl : q = y + 1 := by omega
            exact H1.out.step (by omega) (by omega) (by omega)
          have hyd : y < d.size ∧ q < d.size := by omega
          have hyi : y ≤ m ∧ i ≤ y ∧ y - i < q - i := by omega
          clear hy
          go_wp2_with fail
          have bx6 : ((q : Nat) : Int) < (d.size : Int) := by omega
          have by6 : ((y : Nat) : Int) < (d.size : Int) := by omega
          have S2 : Aside (SWK enc k w0 blk off (swp dk (q) (y)) ((wr.drew.setCells blk (off + (q) * k) (enc dk[y]!)).setCells blk (off + (y) * k) (enc dk[q]!))) := S1.out.swapped R (q) (y) (by omega) (by omega)
          have la6 := S1.out.ld1 R (by omega) Tryz.prog (q) (by omega)
          have lb6 := S1.out.ld1 R (by omega) Tryz.prog (y) (by omega)
          have sa6 := S1.out.st1 R (by omega) Tryz.prog (q) (by omega) dk[y]!
          have sb6 := S1.out.st2 R (by omega) Tryz.prog (q) (y) (by omega) (by omega) dk[y]! dk[q]!
          have na6 : (enc dk[q]!).length = k := R.hk _
          have nb6 : (enc dk[y]!).length = k := R.hk _
          generalize enc dk[q]! = cI6 at S2 la6 sb6 na6
          generalize enc dk[y]! = cJ6 at S2 lb6 sa6 sb6 nb6
          clear S1
          go_big_region_o
          clear la6 lb6 sa6 sb6
          generalize (wr.drew.setCells blk (off + (q) * k) cJ6).setCells blk (off + (y) * k) cI6 = w2 at S2 ⊢
          go_wp2
          go_roundg (y - i)
          case measure => omega
          case rel => exact ⟨y, swp dk q y, by go_num, hyi.2.1, hyi.1, Nat.le_refl _, S2, H2⟩
        · obtain rfl : q = i := by omega
          have hqz : ¬ (q : Int) < (q : Int) := by omega
          go_wp2
          (try simp only [Exit.inBlock, Exit.then]); refine bodyPost_ret (results_none rfl _ _ _) rfl ?_
          have hbm := HBM.out
          subst hbm
          exact ⟨rfl, dk, S1.out, ShR.done HP.out G1.out H1.out⟩
end Go.Proofs.YtplafpokgpolkaaGreatDoor
