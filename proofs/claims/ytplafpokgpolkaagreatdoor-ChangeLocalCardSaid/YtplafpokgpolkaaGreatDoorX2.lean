/- PARTS OF ONE PROOF, set in one file: FewS2, EqP, CompG, CompM, CompN, CompR, Grw, Tree19, ChLocL. Each part tells its own conditions. -/
import Derived.Test.YtplafpokgpolkaaGreatDoorX1
/- portolanlaw19.Few. -/
namespace Go.Proofs.YtplafpokgpolkaaGreatDoor
open Go.RowKit
set_option maxHeartbeats 8000000 in
set_option maxRecDepth 100000 in
theorem few19K (v : Value) (l : List Mv) (w : World) (K : Nat → Prop) (hK : ∀ b, K b → b < w.heap.size) (hr : Mbs w (· < w.heap.size) K v l) :
    Calls Tryz.prog 21 #[v] w fun e w' => ∃ v' l', e = .returned v' ∧ l'.map (·.1) = few19 (l.map (·.1)) ∧ RowM w.heap.size K w' v' l' ∧ Below w.heap.size w w' := by
  have HK := Keep.keep hK
  obtain ⟨a, cap, hv, hcap, hmx, h3⟩ := hr.rd.shape
  have HR := Keep.keep hr; have H3 := Keep.keep h3
  unfold maxLen at hmx
  clear hr h3 hK
  subst hv
  go_enter Tryz.func21, Tryz.ntmps21
  go_wp2_with fail
  go_loopg [3, 10] (min l.length 14) (fun g u3 u10 wx => ∃ (k : Nat) (acc : List Mv), k + g = min l.length 14 ∧ u10 = .int .i64 (k : Int) ∧ acc.map (·.1) = ((l.map (·.1)).take k).map cut19 ∧ acc.length = k ∧ RowM w.heap.size K wx u3 acc ∧ Below w.heap.size w wx)
  case atStart => exact ⟨0, [], by omega, rfl, rfl, rfl, RowM.nil _ _ _, Below.refl _ _⟩
  case round =>
    obtain ⟨k, acc, hkg, rfl, hmap, hal, hrow, hbl⟩ := hrel
    have HM := Keep.keep hmap; have HH := Keep.keep hrow; have HB := Keep.keep hbl
    obtain ⟨a3, c3, hu3, -⟩ := (ownsV_reads hrow.own).shape
    rw [hal] at hu3
    subst hu3
    clear hmap hrow hbl
    cases gk with
    | zero =>
      have HF : Keep (acc.map (·.1) = few19 (l.map (·.1))) := ⟨by
        rw [HM.out]; unfold few19
        congr 1
        rw [List.take_eq_take_iff, List.length_map]; omega⟩
      by_cases hk : k < l.length
      · obtain rfl : k = 14 := by omega
        have hd1 : decide ((14 : Int) < (l.length : Int)) = true := decide_eq_true (by omega)
        obtain ⟨b, off, rfl, hbl⟩ : ∃ b off, a = some ⟨b, off, none⟩ ∧ b < w.heap.size := by
          rcases H3.out with h | ⟨b, off, h, hb⟩
          · omega
          · exact ⟨b, off, h, hb⟩
        have hrx := HR.out.below HB.out (fun b hb => hb) HK.out
        have hld := hrx.load hk
        clear hrx
        obtain ⟨cx, hcx⟩ : ∃ cx, mcell l[14] = cx := ⟨_, rfl⟩
        have hsz : cx.size = 9 := by rw [← hcx]; rfl
        have HSZ := Keep.keep hsz
        have hna := (HR.out.nd _ (List.getElem_mem hk))
        have h1c : cx.all (·.oneCell') = true := by rw [← hcx]; exact mcell_one hna
        have H1C := Keep.keep h1c
        rw [hcx] at hld
        clear hcx hsz h1c hna
        go_wp2_with (first | ((with_reducible refine arm_loadM hld ?_ ?_); (focus rfl); simp only [Act.put, List.setIfInBounds_toArray, List.set_cons_succ, List.set_cons_zero]) | ((with_reducible refine arm_storeRow (Row.new wr 32 _) aggM ?_ HSZ.out H1C.out ?_ ?_ ?_); (focus rfl); (focus rfl); (focus rfl); simp only [Act.put, World.setRow_alloc_new]))
        go_ret
        exact ⟨_, rfl, acc, HF.out, HH.out.below ((Below.refl _ _).alloc (Nat.le_refl _) _), HB.out.trans (((Below.refl _ _).alloc (Nat.le_refl _) _).mono HB.out.size)⟩
      · have hd1 : decide ((k : Int) < (l.length : Int)) = false := decide_eq_false (by omega)
        go_wp2_with fail
        go_ret
        exact ⟨_, rfl, acc, HF.out, HH.out, HB.out⟩
    | succ g =>
      generalize wr = wo at *
      have hk : k < l.length := by omega
      have hd1 : decide ((k : Int) < (l.length : Int)) = true := decide_eq_true (by omega)
      have hd2 : ((k : Int) == 14) = false := by rw [beq_eq_false_iff_ne]; omega
      obtain ⟨b, off, rfl, hbl⟩ : ∃ b off, a = some ⟨b, off, none⟩ ∧ b < w.heap.size := by
        rcases H3.out with h | ⟨b, off, h, hb⟩
        · omega
        · exact ⟨b, off, h, hb⟩
      have hrx := HR.out.below HB.out (fun b hb => hb) HK.out
      have hld := hrx.load hk
      have hndx := HR.out.nd _ (List.getElem_mem hk)
      have HTK : Keep (((l.map (·.1)).take (k + 1)).map cut19 = ((l.map (·.1)).take k).map cut19 ++ [cut19 l[k].1]) := ⟨by
        rw [List.take_succ_eq_append_getElem (by simpa using hk), List.map_append]; simp⟩
      clear hrx
      generalize l[k] = x at *
      obtain ⟨⟨xp, ⟨kind, mode, uid, gid, time, attrs, data, link⟩⟩, av, dv⟩ := x
      obtain ⟨aa, la, ca, ad, ld, cd, e1, e2⟩ := hndx.shape
      dsimp only at hndx e1 e2
      subst e1 e2
      have HX := Keep.keep hndx
      unfold mcell mbC strV at hld
      dsimp only at hld
      clear hndx
      go_upto_region 6 with ((with_reducible refine arm_loadM hld ?_ ?_); (focus rfl); simp only [Act.put, List.setIfInBounds_toArray, List.set_cons_succ, List.set_cons_zero])
      refine wp_world (R := fun w5 => Hp NoM wo w5 [rowA wo.heap.size 32 (fsR kind mode uid gid time (.slice aa la ca) ad ld cd xp link)]) ((Hp.begin NoM wo).newRow _ _) ?_
      intro w5 H5
      obtain ⟨B5, hB5⟩ : ∃ B5, wo.heap.size = B5 := ⟨_, rfl⟩
      have HB5 := Keep.keep hB5
      rw [hB5] at H5 ⊢
      clear hB5
      have hlt5 := (H5.out.row 0 rfl).lt
      have HDL : Keep (ld = data.length ∧ ld ≤ cd) := ⟨⟨HX.out.dt.len.1, by have := HX.out.dt.len; dsimp only at this; omega⟩⟩
      clear hld
      refine wp_region_spcO [some 17, some 18, some 19, some 20, some 21, some 22, some 23, some 24, some 25, some 26, some 27, some 28, some 29, some 30, some 31, some 32, some 33, some 34, some 35, some 36, some 37, some 38, none, some 39, some 40, none, some 41, some 42, none] (fsC w5 B5 kind mode uid gid time (.slice aa la ca) ad ld cd xp link) (fsT B5 xp link ad ld cd) (fsS B5 xp link ad ld cd) (by kernel_rfl) rfl (by decide) (by intro d hd; simp at hd; show d < 91; omega) (by kernel_rfl) ⟨(Chg.refl _ _ _).drew, xp, link, ld, .inl rfl, .inl rfl, .inl rfl, H5.out.row 0 rfl⟩ (fun i v w w' h _ hb => fsT_stays i v w w' h hb) ?_ ?_
      · intro i hi a1 w6 hF hC hT
        have hi : i < 29 := hi
        obtain ⟨hCh, q, j, m, hq, hj, hm, hrow⟩ := id hC
        have b5 : a1.eval (.tmp 5) = .pointer (some ⟨B5, 0, none⟩) := (hF.same 5 (by decide)).trans rfl
        have hkr : fsS B5 xp link ad ld cd w6 w6 := fsS.refl _ _ _ _ _ _ _
        rcases (by omega : i = 0 ∨ i = 1 ∨ i = 2 ∨ i = 3 ∨ i = 4 ∨ i = 5 ∨ i = 6 ∨ i = 7 ∨ i = 8 ∨ i = 9 ∨ i = 10 ∨ i = 11 ∨ i = 12 ∨ i = 13 ∨ i = 14 ∨ i = 15 ∨ i = 16 ∨ i = 17 ∨ i = 18 ∨ i = 19 ∨ i = 20 ∨ i = 21 ∨ i = 22 ∨ i = 23 ∨ i = 24 ∨ i = 25 ∨ i = 26 ∨ i = 27 ∨ i = 28) with rfl | rfl | rfl | rfl | rfl | rfl | rfl | rfl | rfl | rfl | rfl | rfl | rfl | rfl | rfl | rfl | rfl | rfl | rfl | rfl | rfl | rfl | rfl | rfl | rfl | rfl | rfl | rfl | rfl
        · exact spcO_val (d := 17) rfl (wanted_none rfl) (run_fieldAddr (m := 0) Tryz.underlying32 rfl (by kernel_rfl) b5) hC hkr rfl
        · have hx : a1.eval (.tmp 17) = .pointer (some ⟨B5, 0, none⟩) := hT 0 (by kernel_rfl)
          exact spcO_val (d := 18) rfl (wanted_none rfl) (run_loadCell (run_isAgg_plain Tryz.underlying9 rfl) (hrow.cell (i := 0) rfl) hx) hC hkr ⟨q, rfl, hq⟩
        · obtain ⟨q', hx, hq'⟩ := hT 1 (by kernel_rfl)
          have hx : a1.eval (.tmp 18) = .string ⟨q'.toArray⟩ := hx
          refine spcO_call (d := 19) (vs := #[.string ⟨q'.toArray⟩]) rfl (wanted_none rfl) (Go.Proofs.enters_of Tryz.func66 (by kernel_rfl) rfl) (by simp [hx]) ?_
          refine (short_any q' w6).mono ?_
          rintro e wz ⟨rfl, rfl⟩
          refine ⟨_, rfl, hC, hkr, ?_⟩
          show Value.string _ = Value.string _
          rw [hq'.cut]
        · exact spcO_val (d := 20) rfl (wanted_none rfl) (run_fieldAddr (m := 7) Tryz.underlying32 rfl (by kernel_rfl) b5) hC hkr rfl
        · have hx : a1.eval (.tmp 20) = .pointer (some ⟨B5, 1, none⟩) := hT 3 (by kernel_rfl)
          exact spcO_val (d := 21) rfl (wanted_none rfl) (run_fieldAddr (m := 0) Tryz.underlying30 rfl (by kernel_rfl) hx) hC hkr rfl
        · have hx : a1.eval (.tmp 21) = .pointer (some ⟨B5, 8, none⟩) := hT 4 (by kernel_rfl)
          exact spcO_val (d := 22) rfl (wanted_none rfl) (run_loadCell (run_isAgg_plain Tryz.underlying9 rfl) (hrow.cell (i := 8) rfl) hx) hC hkr ⟨j, rfl, hj⟩
        · exact spcO_val (d := 23) rfl (wanted_none rfl) (run_fieldAddr (m := 7) Tryz.underlying32 rfl (by kernel_rfl) b5) hC hkr rfl
        · have hx : a1.eval (.tmp 23) = .pointer (some ⟨B5, 1, none⟩) := hT 6 (by kernel_rfl)
          exact spcO_val (d := 24) rfl (wanted_none rfl) (run_fieldAddr (m := 0) Tryz.underlying30 rfl (by kernel_rfl) hx) hC hkr rfl
        · have hx : a1.eval (.tmp 24) = .pointer (some ⟨B5, 8, none⟩) := hT 7 (by kernel_rfl)
          exact spcO_val (d := 25) rfl (wanted_none rfl) (run_loadCell (run_isAgg_plain Tryz.underlying9 rfl) (hrow.cell (i := 8) rfl) hx) hC hkr ⟨j, rfl, hj⟩
        · obtain ⟨q', hx, hq'⟩ := hT 8 (by kernel_rfl)
          exact spcO_val (d := 26) rfl (wanted_none rfl) (run_lenS hx) hC hkr ⟨q', rfl, hq'⟩
        · obtain ⟨q', hx, hq'⟩ := hT 9 (by kernel_rfl)
          refine spcO_val (d := 27) rfl (wanted_none rfl) (run_minC hx rfl) hC hkr ?_
          show Value.int .i64 _ = Value.int .i64 _
          have := hq'.mn
          congr 1
          omega
        · obtain ⟨q', hx, hq'⟩ := hT 5 (by kernel_rfl)
          have hy : a1.eval (.tmp 27) = .int .i64 ((min link.length 40 : Nat) : Int) := hT 10 (by kernel_rfl)
          refine spcO_val (d := 28) rfl (wanted_none rfl) (run_sliceS hq'.le hx hy) hC hkr ?_
          show Value.string _ = Value.string _
          rw [hq'.cut]
        · exact spcO_val (d := 29) rfl (wanted_none rfl) (run_fieldAddr (m := 7) Tryz.underlying32 rfl (by kernel_rfl) b5) hC hkr rfl
        · have hx : a1.eval (.tmp 29) = .pointer (some ⟨B5, 1, none⟩) := hT 12 (by kernel_rfl)
          exact spcO_val (d := 30) rfl (wanted_none rfl) (run_fieldAddr (m := 0) Tryz.underlying30 rfl (by kernel_rfl) hx) hC hkr rfl
        · have hx : a1.eval (.tmp 30) = .pointer (some ⟨B5, 7, none⟩) := hT 13 (by kernel_rfl)
          exact spcO_val (d := 31) rfl (wanted_none rfl) (run_loadCell (run_isAgg_plain Tryz.underlying28 rfl) (hrow.cell (i := 7) rfl) hx) hC hkr ⟨m, rfl, hm⟩
        · exact spcO_val (d := 32) rfl (wanted_none rfl) (run_fieldAddr (m := 7) Tryz.underlying32 rfl (by kernel_rfl) b5) hC hkr rfl
        · have hx : a1.eval (.tmp 32) = .pointer (some ⟨B5, 1, none⟩) := hT 15 (by kernel_rfl)
          exact spcO_val (d := 33) rfl (wanted_none rfl) (run_fieldAddr (m := 0) Tryz.underlying30 rfl (by kernel_rfl) hx) hC hkr rfl
        · have hx : a1.eval (.tmp 33) = .pointer (some ⟨B5, 7, none⟩) := hT 16 (by kernel_rfl)
          exact spcO_val (d := 34) rfl (wanted_none rfl) (run_loadCell (run_isAgg_plain Tryz.underlying28 rfl) (hrow.cell (i := 7) rfl) hx) hC hkr ⟨m, rfl, hm⟩
        · obtain ⟨m', hx, hm'⟩ := hT 17 (by kernel_rfl)
          exact spcO_val (d := 35) rfl (wanted_none rfl) (run_lenV hx) hC hkr ⟨m', rfl, hm'⟩
        · obtain ⟨m', hx, hm'⟩ := hT 18 (by kernel_rfl)
          refine spcO_val (d := 36) rfl (wanted_none rfl) (run_minC hx rfl) hC hkr ?_
          show Value.int .i64 _ = Value.int .i64 _
          rw [hm'.mn]
        · obtain ⟨m', hx, hm'⟩ := hT 14 (by kernel_rfl)
          have hy : a1.eval (.tmp 36) = .int .i64 ((min ld 40 : Nat) : Int) := hT 19 (by kernel_rfl)
          exact spcO_val (d := 37) rfl (wanted_none rfl) (run_sliceV (by have := HDL.out.2; omega) hx hy) hC hkr rfl
        · exact spcO_val (d := 38) rfl (wanted_none rfl) (run_fieldAddr (m := 0) Tryz.underlying32 rfl (by kernel_rfl) b5) hC hkr rfl
        · have hx : a1.eval (.tmp 38) = .pointer (some ⟨B5, 0, none⟩) := hT 21 (by kernel_rfl)
          have hy : a1.eval (.tmp 19) = .string ⟨(shortS xp).toArray⟩ := hT 2 (by kernel_rfl)
          have hrow' : Row (w6.setCell ⟨B5, 0, none⟩ (.string ⟨(shortS xp).toArray⟩)) B5 32 (fsR kind mode uid gid time (.slice aa la ca) ad m cd (shortS xp) j) := hrow.set' 0 _ rfl
          refine spcO_skip rfl (wanted_none rfl) (run_storeS ⟨_, hrow.cell (i := 0) rfl⟩ (hrow.frozen 0) hx hy) ⟨Chg.setCell (M := fun b => b = B5) hCh (p := ⟨B5, 0, none⟩) (.inr rfl) _, shortS xp, j, m, .inr rfl, hj, hm, hrow'⟩ ⟨fun _ => hrow'.cell (i := 0) rfl, fun h => by rw [hrow'.cell (i := 8) (v := .string ⟨j.toArray⟩) rfl, ← hrow.cell (i := 8) (v := .string ⟨j.toArray⟩) rfl]; exact h, fun h => by rw [hrow'.cell (i := 7) (v := .slice ad m cd) rfl, ← hrow.cell (i := 7) (v := .slice ad m cd) rfl]; exact h⟩ (hrow'.cell (i := 0) rfl)
        · exact spcO_val (d := 39) rfl (wanted_none rfl) (run_fieldAddr (m := 7) Tryz.underlying32 rfl (by kernel_rfl) b5) hC hkr rfl
        · have hx : a1.eval (.tmp 39) = .pointer (some ⟨B5, 1, none⟩) := hT 23 (by kernel_rfl)
          exact spcO_val (d := 40) rfl (wanted_none rfl) (run_fieldAddr (m := 0) Tryz.underlying30 rfl (by kernel_rfl) hx) hC hkr rfl
        · have hx : a1.eval (.tmp 40) = .pointer (some ⟨B5, 8, none⟩) := hT 24 (by kernel_rfl)
          have hy : a1.eval (.tmp 28) = .string ⟨(link.take 40).toArray⟩ := hT 11 (by kernel_rfl)
          have hrow' : Row (w6.setCell ⟨B5, 8, none⟩ (.string ⟨(link.take 40).toArray⟩)) B5 32 (fsR kind mode uid gid time (.slice aa la ca) ad m cd q (link.take 40)) := hrow.set' 8 _ rfl
          refine spcO_skip rfl (wanted_none rfl) (run_storeS ⟨_, hrow.cell (i := 8) rfl⟩ (hrow.frozen 8) hx hy) ⟨Chg.setCell (M := fun b => b = B5) hCh (p := ⟨B5, 8, none⟩) (.inr rfl) _, q, link.take 40, m, hq, .inr rfl, hm, hrow'⟩ ⟨fun h => by rw [hrow'.cell (i := 0) (v := .string ⟨q.toArray⟩) rfl, ← hrow.cell (i := 0) (v := .string ⟨q.toArray⟩) rfl]; exact h, fun _ => hrow'.cell (i := 8) rfl, fun h => by rw [hrow'.cell (i := 7) (v := .slice ad m cd) rfl, ← hrow.cell (i := 7) (v := .slice ad m cd) rfl]; exact h⟩ (hrow'.cell (i := 8) rfl)
        · exact spcO_val (d := 41) rfl (wanted_none rfl) (run_fieldAddr (m := 7) Tryz.underlying32 rfl (by kernel_rfl) b5) hC hkr rfl
        · have hx : a1.eval (.tmp 41) = .pointer (some ⟨B5, 1, none⟩) := hT 26 (by kernel_rfl)
          exact spcO_val (d := 42) rfl (wanted_none rfl) (run_fieldAddr (m := 0) Tryz.underlying30 rfl (by kernel_rfl) hx) hC hkr rfl
        · have hx : a1.eval (.tmp 42) = .pointer (some ⟨B5, 7, none⟩) := hT 27 (by kernel_rfl)
          have hy : a1.eval (.tmp 37) = .slice ad (min ld 40) cd := hT 20 (by kernel_rfl)
          have hrow' : Row (w6.setCell ⟨B5, 7, none⟩ (.slice ad (min ld 40) cd)) B5 32 (fsR kind mode uid gid time (.slice aa la ca) ad (min ld 40) cd q j) := hrow.set' 7 _ rfl
          refine spcO_skip rfl (wanted_none rfl) (run_storeV ⟨_, hrow.cell (i := 7) rfl⟩ (hrow.frozen 7) hx hy) ⟨Chg.setCell (M := fun b => b = B5) hCh (p := ⟨B5, 7, none⟩) (.inr rfl) _, q, j, min ld 40, hq, hj, .inr rfl, hrow'⟩ ⟨fun h => by rw [hrow'.cell (i := 0) (v := .string ⟨q.toArray⟩) rfl, ← hrow.cell (i := 0) (v := .string ⟨q.toArray⟩) rfl]; exact h, fun h => by rw [hrow'.cell (i := 8) (v := .string ⟨j.toArray⟩) rfl, ← hrow.cell (i := 8) (v := .string ⟨j.toArray⟩) rfl]; exact h, fun _ => hrow'.cell (i := 7) rfl⟩ (hrow'.cell (i := 7) rfl)
      · intro a1 w6 ha hC hT
        obtain ⟨hCh, q, j, m, hq, hj, hm, hrow⟩ := hC
        have h22 : w6.cell? ⟨B5, 0, none⟩ = some (.string ⟨(shortS xp).toArray⟩) := hT 22 (by decide)
        have h25 : w6.cell? ⟨B5, 8, none⟩ = some (.string ⟨(link.take 40).toArray⟩) := hT 25 (by decide)
        have h28 : w6.cell? ⟨B5, 7, none⟩ = some (.slice ad (min ld 40) cd) := hT 28 (by decide)
        have e1 := (hrow.cell (i := 0) (v := .string ⟨q.toArray⟩) rfl).symm.trans h22
        have e2 := (hrow.cell (i := 8) (v := .string ⟨j.toArray⟩) rfl).symm.trans h25
        have e3 := (hrow.cell (i := 7) (v := .slice ad m cd) rfl).symm.trans h28
        injection e1 with e1
        injection e2 with e2
        injection e3 with e3
        have hrow6 : Row w6 B5 32 (fsR kind mode uid gid time (.slice aa la ca) ad (min ld 40) cd (shortS xp) (link.take 40)) := by
          unfold fsR at hrow ⊢
          rw [e1, e2, e3] at hrow
          exact hrow
        have H6 := Keep.keep (H5.out.upd 0 rfl (rowA B5 32 (fsR kind mode uid gid time (.slice aa la ca) ad (min ld 40) cd (shortS xp) (link.take 40))) (hCh.mono (Nat.le_refl _) (fun _ h => h)) hrow6 (fun b hb => .inl hb))
        simp only [List.filterMap_cons, List.filterMap_nil, List.foldl_cons, List.foldl_nil] at ha
        clear hT hCh hq hj hm hrow h22 h25 h28 e1 e2 e3 hrow6 H5
        generalize slot a1 17 = x17 at *
        generalize slot a1 18 = x18 at *
        generalize slot a1 19 = x19 at *
        generalize slot a1 20 = x20 at *
        generalize slot a1 21 = x21 at *
        generalize slot a1 22 = x22 at *
        generalize slot a1 23 = x23 at *
        generalize slot a1 24 = x24 at *
        generalize slot a1 25 = x25 at *
        generalize slot a1 26 = x26 at *
        generalize slot a1 27 = x27 at *
        generalize slot a1 28 = x28 at *
        generalize slot a1 29 = x29 at *
        generalize slot a1 30 = x30 at *
        generalize slot a1 31 = x31 at *
        generalize slot a1 32 = x32 at *
        generalize slot a1 33 = x33 at *
        generalize slot a1 34 = x34 at *
        generalize slot a1 35 = x35 at *
        generalize slot a1 36 = x36 at *
        generalize slot a1 37 = x37 at *
        generalize slot a1 38 = x38 at *
        generalize slot a1 39 = x39 at *
        generalize slot a1 40 = x40 at *
        generalize slot a1 41 = x41 at *
        generalize slot a1 42 = x42 at *
        subst ha
        simp only [Act.put, List.setIfInBounds_toArray, List.set_cons_succ, List.set_cons_zero]
        have hfr := H6.out.row 0 rfl
        unfold fsR at hfr
        have k6 := hfr.cell (i := 6) rfl
        have f6 := hfr.frozen 6
        have HLA : Keep (la = attrs.length ∧ la ≤ ca) := ⟨⟨HX.out.at_.lens.1, by have := HX.out.at_.lens; omega⟩⟩
        have hmn : min (la : Int) 4 = ((min la 4 : Nat) : Int) := by omega
        have hsl := fun wx => slice_ato aa la ca (min la 4) .i64 (by have := HLA.out.2; omega) wx
        have hw6 : w.heap.size ≤ w6.heap.size := Nat.le_trans HB.out.size H6.out.size
        have HRA : Keep (RdV w6 (· < w6.heap.size) 2 (.slice aa (min la 4) ca) (attrs.take 4).length (rcells (attrs.take 4))) := ⟨by
          have hb6 : Below w.heap.size w w6 := HB.out.trans (H6.out.below.mono HB.out.size)
          have hx := HX.out.at_.below hb6 HK.out
          dsimp only at hx
          have h1 := RdV.take2 (by rw [HLA.out.1] at hx; exact hx) (min attrs.length 4) (by omega)
          have e : attrs.take (min attrs.length 4) = attrs.take 4 := by rw [List.take_eq_take_iff]; omega
          rw [e] at h1
          rw [HLA.out.1]
          exact h1.mono (fun b hb => Nat.lt_of_lt_of_le (HK.out b hb) hw6)⟩
        have HCL := Keep.keep (clA_own _ (attrs.take 4) w6 HRA.out (by rw [List.length_take]; omega))
        obtain ⟨n4, hn4⟩ : ∃ n4, min la 4 = n4 := ⟨_, rfl⟩
        have HN4 : Keep (n4 = (attrs.take 4).length ∧ n4 ≤ 4) := ⟨⟨by rw [← hn4, List.length_take, HLA.out.1]; omega, by omega⟩⟩
        rw [hn4] at hsl hmn HCL
        clear hfr hn4 HRA
        go_wp2_with fail
        refine HCL.out.mono ?_
        rintro e w7 ⟨v7, rfl, ho7, hb7⟩
        have H7 := Keep.keep (H6.out.push (slA w6.heap.size 97 2 v7 (attrs.take 4).length (rcells (attrs.take 4))) (.of_below hb7) ho7 (fun b hb => World.ownsRow.lt ho7 b hb))
        have HW6 : Keep (wo.heap.size ≤ w6.heap.size) := ⟨H6.out.size⟩
        have hal2 : acc.length = k := hal
        clear HCL hmn hsl H6 hb7
        obtain ⟨a7, c7, hv7, -⟩ := (ownsV_reads ho7).shape
        rw [← HN4.out.1] at hv7
        subst hv7
        have hr7 := H7.out.row 0 rfl
        unfold fsR at hr7
        have k6 := hr7.cell (i := 6) rfl
        have f6 := hr7.frozen 6
        clear ho7 hr7
        go_wp2_with fail
        have hn47 : n4 = (attrs.take 4).length := HN4.out.1
        have hn44 : n4 ≤ 4 := HN4.out.2
        refine wp_world (R := fun w8 => Hp NoM wo w8 [rowA B5 32 (fsR kind mode uid gid time (.slice a7 n4 c7) ad (min ld 40) cd (shortS xp) (link.take 40)), slA w6.heap.size 97 2 (.slice a7 n4 c7) n4 (rcells (attrs.take 4))]) (by rw [hn47] at H7 ⊢; exact H7.out.setCell 0 rfl 6 _ rfl) ?_
        intro w8 H8
        clear H7 k6 f6
        have HN47 := Keep.keep hn47
        clear hn47
        go_loopg [59] n4 (fun g u59 wx => ∃ i : Nat, i + g = n4 ∧ u59 = .int .i64 (i : Int) ∧ Hp NoM wo wx [rowA B5 32 (fsR kind mode uid gid time (.slice a7 n4 c7) ad (min ld 40) cd (shortS xp) (link.take 40)), slA w6.heap.size 97 2 (.slice a7 n4 c7) n4 (rcells (((attrs.take 4).take i).map cutB ++ (attrs.take 4).drop i))])
        case atStart => exact ⟨0, by omega, rfl, by simpa using H8.out⟩
        case round =>
          obtain ⟨i, hig, rfl, hHi⟩ := hrel
          have HI := Keep.keep hHi
          clear hHi H8
          have hll : (((attrs.take 4).take i).map cutB ++ (attrs.take 4).drop i).length = n4 := by
            have := HN47.out
            rw [List.length_append, List.length_map, List.length_take, List.length_drop]; omega
          have HLL := Keep.keep hll
          clear hll
          cases gk with
          | zero =>
            obtain rfl : i = n4 := by omega
            have HFA : Keep (((attrs.take 4).take i).map cutB ++ (attrs.take 4).drop i = (attrs.take 4).map cutB) := ⟨by
              rw [HN47.out, List.take_length, List.drop_length, List.append_nil]⟩
            have HRW := Keep.keep (HI.out.row 0 rfl)
            unfold fsR at HRW
            have HSZ : Keep ((#[.string ⟨(shortS xp).toArray⟩, .int .i64 kind, .int .u32 mode, .int .u32 uid, .int .u32 gid, .int .i64 time, .slice a7 i c7, .slice ad (min ld 40) cd, .string ⟨(link.take 40).toArray⟩] : Array Value).size = 9) := ⟨rfl⟩
            go_wp2_with (first | ((with_reducible refine arm_loadRow HRW.out aggM HSZ.out ?_ ?_); (focus rfl); simp only [Act.put, List.setIfInBounds_toArray, List.set_cons_succ, List.set_cons_zero]) | (with_reducible refine arm_stop ?_))
            refine Stopped.out ?_
            have hoi := HI.out.sl 1 rfl
            rw [HFA.out] at hoi
            have hbx := HI.out.below
            have HAL : Keep (Below wr.heap.size wr (wr.alloc (.cells #[.string ⟨(shortS xp).toArray⟩, .int .i64 kind, .int .u32 mode, .int .u32 uid, .int .u32 gid, .int .i64 time, .slice a7 i c7, .slice ad (min ld 40) cd, .string ⟨(link.take 40).toArray⟩] 32))) := ⟨(Below.refl _ _).alloc (Nat.le_refl _) _⟩
            have hny : NdR wr (fun b => K b ∨ (w6.heap.size ≤ b ∧ b < wr.heap.size)) (cut19 (xp, ⟨kind, mode, uid, gid, time, attrs, data, link⟩)).2 (.slice a7 i c7) (.slice ad (min ld 40) cd) := by
              refine ⟨?_, ?_⟩
              · have h1 := ownsV_reads hoi
                have e : i = ((attrs.take 4).map cutB).length := by rw [List.length_map]; exact HN47.out
                have h2 : RdV wr (fun b => w6.heap.size ≤ b ∧ b < wr.heap.size ∧ (Value.slice a7 i c7).ownBlock = some b) 2 (.slice a7 i c7) ((attrs.take 4).map cutB).length (rcells ((attrs.take 4).map cutB)) := by rw [← e]; exact h1
                exact h2.mono (fun b hb => .inr ⟨hb.1, hb.2.1⟩)
              · have hb6 : Below w.heap.size w wr := HB.out.trans (hbx.mono HB.out.size)
                have h1 := reads_to (HX.out.dt.below hb6 HK.out) (min ld 40) (by have := HDL.out.1; dsimp only; omega)
                have e : data.take (min ld 40) = data.take 40 := by rw [List.take_eq_take_iff]; have := HDL.out.1; omega
                dsimp only at h1
                rw [e] at h1
                exact h1.mono (fun b hb => .inl hb)
            have hsx := hbx.size
            have hal := HAL.out
            have hrA := (HH.out.below hbx).below hal
            have hob := World.ownsRow.lt HH.out.own
            have hm : Mbs (wr.alloc (.cells #[.string ⟨(shortS xp).toArray⟩, .int .i64 kind, .int .u32 mode, .int .u32 uid, .int .u32 gid, .int .i64 time, .slice a7 i c7, .slice ad (min ld 40) cd, .string ⟨(link.take 40).toArray⟩] 32)) (fun _ => True) (fun b => K b ∨ (w6.heap.size ≤ b ∧ b < wr.heap.size)) (.slice (some ⟨wr.heap.size, 0, none⟩) 1 1) [(cut19 (xp, ⟨kind, mode, uid, gid, time, attrs, data, link⟩), .slice a7 i c7, .slice ad (min ld 40) cd)] :=
              ⟨RdV.new (N := fun _ => True) 32 [.string ⟨(shortS xp).toArray⟩, .int .i64 kind, .int .u32 mode, .int .u32 uid, .int .u32 gid, .int .i64 time, .slice a7 i c7, .slice ad (min ld 40) cd, .string ⟨(link.take 40).toArray⟩] 9 1 _ rfl rfl (by unfold maxLen; omega) trivial, fun z hz => by
                obtain rfl : z = (cut19 (xp, ⟨kind, mode, uid, gid, time, attrs, data, link⟩), .slice a7 i c7, .slice ad (min ld 40) cd) := by simpa using hz
                exact hny.below hal (fun b hb => by
                  rcases hb with hb | hb
                  · have := HB.out.size; have := HK.out b hb; omega
                  · exact hb.2)⟩
            have hwr : w.heap.size ≤ wo.heap.size := HB.out.size
            refine arm_appM (B := w.heap.size) (K := K) hrA (by have := hal.size; omega) hm (fun b hb => ⟨hb.imp id (fun hb => by have := HW6.out; omega), by
              have := hal.size
              rcases hb with hb | hb
              · have := HK.out b hb; omega
              · omega, fun e => by
              have h1 := hob b e
              have := HW6.out
              rcases hb with hb | hb
              · have := HK.out b hb; omega
              · omega⟩) (by rw [hal2]; simp; omega) rfl rfl ?_
            intro v4 w4 hr4 hg4 hov4 hsh4
            obtain ⟨a4, c4, hv4⟩ := hsh4
            have HR4 := Keep.keep hr4
            have HB4 : Keep (Below w.heap.size w w4) := ⟨((HB.out.trans (hbx.mono hwr)).trans (hal.mono (by omega))).trans (hrA.chg (by have := hal.size; omega) hg4)⟩
            clear hr4 hg4 hov4 hm hrA hal hny hoi hbx HAL HRW
            subst hv4
            simp only [Act.put, List.setIfInBounds_toArray, List.set_cons_succ, List.set_cons_zero]
            go_wp2_with fail
            go_roundg g
            case measure => omega
            case rel => exact ⟨k + 1, acc ++ [(cut19 (xp, ⟨kind, mode, uid, gid, time, attrs, data, link⟩), .slice a7 i c7, .slice ad (min ld 40) cd)], by omega, by simp, by rw [List.map_append, HM.out, HTK.out]; rfl, by simp [hal2], HR4.out, HB4.out⟩
          | succ gi =>
            have hin : i < n4 := by omega
            have hd3 : decide ((i : Int) < (n4 : Int)) = true := decide_eq_true (by omega)
            have hi4 : i < (attrs.take 4).length := by have := HN47.out; omega
            have hri := HI.out.row 0 rfl
            unfold fsR at hri
            have k6 := hri.cell (i := 6) rfl
            clear hri
            have hoi := HI.out.sl 1 rfl
            obtain ⟨g7, rfl⟩ : ∃ g7, a7 = some ⟨g7, 0, none⟩ := by
              rcases hoi.2 with ⟨h1, h2⟩ | ⟨g', cap', cur, h1, -⟩
              · omega
              · injection h1 with h1; exact ⟨g', h1⟩
            have hxi : (((attrs.take 4).take i).map cutB ++ (attrs.take 4).drop i)[i]? = some (attrs.take 4)[i] := by
              rw [List.getElem?_append_right (by rw [List.length_map, List.length_take]; omega), List.length_map, List.length_take, Nat.min_eq_left (by omega), Nat.sub_self, List.getElem?_drop, Nat.add_zero, List.getElem?_eq_getElem hi4]
            have hld2 := own_loadAtA hoi HLL.out.symm hxi
            have HTA : Keep ((((attrs.take 4).take i).map cutB ++ (attrs.take 4).drop i).set i (cutB (attrs.take 4)[i]) = ((attrs.take 4).take (i + 1)).map cutB ++ (attrs.take 4).drop (i + 1)) := ⟨by
              rw [List.set_append_right _ _ (by rw [List.length_map, List.length_take]; omega), List.length_map, List.length_take, Nat.min_eq_left (by omega), Nat.sub_self, List.drop_eq_getElem_cons hi4, List.set_cons_zero, List.take_succ_eq_append_getElem hi4, List.map_append, List.append_assoc]
              rfl⟩
            clear hxi hoi
            generalize (attrs.take 4)[i] = xa at *
            obtain ⟨an, aw⟩ := xa
            unfold strV at hld2
            dsimp only at hld2
            go_upto_region 11 with ((with_reducible refine arm_loadM hld2 ?_ ?_); (focus rfl); simp only [Act.put, List.setIfInBounds_toArray, List.set_cons_succ, List.set_cons_zero])
            refine wp_world (R := fun w9 => Hp NoM wo w9 [rowA B5 32 (fsR kind mode uid gid time (.slice (some ⟨g7, 0, none⟩) n4 c7) ad (min ld 40) cd (shortS xp) (link.take 40)), slA w6.heap.size 97 2 (.slice (some ⟨g7, 0, none⟩) n4 c7) n4 (rcells (((attrs.take 4).take i).map cutB ++ (attrs.take 4).drop i)), rowA wr.heap.size 97 #[.string ⟨an.toArray⟩, .string ⟨aw.toArray⟩]]) (HI.out.newRow _ _) ?_
            intro w9 H9
            obtain ⟨B7, hB7⟩ : ∃ B7, wr.heap.size = B7 := ⟨_, rfl⟩
            rw [hB7] at H9 ⊢
            clear hB7 hld2 k6
            have hr9 := H9.out.row 0 rfl
            unfold fsR at hr9
            have k6 := hr9.cell (i := 6) rfl
            have c70 := (H9.out.row 2 rfl).cell (i := 0) rfl
            have c71 := (H9.out.row 2 rfl).cell (i := 1) rfl
            have mnA : min (an.length : Int) 40 = ((min an.length 40 : Nat) : Int) := by omega
            have mnB : min (aw.length : Int) 200 = ((min aw.length 200 : Nat) : Int) := by omega
            have slA1 := run_slice_to (P := Tryz.prog) Tryz.underlying9 an .i64 (min an.length 40) (Nat.min_le_left _ _)
            have slB1 := run_slice_to (P := Tryz.prog) Tryz.underlying9 aw .i64 (min aw.length 200) (Nat.min_le_left _ _)
            have eA : an.take (min an.length 40) = an.take 40 := by rw [List.take_eq_take_iff]; omega
            have eB : aw.take (min aw.length 200) = aw.take 200 := by rw [List.take_eq_take_iff]; omega
            rw [eA] at slA1
            rw [eB] at slB1
            have hbA := buildA (an.take 40) (aw.take 200)
            have hCB : Keep (cutB (an, aw) = (an.take 40, aw.take 200)) := ⟨rfl⟩
            obtain ⟨an4, han4⟩ : ∃ x, x = an.take 40 := ⟨_, rfl⟩
            obtain ⟨aw4, haw4⟩ : ∃ x, x = aw.take 200 := ⟨_, rfl⟩
            rw [← han4, ← haw4] at hCB
            rw [← han4] at slA1 hbA
            rw [← haw4] at slB1 hbA
            clear eA eB hr9 han4 haw4
            generalize min an.length 40 = mA at *
            generalize min aw.length 200 = mB at *
            refine wp_region_quiet_tail_drawn 20 (by kernel_rfl) (by kernel_rfl) ?_; simp only [List.take_succ_cons, List.take_zero, List.drop_succ_cons, List.drop_zero]; (repeat (go_big_quiet_step (fail))); refine wpQuiet_nil ?_; rintro _ ⟨nq, rfl⟩
            refine arm_setAt (base := w6.heap.size) (l := ((attrs.take 4).take i).map cutB ++ (attrs.take 4).drop i) (k := i) (cap := c7) (n := n4) (g := g7) (an4, aw4) (((H9.out.drewN nq).sl 1 rfl)) HLL.out.symm (by rw [HLL.out]; exact hin) rfl rfl ?_
            intro w10 ho10 hg10
            have HG := Keep.keep ((H9.out.drewN nq).upd 1 rfl (slA w6.heap.size 97 2 (.slice (some ⟨g7, 0, none⟩) n4 c7) n4 (rcells (((attrs.take 4).take (i + 1)).map cutB ++ (attrs.take 4).drop (i + 1)))) (chg_grown hg10) (by rw [← HTA.out, hCB.out]; exact ho10) (fun b hb => .inl hb))
            clear ho10 hg10 H9 k6 c70 c71 mnA mnB slA1 slB1 hbA
            simp only [Act.put]
            go_wp2_with fail
            go_roundg gi
            case measure => omega
            case rel => exact ⟨i + 1, by omega, by simp, HG.out.init⟩
end Go.Proofs.YtplafpokgpolkaaGreatDoor
/- portolanlaw19.Grown's question: of one path? -/
namespace Go.Proofs.YtplafpokgpolkaaGreatDoor
open Go.RowKit Go.Sort Go.Shelf
set_option maxHeartbeats 1000000 in
set_option maxRecDepth 100000 in
theorem eqp_any (x y : MvS) (W : World) : Calls Tryz.prog 84 #[.agg (encS x).toArray, .agg (encS y).toArray] W fun e w' => e = .returned (.bool (x.1.1.1 == y.1.1.1)) ∧ ∃ q os', w' = grow (W.drewN q) os' := by
  obtain ⟨⟨⟨xp, ⟨kind, mode, uid, gid, time, attrs, data, link⟩⟩, av, dv⟩, ⟨aa, la, ca, ad, ld, cd, e1, e2⟩⟩ := x
  obtain ⟨⟨⟨yp, ⟨kind', mode', uid', gid', time', attrs', data', link'⟩⟩, bv, ev⟩, ⟨ba, lb, cb, bd, ldb, cdb, f1, f2⟩⟩ := y
  dsimp only at e1 e2 f1 f2
  subst e1 e2 f1 f2
  have hx : (encS ⟨((xp, ⟨kind, mode, uid, gid, time, attrs, data, link⟩), .slice aa la ca, .slice ad ld cd), ⟨aa, la, ca, ad, ld, cd, rfl, rfl⟩⟩).toArray = #[.string ⟨xp.toArray⟩, .int .i64 kind, .int .u32 mode, .int .u32 uid, .int .u32 gid, .int .i64 time, .slice aa la ca, .slice ad ld cd, .string ⟨link.toArray⟩] := rfl
  have hy : (encS ⟨((yp, ⟨kind', mode', uid', gid', time', attrs', data', link'⟩), .slice ba lb cb, .slice bd ldb cdb), ⟨ba, lb, cb, bd, ldb, cdb, rfl, rfl⟩⟩).toArray = #[.string ⟨yp.toArray⟩, .int .i64 kind', .int .u32 mode', .int .u32 uid', .int .u32 gid', .int .i64 time', .slice ba lb cb, .slice bd ldb cdb, .string ⟨link'.toArray⟩] := rfl
  rw [hx, hy]
  clear hx hy
  show Calls _ _ _ _ fun e w' => e = .returned (.bool (xp == yp)) ∧ _
  obtain ⟨r, hr⟩ : ∃ r, (xp == yp) = r := ⟨_, rfl⟩
  rw [hr]
  go_enter Tryz.func84, Tryz.ntmps84
  go_wp2_with fail
  go_ret
  exact ⟨rfl, 0, _, by rw [alloc_eq_grow, alloc_eq_grow, grow_grow]; rfl⟩
theorem ent_eqp : ∀ args w, (callFunc 84 args).run Tryz.prog w = .ok (.enter 84 args) w := enters_of Tryz.func84 (by kernel_rfl) rfl
end Go.Proofs.YtplafpokgpolkaaGreatDoor
/- slices.CompactFunc: what its loops keep, plainly. -/
namespace Go.Proofs.YtplafpokgpolkaaGreatDoor
section
variable {α : Type} {k : α → Tx}
/-- nothing dropped up to j -/
def AllA (k : α → Tx) (l : List α) (j : Nat) : Prop := compA k (l.take j) = l.take j
theorem AllA.one (l : List α) : AllA k l 1 := compA_one l
theorem AllA.next {l : List α} {j : Nat} (h : AllA k l j) (h0 : 0 < j) (hj : j < l.length) (hne : ¬ k l[j] = k l[j - 1]) : AllA k l (j + 1) := by
  unfold AllA at h ⊢
  rw [compA_take l j h0 hj, if_neg hne, h, List.take_succ_eq_append_getElem hj]
/-- the row while it is done; from j on it is as it was, and one ahead of that -/
structure CFM (k : α → Tx) (l ls : List α) (j : Nat) : Prop where
  sz : ls.length = l.length
  pre : ls.take (compA k (l.take j)).length = compA k (l.take j)
  post : ∀ m, j ≤ m + 1 → m < l.length → ls[m]? = l[m]?
  less : (compA k (l.take j)).length < j
theorem CFM.start {l : List α} {j : Nat} (h : AllA k l j) (h0 : 0 < j) (hj : j < l.length) (he : k l[j] = k l[j - 1]) : CFM k l l (j + 1) ∧ (compA k (l.take (j + 1))).length = j := by
  unfold AllA at h
  have e : compA k (l.take (j + 1)) = l.take j := by rw [compA_take l j h0 hj, if_pos he, h, List.append_nil]
  have hl : (l.take j).length = j := by rw [List.length_take]; omega
  refine ⟨⟨rfl, by rw [e, hl], fun _ _ _ => rfl, by rw [e, hl]; omega⟩, by rw [e, hl]⟩
theorem CFM.skip {l ls : List α} {j : Nat} (h : CFM k l ls j) (h0 : 0 < j) (hj : j < l.length) (he : k l[j] = k l[j - 1]) : CFM k l ls (j + 1) ∧ compA k (l.take (j + 1)) = compA k (l.take j) := by
  have e : compA k (l.take (j + 1)) = compA k (l.take j) := by rw [compA_take l j h0 hj, if_pos he, List.append_nil]
  exact ⟨⟨h.sz, by rw [e]; exact h.pre, fun m hm hl => h.post m (by omega) hl, by rw [e]; have := h.less; omega⟩, e⟩
theorem CFM.put {l ls : List α} {j : Nat} (h : CFM k l ls j) (h0 : 0 < j) (hj : j < l.length) (he : ¬ k l[j] = k l[j - 1]) : CFM k l (ls.set (compA k (l.take j)).length l[j]) (j + 1) ∧ (compA k (l.take (j + 1))).length = (compA k (l.take j)).length + 1 := by
  have e : compA k (l.take (j + 1)) = compA k (l.take j) ++ [l[j]] := by rw [compA_take l j h0 hj, if_neg he]
  have hs := h.sz
  have hle := h.less
  refine ⟨⟨by simp [hs], ?_, fun m hm hml => ?_, by rw [e, List.length_append, List.length_singleton]; omega⟩, by rw [e, List.length_append, List.length_singleton]⟩
  · rw [e, List.length_append, List.length_singleton, List.take_succ_eq_append_getElem (by rw [List.length_set]; omega), List.getElem_set_self, List.take_set_of_le (Nat.le_refl _), h.pre]
  · rw [List.getElem?_set_ne (by omega)]
    exact h.post m (by omega) hml
theorem CFM.done {l ls : List α} (h : CFM k l ls l.length) : ls.take (compA k l).length = compA k l := by
  have := h.pre
  rwa [List.take_length] at this
end
end Go.Proofs.YtplafpokgpolkaaGreatDoor
/- slices.CompactFunc over Members: in the worlds of a sort. -/
namespace Go.Proofs.YtplafpokgpolkaaGreatDoor
open Go.Shelf Go.RowKit Go.Lib Go.Sort
section
variable {α : Type} [Inhabited α] {enc : α → List Value} {k : Nat} {w0 W : World} {blk off : Nat} {dk : Array α}
/-- what is asked of the question -/
def EqLays (g : Nat) (cb : Array Value) (enc : α → List Value) (k : Nat) (eqf : α → α → Bool) (blk off size : Nat) (w : World) : Prop :=
  ∀ (m : Nat) (os : Array Obj) (dk : Array α), dk.size = size → ∀ x y : α,
    Calls Tryz.prog g (#[.agg (enc x).toArray, .agg (enc y).toArray] ++ cb) (sortWorldK enc k w blk off m dk os) fun e w' => e = .returned (.bool (eqf x y)) ∧ ∃ q os', w' = grow ((sortWorldK enc k w blk off m dk os).drewN q) os'
theorem Swk.eq {g : Nat} {cb : Array Value} {eqf : α → α → Bool} {size : Nat} (h : SWK enc k w0 blk off dk W) (hC : EqLays g cb enc k eqf blk off size w0) (hs : dk.size = size) (x y : α) (n : Nat) (os : Array Obj) :
    Calls Tryz.prog g (#[.agg (enc x).toArray, .agg (enc y).toArray] ++ cb) (grow (W.drewN n) os) fun e w' => e = .returned (.bool (eqf x y)) ∧ ∃ q os', w' = grow ((grow (W.drewN n) os).drewN q) os' := by
  obtain ⟨m, os0, hw⟩ := h.grown n os
  rw [hw]
  exact hC m os0 dk hs x y
end
end Go.Proofs.YtplafpokgpolkaaGreatDoor
/- slices.CompactFunc over Members: in the worlds of a sort; whichever neighbours agree. -/
namespace Go.Proofs.YtplafpokgpolkaaGreatDoor
open Go.Shelf Go.RowKit Go.Lib Go.Sort
section
variable {α : Type} [Inhabited α]
theorem get_toL (d : Array α) {i : Nat} (h : i < d.size) : d.toList[i]? = some d[i]! := by
  rw [Array.getElem?_toList, Array.getElem?_eq_getElem h, getElem!_pos d i h]
omit [Inhabited α] in
theorem set_toL (d : Array α) (i : Nat) (x : α) : (d.setIfInBounds i x).toList = d.toList.set i x := by simp
end
set_option maxHeartbeats 4000000 in
set_option maxRecDepth 1000000 in
theorem cfun_any {α : Type} [Inhabited α] (k : Nat) (zE : ∀ w, (Go.sizeOf 32).run Tryz.prog w = .ok k w) (enc : α → List Value) (g : Nat) (cb : Array Value) (blk off cap : Nat) (key : α → Tx) (d0 : Array α) (w0 : World) (R : RowK enc k w0 blk off d0) (heq : EqLays g cb enc k (fun x y => key x == key y) blk off d0.size w0) (eg : ∀ args w, (callFunc g args).run Tryz.prog w = .ok (.enter g args) w) (hsz : d0.size < 1000000000000) (hcap : d0.size ≤ cap)
    (hsf : ∀ i, i < d0.size → ∀ w, (Instr.slice 35 (.slice (some ⟨blk, off, none⟩) d0.size cap) (some (.int .i64 (i : Int))) none none).run Tryz.prog w = .ok (.slice (some ⟨blk, off + i * k, none⟩) (d0.size - i) (cap - i)) w)
    (hst : ∀ i, i ≤ d0.size → ∀ w, (Instr.slice 35 (.slice (some ⟨blk, off, none⟩) d0.size cap) none (some (.int .i64 (i : Int))) none).run Tryz.prog w = .ok (.slice (some ⟨blk, off, none⟩) i cap) w)
    (Fin : Nat → Array α → World → Prop) (hcl : ∀ (n : Nat) (dk : Array α) (w : World), n < d0.size → dk.size = d0.size → SWK enc k w0 blk off dk w → (∀ x ∈ dk.toList, x ∈ d0.toList) → dk.toList.take n = compA key d0.toList →
      ∃ W, (∀ ty, (Builtin.clear_ #[35] ty #[.slice (some ⟨blk, off + n * k, none⟩) (d0.size - n) (cap - n)]).run Tryz.prog w = .ok (.tuple #[]) W) ∧ Fin n dk W)
    (w : World) (S : SWK enc k w0 blk off d0 w) :
    Calls Tryz.prog 83 #[.slice (some ⟨blk, off, none⟩) d0.size cap, .func (.func g) #[] cb] w fun e w' => (e = .returned (.slice (some ⟨blk, off, none⟩) d0.size cap) ∧ SWK enc k w0 blk off d0 w' ∧ compA key d0.toList = d0.toList) ∨
      ∃ n dk, e = .returned (.slice (some ⟨blk, off, none⟩) n cap) ∧ n = (compA key d0.toList).length ∧ n < d0.size ∧ Fin n dk w' := by
  have aE : ∀ w, (isAgg 32).run Tryz.prog w = .ok true w := fun w => by kernel_rfl
  have mixed : Tryz.prog.follows Departure.mixedOrders = true := by first | rfl | kernel_rfl
  have S0 : Aside (SWK enc k w0 blk off d0 w) := S
  have HC : Aside (EqLays g cb enc k (fun x y => key x == key y) blk off d0.size w0) := heq
  have HSF := Keep.keep hsf; have HST := Keep.keep hst; have HCLR := Keep.keep hcl
  clear S heq hsf hst hcl
  obtain ⟨n, hn⟩ : ∃ x, x = d0.size := ⟨_, rfl⟩
  have HN : Keep (d0.size = n) := ⟨hn.symm⟩
  rw [← hn] at hsz hcap HSF HST HCLR ⊢
  by_cases h2 : n < 2
  · have h2z : (n : Int) < 2 := by omega
    clear hn
    go_enter Tryz.func83, Tryz.ntmps83
    go_wp2_with fail
    go_ret
    refine .inl ⟨rfl, S0.out, ?_⟩
    have hl : d0.toList.length = n := by rw [Array.length_toList]; exact HN.out
    rcases (by omega : n = 0 ∨ n = 1) with h | h
    · have : d0.toList = [] := List.eq_nil_of_length_eq_zero (by omega)
      rw [this]; rfl
    · have e : d0.toList.take 1 = d0.toList := List.take_of_length_le (by omega)
      have := compA_one (k := key) d0.toList
      rwa [e] at this
  · have h2z : ¬ (n : Int) < 2 := by omega
    obtain ⟨d, hd⟩ : ∃ x, x = d0 := ⟨_, rfl⟩
    have hds : d.size = n := by rw [hd, HN.out]
    have HD : Keep (d = d0) := ⟨hd⟩
    have HDS : Keep (d.size = n ∧ d.toList.length = n) := ⟨hds, by rw [Array.length_toList]; exact hds⟩
    have HALL0 : Aside (AllA key d.toList 1) := AllA.one _
    have S0 : Aside (SWK enc k w0 blk off d w) := by rw [hd]; exact S0
    rw [← hd] at HCLR ⊢
    clear hn hd
    go_enter Tryz.func83, Tryz.ntmps83
    go_wp2
    go_loopg [5] n (fun kx s5 wr => ∃ j : Nat, s5 = .int .i64 j ∧ 1 ≤ j ∧ j ≤ n ∧ n - j ≤ kx ∧ Aside (SWK enc k w0 blk off d wr) ∧ Aside (AllA key d.toList j))
    case atStart => exact ⟨1, by go_num, by omega, by omega, by omega, S0, HALL0⟩
    case round =>
      clear S0 HALL0
      obtain ⟨j, rfl, hj1, hjn, hkx, S1, A1⟩ := hrel
      by_cases hlt : j < n
      · have hltz : (j : Int) < (n : Int) := by omega
        obtain ⟨p, hp⟩ : ∃ x, x = j - 1 := ⟨_, rfl⟩
        have rp : (j : Int) - 1 = (p : Int) := by omega
        have rpw : IntKind.i64.wrap (p : Int) = (p : Int) := by rw [IntKind.wrap_i64]; omega
        have hpn : p < n := by omega
        have HJ : Keep (j < d.toList.length ∧ d.toList[j]? = some d[j]! ∧ d.toList[j - 1]? = some d[p]!) := ⟨by have := HDS.out; omega, get_toL d (by omega), by rw [← hp]; exact get_toL d (by omega)⟩
        clear hp
        have bx : ((j : Nat) : Int) < (n : Int) := by omega
        have bp : ((p : Nat) : Int) < (n : Int) := by omega
        obtain ⟨x, hx⟩ : ∃ x, x = d[j]! := ⟨_, rfl⟩
        obtain ⟨y, hy⟩ : ∃ y, y = d[p]! := ⟨_, rfl⟩
        have la := S1.out.ld R (by rw [hds]; exact HN.out.symm) Tryz.prog j (by omega)
        have lb := S1.out.ld R (by rw [hds]; exact HN.out.symm) Tryz.prog p (by omega)
        rw [← hx] at la HJ
        rw [← hy] at lb HJ
        have hc := Swk.eq S1.out HC.out (by rw [hds]; exact HN.out.symm) x y
        by_cases hq : key x = key y
        · have hqb : (key x == key y) = true := by simp [hq]
          simp only [hqb] at hc
          have HST2 : Keep (CFM key d.toList d.toList (j + 1) ∧ (compA key (d.toList.take (j + 1))).length = j) := ⟨CFM.start A1.out (by omega) HJ.out.1 (by
            have e1 := HJ.out.2.1; have e2 := HJ.out.2.2
            rw [List.getElem?_eq_getElem HJ.out.1] at e1
            rw [List.getElem?_eq_getElem (by have := HJ.out.1; omega)] at e2
            injection e1 with e1; injection e2 with e2
            rw [e1, e2]; exact hq)⟩
          clear hx hy hq hqb A1 HJ
          go_wp2_with fail
          go_quiet_grown (first | (go_at_fn g; refine Calls.grown_of (hc _ _)))
          have S2 : Aside (SWK enc k w0 blk off d (grow (wr.drewN nq) osq)) := S1.out.grown nq osq
          clear la lb hc S1
          generalize grow (wr.drewN nq) osq = w2 at S2 ⊢
          clear nq osq
          obtain ⟨m, hm⟩ : ∃ m, m = n - j := ⟨_, rfl⟩
          obtain ⟨c2, hc2⟩ : ∃ c, c = cap - j := ⟨_, rfl⟩
          have hsl := fun w => HSF.out j hlt w
          rw [← hm, ← hc2] at hsl
          have hmn : j + m ≤ n ∧ n ≤ j + m := by omega
          have hm0 : 1 ≤ m := by omega
          have hmc : m ≤ c2 := by omega
          have HM : Keep (j + m = n) := ⟨by omega⟩
          clear hm hc2
          obtain ⟨jk, hjk⟩ : ∃ o, o = off + j * k := ⟨_, rfl⟩
          rw [← hjk] at hsl
          have HJK := Keep.keep hjk
          clear hjk
          go_wp2
          go_loopg [5, 7] m (fun ky s5 s7 wr => ∃ (kk q : Nat) (dk : Array α), s5 = .int .i64 kk ∧ s7 = .int .i64 q ∧ 1 ≤ q ∧ q ≤ m ∧ m - q ≤ ky ∧ Aside (SWK enc k w0 blk off dk wr) ∧ Aside (CFM key d.toList dk.toList (j + q) ∧ (compA key (d.toList.take (j + q))).length = kk ∧ ∀ x ∈ dk.toList, x ∈ d.toList))
          case atStart => exact ⟨j, 1, d, by go_num, by go_num, by omega, by omega, by omega, S2, HST2.out.1, HST2.out.2, fun x hx => hx⟩
          case round =>
            clear S2 HST2
            obtain ⟨kk, q, dk, rfl, rfl, hq1, hqm, hky, S3, C3⟩ := hrel
            have hdk : dk.size = n := by have := C3.out.1.sz; rw [Array.length_toList, HDS.out.2] at this; exact this
            have hdr : dk.size = d0.size := by rw [hdk]; exact HN.out.symm
            have hkk : kk < n := by have := C3.out.1.less; rw [C3.out.2.1] at this; omega
            have HDR := Keep.keep hdr
            clear hdr
            by_cases hqlt : q < m
            · have hqz : (q : Int) < (m : Int) := by omega
              obtain ⟨p2, hp2⟩ : ∃ x, x = q - 1 := ⟨_, rfl⟩
              have rp2 : (q : Int) - 1 = (p2 : Int) := by omega
              have rp2w : IntKind.i64.wrap (p2 : Int) = (p2 : Int) := by rw [IntKind.wrap_i64]; omega
              have hp2m : p2 < m := by omega
              have bq : ((q : Nat) : Int) < (m : Int) := by omega
              have bp2 : ((p2 : Nat) : Int) < (m : Int) := by omega
              have bk : ((kk : Nat) : Int) < (n : Int) := by omega
              obtain ⟨x, hx⟩ : ∃ x, x = dk[j + q]! := ⟨_, rfl⟩
              obtain ⟨y, hy⟩ : ∃ y, y = dk[j + p2]! := ⟨_, rfl⟩
              have HXY : Keep (j + q < d.toList.length ∧ d.toList[j + q]? = some x ∧ d.toList[j + q - 1]? = some y) := ⟨by have := HDS.out; omega, by
                rw [← C3.out.1.post (j + q) (by omega) (by have := HDS.out; omega), hx]; exact get_toL dk (by omega), by
                rw [← C3.out.1.post (j + q - 1) (by omega) (by have := HDS.out; omega), hy, show j + q - 1 = j + p2 by omega]; exact get_toL dk (by omega)⟩
              have la := S3.out.ld R HDR.out Tryz.prog (j + q) (by omega)
              have lb := S3.out.ld R HDR.out Tryz.prog (j + p2) (by omega)
              rw [← hx, Nat.add_mul, ← Nat.add_assoc, ← HJK.out] at la
              rw [← hy, Nat.add_mul, ← Nat.add_assoc, ← HJK.out] at lb
              have hc := Swk.eq S3.out HC.out (by rw [hdk]; exact HN.out.symm) x y
              clear hp2
              have e1 := HXY.out.2.1; have e2 := HXY.out.2.2
              rw [List.getElem?_eq_getElem HXY.out.1] at e1
              rw [List.getElem?_eq_getElem (by have := HXY.out.1; omega)] at e2
              injection e1 with e1; injection e2 with e2
              by_cases hqe : key x = key y
              · have hqb : (key x == key y) = true := by simp [hqe]
                simp only [hqb] at hc
                have C4 : Aside (CFM key d.toList dk.toList (j + (q + 1)) ∧ (compA key (d.toList.take (j + (q + 1)))).length = kk ∧ ∀ x ∈ dk.toList, x ∈ d.toList) := by
                  obtain ⟨h1, h2⟩ := C3.out.1.skip (by omega) HXY.out.1 (by rw [e1, e2]; exact hqe)
                  exact ⟨h1, by rw [← Nat.add_assoc, h2]; exact C3.out.2.1, C3.out.2.2⟩
                clear hx hy hqe hqb e1 e2 HXY C3
                go_wp2_with fail
                go_quiet_grown (first | (go_at_fn g; refine Calls.grown_of (hc _ _)))
                have S4 : Aside (SWK enc k w0 blk off dk (grow (wr.drewN nq) osq)) := S3.out.grown nq osq
                clear la lb hc S3
                generalize grow (wr.drewN nq) osq = w4 at S4 ⊢
                clear nq osq
                go_wp2
                go_roundg (m - (q + 1))
                case measure => omega
                case rel => exact ⟨kk, q + 1, dk, by go_num, by go_num, by omega, by omega, Nat.le_refl _, S4, C4⟩
              · have hqb : (key x == key y) = false := by simp [hqe]
                simp only [hqb] at hc
                have C4 : Aside (CFM key d.toList (dk.setIfInBounds kk x).toList (j + (q + 1)) ∧ (compA key (d.toList.take (j + (q + 1)))).length = kk + 1 ∧ ∀ x' ∈ (dk.setIfInBounds kk x).toList, x' ∈ d.toList) := by
                  obtain ⟨h1, h2⟩ := C3.out.1.put (by omega) HXY.out.1 (by rw [e1, e2]; exact hqe)
                  rw [C3.out.2.1, e1] at h1
                  rw [set_toL]
                  refine ⟨h1, by rw [← Nat.add_assoc, h2, C3.out.2.1], fun x' hx' => ?_⟩
                  rcases List.mem_or_eq_of_mem_set hx' with h | h
                  · exact C3.out.2.2 x' h
                  · rw [h, ← e1]; exact List.getElem_mem _
                have HXE : Keep (dk[j + q]! = x) := ⟨hx.symm⟩
                clear hx hy hqe hqb e1 e2 HXY C3
                go_wp2_with fail
                go_quiet_grown (first | (go_at_fn g; refine Calls.grown_of (hc _ _)))
                have S4 : Aside (SWK enc k w0 blk off dk (grow (wr.drewN nq) osq)) := S3.out.grown nq osq
                clear la lb hc S3
                generalize grow (wr.drewN nq) osq = w4 at S4 ⊢
                clear nq osq
                have l4 := S4.out.load R HDR.out Tryz.prog (j + q) (by omega)
                have l4x : dk[j + q]! = x := HXE.out
                rw [l4x, Nat.add_mul, ← Nat.add_assoc, ← HJK.out] at l4
                have s4 := stores_of_holds Tryz.prog (S4.out.holds R.hblk R.hH HDR.out) (kk * k) (enc x) (by rw [R.hk, size_flatK]; exact rowK_bnd dk k kk (by omega)) (R.h1 _)
                have na : (enc x).length = k := R.hk _
                have S5 : Aside (SWK enc k w0 blk off (dk.setIfInBounds kk x) (w4.setCells blk (off + kk * k) (enc x))) := Swk.put S4.out R kk x (by omega)
                clear S4 l4x
                generalize enc x = cx at S5 l4 s4 na
                go_wp2
                generalize w4.setCells blk (off + kk * k) cx = w5 at S5 ⊢
                clear l4 s4 na
                go_wp2
                go_roundg (m - (q + 1))
                case measure => omega
                case rel => exact ⟨kk + 1, q + 1, _, by go_num, by go_num, by omega, by omega, Nat.le_refl _, S5, C4⟩
            · have hqz : ¬ (q : Int) < (m : Int) := by omega
              obtain rfl : q = m := by omega
              have hD : CFM key d.toList dk.toList d.toList.length := by
                have := C3.out.1; rw [HM.out] at this; rw [HDS.out.2]; exact this
              have hL : (compA key d.toList).length = kk := by
                have := C3.out.2.1
                rw [HM.out, List.take_of_length_le (by rw [HDS.out.2]; exact Nat.le_refl _)] at this
                exact this
              have HL := Keep.keep hL
              obtain ⟨W, hW, hF⟩ := HCLR.out kk dk wr hkk hdk (by rw [HD.out] at *; exact S3.out) C3.out.2.2 (by rw [← hL]; exact hD.done)
              have HF := Keep.keep hF
              have hs1 := fun w => HSF.out kk hkk w
              have hs2 := fun w => HST.out kk (by omega) w
              obtain ⟨m9, hm9⟩ : ∃ m, m = n - kk := ⟨_, rfl⟩
              obtain ⟨c9, hc9⟩ : ∃ c, c = cap - kk := ⟨_, rfl⟩
              rw [← hm9, ← hc9] at hW hs1
              clear hm9 hc9 hD hL hF C3 S3
              go_wp2_with fail
              go_ret
              exact .inr ⟨kk, rfl, HL.out.symm, hkk, dk, HF.out⟩
        · have hqb : (key x == key y) = false := by simp [hq]
          simp only [hqb] at hc
          have A2 : Aside (AllA key d.toList (j + 1)) := A1.out.next (by omega) HJ.out.1 (by
            have e1 := HJ.out.2.1; have e2 := HJ.out.2.2
            rw [List.getElem?_eq_getElem HJ.out.1] at e1
            rw [List.getElem?_eq_getElem (by have := HJ.out.1; omega)] at e2
            injection e1 with e1; injection e2 with e2
            rw [e1, e2]; exact hq)
          clear hx hy hq hqb A1 HJ
          go_wp2_with fail
          go_quiet_grown (first | (go_at_fn g; refine Calls.grown_of (hc _ _)))
          have S2 : Aside (SWK enc k w0 blk off d (grow (wr.drewN nq) osq)) := S1.out.grown nq osq
          clear la lb hc S1
          generalize grow (wr.drewN nq) osq = w2 at S2 ⊢
          clear nq osq
          go_wp2
          go_roundg (n - (j + 1))
          case measure => omega
          case rel => exact ⟨j + 1, by go_num, by omega, by omega, Nat.le_refl _, S2, A2⟩
      · have hltz : ¬ (j : Int) < (n : Int) := by omega
        have HA : Keep (compA key d.toList = d.toList) := ⟨by
          have h := A1.out
          unfold AllA at h
          rwa [List.take_of_length_le (by have := HDS.out.2; omega)] at h⟩
        go_wp2
        go_ret
        exact .inl ⟨rfl, S1.out, HA.out⟩
end Go.Proofs.YtplafpokgpolkaaGreatDoor
/- slices.CompactFunc over Members of one's own: of neighbours of one path the first one. -/
namespace Go.Proofs.YtplafpokgpolkaaGreatDoor
open Go.Shelf Go.RowKit Go.Lib Go.Sort
set_option maxHeartbeats 1000000 in
set_option maxRecDepth 100000 in
theorem cfun_nil (f : FuncId) (cb : Array Value) (w : World) : Calls Tryz.prog 83 #[.slice none 0 0, .func (.func f) #[] cb] w fun e w' => e = .returned (.slice none 0 0) ∧ w = w' := by
  go_enter Tryz.func83, Tryz.ntmps83
  go_wp2_with fail
  go_ret
  exact ⟨rfl, rfl⟩
theorem slice_mto_at (g n cap i : Nat) (hi : i ≤ cap) (w : World) : (Instr.slice 35 (.slice (some ⟨g, 0, none⟩) n cap) none (some (.int .i64 (i : Int))) none).run Tryz.prog w = .ok (.slice (some ⟨g, 0, none⟩) i cap) w := slice_mto _ n cap i .i64 hi w
set_option maxHeartbeats 1000000 in
set_option maxRecDepth 100000 in
theorem compact_mb (base : Nat) (K : Nat → Prop) (v : Value) (l : List Mv) (w : World) (hB : base ≤ w.heap.size) (h : RowM base K w v l) (hl : l.length < 1000000000) :
    Calls Tryz.prog 83 #[v, .func (.func 84) #[] #[]] w fun e w' => ∃ v', e = .returned v' ∧ RowM base K w' v' (compA (fun x : Mv => x.1.1) l) ∧ Below base w w' := by
  rcases h.own.2 with ⟨rfl, hz⟩ | ⟨g, cap, cur, rfl, hb, hh, hn, hm, hs, ht⟩
  · obtain rfl : l = [] := List.eq_nil_of_length_eq_zero hz
    refine (cfun_nil 84 #[] w).mono ?_
    rintro e w' ⟨rfl, rfl⟩
    exact ⟨_, rfl, h, Below.refl _ _⟩
  · obtain ⟨d0, hd0, hsz, R, S⟩ := h.swk
    have hcmap : (compA pathS d0.toList).map (·.1) = compA (fun x : Mv => x.1.1) l := by
      rw [← hd0]
      exact compA_map (k := fun x : Mv => x.1.1) (fun x : MvS => x.1) d0.toList
    have hc := cfun_any 9 (fun w => by kernel_rfl) encS 84 #[] g 0 cap pathS d0 w R (fun m os dk _ x y => eqp_any x y _) ent_eqp (by rw [hsz]; omega) (by rw [hsz]; exact hn)
      (fun i hi w => by rw [Nat.zero_add, hsz]; exact slice_mfrom_at g l.length cap i (by omega) hn (by omega) w)
      (fun i hi w => slice_mto_at g _ cap i (by omega) w)
      (fun n dk W => RowM base K W (.slice (some ⟨g, 0, none⟩) n cap) ((dk.toList.map (·.1)).take n) ∧ Below base w W ∧ dk.toList.take n = compA pathS d0.toList)
      (fun n dk w1 hnl hdk S1 hsub htk => by
        have hdl : dk.size = l.length := by rw [hdk, hsz]
        have hr := h.ofSwk hB S1 hdl (fun x hx => by
          obtain ⟨z, hz, rfl⟩ := List.mem_map.1 hx
          rw [← hd0]
          exact List.mem_map.2 ⟨z, hsub z hz, rfl⟩)
        have hown := hr.1.own
        have hll : (dk.toList.map (·.1)).length = l.length := by simp [hdl]
        rw [hll] at hown
        obtain ⟨zs, hzl, hcl⟩ := run_clear_mbs w1 g (n * 9) (l.length - n) (cap - n) (by omega) (fun m hm => by
          rw [hown.cellAt _ (by omega), List.getElem?_eq_getElem (by rw [mcells_length, hll]; omega)]; rfl) (fun m hm => hown.frozenAt _)
        have hown2 := owns_setCells zs _ w1 (n * 9) hown
        have hown3 := owns_take (k := n) hown2.1 (by omega) (by rw [layAt_take _ _ _ (by rw [mcells_length, hll]; omega), ← mcells_take])
        have hB1 : base ≤ w1.heap.size := Nat.le_trans hB hr.2.size
        have hch := (Chg.grown (M := NoM) (.refl _ _ _) hown2.2 hB1 (fun k e => .inl (by injection e with e; omega))).below (fun _ _ h => h)
        refine ⟨w1.setCells g (n * 9) zs, by rw [Nat.zero_add, hsz]; exact hcl, ⟨?_, fun x hx => ?_⟩, hr.2.trans hch, htk⟩
        · rw [List.length_take, hll, Nat.min_eq_left (by omega)]
          exact hown3
        · have hx2 := List.mem_of_mem_take hx
          exact ((hr.1.nd x hx2).loc (fun b e => hown2.2.block b e.2.1 (fun e2 => e.2.2 (by injection e2 with e2; rw [← e2]; rfl)))).mono (fun b e => ⟨e.1, Nat.lt_of_lt_of_le e.2.1 hown2.2.size, e.2.2⟩))
      w S
    rw [hsz] at hc
    refine hc.mono ?_
    rintro e w' (⟨rfl, S1, hcc⟩ | ⟨n, dk, rfl, hnl, hlt, hF⟩)
    · have hr := h.ofSwk hB S1 hsz (fun x hx => by rw [← hd0]; exact hx)
      refine ⟨_, rfl, ?_, hr.2⟩
      rw [← hcmap, hcc]
      exact hr.1
    · refine ⟨_, rfl, ?_, hF.2.1⟩
      rw [← hcmap, ← hF.2.2, List.map_take]
      exact hF.1
end Go.Proofs.YtplafpokgpolkaaGreatDoor
/- portolanlaw19.Grown. -/
namespace Go.Proofs.YtplafpokgpolkaaGreatDoor
open Go.RowKit
theorem RowM.weak {B B' : Nat} {K K' : Nat → Prop} {w : World} {v : Value} {l : List Mv} (h : RowM B K w v l) (hB : B' ≤ B) (hK : ∀ b, (K b ∨ B ≤ b) → (K' b ∨ B' ≤ b)) : RowM B' K' w v l :=
  ⟨ownsRow_base h.own hB, fun x hx => (h.nd x hx).mono (fun b e => ⟨hK b e.1, e.2⟩)⟩
theorem own_loc {base k n : Nat} {e : TypeId} {w w' : World} {v : Value} {vs : List Value} {r : Option Nat} (h : w.ownsRow base e k v n vs) (hg : w.grownBy w' r) (hne : ∀ b, v.ownBlock = some b → r ≠ some b) : w'.ownsRow base e k v n vs :=
  ownsRow_loc _ _ (fun b hb => hg.block b (ownsV_lt h b hb).2 (fun e => hne b hb e.symm)) h
set_option maxHeartbeats 8000000 in
set_option maxRecDepth 100000 in
theorem grown19K (v : Value) (l : List Mv) (w : World) (K : Nat → Prop) (hK : ∀ b, K b → b < w.heap.size) (hr : Mbs w (· < w.heap.size) K v l) :
    Calls Tryz.prog 40 #[v] w fun e w' => ∃ v' l', e = .returned v' ∧ l'.map (·.1) = grown19 (l.map (·.1)) ∧ RowM w.heap.size K w' v' l' ∧ Below w.heap.size w w' := by
  have HK := Keep.keep hK
  obtain ⟨a, cap, hv, -, -, -⟩ := hr.rd.shape
  have HF := Keep.keep (few19K v l w K hK hr)
  obtain ⟨S, hS⟩ : ∃ S, few19 (l.map (·.1)) = S := ⟨_, rfl⟩
  have HSF : Keep (few19 S = S ∧ S.length ≤ 14 ∧ (∀ m ∈ S, (aboveP m.1).length ≤ 19) ∧ (∀ m ∈ S, m.1.length ≤ 300) ∧ grown19 (l.map (·.1)) = sortedS (S ++ S.flatMap abvM)) := ⟨by rw [← hS, few19_idem], by rw [← hS]; exact few19_len _, by rw [← hS]; exact fun m hm => few19_abv hm, by
    rw [← hS]; intro m hm; obtain ⟨y, -, rfl⟩ := List.mem_map.1 hm; exact shortS_len _, by unfold grown19; rw [hS]⟩
  rw [hS] at HF
  rw [HSF.out.2.2.2.2]
  clear hr hS hK
  subst hv
  go_enter Tryz.func40, Tryz.ntmps40
  go_wp2_with fail
  refine HF.out.mono ?_
  rintro e w1 ⟨v1, l1, rfl, hS1, hr1, hb1⟩
  have HS1 := Keep.keep hS1
  have HR1 := Keep.keep hr1
  have HB1 := Keep.keep hb1
  have HM1 : Keep (MbL w1 v1 l1) := ⟨MbL.ofRow hr1⟩
  obtain ⟨a1, c1, hv1, -⟩ := HM1.out.rd.shape
  clear hS1 hr1 hb1 HF
  have HF2 := Keep.keep (few19K v1 l1 w1 (· < w1.heap.size) (fun _ h => h) HM1.out)
  rw [HS1.out, HSF.out.1] at HF2
  obtain ⟨n1, hn1⟩ : ∃ n, l1.length = n := ⟨_, rfl⟩
  have HN1 : Keep (l1.length = n1 ∧ n1 ≤ 14) := ⟨hn1, by have := HSF.out.2.1; rw [← HS1.out, List.length_map] at this; omega⟩
  rw [hn1] at hv1
  clear hn1
  subst hv1
  go_wp2_with fail
  refine HF2.out.mono ?_
  rintro e w2 ⟨v2, l2, rfl, hS2, hr2, hb2⟩
  have HS2 := Keep.keep hS2
  have HR2 := Keep.keep (hr2.own)
  have HND2 : Keep (∀ x ∈ l2, NdS x) := ⟨fun x hx => (hr2.nd x hx).shape⟩
  have HB2 := Keep.keep (HB1.out.trans (hb2.mono HB1.out.size))
  have HR1' := Keep.keep (HR1.out.below hb2)
  have HW12 : Keep (w.heap.size ≤ w1.heap.size ∧ w1.heap.size ≤ w2.heap.size) := ⟨HB1.out.size, hb2.size⟩
  have HDJ : Keep (∀ b, v2.ownBlock = some b → (Value.slice a1 n1 c1).ownBlock ≠ some b) := ⟨fun b hb e => by
    have h1 := (hr2.lt hb).1
    have h2 := (HR1.out.lt e).2
    omega⟩
  obtain ⟨a2, c2, hv2, -⟩ := (ownsV_reads hr2.own).shape
  obtain ⟨n2, hn2⟩ : ∃ n, l2.length = n := ⟨_, rfl⟩
  have HN2 : Keep (l2.length = n2 ∧ S.length = n2 ∧ n2 ≤ 14) := ⟨hn2, by rw [← hS2, List.length_map]; exact hn2, by have := HSF.out.2.1; rw [← hS2, List.length_map] at this; omega⟩
  rw [hn2] at hv2 HR2
  have hn2b : n2 ≤ 14 := HN2.out.2.2
  clear hS2 hr2 hb2 HF2 HM1 HR1 hn2
  subst hv2
  go_wp2_with fail
  go_loopg [0, 12] n2 (fun g u0 u12 wx => ∃ (k : Nat) (acc : List Mv), k + g = n2 ∧ u12 = .int .i64 (k : Int) ∧ acc.map (·.1) = S ++ (S.take k).flatMap abvM ∧ acc.length ≤ 14 + k * 19 ∧ RowM w.heap.size K wx u0 acc ∧ wx.ownsRow w1.heap.size 32 9 (.slice a2 n2 c2) n2 (mcells l2) ∧ (∀ b, (Value.slice a2 n2 c2).ownBlock = some b → u0.ownBlock ≠ some b) ∧ Below w.heap.size w wx)
  case atStart => exact ⟨0, l1, by omega, rfl, by simpa using HS1.out, by have := HN1.out; omega, HR1'.out, HR2.out, HDJ.out, HB2.out⟩
  case round =>
    clear HR2 HDJ HB2 HR1'
    obtain ⟨k, acc, hkg, rfl, hmap, hal, hrow, hown, hdj, hbl⟩ := hrel
    have HM := Keep.keep hmap; have HR := Keep.keep hrow; have HO := Keep.keep hown; have HD := Keep.keep hdj; have HB := Keep.keep hbl
    obtain ⟨a0, c0, hu0, -⟩ := (ownsV_reads hrow.own).shape
    obtain ⟨n0, hn0⟩ : ∃ n, acc.length = n := ⟨_, rfl⟩
    have HN0 : Keep (acc.length = n0) := ⟨hn0⟩
    rw [hn0] at hu0 hal
    clear hmap hrow hown hdj hbl hn0
    subst hu0
    cases gk with
    | zero =>
      obtain rfl : k = n2 := by omega
      have HFM : Keep (acc.map (·.1) = S ++ S.flatMap abvM) := ⟨by rw [HM.out, ← HN2.out.2.1, List.take_length]⟩
      go_wp2_with fail
      refine (sorted_any _ acc wr _ (fun _ h => h.2.1) (HR.out.mbs.mono (fun _ hb => hb.2) (fun _ hb => hb)) (by rw [HN0.out]; omega)).mono ?_
      rintro e w5 ⟨v5, rfl, hr5, hb5⟩
      have HR5 := Keep.keep hr5
      have HB5 := Keep.keep hb5
      obtain ⟨a5, c5, hv5, -⟩ := (ownsV_reads hr5.own).shape
      rw [List.length_mergeSort, HN0.out] at hv5
      have HC5 := Keep.keep (compact_mb _ _ v5 _ w5 hb5.size hr5 (by rw [List.length_mergeSort, HN0.out]; omega))
      clear hr5 hb5
      subst hv5
      go_wp2_with fail
      refine HC5.out.mono ?_
      rintro e w6 ⟨v6, rfl, hr6, hb6⟩
      obtain ⟨a6, c6, hv6, -⟩ := (ownsV_reads hr6.own).shape
      have HR6 := Keep.keep hr6
      have HB6 := Keep.keep hb6
      have hcm : (compA (fun x : Mv => x.1.1) (acc.mergeSort (leK (fun x => x.1.1)))).map (·.1) = sortedS (S ++ S.flatMap abvM) := by rw [comp_map, HFM.out]
      have HCM := Keep.keep hcm
      obtain ⟨n6, hn6⟩ : ∃ n, (compA (fun x : Mv => x.1.1) (acc.mergeSort (leK (fun x => x.1.1)))).length = n := ⟨_, rfl⟩
      rw [hn6] at hv6
      clear hr6 hb6 hcm hn6 HC5 HR5
      subst hv6
      go_wp2_with fail
      go_ret
      have hw := HB.out.size
      refine ⟨_, _, rfl, HCM.out, HR6.out.weak hw (fun b hb => by
        rcases hb with hb | hb
        · exact hb.1
        · exact .inr (Nat.le_trans hw hb)), HB.out.trans ((HB5.out.trans HB6.out).mono hw)⟩
    | succ g =>
      have hk : k < n2 := by omega
      have hkl : k < l2.length := by have := HN2.out.1; omega
      have hd : decide ((k : Int) < (n2 : Int)) = true := decide_eq_true (by omega)
      obtain ⟨g2, rfl⟩ : ∃ g2, a2 = some ⟨g2, 0, none⟩ := by
        rcases HO.out.2 with ⟨h1, h2⟩ | ⟨g', cap', cur, h1, -⟩
        · omega
        · injection h1 with h1; exact ⟨g', h1⟩
      have hld := own_loadAt HO.out (HN2.out.1.symm) (List.getElem?_eq_getElem hkl)
      have hkS : k < S.length := by have := HN2.out.2.1; omega
      have hSk : S[k] = l2[k].1 := by simp [← HS2.out]
      have HTK : Keep ((S.take (k + 1)).flatMap abvM = (S.take k).flatMap abvM ++ abvM l2[k].1) := ⟨by
        rw [List.take_succ_eq_append_getElem hkS, List.flatMap_append, hSk]; simp⟩
      have HXP : Keep ((aboveP l2[k].1.1).length ≤ 19 ∧ l2[k].1.1.length ≤ 300) := ⟨by rw [← hSk]; exact HSF.out.2.2.1 _ (List.getElem_mem hkS), by rw [← hSk]; exact HSF.out.2.2.2.1 _ (List.getElem_mem hkS)⟩
      have hsh := HND2.out l2[k] (List.getElem_mem hkl)
      clear hkS hSk
      generalize l2[k] = x at *
      obtain ⟨⟨xp, ⟨kind, mode, uid, gid, time, attrs, data, link⟩⟩, av, dv⟩ := x
      obtain ⟨aa, la, ca, ad, ld, cd, e1, e2⟩ := hsh
      dsimp only at e1 e2 HXP HTK
      subst e1 e2
      have HMC : Keep (mcell ((xp, ⟨kind, mode, uid, gid, time, attrs, data, link⟩), .slice aa la ca, .slice ad ld cd) = #[.string ⟨xp.toArray⟩, .int .i64 kind, .int .u32 mode, .int .u32 uid, .int .u32 gid, .int .i64 time, .slice aa la ca, .slice ad ld cd, .string ⟨link.toArray⟩]) := ⟨rfl⟩
      rw [HMC.out] at hld
      have HAB := Keep.keep (fun wx => above_any xp (by have := HXP.out.2; omega) wx)
      have HAE : Keep (abvM (xp, ⟨kind, mode, uid, gid, time, attrs, data, link⟩) = (aboveP xp).map fun p => (p, dirM 493)) := ⟨rfl⟩
      have HPL : Keep (∀ q ∈ aboveP xp, q.length ≤ 300) := ⟨fun q hq => Nat.le_trans (above_len _ _ hq) HXP.out.2⟩
      rw [HAE.out] at HTK
      have HAL : Keep ((aboveP xp).length ≤ 19) := ⟨HXP.out.1⟩
      clear HAE HXP
      generalize aboveP xp = Q at *
      go_upto_region 5 with ((with_reducible refine arm_loadM hld ?_ ?_); (focus rfl); simp only [Act.put, List.setIfInBounds_toArray, List.set_cons_succ, List.set_cons_zero])
      refine wp_world (R := fun wq => Hp NoM wr wq [rowA wr.heap.size 32 #[.string ⟨xp.toArray⟩, .int .i64 kind, .int .u32 mode, .int .u32 uid, .int .u32 gid, .int .i64 time, .slice aa la ca, .slice ad ld cd, .string ⟨link.toArray⟩]]) ((Hp.begin NoM wr).newRow _ _) ?_
      intro w3 H3
      obtain ⟨b4, hb4⟩ : ∃ b4, wr.heap.size = b4 := ⟨_, rfl⟩
      have HB3 := Keep.keep H3.out.below
      rw [hb4] at H3 ⊢
      have c40 := (H3.out.row 0 rfl).cell (i := 0) rfl
      clear hld hb4 H3
      go_wp2_with fail
      refine (HAB.out w3).mono ?_
      rintro e w4 ⟨v4, rfl, ho4, hb4⟩
      have hb34 := HB3.out.trans (hb4.mono HB3.out.size)
      have HO4 := Keep.keep ho4
      have HR4 := Keep.keep (HR.out.below hb34)
      have HO2 := Keep.keep (ownsRow_loc _ _ (fun b hb => hb34.block b (ownsV_lt HO.out b hb).2) HO.out)
      have HB4 := Keep.keep (HB.out.trans (hb34.mono HB.out.size))
      have HSZ3 : Keep (wr.heap.size ≤ w3.heap.size ∧ w3.heap.size ≤ w4.heap.size) := ⟨HB3.out.size, hb4.size⟩
      have HD4 : Keep (∀ b, v4.ownBlock = some b → (Value.slice a0 n0 c0).ownBlock ≠ some b) := ⟨fun b hb e => by
        have h1 := (ownsV_lt ho4 b hb).1
        have h2 := (HR.out.lt e).2
        have := HSZ3.out.1
        omega⟩
      obtain ⟨a4, c4, hv4, -⟩ := (ownsV_reads ho4).shape
      obtain ⟨n4, hn4⟩ : ∃ n, Q.length = n := ⟨_, rfl⟩
      have HN4 := Keep.keep hn4
      have hn19 : n4 ≤ 19 := by have := HAL.out; omega
      unfold OwnS at HO4
      rw [hn4] at hv4 HO4
      clear ho4 hb4 hb34 hn4 c40 HR HO HB HAB
      subst hv4
      go_wp2_with fail
      go_loopg [0, 20] n4 (fun q u0 u20 wx => ∃ (i : Nat) (ac2 : List Mv), i + q = n4 ∧ u20 = .int .i64 (i : Int) ∧ ac2.map (·.1) = acc.map (·.1) ++ (Q.take i).map (fun p => (p, dirM 493)) ∧ ac2.length = n0 + i ∧ RowM w.heap.size K wx u0 ac2 ∧ wx.ownsRow w1.heap.size 32 9 (.slice (some ⟨g2, 0, none⟩) n2 c2) n2 (mcells l2) ∧ wx.ownsRow w3.heap.size 9 1 (.slice a4 n4 c4) n4 (Q.map strV) ∧ (∀ b, (Value.slice (some ⟨g2, 0, none⟩) n2 c2).ownBlock = some b → u0.ownBlock ≠ some b) ∧ (∀ b, (Value.slice a4 n4 c4).ownBlock = some b → u0.ownBlock ≠ some b) ∧ Below w.heap.size w wx)
      case atStart => exact ⟨0, acc, by omega, rfl, by simp, HN0.out, HR4.out, HO2.out, HO4.out, HD.out, HD4.out, HB4.out⟩
      case round =>
        clear HR4 HO2 HO4 HD HD4 HB4
        obtain ⟨i, ac2, hiq, rfl, hmap, hal2, hrow, hown, hown4, hdj, hdj4, hbl⟩ := hrel
        have HM2 := Keep.keep hmap; have HR := Keep.keep hrow; have HO := Keep.keep hown; have HO4 := Keep.keep hown4; have HD := Keep.keep hdj; have HD4 := Keep.keep hdj4; have HB := Keep.keep hbl
        obtain ⟨a9, c9, hu0, -⟩ := (ownsV_reads hrow.own).shape
        rw [hal2] at hu0
        have HA2 := Keep.keep hal2
        clear hmap hrow hown hown4 hdj hdj4 hbl hal2
        subst hu0
        cases gk with
        | zero =>
          obtain rfl : i = n4 := by omega
          have HQ : Keep (ac2.map (·.1) = S ++ (S.take (k + 1)).flatMap abvM) := ⟨by rw [HM2.out, HM.out, HTK.out, ← HN4.out, List.take_length, List.append_assoc]⟩
          have HAA : Keep (ac2.length ≤ 14 + (k + 1) * 19) := ⟨by rw [HA2.out]; omega⟩
          go_wp2_with fail
          go_roundg g
          case measure => omega
          case rel => exact ⟨k + 1, ac2, by omega, by simp, HQ.out, HAA.out, HR.out, HO.out, HD.out, HB.out⟩
        | succ q =>
          have hi4 : i < n4 := by omega
          have hiQ : i < Q.length := by have := HN4.out; omega
          have hd2 : decide ((i : Int) < (n4 : Int)) = true := decide_eq_true (by omega)
          obtain ⟨g4, rfl⟩ : ∃ g4, a4 = some ⟨g4, 0, none⟩ := by
            rcases HO4.out.2 with ⟨h1, h2⟩ | ⟨g', cap', cur, h1, -⟩
            · omega
            · injection h1 with h1; exact ⟨g', h1⟩
          have hc4 := (ownsV_reads HO4.out).cell g4 0 _ _ rfl i (strV Q[i]) (by simp [hiQ])
          rw [Nat.zero_add] at hc4
          have HTQ : Keep ((Q.take (i + 1)).map (fun p => ((p, dirM 493) : Mb)) = (Q.take i).map (fun p => (p, dirM 493)) ++ [(Q[i], dirM 493)]) := ⟨by
            rw [List.take_succ_eq_append_getElem hiQ, List.map_append]; rfl⟩
          generalize Q[i] = qp at *
          unfold strV at hc4
          go_wp2_with fail
          refine (dir_any qp 493 _).mono ?_
          rintro e w7 ⟨rfl, hb7⟩
          have HR7 := Keep.keep (HR.out.below hb7)
          have HO7 := Keep.keep (ownsRow_loc _ _ (fun b hb => hb7.block b (ownsV_lt HO.out b hb).2) HO.out)
          have HO47 := Keep.keep (ownsRow_loc _ _ (fun b hb => hb7.block b (ownsV_lt HO4.out b hb).2) HO4.out)
          have HB7 := Keep.keep (HB.out.trans (hb7.mono HB.out.size))
          have HSW : Keep (wr.heap.size ≤ w7.heap.size) := ⟨hb7.size⟩
          clear hb7 hc4 HO HO4 HB
          go_wp2_with (with_reducible refine arm_stop ?_)
          refine Stopped.out ?_
          have hal : Below w7.heap.size w7 (w7.alloc (.cells #[.string ⟨qp.toArray⟩, .int .i64 1, .int .u32 493, .int .u32 0, .int .u32 0, .int .i64 0, .slice none 0 0, .slice none 0 0, .string ⟨#[]⟩] 32)) := (Below.refl _ _).alloc (Nat.le_refl _) _
          have hrA := HR7.out.below hal
          have hws := HB7.out.size
          have hwA := hal.size
          have hm : Mbs (w7.alloc (.cells #[.string ⟨qp.toArray⟩, .int .i64 1, .int .u32 493, .int .u32 0, .int .u32 0, .int .i64 0, .slice none 0 0, .slice none 0 0, .string ⟨#[]⟩] 32)) (fun _ => True) NoM (.slice (some ⟨w7.heap.size, 0, none⟩) 1 1) [((qp, dirM 493), nilV, nilV)] :=
            ⟨RdV.new (N := fun _ => True) 32 [.string ⟨qp.toArray⟩, .int .i64 1, .int .u32 493, .int .u32 0, .int .u32 0, .int .i64 0, .slice none 0 0, .slice none 0 0, .string ⟨#[]⟩] 9 1 _ rfl rfl (by unfold maxLen; omega) trivial, fun z hz => by
              obtain rfl : z = ((qp, dirM 493), nilV, nilV) := by simpa using hz
              exact ndR_nil rfl rfl⟩
          refine arm_appM (B := w.heap.size) hrA (by omega) hm (fun b hb => hb.elim) (by rw [HA2.out]; simp; omega) rfl rfl ?_
          intro v8 w8 hr8 hg8 hov8 hsh8
          obtain ⟨a8, c8, hv8⟩ := hsh8
          rw [HA2.out] at hv8
          replace hv8 : v8 = .slice a8 (n0 + i + 1) c8 := hv8
          have hx7 := HR.out.lt (b := 0)
          have HR8 := Keep.keep hr8
          have HO8 : Keep (w8.ownsRow w1.heap.size 32 9 (.slice (some ⟨g2, 0, none⟩) n2 c2) n2 (mcells l2)) := ⟨own_loc (ownsRow_loc _ _ (fun b hb => hal.block b (ownsV_lt HO7.out b hb).2) HO7.out) hg8 (fun b hb => HD.out b hb)⟩
          have HO48 : Keep (w8.ownsRow w3.heap.size 9 1 (.slice (some ⟨g4, 0, none⟩) n4 c4) n4 (Q.map strV)) := ⟨own_loc (ownsRow_loc _ _ (fun b hb => hal.block b (ownsV_lt HO47.out b hb).2) HO47.out) hg8 (fun b hb => HD4.out b hb)⟩
          have HD8 : Keep (∀ b, (Value.slice (some ⟨g2, 0, none⟩) n2 c2).ownBlock = some b → v8.ownBlock ≠ some b) := ⟨fun b hb => by
            rcases hov8 with e | e
            · rw [e]; exact HD.out b hb
            · rw [e]; intro e2; injection e2 with e2; have := (ownsV_lt HO7.out b hb).2; omega⟩
          have HD48 : Keep (∀ b, (Value.slice (some ⟨g4, 0, none⟩) n4 c4).ownBlock = some b → v8.ownBlock ≠ some b) := ⟨fun b hb => by
            rcases hov8 with e | e
            · rw [e]; exact HD4.out b hb
            · rw [e]; intro e2; injection e2 with e2; have := (ownsV_lt HO47.out b hb).2; omega⟩
          have HB8 : Keep (Below w.heap.size w w8) := ⟨(HB7.out.trans (hal.mono hws)).trans (hrA.chg (by omega) hg8)⟩
          clear hr8 hg8 hov8 hm hrA hal hx7 HR7 HO7 HO47 HB7 HD HD4 HR
          rw [hv8] at HR8 HD8 HD48
          subst hv8
          simp only [Act.put, List.setIfInBounds_toArray, List.set_cons_succ, List.set_cons_zero]
          go_wp2_with fail
          go_roundg q
          case measure => omega
          case rel => exact ⟨i + 1, ac2 ++ [((qp, dirM 493), nilV, nilV)], by omega, by simp, by rw [List.map_append, HM2.out, HTQ.out, List.append_assoc]; rfl, by simp [HA2.out]; omega, HR8.out, HO8.out, HO48.out, HD8.out, HD48.out, HB8.out⟩
theorem grown19_any (v : Value) (l : List Mv) (w : World) (hr : Mbs w (· < w.heap.size) (· < w.heap.size) v l) :
    Calls Tryz.prog 40 #[v] w fun e w' => ∃ v' l', e = .returned v' ∧ l'.map (·.1) = grown19 (l.map (·.1)) ∧ RowM w.heap.size (· < w.heap.size) w' v' l' ∧ Below w.heap.size w w' := grown19K v l w _ (fun _ h => h) hr
end Go.Proofs.YtplafpokgpolkaaGreatDoor
/- portolanlaw19.Tree. -/
namespace Go.Proofs.YtplafpokgpolkaaGreatDoor
open Go.RowKit
def stepP (L : List Mb) (m : Mb) : List Mb := (putT L m).2
def tree19 (l : List Mb) : List Mb := (grown19 l).foldl stepP []
theorem put_len1 {L : List Mb} (h : SM.Srt L) (m : Mb) : (putT L m).2.length ≤ L.length + 1 := by
  unfold putT
  split
  · simp
  · split
    · simp
    · split
      · simp
      · show (SM.put _ m).length ≤ _
        have hc : (clearT L m.1).length ≤ L.length := List.length_filter_le _ _
        have hcs : SM.Srt (clearT L m.1) := List.Pairwise.filter _ h
        by_cases hk : m.2.kind = 1
        · rw [if_pos hk, h.length_put]; split <;> omega
        · rw [if_neg hk, hcs.length_put]; split <;> omega
theorem RowM.locM {B : Nat} {K : Nat → Prop} {w w' : World} {v : Value} {l : List Mv} (h : RowM B K w v l) (hs : w.heap.size ≤ w'.heap.size) (hb : ∀ b, (K b ∨ B ≤ b) → b < w.heap.size → w'.heap[b]? = w.heap[b]?) : RowM B K w' v l :=
  ⟨ownsRow_loc _ _ (fun b e => hb b (.inr (h.lt e).1) (h.lt e).2) h.own, fun x hx => ((h.nd x hx).loc (fun b e => hb b e.1 e.2.1)).mono (fun _b e => ⟨e.1, Nat.lt_of_lt_of_le e.2.1 hs, e.2.2⟩)⟩
set_option maxHeartbeats 4000000 in
set_option maxRecDepth 100000 in
theorem tree19_any (B : Nat) (v : Value) (l : List Mv) (w : World) (hT : Tabs B w) (hr : Mbs w (· < w.heap.size) (· < w.heap.size) v l) (hk : ∀ x ∈ l, Kb x.1) :
    Calls Tryz.prog 29 #[v] w fun e w' => ∃ T mb Bk f, e = .returned (.pointer (some ⟨T, 0, none⟩)) ∧ TreeIn w' T mb Bk f (tree19 (l.map (·.1))) ∧ (w.heap.size ≤ T ∧ w.heap.size ≤ mb ∧ ∀ b, Bk b → Fresh w.heap.size w' b) ∧ Below w.heap.size w w' := by
  obtain ⟨a, cap, hv, -, -, -⟩ := hr.rd.shape
  have HT := Keep.keep hT
  have HR := Keep.keep hr
  have HNEW := Keep.keep (new_tree (.slice none 0 0) [] B w hT ⟨RdV.ofNil, fun x hx => by simp at hx⟩ (fun x hx => by simp at hx) (by simp))
  obtain ⟨G, hG⟩ : ∃ G, grown19 (l.map (·.1)) = G := ⟨_, rfl⟩
  have HG : Keep (tree19 (l.map (·.1)) = G.foldl stepP [] ∧ G.length ≤ 280 ∧ ∀ x ∈ G, Sm x) := ⟨by unfold tree19; rw [hG], by rw [← hG]; exact grown19_len _, by rw [← hG]; exact grown19_sm (fun x hx => by obtain ⟨y, hy, rfl⟩ := List.mem_map.1 hx; exact hk y hy)⟩
  have HGR : Keep (∀ w1, Below w.heap.size w w1 → Calls Tryz.prog 40 #[v] w1 fun e w' => ∃ v' l', e = .returned v' ∧ l'.map (·.1) = G ∧ RowM w1.heap.size (· < w.heap.size) w' v' l' ∧ Below w1.heap.size w1 w') := ⟨fun w1 hb => by
    have h := grown19K v l w1 (· < w.heap.size) (fun _ h => Nat.lt_of_lt_of_le h hb.size) ((HR.out.below hb (fun _ h => h) (fun _ h => h)).mono (fun _ h => Nat.lt_of_lt_of_le h hb.size) (fun _ h => h))
    rw [hG] at h
    exact h⟩
  rw [HG.out.1]
  clear hT hr hk hG HR
  subst hv
  go_enter Tryz.func29, Tryz.ntmps29
  go_wp2_with fail
  refine HNEW.out.mono ?_
  rintro e w1 ⟨⟨pv, rfl, hnew⟩, hb1⟩
  obtain ⟨T, mb, Bk, f, rfl, hti, hTw, hmw, hBk⟩ := hnew
  have HTI := Keep.keep hti; have HB1 := Keep.keep hb1; have HBK := Keep.keep hBk
  have HLT : Keep (T < w1.heap.size ∧ mb < w1.heap.size ∧ w.heap.size ≤ w1.heap.size) := ⟨hti.row.lt, hti.map.lt, hb1.size⟩
  have HG1 := Keep.keep (HGR.out w1 hb1)
  clear hti hb1 hBk HNEW HGR
  go_wp2_with fail
  refine HG1.out.mono ?_
  rintro e w2 ⟨v2, l2, rfl, hl2, hr2, hb2⟩
  have HR2 := Keep.keep hr2
  have HL2 : Keep (l2.map (·.1) = G ∧ l2.length ≤ 280) := ⟨hl2, by have := HG.out.2.1; rw [← hl2, List.length_map] at this; exact this⟩
  have HTI2 : Keep (TreeIn w2 T mb Bk f []) := ⟨HTI.out.loc (fun b hb => hb2.block b (by
    rcases hb with rfl | rfl | h
    · exact HLT.out.1
    · exact HLT.out.2.1
    · exact (HBK.out b h).2))⟩
  have HBK2 : Keep (∀ b, Bk b → Fresh w.heap.size w2 b) := ⟨fun b h => ⟨(HBK.out b h).1, Nat.lt_of_lt_of_le (HBK.out b h).2 hb2.size⟩⟩
  have HB2 := Keep.keep (HB1.out.trans (hb2.mono HB1.out.size))
  obtain ⟨a2, c2, hv2, -⟩ := (ownsV_reads hr2.own).shape
  obtain ⟨n2, hn2⟩ : ∃ n, l2.length = n := ⟨_, rfl⟩
  have HN2 := Keep.keep hn2
  have hn280 : n2 ≤ 280 := by have := HL2.out.2; omega
  rw [hn2] at hv2
  clear hl2 hr2 hb2 HG1 HTI HB1 HBK hn2
  subst hv2
  go_wp2_with fail
  go_loopg [14] n2 (fun g u14 wx => ∃ (k : Nat) (Bk : Nat → Prop) (f : Tx → Value × Value), k + g = n2 ∧ u14 = .int .i64 (k : Int) ∧ TreeIn wx T mb Bk f ((G.take k).foldl stepP []) ∧ ((G.take k).foldl stepP []).length ≤ k ∧ (∀ b, Bk b → Fresh w.heap.size wx b) ∧ RowM w1.heap.size (· < w.heap.size) wx (.slice a2 n2 c2) l2 ∧ Below w.heap.size w wx)
  case atStart => exact ⟨0, Bk, f, by omega, rfl, HTI2.out, Nat.le_refl _, HBK2.out, HR2.out, HB2.out⟩
  case round =>
    clear HR2 HTI2 HBK2 HB2
    obtain ⟨k, Bk2, f2, hkg, rfl, hti, hlen, hbk, hrow, hb⟩ := hrel
    have HT2 := Keep.keep hti; have HBK2 := Keep.keep hbk; have HB2 := Keep.keep hb; have HR2 := Keep.keep hrow
    clear hti hbk hb hrow
    cases gk with
    | zero =>
      obtain rfl : k = n2 := by omega
      have HF : Keep (G.take k = G) := ⟨by rw [List.take_of_length_le]; rw [← HL2.out.1, List.length_map, HN2.out]; exact Nat.le_refl _⟩
      rw [HF.out] at HT2
      go_wp2_with fail
      go_ret
      exact ⟨T, mb, Bk2, f2, rfl, HT2.out, ⟨hTw, hmw, HBK2.out⟩, HB2.out⟩
    | succ g =>
      have hk : k < n2 := by omega
      have hkl : k < l2.length := by have := HN2.out; omega
      have hd : decide ((k : Int) < (n2 : Int)) = true := decide_eq_true (by omega)
      obtain ⟨g2, rfl⟩ : ∃ g2, a2 = some ⟨g2, 0, none⟩ := by
        rcases HR2.out.own.2 with ⟨h1, h2⟩ | ⟨g', cap', cur, h1, -⟩
        · omega
        · injection h1 with h1; exact ⟨g', h1⟩
      have hown := HR2.out.own
      rw [HN2.out] at hown
      have hld := own_loadAt hown (HN2.out.symm) (List.getElem?_eq_getElem hkl)
      have hkG : k < G.length := by rw [← HL2.out.1, List.length_map]; exact hkl
      have hGk : G[k] = l2[k].1 := by simp [← HL2.out.1]
      have HTK : Keep ((G.take (k + 1)).foldl stepP [] = stepP ((G.take k).foldl stepP []) l2[k].1) := ⟨by
        rw [List.take_succ_eq_append_getElem hkG, List.foldl_append, hGk]; rfl⟩
      have hsm := HG.out.2.2 _ (List.getElem_mem hkG)
      rw [hGk] at hsm
      have HND := Keep.keep (HR2.out.nd l2[k] (List.getElem_mem hkl))
      clear hown hkG hGk
      generalize l2[k] = x at *
      obtain ⟨⟨xp, ⟨kind, mode, uid, gid, time, attrs, data, link⟩⟩, av, dv⟩ := x
      obtain ⟨aa, la, ca, ad, ld, cd, e1, e2⟩ := HND.out.shape
      dsimp only at e1 e2 hsm HTK
      subst e1 e2
      have HMC : Keep (mcell ((xp, ⟨kind, mode, uid, gid, time, attrs, data, link⟩), .slice aa la ca, .slice ad ld cd) = #[.string ⟨xp.toArray⟩, .int .i64 kind, .int .u32 mode, .int .u32 uid, .int .u32 gid, .int .i64 time, .slice aa la ca, .slice ad ld cd, .string ⟨link.toArray⟩]) := ⟨rfl⟩
      rw [HMC.out] at hld
      have HSM := Keep.keep hsm
      have HSZ : Keep ((#[.string ⟨xp.toArray⟩, .int .i64 kind, .int .u32 mode, .int .u32 uid, .int .u32 gid, .int .i64 time, .slice aa la ca, .slice ad ld cd, .string ⟨link.toArray⟩] : Array Value).size = 9) := ⟨rfl⟩
      clear hsm
      go_upto_region 5 with ((with_reducible refine arm_loadM hld ?_ ?_); (focus rfl); simp only [Act.put, List.setIfInBounds_toArray, List.set_cons_succ, List.set_cons_zero])
      refine wp_world (R := fun wq => Hp NoM wr wq [rowA wr.heap.size 32 #[.string ⟨xp.toArray⟩, .int .i64 kind, .int .u32 mode, .int .u32 uid, .int .u32 gid, .int .i64 time, .slice aa la ca, .slice ad ld cd, .string ⟨link.toArray⟩]]) ((Hp.begin NoM wr).newRow _ _) ?_
      intro w3 H3
      obtain ⟨b6, hb6⟩ : ∃ b6, wr.heap.size = b6 := ⟨_, rfl⟩
      have HB3 := Keep.keep H3.out.below
      rw [hb6] at H3 ⊢
      have HRW := Keep.keep (H3.out.row 0 rfl)
      clear hld hb6 H3
      have HB4 := Keep.keep (HB2.out.trans (HB3.out.mono HB2.out.size))
      have hsz3 := HB3.out.size
      have HT3 : Keep (TreeIn w3 T mb Bk2 f2 ((G.take k).foldl stepP [])) := ⟨HT2.out.loc (fun b hb => HB3.out.block b (by
        rcases hb with rfl | rfl | h
        · exact HT2.out.row.lt
        · exact HT2.out.map.lt
        · exact (HBK2.out b h).2))⟩
      have HPT := Keep.keep (put_tree T mb Bk2 f2 ((G.take k).foldl stepP []) B w3 HT3.out (fun b h => Nat.lt_of_lt_of_le (HBK2.out b h).2 hsz3) (by omega) (HT.out.on (HB4.out.mono HT.out.b)) (xp, ⟨kind, mode, uid, gid, time, attrs, data, link⟩) (.slice aa la ca) (.slice ad ld cd) HSM.out ((HND.out.below HB3.out (fun b hb => hb.2.1)).mono (fun b hb => ⟨Nat.lt_of_lt_of_le hb.2.1 hsz3, fun e => by
        have := HLT.out
        rcases hb.1 with h | h <;> omega⟩)))
      have HPT' : Keep (Calls Tryz.prog 72 #[.pointer (some ⟨T, 0, none⟩), .agg #[.string ⟨xp.toArray⟩, .int .i64 kind, .int .u32 mode, .int .u32 uid, .int .u32 gid, .int .i64 time, .slice aa la ca, .slice ad ld cd, .string ⟨link.toArray⟩]] w3 fun e w' => ∃ q, e = .returned (.int .i64 q) ∧ (∃ Bk' f', TreeIn w' T mb Bk' f' (stepP ((G.take k).foldl stepP []) (xp, ⟨kind, mode, uid, gid, time, attrs, data, link⟩)) ∧ ∀ b, Bk' b → Bk2 b ∨ Fresh w3.heap.size w' b) ∧ Chg (fun j => j = mb) w3.heap.size w3 w') := ⟨HPT.out.mono (fun e w' h => ⟨_, h.1, h.2⟩)⟩
      have HSL : Keep (SM.Srt ((G.take k).foldl stepP [])) := ⟨HT2.out.srt⟩
      clear HPT HND
      go_wp2_with ((with_reducible refine arm_loadRow HRW.out aggM HSZ.out ?_ ?_); (focus rfl); simp only [Act.put, List.setIfInBounds_toArray, List.set_cons_succ, List.set_cons_zero])
      refine HPT'.out.mono ?_
      rintro e w4 ⟨q, rfl, ⟨Bk', f', hti4, hbk4⟩, hch⟩
      have HT4 : Keep (TreeIn w4 T mb Bk' f' ((G.take (k + 1)).foldl stepP [])) := ⟨by rw [HTK.out]; exact hti4⟩
      have HLN : Keep (((G.take (k + 1)).foldl stepP []).length ≤ k + 1) := ⟨by rw [HTK.out]; exact Nat.le_trans (put_len1 HSL.out (xp, ⟨kind, mode, uid, gid, time, attrs, data, link⟩)) (by omega)⟩
      have hsw := HB2.out.size
      have HBK4 : Keep (∀ b, Bk' b → Fresh w.heap.size w4 b) := ⟨fun b h => by
        have := hch.size
        rcases hbk4 b h with h | h
        · exact ⟨(HBK2.out b h).1, by have := (HBK2.out b h).2; omega⟩
        · exact ⟨by have := h.1; omega, h.2⟩⟩
      have HR4 : Keep (RowM w1.heap.size (· < w.heap.size) w4 (.slice (some ⟨g2, 0, none⟩) n2 c2) l2) := ⟨(HR2.out.below HB3.out).locM hch.size (fun b hb hlt => hch.block b hlt (fun e => by
        have := HLT.out
        rcases hb with h | h <;> omega))⟩
      have HB5 : Keep (Below w.heap.size w w4) := ⟨HB4.out.trans ((hch.lower HB4.out.size).below (fun j hj e => by omega))⟩
      clear hti4 hbk4 hch HT3 HPT' HT2 HBK2 HR2 HB2 HB4 HRW
      go_wp2_with fail
      go_roundg g
      case measure => omega
      case rel => exact ⟨k + 1, Bk', f', by omega, by simp, HT4.out, HLN.out, HBK4.out, HR4.out, HB5.out⟩
end Go.Proofs.YtplafpokgpolkaaGreatDoor
/- ChangeLocal, plainly: a Dir's children taken away in any order. -/
namespace Go.Proofs.YtplafpokgpolkaaGreatDoor
theorem remove_kids_perm {A : List Mb} (hA : WellL A) (p : Tx) {l : List Tx} (hl : l.Perm ((kids p A).map (·.1))) : l.foldl (fun K c => (removeT K c).2) A = A.filter fun x => !underP p x.1 := by
  have h0 : A = A.filter fun x => !([] : List Tx).any fun c => hitT c x.1 := by
    symm; rw [List.filter_eq_self]; intro x _; rfl
  have hm : ∀ c ∈ (kids p A).map (·.1), parentP c = p ∧ ∃ n, (c, n) ∈ A := fun c hc => by
    obtain ⟨x, hx, rfl⟩ := List.mem_map.1 hc
    obtain ⟨h1, h2⟩ := mem_kids.1 hx
    exact ⟨h2, x.2, h1⟩
  have hn : ((kids p A).map (·.1)).Nodup := srt_nodup (hA.s.filter _)
  have h1 := fold_kids hA p l [] (fun c hc => hm c (hl.mem_iff.1 (by simpa using hc))) (by rw [List.nil_append]; exact hl.nodup_iff.2 hn)
  have h2 := fold_kids hA p ((kids p A).map (·.1)) [] (fun c hc => hm c (by simpa using hc)) (by rw [List.nil_append]; exact hn)
  rw [← h0] at h1 h2
  rw [h1, ← remove_kids hA p, h2]
  refine List.filter_congr fun x _ => ?_
  rw [List.nil_append, List.nil_append, hl.any_eq]
theorem names_kids {A : List Mb} (hA : WellL A) {p : Tx} (h0 : p ≠ []) {l : List Tx} (hl : l.Perm (namesT p A)) : (l.map fun b => joinP [p, b]).Perm ((kids p A).map (·.1)) := by
  refine (hl.map _).trans ?_
  have e : (namesT p A).map (fun b => joinP [p, b]) = (kids p A).map (·.1) := by
    unfold namesT kids
    rw [List.map_map]
    refine List.map_congr_left fun x hx => ?_
    have hk : x ∈ kids p A := hx
    obtain ⟨hm, hp⟩ := mem_kids.1 hk
    obtain ⟨h1, h2⟩ := hA.path hm
    have hj := kids_join hA hk
    rw [if_neg h0] at hj
    show joinP [p, baseP x.1] = x.1
    rw [joinP_two, if_neg h0]
    have hb : baseP x.1 ≠ [] := by
      intro e
      rw [hj, e] at h1
      have := (may_app (d := p) (b := []) (fun x hx => by simp at hx) h1).2
      simp [mayN] at this
    rw [if_neg hb]
    exact hj.symm
  rw [e]
theorem tree19_well (l : List Mb) : WellL (tree19 l) := by
  have h : ∀ (G L : List Mb), WellL L → WellL (G.foldl stepP L) := fun G => by
    induction G with
    | nil => intro L h; exact h
    | cons x G ih => intro L h; exact ih _ (put_well h x)
  exact h _ _ ⟨SM.Srt.nil, fun x hx => by simp at hx, fun x hx => by simp at hx⟩
theorem tree19_len (l : List Mb) : (tree19 l).length ≤ 280 := by
  have h : ∀ (G L : List Mb), WellL L → (G.foldl stepP L).length ≤ L.length + G.length := fun G => by
    induction G with
    | nil => intro L h; simp
    | cons x G ih =>
      intro L h
      have h1 := ih (stepP L x) (put_well h x)
      have h2 := put_len1 h.s x
      rw [List.foldl_cons, List.length_cons]
      exact Nat.le_trans h1 (by unfold stepP; omega)
  have h1 := h (grown19 l) [] ⟨SM.Srt.nil, fun x hx => by simp at hx, fun x hx => by simp at hx⟩
  have h2 := grown19_len l
  unfold tree19
  simp at h1
  omega
end Go.Proofs.YtplafpokgpolkaaGreatDoor
