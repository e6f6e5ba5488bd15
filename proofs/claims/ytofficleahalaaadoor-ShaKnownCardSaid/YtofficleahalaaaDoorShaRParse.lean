/- DIGESTS OF NAMES, the reference's. -/
import Derived.Test.YtofficleahalaaaDoorShaParse
import Derived.Test.YtofficleahalaaaDoorQRow
namespace Go.Proofs.YtofficleahalaaaDoor
open Go.RowKit
theorem hex_at : ∀ k, k < 16 → ∀ x : Nat, x < 256 → ((((hexDigit k).toNat : Int) == (x : Int)) = true ↔ hv x = k) := by decide +kernel
theorem ext7 (l : List UInt8) : (ByteArray.extract ⟨l.toArray⟩ 0 7).toList = l.take 7 := by
  rw [Lib.toList_data, Lib.extract_data]; simp
theorem aggA32 : AggTy Tryd.prog 24 32 := ⟨⟨_, Tryd.underlying24, rfl⟩, by kernel_rfl⟩
set_option maxHeartbeats 1000000 in
set_option maxRecDepth 100000 in
theorem rparse_any (l : List UInt8) (hl : l.length ≤ 140737488355328) (w : World) :
    Calls Tryd.prog 20 #[.string ⟨l.toArray⟩] w fun e w' => e = .returned (.tuple #[.agg (bcells (parseD l)).toArray, .int .i64 (parseE l)]) ∧ Below w.heap.size w w' := by
  have hZ := Keep.keep zeros_cells
  have hZ1 := Keep.keep (all_oneCell_toArray (bcells_one (List.replicate 32 0)))
  have HH := Keep.keep (((Hp.begin NoM w).newRow 24 (bcells (List.replicate 32 0)).toArray).newRow' 24 (bcells (List.replicate 32 0)).toArray _ (w.heap.size + 1) (by simp) rfl)
  have hno : ¬ Names l → (∀ w2, w2 = ((w.alloc (.cells (bcells (List.replicate 32 0)).toArray 24)).alloc (.cells (bcells (List.replicate 32 0)).toArray 24)) → True) := fun _ _ _ => trivial
  clear hno
  by_cases h71 : l.length = 71 ∧ l.take 7 = pre7
  · have hex := ext7 l
    rw [h71.2] at hex
    unfold pre7 at hex
    have hlen : (l.drop 7).length = 64 := by simp [h71.1]
    have h71' : (l.length : Int) = 71 := by omega
    have hln := h71.1
    have H71 := Keep.keep h71; clear h71
    go_enter Tryd.func20, Tryd.ntmps20
    go_wp2_with fail
    refine wp_world (R := fun w2 => Hp NoM w w2 [rowA w.heap.size 24 (bcells (List.replicate 32 0)).toArray, rowA (w.heap.size + 1) 24 (bcells (digs (vals (l.drop 7)) 0)).toArray]) (by rw [digs_zero]; exact HH.out) ?_
    intro w2 HH2
    clear hex h71'
    generalize hzz : (bcells (List.replicate 32 0)).toArray = zz at *
    have HZZ := Keep.keep hzz; clear hzz
    generalize hdd : l.drop 7 = dl at *
    have HDD := Keep.keep hdd; clear hdd
    go_loopw [5] (fun t wr => ∃ i : Nat, i ≤ 64 ∧ t = .int .i64 ((i : Int) + 7) ∧ (∀ k, k < i → (vals dl).getD k 0 < 16) ∧ Hp NoM w wr [rowA w.heap.size 24 zz, rowA (w.heap.size + 1) 24 (bcells (digs (vals dl) i)).toArray]) (fun t _ => 71 - (intOf t).toNat)
    case atStart => exact ⟨0, by omega, rfl, fun k hk => by omega, HH2.out⟩
    case round =>
      obtain ⟨i, hi, rfl, hlow, hs⟩ := hrel
      have HS := Keep.keep hs; have HLOW := Keep.keep hlow; clear hs hlow
      by_cases hi64 : i < 64
      · have hpos : i + 7 < (⟨l.toArray⟩ : ByteArray).size := by show i + 7 < l.toArray.size; simp [hln]; omega
        have hil : i < dl.length := by omega
        obtain ⟨x, hx, hx256⟩ : ∃ x, ((⟨l.toArray⟩ : ByteArray)[i + 7]'hpos).toNat = x ∧ x < 256 := ⟨_, rfl, UInt8.toNat_lt _⟩
        have hvx : (vals dl).getD i 0 = hv x := by
          have h1 : dl[i]? = l[7 + i]? := by rw [← HDD.out, List.getElem?_drop]
          have h2 : i + 7 < l.length := by omega
          have h3 : l[i + 7]'h2 = (⟨l.toArray⟩ : ByteArray)[i + 7]'hpos := rfl
          simp only [vals, List.getD_eq_getElem?_getD, List.getElem?_map, h1, Nat.add_comm 7 i, List.getElem?_eq_getElem h2, Option.map_some, Option.getD_some, h3, hx]
        have HVX := Keep.keep hvx; clear hvx
        go_wp2_with fail
        go_loopw [6, 7] (fun t u wr2 => ∃ (k : Nat) (n6 : Int), k ≤ 16 ∧ u = .int .i64 k ∧ t = .int .i64 n6 ∧ (hv x < k → n6 = (hv x : Int)) ∧ (¬ hv x < k → n6 = -1) ∧ Hp NoM w wr2 [rowA w.heap.size 24 zz, rowA (w.heap.size + 1) 24 (bcells (digs (vals dl) i)).toArray]) (fun _ u _ => 16 - (intOf u).toNat)
        case atStart => exact ⟨0, -1, by omega, rfl, rfl, fun h => by omega, fun _ => rfl, HS.out⟩
        case round =>
          obtain ⟨k, n6, hk, rfl, rfl, hn1, hn2, hs2⟩ := hrel
          have HS2 := Keep.keep hs2; have HN1 := Keep.keep hn1; have HN2 := Keep.keep hn2; clear hs2 hn1 hn2
          by_cases hk16 : k < 16
          · have hkk := hexL_idx k hk16 (by show k < 16; exact hk16)
            have hat := hex_at k hk16 x hx256
            have hix : ∀ w, (Instr.index 9 (.string ⟨l.toArray⟩) (.int .i64 ((i : Int) + 7))).run Tryd.prog w = .ok (.int .u8 (x : Int)) w := by
              intro w
              rw [show ((i : Int) + 7) = ((i + 7 : Nat) : Int) by omega, ← hx]
              exact run_index_str Tryd.underlying9 ⟨l.toArray⟩ .i64 (i + 7) _ (List.getElem?_eq_getElem (by simp [hln]; omega)) w
            have HIX := Keep.keep hix; clear hix
            by_cases hkx : hv x = k
            · have hb : (((hexDigit k).toNat : Int) == (x : Int)) = true := hat.2 hkx
              have HKX := Keep.keep hkx; clear hkx hat
              go_wp2_with fail
              (refine wp_region_quiet_lit (by kernel_rfl) (by kernel_rfl) ?_); (repeat (first | ((with_reducible refine quiet_index HIX.out ?_ ?_ ?_); (focus rfl); (focus rfl); simp only [Act.put, List.setIfInBounds_toArray, List.set_cons_succ, List.set_cons_zero]) | go_big_quiet_step (fail))); (refine wpQuiet_nil ?_); (intro _ hwq); (obtain ⟨nq, hwq⟩ := hwq); (subst hwq)
              go_wp2_with fail
              refine ⟨⟨k + 1, (k : Int), by omega, by go_num, rfl, fun _ => by rw [HKX.out], fun h => absurd h (by rw [HKX.out]; omega), HS2.out.drewN _⟩, by simp [intOf]; omega⟩
            · have hb : (((hexDigit k).toNat : Int) == (x : Int)) = false := by
                rw [Bool.eq_false_iff]; exact fun h => hkx (hat.1 h)
              have HKX := Keep.keep hkx; clear hkx hat
              go_wp2_with fail
              (refine wp_region_quiet_lit (by kernel_rfl) (by kernel_rfl) ?_); (repeat (first | ((with_reducible refine quiet_index HIX.out ?_ ?_ ?_); (focus rfl); (focus rfl); simp only [Act.put, List.setIfInBounds_toArray, List.set_cons_succ, List.set_cons_zero]) | go_big_quiet_step (fail))); (refine wpQuiet_nil ?_); (intro _ hwq); (obtain ⟨nq, hwq⟩ := hwq); (subst hwq)
              go_wp2_with fail
              refine ⟨⟨k + 1, n6, by omega, by go_num, rfl, fun h => HN1.out (by have := HKX.out; omega), fun h => HN2.out (by omega), HS2.out.drewN _⟩, by simp [intOf]; omega⟩
          · obtain rfl : k = 16 := by omega
            by_cases hhex : hv x < 16
            · have hn := HN1.out hhex
              subst hn
              have hd16 := dig1_low (vals dl) i HLOW.out
              have hst := digs_cell (vals dl) i (16 * dig1 (vals dl) i (i / 2) + hv x) (by rw [HVX.out]) (by omega)
              have HST := Keep.keep (HS2.out.setCell (c' := (bcells (digs (vals dl) (i + 1))).toArray) 1 rfl (i / 2) _ hst)
              have hfr := HS2.out.row 1 rfl |>.frozen (i / 2)
              have hcell := (HS2.out.row 1 rfl).cell (digs_get (vals dl) i (i / 2) (by omega))
              rw [show (UInt8.ofNat (dig1 (vals dl) i (i / 2))).toNat = dig1 (vals dl) i (i / 2) by rw [UInt8.toNat_ofNat', Nat.mod_eq_of_lt (by simp; omega)]] at hcell
              clear hst
              generalize dig1 (vals dl) i (i / 2) = dd at *
              generalize hnn : hv x = nn at *
              have HNN := Keep.keep hnn; clear hnn
              go_wp2_with fail
              refine ⟨⟨i + 1, by omega, congrArg (Value.int .i64) (by omega), fun k hk => ?_, ?_⟩, by simp [intOf]; omega⟩
              · rcases Nat.lt_or_ge k i with h | h
                · exact HLOW.out k h
                · obtain rfl : k = i := by omega
                  rw [HVX.out]; exact hhex
              · have e : ((dd : Int) * 16 + (nn : Int)) = ((16 * dd + nn : Nat) : Int) := by omega
                rw [e]; exact HST.out
            · have hn := HN2.out hhex
              subst hn
              have hno : ¬ Names l := fun h => by
                have h2 := h.2.2 (hv x) (by rw [HDD.out, ← HVX.out, List.getD_eq_getElem?_getD, List.getElem?_eq_getElem (by simp [vals]; omega)]; exact List.getElem_mem _)
                exact hhex h2
              have HNO := Keep.keep (show parseD l = List.replicate 32 0 ∧ parseE l = 5 by unfold parseD parseE; rw [if_neg hno, if_neg hno]; exact ⟨rfl, rfl⟩)
              clear hno hhex
              have HR0 := Keep.keep (HS2.out.row 0 rfl); have HB := Keep.keep (HS2.out.setRow 0 rfl zz)
              go_wp2_with (first
                | ((with_reducible refine arm_storeRow HR0.out aggA32 hZ.out hZ.out hZ1.out ?_ ?_ ?_); (focus rfl); (focus (rw [← HZZ.out]; rfl)); simp only [Act.put]))
              refine bodyPost_ret (v := .tuple #[.agg zz, .int .i64 5]) ?_ rfl ⟨by rw [HNO.out.1, HNO.out.2, HZZ.out], HB.out.below⟩
              exact results_row2 (p := 2) (q := 3) (ty := 24) rfl (HB.out.row 0 rfl) aggA32 hZ.out rfl rfl
      · obtain rfl : i = 64 := by omega
        have hyes : Names l := by
          refine ⟨H71.out.1, H71.out.2, fun v hv' => ?_⟩
          rw [HDD.out] at hv'
          obtain ⟨k, hk, rfl⟩ := List.getElem_of_mem hv'
          have := HLOW.out k (by simp [vals] at hk; omega)
          rwa [List.getD_eq_getElem?_getD, List.getElem?_eq_getElem hk] at this
        have HYES := Keep.keep (show parseD l = digs (vals dl) 64 ∧ parseE l = 0 by unfold parseD parseE; rw [if_pos hyes, if_pos hyes, HDD.out]; exact ⟨rfl, rfl⟩)
        have hc32 : (bcells (digs (vals dl) 64)).toArray.size = 32 := by simp [bcells, digs_length]
        have HC1 := Keep.keep (all_oneCell_toArray (bcells_one (digs (vals dl) 64)))
        have HR1 := Keep.keep (HS.out.row 1 rfl)
        have HR0 := Keep.keep (HS.out.row 0 rfl)
        have HB := Keep.keep (HS.out.setRow 0 rfl (bcells (digs (vals dl) 64)).toArray)
        clear hyes
        have HC32 := Keep.keep hc32; clear hc32
        generalize hcs : (bcells (digs (vals dl) 64)).toArray = cs at HC32 HC1 HR1 HB
        have HCS := Keep.keep hcs; clear hcs
        go_wp2_with (first | ((with_reducible refine arm_loadRow HR1.out aggA32 HC32.out ?_ ?_); (focus rfl); simp only [Act.put, List.setIfInBounds_toArray, List.set_cons_succ, List.set_cons_zero]) | ((with_reducible refine arm_storeRow HR0.out aggA32 hZ.out HC32.out HC1.out ?_ ?_ ?_); (focus rfl); (focus rfl); simp only [Act.put]))
        refine bodyPost_ret (v := .tuple #[.agg cs, .int .i64 0]) ?_ rfl ⟨by rw [HYES.out.1, HYES.out.2, HCS.out], HB.out.below⟩
        exact results_row2 (p := 2) (q := 3) (ty := 24) rfl (HB.out.row 0 rfl) aggA32 HC32.out rfl rfl
  · have hcase : ((l.length : Int) != 71) = true ∨ (l.length = 71 ∧ ((ByteArray.extract ⟨l.toArray⟩ 0 7).toList == [115, 104, 97, 50, 53, 54, 58]) = false) := by
      by_cases h : l.length = 71
      · refine .inr ⟨h, ?_⟩
        rw [ext7, beq_eq_false_iff_ne]
        exact fun hp => h71 ⟨h, hp⟩
      · exact .inl (by rw [bne_iff_ne]; omega)
    have hno : ¬ Names l := fun h => h71 ⟨h.1, h.2.1⟩
    have HNO := Keep.keep (show parseD l = List.replicate 32 0 ∧ parseE l = 5 by unfold parseD parseE; rw [if_neg hno, if_neg hno]; exact ⟨rfl, rfl⟩)
    clear h71 hno
    generalize hzz : (bcells (List.replicate 32 0)).toArray = zz at hZ hZ1
    have HZZ := Keep.keep hzz; clear hzz
    rcases hcase with hb | ⟨hl71, hb⟩
    all_goals
      go_enter Tryd.func20, Tryd.ntmps20
      go_wp2_with (with_reducible refine arm_stopL ?_)
      refine Stopped.out ?_
      refine wpList_world (R := fun w2 => Hp NoM w w2 [rowA w.heap.size 24 zz, rowA (w.heap.size + 1) 24 zz]) (by rw [← HZZ.out]; exact HH.out) ?_
      intro w2 H2
      have HR1 := Keep.keep (H2.out.row 1 rfl); have HR0 := Keep.keep (H2.out.row 0 rfl); have HB := Keep.keep (H2.out.setRow 0 rfl zz)
      refine arm_loadRow HR1.out aggA32 hZ.out rfl ?_
      simp only [Act.put, List.setIfInBounds_toArray, List.set_cons_succ, List.set_cons_zero]
      go_wp2_with (first | ((with_reducible refine arm_storeRow HR0.out aggA32 hZ.out hZ.out hZ1.out ?_ ?_ ?_); (focus rfl); (focus rfl); simp only [Act.put]))
      refine bodyPost_ret (v := .tuple #[.agg zz, .int .i64 5]) ?_ rfl ⟨by rw [HNO.out.1, HNO.out.2, HZZ.out], HB.out.below⟩
      exact results_row2 (p := 2) (q := 3) (ty := 24) rfl (HB.out.row 0 rfl) aggA32 hZ.out rfl rfl
end Go.Proofs.YtofficleahalaaaDoor
