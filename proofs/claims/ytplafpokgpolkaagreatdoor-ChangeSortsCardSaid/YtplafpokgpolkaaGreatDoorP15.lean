/- PARTS OF ONE PROOF, set in one file: RefSame, Alike, EqF, FewL, Short, FewS1, FewS2, ConvS, Tr19. Each part tells its own conditions. -/
import Derived.Test.YtplafpokgpolkaaGreatDoorP3
import Derived.Test.YtplafpokgpolkaaGreatDoorP4
import Derived.Test.YtplafpokgpolkaaGreatDoorP6
import Derived.Test.YtplafpokgpolkaaGreatDoorP8
import Derived.Test.YtplafpokgpolkaaGreatDoorP10
import Derived.Test.YtplafpokgpolkaaGreatDoorP11
import Derived.Test.YtplafpokgpolkaaGreatDoorP13
import Derived.Test.YtplafpokgpolkaaGreatDoorP14
/- portolanref12.Same; portolanlaw12.Alike: Members set side by side. -/
namespace Go.Proofs.YtplafpokgpolkaaGreatDoor
open Go.RowKit
set_option maxHeartbeats 4000000 in
set_option maxRecDepth 100000 in
theorem same_ref (a b : Mb) (av dv bv ev : Value) (w : World) (ha : NdR w (· < w.heap.size) a.2 av dv) (hb : NdR w (· < w.heap.size) b.2 bv ev) :
    Calls Tryz.prog 26 #[.agg (mbC a av dv), .agg (mbC b bv ev)] w fun e w' => SaysB (a = b) e ∧ Below w.heap.size w w' := by
  obtain ⟨aa, la, ca, ad, ld, cd, e1, e2⟩ := ha.shape
  obtain ⟨ba, lb, cb, bd, le, ce, e3, e4⟩ := hb.shape
  subst e1 e2 e3 e4
  obtain ⟨rfl, -, -⟩ := ha.at_.lens
  obtain ⟨rfl, -, -⟩ := hb.at_.lens
  have hma := ha.at_.lens.2
  have hmb := hb.at_.lens.2
  unfold maxLen at hma hmb
  have HA := Keep.keep ha; have HB := Keep.keep hb
  have HEQ := Keep.keep (mb_eq (a := a) (b := b))
  clear ha hb
  obtain ⟨ap, ⟨kind, mode, uid, gid, time, attrs, data, link⟩⟩ := a
  obtain ⟨bp, ⟨kind2, mode2, uid2, gid2, time2, attrs2, data2, link2⟩⟩ := b
  unfold mbC strV
  dsimp only at HEQ HA HB hma hmb ⊢
  obtain ⟨PEQ, hP⟩ : ∃ P : Prop, (((ap, ⟨kind, mode, uid, gid, time, attrs, data, link⟩) : Mb) = (bp, ⟨kind2, mode2, uid2, gid2, time2, attrs2, data2, link2⟩)) = P := ⟨_, rfl⟩
  rw [hP] at HEQ ⊢
  clear hP
  go_enter Tryz.func26, Tryz.ntmps26
  go_upto_region 3 with fail
  refine wp_world (R := fun w1 => Hp NoM w w1 [rowA w.heap.size 32 #[.string ⟨ap.toArray⟩, .int .i64 kind, .int .u32 mode, .int .u32 uid, .int .u32 gid, .int .i64 time, .slice aa attrs.length ca, .slice ad ld cd, .string ⟨link.toArray⟩], rowA (w.heap.size + 1) 32 #[.string ⟨bp.toArray⟩, .int .i64 kind2, .int .u32 mode2, .int .u32 uid2, .int .u32 gid2, .int .i64 time2, .slice ba attrs2.length cb, .slice bd le ce, .string ⟨link2.toArray⟩], rowA (w.heap.size + 1 + 1) 30 #[.int .i64 kind, .int .u32 mode, .int .u32 uid, .int .u32 gid, .int .i64 time, .slice aa attrs.length ca, .slice ad ld cd, .string ⟨link.toArray⟩], rowA (w.heap.size + 1 + 1 + 1) 30 #[.int .i64 kind2, .int .u32 mode2, .int .u32 uid2, .int .u32 gid2, .int .i64 time2, .slice ba attrs2.length cb, .slice bd le ce, .string ⟨link2.toArray⟩]]) ?_ ?_
  · exact ((((Hp.begin NoM w).newRow _ _).newRow' _ _ _ _ (by simp) rfl).newRow' _ _ _ _ (by simp) rfl).newRow' _ _ _ _ (by simp) rfl
  intro w1 H1
  obtain ⟨b2, hb2⟩ : ∃ b2, w.heap.size = b2 := ⟨_, rfl⟩
  have HB2 := Keep.keep hb2
  have m20 := (H1.out.row 0 rfl).cell (i := 0) rfl
  have m30 := (H1.out.row 1 rfl).cell (i := 0) rfl
  have HA2 := Keep.keep (HA.out.below H1.out.below (fun b hb => hb))
  have HB3 := Keep.keep (HB.out.below H1.out.below (fun b hb => hb))
  have HBL := Keep.keep H1.out.below
  have r5 := H1.out.row 2 rfl
  have r6 := H1.out.row 3 rfl
  have x0 := r5.cell (i := 0) rfl
  have x1 := r5.cell (i := 1) rfl
  have x2 := r5.cell (i := 2) rfl
  have x3 := r5.cell (i := 3) rfl
  have x4 := r5.cell (i := 4) rfl
  have x5 := r5.cell (i := 5) rfl
  have x6 := r5.cell (i := 6) rfl
  have x7 := r5.cell (i := 7) rfl
  have y0 := r6.cell (i := 0) rfl
  have y1 := r6.cell (i := 1) rfl
  have y2 := r6.cell (i := 2) rfl
  have y3 := r6.cell (i := 3) rfl
  have y4 := r6.cell (i := 4) rfl
  have y5 := r6.cell (i := 5) rfl
  have y6 := r6.cell (i := 6) rfl
  have y7 := r6.cell (i := 7) rfl
  rw [hb2] at m20 m30 x0 x1 x2 x3 x4 x5 x6 x7 y0 y1 y2 y3 y4 y5 y6 y7 ⊢
  have hwl : w.heap.size ≤ w1.heap.size := H1.out.size
  have hc1 := run_string_of HA2.out.dt
  have hc2 := run_string_of HB3.out.dt
  clear r5 r6 hb2 H1
  go_upto_region 5 with fail
  all_goals try (
    go_ret
    refine ⟨⟨false, rfl, ⟨fun h => (by cases h), fun h => ?_⟩⟩, HBL.out⟩
    obtain ⟨e1, e2, e3, e4, e5, e6, e7, e8, e9⟩ := HEQ.out.1 h
    first
      | contradiction
      | (simp_all; done))
  have HE : Keep (ap = bp ∧ kind = kind2 ∧ mode = mode2 ∧ uid = uid2 ∧ gid = gid2 ∧ time = time2 ∧ link = link2) := ⟨⟨by assumption, by assumption, by assumption, by assumption, by assumption, by assumption, by simpa using (show (!link == link2) = false by assumption)⟩⟩
  by_cases hdt : data = data2
  · have HD := Keep.keep hdt
    have hbd : (data == data2) = true := by simpa using hdt
    clear hdt
    by_cases hal : attrs.length = attrs2.length
    · have hne : ((attrs.length : Int) == (attrs2.length : Int)) = true := by rw [hal]; exact beq_self_eq_true _
      have HL := Keep.keep hal
      clear hal
      go_wp2_with fail
      go_loopg [7] attrs.length (fun g u7 wx => ∃ (k n : Nat), k + g = attrs.length ∧ u7 = .int .i64 (k : Int) ∧ attrs.take k = attrs2.take k ∧ wx = w1.drewN n)
      case atStart => exact ⟨0, 0, by omega, rfl, rfl, rfl⟩
      case round =>
        obtain ⟨k, nd, hkg, rfl, heq, rfl⟩ := hrel
        have HT := Keep.keep heq
        clear heq
        cases gk with
        | zero =>
          obtain rfl : k = attrs.length := by omega
          have HF : Keep (PEQ) := ⟨HEQ.out.2 ⟨HE.out.1, HE.out.2.1, HE.out.2.2.1, HE.out.2.2.2.1, HE.out.2.2.2.2.1, HE.out.2.2.2.2.2.1, HE.out.2.2.2.2.2.2, HD.out, by
            have h := HT.out
            rw [List.take_length, List.take_of_length_le (by rw [← HL.out]; exact Nat.le_refl _)] at h
            exact h⟩⟩
          go_wp2_with fail
          go_ret
          exact ⟨⟨true, rfl, ⟨fun _ => HF.out, fun _ => rfl⟩⟩, below_drewN' HBL.out _⟩
        | succ g =>
          have hk1 : k < attrs.length := by omega
          have hk2 : k < attrs2.length := by have := HL.out; omega
          have hd : decide ((k : Int) < (attrs.length : Int)) = true := decide_eq_true (by omega)
          obtain ⟨p1, o1, rfl⟩ : ∃ b off, aa = some ⟨b, off, none⟩ := by
            obtain ⟨b, off, cap, h, -⟩ := HA2.out.at_.has (by dsimp only; omega)
            injection h with h; exact ⟨b, off, h⟩
          obtain ⟨p2, o2, rfl⟩ : ∃ b off, ba = some ⟨b, off, none⟩ := by
            obtain ⟨b, off, cap, h, -⟩ := HB3.out.at_.has (by dsimp only; omega)
            injection h with h; exact ⟨b, off, h⟩
          obtain ⟨s1, s2⟩ := rcells_get attrs k hk1
          obtain ⟨t1, t2⟩ := rcells_get attrs2 k hk2
          have z1 := HA2.out.at_.cell p1 o1 _ _ rfl _ _ s1
          have z2 := HA2.out.at_.cell p1 o1 _ _ rfl _ _ s2
          have v1 := HB3.out.at_.cell p2 o2 _ _ rfl _ _ t1
          have v2 := HB3.out.at_.cell p2 o2 _ _ rfl _ _ t2
          rw [← Nat.add_assoc] at z2 v2
          have HST : Keep (attrs[k] = attrs2[k] → attrs.take (k + 1) = attrs2.take (k + 1)) := ⟨fun e => by rw [List.take_succ_eq_append_getElem hk1, List.take_succ_eq_append_getElem hk2, HT.out, e]⟩
          have HNE : Keep (attrs[k] ≠ attrs2[k] → ¬ PEQ) := ⟨fun e h => e (by simp only [(HEQ.out.1 h).2.2.2.2.2.2.2.2])⟩
          clear s1 s2 t1 t2
          generalize attrs[k] = p at *
          generalize attrs2[k] = q at *
          have hneq := neq_attr p q
          unfold strV at z1 z2 v1 v2
          obtain ⟨pk, pv⟩ := p
          obtain ⟨qk, qv⟩ := q
          dsimp only at z1 z2 v1 v2 hneq
          by_cases e : ((pk, pv) : R2) = (qk, qv)
          · have HE2 := Keep.keep (HST.out e)
            rw [decide_eq_true e] at hneq
            clear e HST HNE
            go_upto_region 10 with fail
            (refine wp_region_quiet_lit (by kernel_rfl) (by kernel_rfl) ?_); (repeat (first | (fail) | go_big_quiet_step (fail))); (refine wpQuiet_nil ?_); (intro _ hwq); (obtain ⟨nq, hwq⟩ := hwq); (subst hwq)
            go_wp2_with fail
            go_roundg g
            case measure => omega
            case rel => exact ⟨k + 1, nd + nq, by omega, by simp, HE2.out, rfl⟩
          · have HE2 := Keep.keep (HNE.out e)
            rw [decide_eq_false e] at hneq
            clear e HST HNE
            go_upto_region 10 with fail
            (refine wp_region_quiet_lit (by kernel_rfl) (by kernel_rfl) ?_); (repeat (first | (fail) | go_big_quiet_step (fail))); (refine wpQuiet_nil ?_); (intro _ hwq); (obtain ⟨nq, hwq⟩ := hwq); (subst hwq)
            go_wp2_with fail
            go_ret
            exact ⟨⟨false, rfl, ⟨fun h => (by cases h), fun h => (HE2.out h).elim⟩⟩, below_drewN' (below_drewN' HBL.out _) _⟩
    · have hne : ((attrs.length : Int) == (attrs2.length : Int)) = false := by simp; omega
      have HL := Keep.keep hal
      clear hal
      go_wp2_with fail
      go_ret
      exact ⟨⟨false, rfl, ⟨fun h => (by cases h), fun h => (HL.out (by rw [(HEQ.out.1 h).2.2.2.2.2.2.2.2])).elim⟩⟩, HBL.out⟩
  · have HD := Keep.keep hdt
    have hbd : (data == data2) = false := by simpa using hdt
    clear hdt
    go_wp2_with fail
    go_ret
    exact ⟨⟨false, rfl, ⟨fun h => (by cases h), fun h => (HD.out (HEQ.out.1 h).2.2.2.2.2.2.2.1).elim⟩⟩, HBL.out⟩
end Go.Proofs.YtplafpokgpolkaaGreatDoor
/- portolanlaw12.Alike: rows of Members set side by side. -/
namespace Go.Proofs.YtplafpokgpolkaaGreatDoor
open Go.RowKit
theorem SaysB.det {P : Prop} {e : Ending} (h : SaysB P e) {r : Bool} (hr : r = true ↔ P) : e = .returned (.bool r) := by
  obtain ⟨r', rfl, h'⟩ := h
  have : r' = r := by rw [Bool.eq_iff_iff, h', hr]
  rw [this]
theorem bool_of (P : Prop) : ∃ r : Bool, r = true ↔ P := by
  by_cases h : P
  · exact ⟨true, fun _ => h, fun _ => rfl⟩
  · exact ⟨false, fun e => (by cases e), fun e => (h e).elim⟩
end Go.Proofs.YtplafpokgpolkaaGreatDoor
/- slices.EqualFunc over Members, asked by portolanref12.Same. -/
namespace Go.Proofs.YtplafpokgpolkaaGreatDoor
open Go.RowKit
set_option maxHeartbeats 2000000 in
set_option maxRecDepth 100000 in
theorem eqf_any (v1 v2 : Value) (l1 l2 : List Mv) (w : World) (h1 : Mbs w (· < w.heap.size) (· < w.heap.size) v1 l1) (h2 : Mbs w (· < w.heap.size) (· < w.heap.size) v2 l2) :
    Calls Tryz.prog 23 #[v1, v2, .func (.func 26) #[] #[]] w fun e w' => SaysB (l1.map (·.1) = l2.map (·.1)) e ∧ Below w.heap.size w w' := by
  obtain ⟨a1, c1, rfl, hc1, hm1, g1⟩ := h1.rd.shape
  obtain ⟨a2, c2, rfl, hc2, hm2, g2⟩ := h2.rd.shape
  unfold maxLen at hm1 hm2
  have hent : ∀ args w, (callFunc 26 args).run Tryz.prog w = .ok (.enter 26 args) w := enters_of Tryz.func26 (by kernel_rfl) rfl
  have H1 := Keep.keep h1; have H2 := Keep.keep h2; have G1 := Keep.keep g1; have G2 := Keep.keep g2
  clear h1 h2 g1 g2
  obtain ⟨P, hP⟩ : ∃ P : Prop, (l1.map (·.1) = l2.map (·.1)) = P := ⟨_, rfl⟩
  have HP : Keep (P ↔ l1.map (·.1) = l2.map (·.1)) := ⟨by rw [hP]⟩
  rw [hP]
  clear hP
  by_cases hl : l1.length = l2.length
  · have HL := Keep.keep hl
    have hne : ((l1.length : Int) == (l2.length : Int)) = true := by rw [hl]; exact beq_self_eq_true _
    clear hl
    go_enter Tryz.func23, Tryz.ntmps23
    go_wp2_with fail
    go_loopg [17] l1.length (fun g u17 wx => ∃ (k : Nat), k + g = l1.length ∧ u17 = .int .i64 (k : Int) ∧ (l1.map (·.1)).take k = (l2.map (·.1)).take k ∧ Below w.heap.size w wx)
    case atStart => exact ⟨0, by omega, rfl, rfl, Below.refl _ _⟩
    case round =>
      obtain ⟨k, hkg, rfl, heq, hb⟩ := hrel
      have HEQ := Keep.keep heq; have HB := Keep.keep hb
      clear heq hb
      cases gk with
      | zero =>
        obtain rfl : k = l1.length := by omega
        have HF : Keep P := ⟨HP.out.2 (by
          have h := HEQ.out
          rw [List.take_of_length_le (by rw [List.length_map]; exact Nat.le_refl _), List.take_of_length_le (by rw [List.length_map, ← HL.out]; exact Nat.le_refl _)] at h
          exact h)⟩
        go_wp2_with fail
        go_ret
        exact ⟨⟨true, rfl, ⟨fun _ => HF.out, fun _ => rfl⟩⟩, HB.out⟩
      | succ g =>
        have hk1 : k < l1.length := by omega
        have hk2 : k < l2.length := by have := HL.out; omega
        have hd : decide ((k : Int) < (l1.length : Int)) = true := decide_eq_true (by omega)
        obtain ⟨b1, o1, rfl, hb1⟩ : ∃ b off, a1 = some ⟨b, off, none⟩ ∧ b < w.heap.size := by
          rcases G1.out with h | ⟨b, off, h, hb⟩
          · omega
          · exact ⟨b, off, h, hb⟩
        obtain ⟨b2, o2, rfl, hb2⟩ : ∃ b off, a2 = some ⟨b, off, none⟩ ∧ b < w.heap.size := by
          rcases G2.out with h | ⟨b, off, h, hb⟩
          · omega
          · exact ⟨b, off, h, hb⟩
        obtain ⟨r, hr⟩ := bool_of (l1[k].1 = l2[k].1)
        have hld1 := (H1.out.below HB.out (fun b hb => hb) (fun b hb => hb)).load hk1
        have HLD2 : Keep (∀ wx, Below wr.heap.size wr wx → (Instr.loadAt 32 (.pointer (some ⟨b2, o2 + k * 9, none⟩))).run Tryz.prog wx = .ok (.agg (mcell l2[k])) wx) := ⟨fun wx hx => (H2.out.below (HB.out.trans (hx.mono HB.out.size)) (fun b hb => hb) (fun b hb => hb)).load hk2⟩
        have HS : Keep (∀ wx, Below wr.heap.size wr wx → Calls Tryz.prog 26 #[.agg (mcell l1[k]), .agg (mcell l2[k])] wx fun e w' => e = .returned (.bool r) ∧ Below wx.heap.size wx w') := ⟨fun wx hx => by
          have hbx := HB.out.trans (hx.mono HB.out.size)
          have hsx := hbx.size
          refine (same_ref _ _ _ _ _ _ wx ((H1.out.nd _ (List.getElem_mem hk1)).below hbx (fun b hb => hb) |>.mono (fun b hb => Nat.lt_of_lt_of_le hb hsx)) ((H2.out.nd _ (List.getElem_mem hk2)).below hbx (fun b hb => hb) |>.mono (fun b hb => Nat.lt_of_lt_of_le hb hsx))).mono ?_
          rintro e w' ⟨he, hb⟩
          exact ⟨he.det hr, hb⟩⟩
        have HST : Keep (r = true → (l1.map (·.1)).take (k + 1) = (l2.map (·.1)).take (k + 1)) := ⟨fun e => by
          rw [List.take_succ_eq_append_getElem (by simpa using hk1), List.take_succ_eq_append_getElem (by simpa using hk2), HEQ.out]
          simp [hr.1 e]⟩
        have HNE : Keep (r = false → ¬ P) := ⟨fun e h => by
          have h := HP.out.1 h
          have : (l1.map (·.1))[k]'(by simpa using hk1) = (l2.map (·.1))[k]'(by simpa using hk2) := by simp only [h]
          simp only [List.getElem_map] at this
          rw [hr.2 this] at e; cases e⟩
        have HSZ1 : Keep ((mcell l1[k]).size = 9) := ⟨rfl⟩
        have HSZ2 : Keep ((mcell l2[k]).size = 9) := ⟨rfl⟩
        have HON1 := Keep.keep (mcell_one (H1.out.nd _ (List.getElem_mem hk1)))
        have HON2 := Keep.keep (mcell_one (H2.out.nd _ (List.getElem_mem hk2)))
        generalize mcell l1[k] = x1 at *
        generalize mcell l2[k] = x2 at *
        clear hr
        go_upto_region 6 with (first | ((with_reducible refine arm_loadM hld1 ?_ ?_); (focus rfl); simp only [Act.put, List.setIfInBounds_toArray, List.set_cons_succ, List.set_cons_zero]) | ((with_reducible refine arm_storeRow (Row.new wr 32 _) aggM ?_ HSZ1.out HON1.out ?_ ?_ ?_); (focus rfl); (focus rfl); (focus rfl); simp only [Act.put, World.setRow_alloc_new]))
        refine wp_world (R := fun wq => Hp NoM wr wq [rowA wr.heap.size 32 x1]) ((Hp.begin NoM wr).newRow _ _) ?_
        intro w2 H8
        obtain ⟨b8, hb8⟩ : ∃ b8, wr.heap.size = b8 := ⟨_, rfl⟩
        have HB8 := Keep.keep hb8
        have hld2 := HLD2.out w2 H8.out.below
        rw [hb8] at H8 ⊢
        clear hld1 hb8
        go_upto_region 7 with (first | ((with_reducible refine arm_loadM hld2 ?_ ?_); (focus rfl); simp only [Act.put, List.setIfInBounds_toArray, List.set_cons_succ, List.set_cons_zero]) | ((with_reducible refine arm_storeRow (Row.new w2 32 _) aggM ?_ HSZ2.out HON2.out ?_ ?_ ?_); (focus rfl); (focus rfl); (focus rfl); simp only [Act.put, World.setRow_alloc_new]))
        refine wp_world (R := fun wq => Hp NoM wr wq [rowA b8 32 x1, rowA w2.heap.size 32 x2]) (H8.out.newRow _ _) ?_
        intro w3 H9
        obtain ⟨b9, hb9⟩ : ∃ b9, w2.heap.size = b9 := ⟨_, rfl⟩
        rw [hb9] at H9 ⊢
        clear hld2 hb9 H8
        have HR8 := Keep.keep (H9.out.row 0 rfl)
        have HR9 := Keep.keep (H9.out.row 1 rfl)
        go_wp2_with (first | ((with_reducible refine arm_loadRow HR8.out aggM HSZ1.out ?_ ?_); (focus rfl); simp only [Act.put, List.setIfInBounds_toArray, List.set_cons_succ, List.set_cons_zero]) | ((with_reducible refine arm_loadRow HR9.out aggM HSZ2.out ?_ ?_); (focus rfl); simp only [Act.put, List.setIfInBounds_toArray, List.set_cons_succ, List.set_cons_zero]))
        refine (HS.out w3 H9.out.below).mono ?_
        rintro e w4 ⟨rfl, hb4⟩
        have HB4 := Keep.keep (HB.out.trans ((H9.out.below.trans (hb4.mono H9.out.below.size)).mono HB.out.size))
        clear hb4 H9 HR8 HR9
        cases r with
        | true =>
          have HE := Keep.keep (HST.out rfl)
          go_wp2_with fail
          go_roundg g
          case measure => omega
          case rel => exact ⟨k + 1, by omega, by simp, HE.out, HB4.out⟩
        | false =>
          have HE := Keep.keep (HNE.out rfl)
          go_wp2_with fail
          go_ret
          exact ⟨⟨false, rfl, ⟨fun h => (by cases h), fun h => (HE.out h).elim⟩⟩, HB4.out⟩
  · have hne : ((l1.length : Int) == (l2.length : Int)) = false := by simp; omega
    have HL := Keep.keep hl
    clear hl
    go_enter Tryz.func23, Tryz.ntmps23
    go_wp2_with fail
    go_ret
    exact ⟨⟨false, rfl, ⟨fun h => (by cases h), fun h => (HL.out (by have := congrArg List.length (HP.out.1 h); simpa using this)).elim⟩⟩, Below.refl _ _⟩
end Go.Proofs.YtplafpokgpolkaaGreatDoor
/- portolanlaw19.Few: what it cuts, plainly. -/
namespace Go.Proofs.YtplafpokgpolkaaGreatDoor
/-- at most 19 slashes -/
def shortG : Tx → Nat → Tx
  | [], _ => []
  | c :: r, n => if c = 47 then (if n + 1 = 20 then [] else c :: shortG r (n + 1)) else c :: shortG r n
def shortS (p : Tx) : Tx := shortG (p.take 300) 0
def cutB (x : R2) : R2 := (x.1.take 40, x.2.take 200)
def cut19 (m : Mb) : Mb := (shortS m.1, { m.2 with link := m.2.link.take 40, data := m.2.data.take 40, attrs := (m.2.attrs.take 4).map cutB })
def few19 (l : List Mb) : List Mb := (l.take 14).map cut19
theorem shortG_len : ∀ (p : Tx) (n : Nat), (shortG p n).length ≤ p.length
  | [], _ => Nat.le_refl _
  | c :: r, n => by
    unfold shortG
    have h1 := shortG_len r (n + 1)
    have h2 := shortG_len r n
    split
    · split
      · simp
      · simp; exact h1
    · simp; exact h2
theorem shortG_cnt : ∀ (p : Tx) (n : Nat), n < 20 → (shortG p n).countP (· == 47) + n < 20
  | [], n, h => by unfold shortG; simpa using h
  | c :: r, n, h => by
    unfold shortG
    split
    · rename_i hc
      split
      · simpa using h
      · have h1 := shortG_cnt r (n + 1) (by omega)
        rw [List.countP_cons_of_pos (by simpa using hc)]
        omega
    · rename_i hc
      have h2 := shortG_cnt r n h
      rw [List.countP_cons_of_neg (by simpa using hc)]
      exact h2
theorem shortS_len (p : Tx) : (shortS p).length ≤ 300 := Nat.le_trans (shortG_len _ _) (List.length_take_le _ _)
theorem shortS_cnt (p : Tx) : (shortS p).countP (· == 47) < 20 := by have := shortG_cnt (p.take 300) 0 (by omega); unfold shortS; omega
/-- the walk's round: i letters are seen, n slashes among them -/
def ShAt (p : Tx) (i n : Nat) : Prop := n < 20 ∧ shortG p 0 = p.take i ++ shortG (p.drop i) n
theorem ShAt.start (p : Tx) : ShAt p 0 0 := ⟨by omega, by simp⟩
theorem ShAt.done {p : Tx} {n : Nat} (h : ShAt p p.length n) : shortG p 0 = p := by
  have := h.2
  rw [List.drop_length, List.take_length] at this
  rw [this]; unfold shortG; simp
theorem ShAt.next {p : Tx} {i n : Nat} (h : ShAt p i n) (hi : i < p.length) (hc : p[i] ≠ 47) : ShAt p (i + 1) n := by
  refine ⟨h.1, ?_⟩
  rw [h.2, List.drop_eq_getElem_cons hi, List.take_succ_eq_append_getElem hi]
  conv => lhs; unfold shortG
  rw [if_neg hc, List.append_assoc]; rfl
theorem ShAt.slash {p : Tx} {i n : Nat} (h : ShAt p i n) (hi : i < p.length) (hc : p[i] = 47) (hn : n + 1 ≠ 20) : ShAt p (i + 1) (n + 1) := by
  refine ⟨by have := h.1; omega, ?_⟩
  rw [h.2, List.drop_eq_getElem_cons hi, List.take_succ_eq_append_getElem hi]
  conv => lhs; unfold shortG
  rw [if_pos hc, if_neg hn, List.append_assoc]; rfl
theorem ShAt.stop {p : Tx} {i n : Nat} (h : ShAt p i n) (hi : i < p.length) (hc : p[i] = 47) (hn : n + 1 = 20) : shortG p 0 = p.take i := by
  rw [h.2, List.drop_eq_getElem_cons hi]
  conv => lhs; unfold shortG
  rw [if_pos hc, if_pos hn]; simp
theorem Kb.cutS {m : Mb} (h : Kb m) : Sm (cut19 m) := by
  refine ⟨?_, ?_, ?_, ?_, fun x hx => ?_, h⟩
  · exact Nat.le_trans (shortS_len _) (by omega)
  · exact Nat.le_trans (List.length_take_le _ _) (by omega)
  · exact Nat.le_trans (List.length_take_le _ _) (by omega)
  · show ((m.2.attrs.take 4).map cutB).length ≤ _
    rw [List.length_map]
    exact Nat.le_trans (List.length_take_le _ _) (by omega)
  · obtain ⟨y, hy, rfl⟩ := List.mem_map.1 (show x ∈ (m.2.attrs.take 4).map cutB from hx)
    exact ⟨Nat.le_trans (List.length_take_le _ _) (by omega), Nat.le_trans (List.length_take_le _ _) (by omega)⟩
theorem few19_sm {l : List Mb} (h : ∀ x ∈ l, Kb x) : ∀ x ∈ few19 l, Sm x := fun x hx => by
  obtain ⟨y, hy, rfl⟩ := List.mem_map.1 hx
  exact (h y ((List.take_sublist 14 l).subset hy)).cutS
theorem few19_len (l : List Mb) : (few19 l).length ≤ 14 := by
  unfold few19
  rw [List.length_map]
  exact List.length_take_le _ _
end Go.Proofs.YtplafpokgpolkaaGreatDoor
/- portolanlaw19.short: a path cut short. -/
namespace Go.Proofs.YtplafpokgpolkaaGreatDoor
open Go.RowKit
set_option maxHeartbeats 2000000 in
set_option maxRecDepth 100000 in
theorem short_any (p0 : Tx) (w : World) : Calls Tryz.prog 66 #[.string ⟨p0.toArray⟩] w fun e w' => e = .returned (.string ⟨(shortS p0).toArray⟩) ∧ w = w' := by
  obtain ⟨p, hpp⟩ : ∃ p, p = p0.take 300 := ⟨_, rfl⟩
  have hlen : min (p0.length : Int) 300 = ((min p0.length 300 : Nat) : Int) := by omega
  have hcut := run_slice_to (P := Tryz.prog) Tryz.underlying9 p0 .i64 (min p0.length 300) (Nat.min_le_left _ _)
  have htk : p0.take (min p0.length 300) = p := by rw [hpp, List.take_eq_take_iff]; omega
  rw [htk] at hcut
  have hps : p.length ≤ 300 := by rw [hpp]; exact List.length_take_le _ _
  have HS : Keep (shortS p0 = shortG p 0) := ⟨by unfold shortS; rw [hpp]⟩
  clear hpp htk
  generalize min p0.length 300 = m0 at *
  go_enter Tryz.func66, Tryz.ntmps66
  go_wp2_with fail
  go_loopg [3, 4] p.length (fun g u3 u4 wx => ∃ k n : Nat, k + g = p.length ∧ u3 = .int .i64 (n : Int) ∧ u4 = .int .i64 (k : Int) ∧ ShAt p k n ∧ w = wx)
  case atStart => exact ⟨0, 0, by omega, rfl, rfl, ShAt.start p, rfl⟩
  case round =>
    obtain ⟨k, n, hkg, rfl, rfl, hsh, rfl⟩ := hrel
    have HSH := Keep.keep hsh
    have hn20 : n < 20 := hsh.1
    clear hsh hcut hlen
    cases gk with
    | zero =>
      obtain rfl : k = p.length := by omega
      have HE : Keep (shortS p0 = p) := ⟨by rw [HS.out]; exact HSH.out.done⟩
      go_wp2_with fail
      go_ret
      exact ⟨by rw [HE.out]; rfl, rfl⟩
    | succ g =>
      have hk : k < p.length := by omega
      have hidx := run_index_str (P := Tryz.prog) Tryz.underlying9 ⟨p.toArray⟩ .i64 k p[k] (by simp [hk])
      have hgi : (⟨p.toArray⟩ : ByteArray)[k]'(hk) = p[k] := rfl
      by_cases h47 : p[k] = 47
      · by_cases hq : n + 1 = 20
        · have HE : Keep (shortS p0 = p.take k) := ⟨by rw [HS.out]; exact HSH.out.stop hk h47 hq⟩
          have hsl := run_slice_to (P := Tryz.prog) Tryz.underlying9 p .i64 k (by omega)
          obtain rfl : n = 19 := by omega
          rw [h47] at hidx hgi
          clear h47 hq
          go_wp2_with fail
          go_ret
          exact ⟨by rw [HE.out]; rfl, rfl⟩
        · have HST := Keep.keep (HSH.out.slash hk h47 hq)
          have hq2 : (((n : Int) + 1) == 20) = false := by rw [beq_eq_false_iff_ne]; omega
          rw [h47] at hidx hgi
          clear h47 hq
          go_wp2_with fail
          go_roundg g
          case measure => omega
          case rel => exact ⟨k + 1, n + 1, by omega, by simp, by simp, HST.out, rfl⟩
      · have HST := Keep.keep (HSH.out.next hk h47)
        have hn47 : ((p[k].toNat : Int) == 47) = false := by
          rw [beq_eq_false_iff_ne]; intro e; exact h47 (UInt8.toNat_inj.1 (by show p[k].toNat = 47; omega))
        have hq2 : ((n : Int) == 20) = false := by rw [beq_eq_false_iff_ne]; omega
        clear h47
        generalize p[k] = c at *
        go_wp2_with fail
        go_roundg g
        case measure => omega
        case rel => exact ⟨k + 1, n, by omega, by simp, by simp, HST.out, rfl⟩
end Go.Proofs.YtplafpokgpolkaaGreatDoor
/- portolanlaw19.Few: single operations. -/
namespace Go.Proofs.YtplafpokgpolkaaGreatDoor
open Go.RowKit
theorem shortG_idem : ∀ (p : Tx) (n : Nat), shortG (shortG p n) n = shortG p n
  | [], n => by unfold shortG; rfl
  | c :: r, n => by
    have h1 := shortG_idem r (n + 1)
    have h2 := shortG_idem r n
    by_cases hc : c = 47
    · by_cases hn : n + 1 = 20
      · have e : shortG (c :: r) n = [] := by unfold shortG; rw [if_pos hc, if_pos hn]
        rw [e]; unfold shortG; rfl
      · have e : ∀ s, shortG (c :: s) n = c :: shortG s (n + 1) := fun s => by
          conv => lhs; unfold shortG
          rw [if_pos hc, if_neg hn]
        rw [e, e, h1]
    · have e : ∀ s, shortG (c :: s) n = c :: shortG s n := fun s => by
        conv => lhs; unfold shortG
        rw [if_neg hc]
      rw [e, e, h2]
theorem shortS_idem (p : Tx) : shortS (shortS p) = shortS p := by
  have h := shortS_len p
  unfold shortS at h ⊢
  rw [List.take_of_length_le h, shortG_idem]
def WasP (p q : Tx) : Prop := q = p ∨ q = shortS p
theorem WasP.cut {p q : Tx} (h : WasP p q) : shortS q = shortS p := by
  rcases h with rfl | rfl
  · rfl
  · exact shortS_idem p
def WasK (s q : Tx) : Prop := q = s ∨ q = s.take 40
theorem WasK.mn {s q : Tx} (h : WasK s q) : min (q.length : Int) 40 = min (s.length : Int) 40 := by
  rcases h with rfl | rfl
  · rfl
  · rw [List.length_take]; omega
theorem WasK.le {s q : Tx} (h : WasK s q) : min s.length 40 ≤ q.length := by
  rcases h with rfl | rfl
  · omega
  · rw [List.length_take]; omega
theorem WasK.cut {s q : Tx} (h : WasK s q) : q.take (min s.length 40) = s.take 40 := by
  rcases h with rfl | rfl
  · rw [List.take_eq_take_iff]; omega
  · rw [List.take_take, List.take_eq_take_iff]; omega
def WasM (n m : Nat) : Prop := m = n ∨ m = min n 40
theorem WasM.mn {n m : Nat} (h : WasM n m) : min (m : Int) 40 = ((min n 40 : Nat) : Int) := by rcases h with rfl | rfl <;> omega
section
variable {ρ : Operand → Value} {d : Option Tmp} {x y : Operand} {t : TypeId} {pos : String} {af : Array Edge} {g : Option (Nat × Bool)} {w : World}
theorem run_lenV {a : Option Addr} {n cap : Nat} (hx : ρ x = .slice a n cap) : (execOp ρ (⟨d, .call ⟨.builtin .len, #[x], #[28]⟩, t, pos, af, g⟩ : Oper)).run Tryz.prog w = .ok (.value (.int .i64 (n : Int))) w := by
  simp [execOp, resolve, invoke, builtin, Builtin.len_, hx, run_underlying Tryz.underlying28]
  rfl
theorem run_sliceV {a : Option Addr} {n cap i : Nat} (hi : i ≤ cap) (hx : ρ x = .slice a n cap) (hy : ρ y = .int .i64 (i : Int)) : (execOp ρ (⟨d, .slice 28 x none (some y) none, t, pos, af, g⟩ : Oper)).run Tryz.prog w = .ok (.value (.slice a i cap)) w := by
  have := slice_to (P := Tryz.prog) slBy a n cap i .i64 hi w
  simp [execOp, Instr.sliceAt, hx, hy, this]
theorem run_storeV {a : Option Addr} {n cap : Nat} {b off : Nat} (hc : ∃ v, w.cell? ⟨b, off, none⟩ = some v) (hf : w.frozen? ⟨b, off, none⟩ = false) (hx : ρ x = .pointer (some ⟨b, off, none⟩)) (hy : ρ y = .slice a n cap) :
    (execOp ρ (⟨d, .store 28 x y, t, pos, af, g⟩ : Oper)).run Tryz.prog w = .ok .skip (w.setCell ⟨b, off, none⟩ (.slice a n cap)) := by
  obtain ⟨v, hc⟩ := hc
  have hz : (sizeOf 28).run Tryz.prog w = .ok 1 w := by kernel_rfl
  simp [go_sem, execOp, hx, hy, hz, hc, hf, Instr.storeAt, storeCells]
end
/-- the row of m, whose path, Data and link are under way -/
def fsR (kind mode uid gid time : Int) (av : Value) (ad : Option Addr) (m cd : Nat) (q k : Tx) : Array Value := #[.string ⟨q.toArray⟩, .int .i64 kind, .int .u32 mode, .int .u32 uid, .int .u32 gid, .int .i64 time, av, .slice ad m cd, .string ⟨k.toArray⟩]
def fsT (B : Nat) (p k : Tx) (ad : Option Addr) (ld cd : Nat) : Nat → Value → World → Prop
  | 1, v, _ => ∃ q, v = .string ⟨q.toArray⟩ ∧ WasP p q
  | 2, v, _ => v = .string ⟨(shortS p).toArray⟩
  | 5, v, _ => ∃ q, v = .string ⟨q.toArray⟩ ∧ WasK k q
  | 8, v, _ => ∃ q, v = .string ⟨q.toArray⟩ ∧ WasK k q
  | 9, v, _ => ∃ q, v = .int .i64 (q.length : Int) ∧ WasK k q
  | 10, v, _ => v = .int .i64 ((min k.length 40 : Nat) : Int)
  | 11, v, _ => v = .string ⟨(k.take 40).toArray⟩
  | 14, v, _ => ∃ m, v = .slice ad m cd ∧ WasM ld m
  | 17, v, _ => ∃ m, v = .slice ad m cd ∧ WasM ld m
  | 18, v, _ => ∃ m : Nat, v = .int .i64 (m : Int) ∧ WasM ld m
  | 19, v, _ => v = .int .i64 ((min ld 40 : Nat) : Int)
  | 20, v, _ => v = .slice ad (min ld 40) cd
  | 22, _, w => w.cell? ⟨B, 0, none⟩ = some (.string ⟨(shortS p).toArray⟩)
  | 25, _, w => w.cell? ⟨B, 8, none⟩ = some (.string ⟨(k.take 40).toArray⟩)
  | 28, _, w => w.cell? ⟨B, 7, none⟩ = some (.slice ad (min ld 40) cd)
  | 0, v, _ => v = .pointer (some ⟨B, 0, none⟩)
  | 21, v, _ => v = .pointer (some ⟨B, 0, none⟩)
  | 3, v, _ => v = .pointer (some ⟨B, 1, none⟩)
  | 6, v, _ => v = .pointer (some ⟨B, 1, none⟩)
  | 12, v, _ => v = .pointer (some ⟨B, 1, none⟩)
  | 15, v, _ => v = .pointer (some ⟨B, 1, none⟩)
  | 23, v, _ => v = .pointer (some ⟨B, 1, none⟩)
  | 26, v, _ => v = .pointer (some ⟨B, 1, none⟩)
  | 4, v, _ => v = .pointer (some ⟨B, 8, none⟩)
  | 7, v, _ => v = .pointer (some ⟨B, 8, none⟩)
  | 24, v, _ => v = .pointer (some ⟨B, 8, none⟩)
  | _, v, _ => v = .pointer (some ⟨B, 7, none⟩)
def fsS (B : Nat) (p k : Tx) (ad : Option Addr) (ld cd : Nat) (w w' : World) : Prop :=
  (w.cell? ⟨B, 0, none⟩ = some (.string ⟨(shortS p).toArray⟩) → w'.cell? ⟨B, 0, none⟩ = some (.string ⟨(shortS p).toArray⟩)) ∧ (w.cell? ⟨B, 8, none⟩ = some (.string ⟨(k.take 40).toArray⟩) → w'.cell? ⟨B, 8, none⟩ = some (.string ⟨(k.take 40).toArray⟩)) ∧
  (w.cell? ⟨B, 7, none⟩ = some (.slice ad (min ld 40) cd) → w'.cell? ⟨B, 7, none⟩ = some (.slice ad (min ld 40) cd))
theorem fsS.refl (B : Nat) (p k : Tx) (ad : Option Addr) (ld cd : Nat) (w : World) : fsS B p k ad ld cd w w := ⟨fun h => h, fun h => h, fun h => h⟩
theorem fsT_stays {B : Nat} {p k : Tx} {ad : Option Addr} {ld cd : Nat} (i : Nat) (v : Value) (w w' : World) (h : fsT B p k ad ld cd i v w) (hs : fsS B p k ad ld cd w w') : fsT B p k ad ld cd i v w' := by
  by_cases e : i = 22
  · subst e; exact hs.1 h
  · by_cases e2 : i = 25
    · subst e2; exact hs.2.1 h
    · by_cases e3 : i = 28
      · subst e3; exact hs.2.2 h
      · unfold fsT at h ⊢
        split at h <;> first | exact h | omega
def fsC (W : World) (B : Nat) (kind mode uid gid time : Int) (av : Value) (ad : Option Addr) (ld cd : Nat) (p k : Tx) (w : World) : Prop :=
  Chg (fun b => b = B) W.heap.size W w ∧ ∃ q j m, WasP p q ∧ WasK k j ∧ WasM ld m ∧ Row w B 32 (fsR kind mode uid gid time av ad m cd q j)
/-- attributes, cut -/
theorem slice_ato (a : Option Addr) (n cap i : Nat) (k : IntKind) (hi : i ≤ cap) (w : World) : (Instr.slice 27 (.slice a n cap) none (some (.int k (i : Int))) none).run Tryz.prog w = .ok (.slice a i cap) w := by
  have he : Tryz.prog.elem 27 = 97 := by simp [Program.elem, Tryz.underlying27]
  have hs : ∀ w, (sizeOf 97).run Tryz.prog w = .ok 2 w := fun w => by kernel_rfl
  rw [run_slice_h w 27 a n cap (by rw [he]; exact Tryz.underlying27) k (i : Int) (by omega) (by omega), he, hs]
  have ha : a.map (·.add 0) = a := by
    cases a <;> simp [Addr.add]
  simp [Result.andThen, sliced, ha]
set_option maxRecDepth 100000 in
theorem rcells_take (l : List R2) (i : Nat) : rcells (l.take i) = (rcells l).take (i * 2) := by
  induction l generalizing i with
  | nil => simp [rcells]
  | cons x l ih =>
    cases i with
    | zero => simp [rcells]
    | succ i => rw [List.take_succ_cons, rcells_cons, rcells_cons, ih, show (i + 1) * 2 = i * 2 + 1 + 1 by omega, List.take_succ_cons, List.take_succ_cons]
theorem RdV.take2 {w : World} {N : Nat → Prop} {a : Option Addr} {n cap : Nat} {l : List R2} (h : RdV w N 2 (.slice a n cap) l.length (rcells l)) (i : Nat) (hi : i ≤ l.length) : RdV w N 2 (.slice a i cap) (l.take i).length (rcells (l.take i)) := by
  obtain ⟨hl, ⟨a0, cap0, he0, g1, g2, g3⟩, hc⟩ := h
  injection he0 with e1 e2 e3
  subst e1 e2 e3
  have hl' : (l.take i).length = i := by rw [List.length_take]; omega
  refine ⟨rcells_length _, ⟨a, cap, by rw [hl'], by omega, g2, g3⟩, fun b off m c he1 j u hj => ?_⟩
  injection he1 with e1 e2 e3
  subst e1 e3
  refine hc b off _ _ rfl j u ?_
  rw [rcells_take] at hj
  have hlt := (List.getElem?_eq_some_iff.1 hj).1
  rw [List.getElem?_take_of_lt (by simp at hlt; omega)] at hj
  exact hj
theorem rcells_at (l : List R2) (i j : Nat) (hj : j < 2) : (rcells l)[i * 2 + j]? = (l[i]?).bind fun x => [strV x.1, strV x.2][j]? := by
  induction l generalizing i with
  | nil => simp [rcells]
  | cons x l ih =>
    rw [rcells_cons]
    cases i with
    | zero =>
      rcases (by omega : j = 0 ∨ j = 1) with rfl | rfl <;> rfl
    | succ i =>
      rw [show (i + 1) * 2 + j = (i * 2 + j) + 1 + 1 by omega, List.getElem?_cons_succ, List.getElem?_cons_succ, ih]
      rfl
theorem layAt_rcells (l : List R2) (k : Nat) (x : R2) (hk : k < l.length) : layAt (rcells l) (k * 2) [strV x.1, strV x.2] = rcells (l.set k x) := by
  refine List.ext_getElem? fun i => ?_
  rw [layAt_get _ _ _ _ (by rw [rcells_length]; simp; omega)]
  have hi : i = i / 2 * 2 + i % 2 := by omega
  by_cases h : k * 2 ≤ i ∧ i < k * 2 + [strV x.1, strV x.2].length
  · rw [if_pos h]
    have hl : [strV x.1, strV x.2].length = 2 := rfl
    have hd : i / 2 = k := by omega
    conv => rhs; rw [hi, rcells_at _ _ _ (Nat.mod_lt _ (by omega)), hd]
    rw [List.getElem?_set_self hk, show i - k * 2 = i % 2 by omega]
    rfl
  · rw [if_neg h]
    have hl : [strV x.1, strV x.2].length = 2 := rfl
    conv => lhs; rw [hi, rcells_at _ _ _ (Nat.mod_lt _ (by omega))]
    conv => rhs; rw [hi, rcells_at _ _ _ (Nat.mod_lt _ (by omega))]
    rw [List.getElem?_set_ne (by omega)]
/-- ARM: an attribute laid into a row of one's own -/
theorem arm_setAt {ops : Array Oper} {rest : List Oper} {a : Act} {w : World} {Q : Exit → Act → World → Prop} {tp : TypeId} {dst : Option Tmp} {x y : Operand} {pos : String} {after : Array Edge} {base g cap n k : Nat} {l : List R2} (m : R2)
    (ho : w.ownsRow base 97 2 (.slice (some ⟨g, 0, none⟩) n cap) n (rcells l)) (hn : n = l.length) (hk : k < l.length) (hx : a.eval x = .pointer (some ⟨g, k * 2, none⟩)) (hy : a.eval y = .agg #[strV m.1, strV m.2])
    (h : ∀ w', w'.ownsRow base 97 2 (.slice (some ⟨g, 0, none⟩) n cap) n (rcells (l.set k m)) → w.grownBy w' (some g) → wpList Tryz.prog ops Q rest (a.put dst undef) w') :
    wpList Tryz.prog ops Q (⟨dst, .store 97 x y, tp, pos, after, none⟩ :: rest) a w := by
  have ht : w.there g (k * 2) 2 := fun j hj => by
    refine ⟨?_, ho.frozenAt _⟩
    rw [ho.cellAt _ (by omega), rcells_at _ _ _ hj, List.getElem?_eq_getElem hk]
    rcases (by omega : j = 0 ∨ j = 1) with rfl | rfl <;> rfl
  have hst := run_storeAt_mid (P := Tryz.prog) w g (k * 2) 97 #[strV m.1, strV m.2] ht (by kernel_rfl) (by simp [strV, Value.oneCell'])
  have h2 := owns_setCells [strV m.1, strV m.2] _ w (k * 2) ho
  rw [layAt_rcells l k m hk] at h2
  refine wpList_skip rfl ?_ (h _ h2.1 h2.2)
  simp [execOp, hx, hy, hst]
theorem own_loadAtA {base g cap n k : Nat} {w : World} {l : List R2} (h : w.ownsRow base 97 2 (.slice (some ⟨g, 0, none⟩) n cap) n (rcells l)) (hn : n = l.length) {x : R2} (hx : l[k]? = some x) : (Instr.loadAt 97 (.pointer (some ⟨g, k * 2, none⟩))).run Tryz.prog w = .ok (.agg #[strV x.1, strV x.2]) w := by
  have hk := (List.getElem?_eq_some_iff.1 hx).1
  have := run_loadAt_mid (P := Tryz.prog) w g (k * 2) 97 [strV x.1, strV x.2] _ (fun j z hj => by
    have hlt := (List.getElem?_eq_some_iff.1 hj).1
    have hlt : j < 2 := hlt
    rw [h.cellAt _ (by omega), rcells_at _ _ _ hlt, hx]
    exact hj) Tryz.underlying97 rfl (by kernel_rfl)
  simpa using this
end Go.Proofs.YtplafpokgpolkaaGreatDoor
/- portolanlaw19.Few. -/
namespace Go.Proofs.YtplafpokgpolkaaGreatDoor
open Go.RowKit
theorem slMbG : SlK Tryz.prog 35 32 (.agg (mbC ([], ⟨0, 0, 0, 0, 0, [], [], []⟩) (.slice none 0 0) (.slice none 0 0))) 9 112 := SlK.mk' Tryz.underlying35 (by kernel_rfl) rfl (by decide)
set_option maxHeartbeats 8000000 in
set_option maxRecDepth 100000 in
theorem few19K (v : Value) (l : List Mv) (w : World) (K : Nat → Prop) (hK : ∀ b, K b → b < w.heap.size) (hr : Mbs w (· < w.heap.size) K v l) :
    Calls Tryz.prog 21 #[v] w fun e w' => ∃ v' l', e = .returned v' ∧ l'.map (·.1) = few19 (l.map (·.1)) ∧ RowM w.heap.size K w' v' l' ∧ Below w.heap.size w w' := by
  have HK := Keep.keep hK
  obtain ⟨a, cap, hv, hcap, hmx, h3⟩ := hr.rd.shape
  have HR := Keep.keep hr; have H3 := Keep.keep h3
  unfold maxLen at hmx
  clear hr h3 hK
  subst hv
  go_enter Tryz.func21, Tryz.ntmps21
  go_wp2_with fail
  go_loopg [3, 10] (min l.length 14) (fun g u3 u10 wx => ∃ (k : Nat) (acc : List Mv), k + g = min l.length 14 ∧ u10 = .int .i64 (k : Int) ∧ acc.map (·.1) = ((l.map (·.1)).take k).map cut19 ∧ acc.length = k ∧ RowM w.heap.size K wx u3 acc ∧ Below w.heap.size w wx)
  case atStart => exact ⟨0, [], by omega, rfl, rfl, rfl, RowM.nil _ _ _, Below.refl _ _⟩
  case round =>
    obtain ⟨k, acc, hkg, rfl, hmap, hal, hrow, hbl⟩ := hrel
    have HM := Keep.keep hmap; have HH := Keep.keep hrow; have HB := Keep.keep hbl
    obtain ⟨a3, c3, hu3, -⟩ := (ownsV_reads hrow.own).shape
    rw [hal] at hu3
    subst hu3
    clear hmap hrow hbl
    cases gk with
    | zero =>
      have HF : Keep (acc.map (·.1) = few19 (l.map (·.1))) := ⟨by
        rw [HM.out]; unfold few19
        congr 1
        rw [List.take_eq_take_iff, List.length_map]; omega⟩
      by_cases hk : k < l.length
      · obtain rfl : k = 14 := by omega
        have hd1 : decide ((14 : Int) < (l.length : Int)) = true := decide_eq_true (by omega)
        obtain ⟨b, off, rfl, hbl⟩ : ∃ b off, a = some ⟨b, off, none⟩ ∧ b < w.heap.size := by
          rcases H3.out with h | ⟨b, off, h, hb⟩
          · omega
          · exact ⟨b, off, h, hb⟩
        have hrx := HR.out.below HB.out (fun b hb => hb) HK.out
        have hld := hrx.load hk
        clear hrx
        obtain ⟨cx, hcx⟩ : ∃ cx, mcell l[14] = cx := ⟨_, rfl⟩
        have hsz : cx.size = 9 := by rw [← hcx]; rfl
        have HSZ := Keep.keep hsz
        have hna := (HR.out.nd _ (List.getElem_mem hk))
        have h1c : cx.all (·.oneCell') = true := by rw [← hcx]; exact mcell_one hna
        have H1C := Keep.keep h1c
        rw [hcx] at hld
        clear hcx hsz h1c hna
        go_wp2_with (first | ((with_reducible refine arm_loadM hld ?_ ?_); (focus rfl); simp only [Act.put, List.setIfInBounds_toArray, List.set_cons_succ, List.set_cons_zero]) | ((with_reducible refine arm_storeRow (Row.new wr 32 _) aggM ?_ HSZ.out H1C.out ?_ ?_ ?_); (focus rfl); (focus rfl); (focus rfl); simp only [Act.put, World.setRow_alloc_new]))
        go_ret
        exact ⟨_, rfl, acc, HF.out, HH.out.below ((Below.refl _ _).alloc (Nat.le_refl _) _), HB.out.trans (((Below.refl _ _).alloc (Nat.le_refl _) _).mono HB.out.size)⟩
      · have hd1 : decide ((k : Int) < (l.length : Int)) = false := decide_eq_false (by omega)
        go_wp2_with fail
        go_ret
        exact ⟨_, rfl, acc, HF.out, HH.out, HB.out⟩
    | succ g =>
      generalize wr = wo at *
      have hk : k < l.length := by omega
      have hd1 : decide ((k : Int) < (l.length : Int)) = true := decide_eq_true (by omega)
      have hd2 : ((k : Int) == 14) = false := by rw [beq_eq_false_iff_ne]; omega
      obtain ⟨b, off, rfl, hbl⟩ : ∃ b off, a = some ⟨b, off, none⟩ ∧ b < w.heap.size := by
        rcases H3.out with h | ⟨b, off, h, hb⟩
        · omega
        · exact ⟨b, off, h, hb⟩
      have hrx := HR.out.below HB.out (fun b hb => hb) HK.out
      have hld := hrx.load hk
      have hndx := HR.out.nd _ (List.getElem_mem hk)
      have HTK : Keep (((l.map (·.1)).take (k + 1)).map cut19 = ((l.map (·.1)).take k).map cut19 ++ [cut19 l[k].1]) := ⟨by
        rw [List.take_succ_eq_append_getElem (by simpa using hk), List.map_append]; simp⟩
      clear hrx
      generalize l[k] = x at *
      obtain ⟨⟨xp, ⟨kind, mode, uid, gid, time, attrs, data, link⟩⟩, av, dv⟩ := x
      obtain ⟨aa, la, ca, ad, ld, cd, e1, e2⟩ := hndx.shape
      dsimp only at hndx e1 e2
      subst e1 e2
      have HX := Keep.keep hndx
      unfold mcell mbC strV at hld
      dsimp only at hld
      clear hndx
      go_upto_region 6 with ((with_reducible refine arm_loadM hld ?_ ?_); (focus rfl); simp only [Act.put, List.setIfInBounds_toArray, List.set_cons_succ, List.set_cons_zero])
      refine wp_world (R := fun w5 => Hp NoM wo w5 [rowA wo.heap.size 32 (fsR kind mode uid gid time (.slice aa la ca) ad ld cd xp link)]) ((Hp.begin NoM wo).newRow _ _) ?_
      intro w5 H5
      obtain ⟨B5, hB5⟩ : ∃ B5, wo.heap.size = B5 := ⟨_, rfl⟩
      have HB5 := Keep.keep hB5
      rw [hB5] at H5 ⊢
      clear hB5
      have hlt5 := (H5.out.row 0 rfl).lt
      have HDL : Keep (ld = data.length ∧ ld ≤ cd) := ⟨⟨HX.out.dt.len.1, by have := HX.out.dt.len; dsimp only at this; omega⟩⟩
      clear hld
      refine wp_region_spcO [some 17, some 18, some 19, some 20, some 21, some 22, some 23, some 24, some 25, some 26, some 27, some 28, some 29, some 30, some 31, some 32, some 33, some 34, some 35, some 36, some 37, some 38, none, some 39, some 40, none, some 41, some 42, none] (fsC w5 B5 kind mode uid gid time (.slice aa la ca) ad ld cd xp link) (fsT B5 xp link ad ld cd) (fsS B5 xp link ad ld cd) (by kernel_rfl) rfl (by decide) (by intro d hd; simp at hd; show d < 91; omega) (by kernel_rfl) ⟨(Chg.refl _ _ _).drew, xp, link, ld, .inl rfl, .inl rfl, .inl rfl, H5.out.row 0 rfl⟩ (fun i v w w' h _ hb => fsT_stays i v w w' h hb) ?_ ?_
      · intro i hi a1 w6 hF hC hT
        have hi : i < 29 := hi
        obtain ⟨hCh, q, j, m, hq, hj, hm, hrow⟩ := id hC
        have b5 : a1.eval (.tmp 5) = .pointer (some ⟨B5, 0, none⟩) := (hF.same 5 (by decide)).trans rfl
        have hkr : fsS B5 xp link ad ld cd w6 w6 := fsS.refl _ _ _ _ _ _ _
        rcases (by omega : i = 0 ∨ i = 1 ∨ i = 2 ∨ i = 3 ∨ i = 4 ∨ i = 5 ∨ i = 6 ∨ i = 7 ∨ i = 8 ∨ i = 9 ∨ i = 10 ∨ i = 11 ∨ i = 12 ∨ i = 13 ∨ i = 14 ∨ i = 15 ∨ i = 16 ∨ i = 17 ∨ i = 18 ∨ i = 19 ∨ i = 20 ∨ i = 21 ∨ i = 22 ∨ i = 23 ∨ i = 24 ∨ i = 25 ∨ i = 26 ∨ i = 27 ∨ i = 28) with rfl | rfl | rfl | rfl | rfl | rfl | rfl | rfl | rfl | rfl | rfl | rfl | rfl | rfl | rfl | rfl | rfl | rfl | rfl | rfl | rfl | rfl | rfl | rfl | rfl | rfl | rfl | rfl | rfl
        · exact spcO_val (d := 17) rfl (wanted_none rfl) (run_fieldAddr (m := 0) Tryz.underlying32 rfl (by kernel_rfl) b5) hC hkr rfl
        · have hx : a1.eval (.tmp 17) = .pointer (some ⟨B5, 0, none⟩) := hT 0 (by kernel_rfl)
          exact spcO_val (d := 18) rfl (wanted_none rfl) (run_loadCell (run_isAgg_plain Tryz.underlying9 rfl) (hrow.cell (i := 0) rfl) hx) hC hkr ⟨q, rfl, hq⟩
        · obtain ⟨q', hx, hq'⟩ := hT 1 (by kernel_rfl)
          have hx : a1.eval (.tmp 18) = .string ⟨q'.toArray⟩ := hx
          refine spcO_call (d := 19) (vs := #[.string ⟨q'.toArray⟩]) rfl (wanted_none rfl) (Go.Proofs.enters_of Tryz.func66 (by kernel_rfl) rfl) (by simp [hx]) ?_
          refine (short_any q' w6).mono ?_
          rintro e wz ⟨rfl, rfl⟩
          refine ⟨_, rfl, hC, hkr, ?_⟩
          show Value.string _ = Value.string _
          rw [hq'.cut]
        · exact spcO_val (d := 20) rfl (wanted_none rfl) (run_fieldAddr (m := 7) Tryz.underlying32 rfl (by kernel_rfl) b5) hC hkr rfl
        · have hx : a1.eval (.tmp 20) = .pointer (some ⟨B5, 1, none⟩) := hT 3 (by kernel_rfl)
          exact spcO_val (d := 21) rfl (wanted_none rfl) (run_fieldAddr (m := 0) Tryz.underlying30 rfl (by kernel_rfl) hx) hC hkr rfl
        · have hx : a1.eval (.tmp 21) = .pointer (some ⟨B5, 8, none⟩) := hT 4 (by kernel_rfl)
          exact spcO_val (d := 22) rfl (wanted_none rfl) (run_loadCell (run_isAgg_plain Tryz.underlying9 rfl) (hrow.cell (i := 8) rfl) hx) hC hkr ⟨j, rfl, hj⟩
        · exact spcO_val (d := 23) rfl (wanted_none rfl) (run_fieldAddr (m := 7) Tryz.underlying32 rfl (by kernel_rfl) b5) hC hkr rfl
        · have hx : a1.eval (.tmp 23) = .pointer (some ⟨B5, 1, none⟩) := hT 6 (by kernel_rfl)
          exact spcO_val (d := 24) rfl (wanted_none rfl) (run_fieldAddr (m := 0) Tryz.underlying30 rfl (by kernel_rfl) hx) hC hkr rfl
        · have hx : a1.eval (.tmp 24) = .pointer (some ⟨B5, 8, none⟩) := hT 7 (by kernel_rfl)
          exact spcO_val (d := 25) rfl (wanted_none rfl) (run_loadCell (run_isAgg_plain Tryz.underlying9 rfl) (hrow.cell (i := 8) rfl) hx) hC hkr ⟨j, rfl, hj⟩
        · obtain ⟨q', hx, hq'⟩ := hT 8 (by kernel_rfl)
          exact spcO_val (d := 26) rfl (wanted_none rfl) (run_lenS hx) hC hkr ⟨q', rfl, hq'⟩
        · obtain ⟨q', hx, hq'⟩ := hT 9 (by kernel_rfl)
          refine spcO_val (d := 27) rfl (wanted_none rfl) (run_minC hx rfl) hC hkr ?_
          show Value.int .i64 _ = Value.int .i64 _
          have := hq'.mn
          congr 1
          omega
        · obtain ⟨q', hx, hq'⟩ := hT 5 (by kernel_rfl)
          have hy : a1.eval (.tmp 27) = .int .i64 ((min link.length 40 : Nat) : Int) := hT 10 (by kernel_rfl)
          refine spcO_val (d := 28) rfl (wanted_none rfl) (run_sliceS hq'.le hx hy) hC hkr ?_
          show Value.string _ = Value.string _
          rw [hq'.cut]
        · exact spcO_val (d := 29) rfl (wanted_none rfl) (run_fieldAddr (m := 7) Tryz.underlying32 rfl (by kernel_rfl) b5) hC hkr rfl
        · have hx : a1.eval (.tmp 29) = .pointer (some ⟨B5, 1, none⟩) := hT 12 (by kernel_rfl)
          exact spcO_val (d := 30) rfl (wanted_none rfl) (run_fieldAddr (m := 0) Tryz.underlying30 rfl (by kernel_rfl) hx) hC hkr rfl
        · have hx : a1.eval (.tmp 30) = .pointer (some ⟨B5, 7, none⟩) := hT 13 (by kernel_rfl)
          exact spcO_val (d := 31) rfl (wanted_none rfl) (run_loadCell (run_isAgg_plain Tryz.underlying28 rfl) (hrow.cell (i := 7) rfl) hx) hC hkr ⟨m, rfl, hm⟩
        · exact spcO_val (d := 32) rfl (wanted_none rfl) (run_fieldAddr (m := 7) Tryz.underlying32 rfl (by kernel_rfl) b5) hC hkr rfl
        · have hx : a1.eval (.tmp 32) = .pointer (some ⟨B5, 1, none⟩) := hT 15 (by kernel_rfl)
          exact spcO_val (d := 33) rfl (wanted_none rfl) (run_fieldAddr (m := 0) Tryz.underlying30 rfl (by kernel_rfl) hx) hC hkr rfl
        · have hx : a1.eval (.tmp 33) = .pointer (some ⟨B5, 7, none⟩) := hT 16 (by kernel_rfl)
          exact spcO_val (d := 34) rfl (wanted_none rfl) (run_loadCell (run_isAgg_plain Tryz.underlying28 rfl) (hrow.cell (i := 7) rfl) hx) hC hkr ⟨m, rfl, hm⟩
        · obtain ⟨m', hx, hm'⟩ := hT 17 (by kernel_rfl)
          exact spcO_val (d := 35) rfl (wanted_none rfl) (run_lenV hx) hC hkr ⟨m', rfl, hm'⟩
        · obtain ⟨m', hx, hm'⟩ := hT 18 (by kernel_rfl)
          refine spcO_val (d := 36) rfl (wanted_none rfl) (run_minC hx rfl) hC hkr ?_
          show Value.int .i64 _ = Value.int .i64 _
          rw [hm'.mn]
        · obtain ⟨m', hx, hm'⟩ := hT 14 (by kernel_rfl)
          have hy : a1.eval (.tmp 36) = .int .i64 ((min ld 40 : Nat) : Int) := hT 19 (by kernel_rfl)
          exact spcO_val (d := 37) rfl (wanted_none rfl) (run_sliceV (by have := HDL.out.2; omega) hx hy) hC hkr rfl
        · exact spcO_val (d := 38) rfl (wanted_none rfl) (run_fieldAddr (m := 0) Tryz.underlying32 rfl (by kernel_rfl) b5) hC hkr rfl
        · have hx : a1.eval (.tmp 38) = .pointer (some ⟨B5, 0, none⟩) := hT 21 (by kernel_rfl)
          have hy : a1.eval (.tmp 19) = .string ⟨(shortS xp).toArray⟩ := hT 2 (by kernel_rfl)
          have hrow' : Row (w6.setCell ⟨B5, 0, none⟩ (.string ⟨(shortS xp).toArray⟩)) B5 32 (fsR kind mode uid gid time (.slice aa la ca) ad m cd (shortS xp) j) := hrow.set' 0 _ rfl
          refine spcO_skip rfl (wanted_none rfl) (run_storeS ⟨_, hrow.cell (i := 0) rfl⟩ (hrow.frozen 0) hx hy) ⟨Chg.setCell (M := fun b => b = B5) hCh (p := ⟨B5, 0, none⟩) (.inr rfl) _, shortS xp, j, m, .inr rfl, hj, hm, hrow'⟩ ⟨fun _ => hrow'.cell (i := 0) rfl, fun h => by rw [hrow'.cell (i := 8) (v := .string ⟨j.toArray⟩) rfl, ← hrow.cell (i := 8) (v := .string ⟨j.toArray⟩) rfl]; exact h, fun h => by rw [hrow'.cell (i := 7) (v := .slice ad m cd) rfl, ← hrow.cell (i := 7) (v := .slice ad m cd) rfl]; exact h⟩ (hrow'.cell (i := 0) rfl)
        · exact spcO_val (d := 39) rfl (wanted_none rfl) (run_fieldAddr (m := 7) Tryz.underlying32 rfl (by kernel_rfl) b5) hC hkr rfl
        · have hx : a1.eval (.tmp 39) = .pointer (some ⟨B5, 1, none⟩) := hT 23 (by kernel_rfl)
          exact spcO_val (d := 40) rfl (wanted_none rfl) (run_fieldAddr (m := 0) Tryz.underlying30 rfl (by kernel_rfl) hx) hC hkr rfl
        · have hx : a1.eval (.tmp 40) = .pointer (some ⟨B5, 8, none⟩) := hT 24 (by kernel_rfl)
          have hy : a1.eval (.tmp 28) = .string ⟨(link.take 40).toArray⟩ := hT 11 (by kernel_rfl)
          have hrow' : Row (w6.setCell ⟨B5, 8, none⟩ (.string ⟨(link.take 40).toArray⟩)) B5 32 (fsR kind mode uid gid time (.slice aa la ca) ad m cd q (link.take 40)) := hrow.set' 8 _ rfl
          refine spcO_skip rfl (wanted_none rfl) (run_storeS ⟨_, hrow.cell (i := 8) rfl⟩ (hrow.frozen 8) hx hy) ⟨Chg.setCell (M := fun b => b = B5) hCh (p := ⟨B5, 8, none⟩) (.inr rfl) _, q, link.take 40, m, hq, .inr rfl, hm, hrow'⟩ ⟨fun h => by rw [hrow'.cell (i := 0) (v := .string ⟨q.toArray⟩) rfl, ← hrow.cell (i := 0) (v := .string ⟨q.toArray⟩) rfl]; exact h, fun _ => hrow'.cell (i := 8) rfl, fun h => by rw [hrow'.cell (i := 7) (v := .slice ad m cd) rfl, ← hrow.cell (i := 7) (v := .slice ad m cd) rfl]; exact h⟩ (hrow'.cell (i := 8) rfl)
        · exact spcO_val (d := 41) rfl (wanted_none rfl) (run_fieldAddr (m := 7) Tryz.underlying32 rfl (by kernel_rfl) b5) hC hkr rfl
        · have hx : a1.eval (.tmp 41) = .pointer (some ⟨B5, 1, none⟩) := hT 26 (by kernel_rfl)
          exact spcO_val (d := 42) rfl (wanted_none rfl) (run_fieldAddr (m := 0) Tryz.underlying30 rfl (by kernel_rfl) hx) hC hkr rfl
        · have hx : a1.eval (.tmp 42) = .pointer (some ⟨B5, 7, none⟩) := hT 27 (by kernel_rfl)
          have hy : a1.eval (.tmp 37) = .slice ad (min ld 40) cd := hT 20 (by kernel_rfl)
          have hrow' : Row (w6.setCell ⟨B5, 7, none⟩ (.slice ad (min ld 40) cd)) B5 32 (fsR kind mode uid gid time (.slice aa la ca) ad (min ld 40) cd q j) := hrow.set' 7 _ rfl
          refine spcO_skip rfl (wanted_none rfl) (run_storeV ⟨_, hrow.cell (i := 7) rfl⟩ (hrow.frozen 7) hx hy) ⟨Chg.setCell (M := fun b => b = B5) hCh (p := ⟨B5, 7, none⟩) (.inr rfl) _, q, j, min ld 40, hq, hj, .inr rfl, hrow'⟩ ⟨fun h => by rw [hrow'.cell (i := 0) (v := .string ⟨q.toArray⟩) rfl, ← hrow.cell (i := 0) (v := .string ⟨q.toArray⟩) rfl]; exact h, fun h => by rw [hrow'.cell (i := 8) (v := .string ⟨j.toArray⟩) rfl, ← hrow.cell (i := 8) (v := .string ⟨j.toArray⟩) rfl]; exact h, fun _ => hrow'.cell (i := 7) rfl⟩ (hrow'.cell (i := 7) rfl)
      · intro a1 w6 ha hC hT
        obtain ⟨hCh, q, j, m, hq, hj, hm, hrow⟩ := hC
        have h22 : w6.cell? ⟨B5, 0, none⟩ = some (.string ⟨(shortS xp).toArray⟩) := hT 22 (by decide)
        have h25 : w6.cell? ⟨B5, 8, none⟩ = some (.string ⟨(link.take 40).toArray⟩) := hT 25 (by decide)
        have h28 : w6.cell? ⟨B5, 7, none⟩ = some (.slice ad (min ld 40) cd) := hT 28 (by decide)
        have e1 := (hrow.cell (i := 0) (v := .string ⟨q.toArray⟩) rfl).symm.trans h22
        have e2 := (hrow.cell (i := 8) (v := .string ⟨j.toArray⟩) rfl).symm.trans h25
        have e3 := (hrow.cell (i := 7) (v := .slice ad m cd) rfl).symm.trans h28
        injection e1 with e1
        injection e2 with e2
        injection e3 with e3
        have hrow6 : Row w6 B5 32 (fsR kind mode uid gid time (.slice aa la ca) ad (min ld 40) cd (shortS xp) (link.take 40)) := by
          unfold fsR at hrow ⊢
          rw [e1, e2, e3] at hrow
          exact hrow
        have H6 := Keep.keep (H5.out.upd 0 rfl (rowA B5 32 (fsR kind mode uid gid time (.slice aa la ca) ad (min ld 40) cd (shortS xp) (link.take 40))) (hCh.mono (Nat.le_refl _) (fun _ h => h)) hrow6 (fun b hb => .inl hb))
        simp only [List.filterMap_cons, List.filterMap_nil, List.foldl_cons, List.foldl_nil] at ha
        clear hT hCh hq hj hm hrow h22 h25 h28 e1 e2 e3 hrow6 H5
        generalize slot a1 17 = x17 at *
        generalize slot a1 18 = x18 at *
        generalize slot a1 19 = x19 at *
        generalize slot a1 20 = x20 at *
        generalize slot a1 21 = x21 at *
        generalize slot a1 22 = x22 at *
        generalize slot a1 23 = x23 at *
        generalize slot a1 24 = x24 at *
        generalize slot a1 25 = x25 at *
        generalize slot a1 26 = x26 at *
        generalize slot a1 27 = x27 at *
        generalize slot a1 28 = x28 at *
        generalize slot a1 29 = x29 at *
        generalize slot a1 30 = x30 at *
        generalize slot a1 31 = x31 at *
        generalize slot a1 32 = x32 at *
        generalize slot a1 33 = x33 at *
        generalize slot a1 34 = x34 at *
        generalize slot a1 35 = x35 at *
        generalize slot a1 36 = x36 at *
        generalize slot a1 37 = x37 at *
        generalize slot a1 38 = x38 at *
        generalize slot a1 39 = x39 at *
        generalize slot a1 40 = x40 at *
        generalize slot a1 41 = x41 at *
        generalize slot a1 42 = x42 at *
        subst ha
        simp only [Act.put, List.setIfInBounds_toArray, List.set_cons_succ, List.set_cons_zero]
        have hfr := H6.out.row 0 rfl
        unfold fsR at hfr
        have k6 := hfr.cell (i := 6) rfl
        have f6 := hfr.frozen 6
        have HLA : Keep (la = attrs.length ∧ la ≤ ca) := ⟨⟨HX.out.at_.lens.1, by have := HX.out.at_.lens; omega⟩⟩
        have hmn : min (la : Int) 4 = ((min la 4 : Nat) : Int) := by omega
        have hsl := fun wx => slice_ato aa la ca (min la 4) .i64 (by have := HLA.out.2; omega) wx
        have hw6 : w.heap.size ≤ w6.heap.size := Nat.le_trans HB.out.size H6.out.size
        have HRA : Keep (RdV w6 (· < w6.heap.size) 2 (.slice aa (min la 4) ca) (attrs.take 4).length (rcells (attrs.take 4))) := ⟨by
          have hb6 : Below w.heap.size w w6 := HB.out.trans (H6.out.below.mono HB.out.size)
          have hx := HX.out.at_.below hb6 HK.out
          dsimp only at hx
          have h1 := RdV.take2 (by rw [HLA.out.1] at hx; exact hx) (min attrs.length 4) (by omega)
          have e : attrs.take (min attrs.length 4) = attrs.take 4 := by rw [List.take_eq_take_iff]; omega
          rw [e] at h1
          rw [HLA.out.1]
          exact h1.mono (fun b hb => Nat.lt_of_lt_of_le (HK.out b hb) hw6)⟩
        have HCL := Keep.keep (clA_own _ (attrs.take 4) w6 HRA.out (by rw [List.length_take]; omega))
        obtain ⟨n4, hn4⟩ : ∃ n4, min la 4 = n4 := ⟨_, rfl⟩
        have HN4 : Keep (n4 = (attrs.take 4).length ∧ n4 ≤ 4) := ⟨⟨by rw [← hn4, List.length_take, HLA.out.1]; omega, by omega⟩⟩
        rw [hn4] at hsl hmn HCL
        clear hfr hn4 HRA
        go_wp2_with fail
        refine HCL.out.mono ?_
        rintro e w7 ⟨v7, rfl, ho7, hb7⟩
        have H7 := Keep.keep (H6.out.push (slA w6.heap.size 97 2 v7 (attrs.take 4).length (rcells (attrs.take 4))) (.of_below hb7) ho7 (fun b hb => World.ownsRow.lt ho7 b hb))
        have HW6 : Keep (wo.heap.size ≤ w6.heap.size) := ⟨H6.out.size⟩
        have hal2 : acc.length = k := hal
        clear HCL hmn hsl H6 hb7
        obtain ⟨a7, c7, hv7, -⟩ := (ownsV_reads ho7).shape
        rw [← HN4.out.1] at hv7
        subst hv7
        have hr7 := H7.out.row 0 rfl
        unfold fsR at hr7
        have k6 := hr7.cell (i := 6) rfl
        have f6 := hr7.frozen 6
        clear ho7 hr7
        go_wp2_with fail
        have hn47 : n4 = (attrs.take 4).length := HN4.out.1
        have hn44 : n4 ≤ 4 := HN4.out.2
        refine wp_world (R := fun w8 => Hp NoM wo w8 [rowA B5 32 (fsR kind mode uid gid time (.slice a7 n4 c7) ad (min ld 40) cd (shortS xp) (link.take 40)), slA w6.heap.size 97 2 (.slice a7 n4 c7) n4 (rcells (attrs.take 4))]) (by rw [hn47] at H7 ⊢; exact H7.out.setCell 0 rfl 6 _ rfl) ?_
        intro w8 H8
        clear H7 k6 f6
        have HN47 := Keep.keep hn47
        clear hn47
        go_loopg [59] n4 (fun g u59 wx => ∃ i : Nat, i + g = n4 ∧ u59 = .int .i64 (i : Int) ∧ Hp NoM wo wx [rowA B5 32 (fsR kind mode uid gid time (.slice a7 n4 c7) ad (min ld 40) cd (shortS xp) (link.take 40)), slA w6.heap.size 97 2 (.slice a7 n4 c7) n4 (rcells (((attrs.take 4).take i).map cutB ++ (attrs.take 4).drop i))])
        case atStart => exact ⟨0, by omega, rfl, by simpa using H8.out⟩
        case round =>
          obtain ⟨i, hig, rfl, hHi⟩ := hrel
          have HI := Keep.keep hHi
          clear hHi H8
          have hll : (((attrs.take 4).take i).map cutB ++ (attrs.take 4).drop i).length = n4 := by
            have := HN47.out
            rw [List.length_append, List.length_map, List.length_take, List.length_drop]; omega
          have HLL := Keep.keep hll
          clear hll
          cases gk with
          | zero =>
            obtain rfl : i = n4 := by omega
            have HFA : Keep (((attrs.take 4).take i).map cutB ++ (attrs.take 4).drop i = (attrs.take 4).map cutB) := ⟨by
              rw [HN47.out, List.take_length, List.drop_length, List.append_nil]⟩
            have HRW := Keep.keep (HI.out.row 0 rfl)
            unfold fsR at HRW
            have HSZ : Keep ((#[.string ⟨(shortS xp).toArray⟩, .int .i64 kind, .int .u32 mode, .int .u32 uid, .int .u32 gid, .int .i64 time, .slice a7 i c7, .slice ad (min ld 40) cd, .string ⟨(link.take 40).toArray⟩] : Array Value).size = 9) := ⟨rfl⟩
            go_wp2_with (first | ((with_reducible refine arm_loadRow HRW.out aggM HSZ.out ?_ ?_); (focus rfl); simp only [Act.put, List.setIfInBounds_toArray, List.set_cons_succ, List.set_cons_zero]) | (with_reducible refine arm_stop ?_))
            refine Stopped.out ?_
            have hoi := HI.out.sl 1 rfl
            rw [HFA.out] at hoi
            have hbx := HI.out.below
            have HAL : Keep (Below wr.heap.size wr (wr.alloc (.cells #[.string ⟨(shortS xp).toArray⟩, .int .i64 kind, .int .u32 mode, .int .u32 uid, .int .u32 gid, .int .i64 time, .slice a7 i c7, .slice ad (min ld 40) cd, .string ⟨(link.take 40).toArray⟩] 32))) := ⟨(Below.refl _ _).alloc (Nat.le_refl _) _⟩
            have hny : NdR wr (fun b => K b ∨ (w6.heap.size ≤ b ∧ b < wr.heap.size)) (cut19 (xp, ⟨kind, mode, uid, gid, time, attrs, data, link⟩)).2 (.slice a7 i c7) (.slice ad (min ld 40) cd) := by
              refine ⟨?_, ?_⟩
              · have h1 := ownsV_reads hoi
                have e : i = ((attrs.take 4).map cutB).length := by rw [List.length_map]; exact HN47.out
                have h2 : RdV wr (fun b => w6.heap.size ≤ b ∧ b < wr.heap.size ∧ (Value.slice a7 i c7).ownBlock = some b) 2 (.slice a7 i c7) ((attrs.take 4).map cutB).length (rcells ((attrs.take 4).map cutB)) := by rw [← e]; exact h1
                exact h2.mono (fun b hb => .inr ⟨hb.1, hb.2.1⟩)
              · have hb6 : Below w.heap.size w wr := HB.out.trans (hbx.mono HB.out.size)
                have h1 := reads_to (HX.out.dt.below hb6 HK.out) (min ld 40) (by have := HDL.out.1; dsimp only; omega)
                have e : data.take (min ld 40) = data.take 40 := by rw [List.take_eq_take_iff]; have := HDL.out.1; omega
                dsimp only at h1
                rw [e] at h1
                exact h1.mono (fun b hb => .inl hb)
            have hsx := hbx.size
            have hal := HAL.out
            have hrA := (HH.out.below hbx).below hal
            have hob := World.ownsRow.lt HH.out.own
            have hm : Mbs (wr.alloc (.cells #[.string ⟨(shortS xp).toArray⟩, .int .i64 kind, .int .u32 mode, .int .u32 uid, .int .u32 gid, .int .i64 time, .slice a7 i c7, .slice ad (min ld 40) cd, .string ⟨(link.take 40).toArray⟩] 32)) (fun _ => True) (fun b => K b ∨ (w6.heap.size ≤ b ∧ b < wr.heap.size)) (.slice (some ⟨wr.heap.size, 0, none⟩) 1 1) [(cut19 (xp, ⟨kind, mode, uid, gid, time, attrs, data, link⟩), .slice a7 i c7, .slice ad (min ld 40) cd)] :=
              ⟨RdV.new (N := fun _ => True) 32 [.string ⟨(shortS xp).toArray⟩, .int .i64 kind, .int .u32 mode, .int .u32 uid, .int .u32 gid, .int .i64 time, .slice a7 i c7, .slice ad (min ld 40) cd, .string ⟨(link.take 40).toArray⟩] 9 1 _ rfl rfl (by unfold maxLen; omega) trivial, fun z hz => by
                obtain rfl : z = (cut19 (xp, ⟨kind, mode, uid, gid, time, attrs, data, link⟩), .slice a7 i c7, .slice ad (min ld 40) cd) := by simpa using hz
                exact hny.below hal (fun b hb => by
                  rcases hb with hb | hb
                  · have := HB.out.size; have := HK.out b hb; omega
                  · exact hb.2)⟩
            have hwr : w.heap.size ≤ wo.heap.size := HB.out.size
            refine arm_appM (B := w.heap.size) (K := K) hrA (by have := hal.size; omega) hm (fun b hb => ⟨hb.imp id (fun hb => by have := HW6.out; omega), by
              have := hal.size
              rcases hb with hb | hb
              · have := HK.out b hb; omega
              · omega, fun e => by
              have h1 := hob b e
              have := HW6.out
              rcases hb with hb | hb
              · have := HK.out b hb; omega
              · omega⟩) (by rw [hal2]; simp; omega) rfl rfl ?_
            intro v4 w4 hr4 hg4 hov4 hsh4
            obtain ⟨a4, c4, hv4⟩ := hsh4
            have HR4 := Keep.keep hr4
            have HB4 : Keep (Below w.heap.size w w4) := ⟨((HB.out.trans (hbx.mono hwr)).trans (hal.mono (by omega))).trans (hrA.chg (by have := hal.size; omega) hg4)⟩
            clear hr4 hg4 hov4 hm hrA hal hny hoi hbx HAL HRW
            subst hv4
            simp only [Act.put, List.setIfInBounds_toArray, List.set_cons_succ, List.set_cons_zero]
            go_wp2_with fail
            go_roundg g
            case measure => omega
            case rel => exact ⟨k + 1, acc ++ [(cut19 (xp, ⟨kind, mode, uid, gid, time, attrs, data, link⟩), .slice a7 i c7, .slice ad (min ld 40) cd)], by omega, by simp, by rw [List.map_append, HM.out, HTK.out]; rfl, by simp [hal2], HR4.out, HB4.out⟩
          | succ gi =>
            have hin : i < n4 := by omega
            have hd3 : decide ((i : Int) < (n4 : Int)) = true := decide_eq_true (by omega)
            have hi4 : i < (attrs.take 4).length := by have := HN47.out; omega
            have hri := HI.out.row 0 rfl
            unfold fsR at hri
            have k6 := hri.cell (i := 6) rfl
            clear hri
            have hoi := HI.out.sl 1 rfl
            obtain ⟨g7, rfl⟩ : ∃ g7, a7 = some ⟨g7, 0, none⟩ := by
              rcases hoi.2 with ⟨h1, h2⟩ | ⟨g', cap', cur, h1, -⟩
              · omega
              · injection h1 with h1; exact ⟨g', h1⟩
            have hxi : (((attrs.take 4).take i).map cutB ++ (attrs.take 4).drop i)[i]? = some (attrs.take 4)[i] := by
              rw [List.getElem?_append_right (by rw [List.length_map, List.length_take]; omega), List.length_map, List.length_take, Nat.min_eq_left (by omega), Nat.sub_self, List.getElem?_drop, Nat.add_zero, List.getElem?_eq_getElem hi4]
            have hld2 := own_loadAtA hoi HLL.out.symm hxi
            have HTA : Keep ((((attrs.take 4).take i).map cutB ++ (attrs.take 4).drop i).set i (cutB (attrs.take 4)[i]) = ((attrs.take 4).take (i + 1)).map cutB ++ (attrs.take 4).drop (i + 1)) := ⟨by
              rw [List.set_append_right _ _ (by rw [List.length_map, List.length_take]; omega), List.length_map, List.length_take, Nat.min_eq_left (by omega), Nat.sub_self, List.drop_eq_getElem_cons hi4, List.set_cons_zero, List.take_succ_eq_append_getElem hi4, List.map_append, List.append_assoc]
              rfl⟩
            clear hxi hoi
            generalize (attrs.take 4)[i] = xa at *
            obtain ⟨an, aw⟩ := xa
            unfold strV at hld2
            dsimp only at hld2
            go_upto_region 11 with ((with_reducible refine arm_loadM hld2 ?_ ?_); (focus rfl); simp only [Act.put, List.setIfInBounds_toArray, List.set_cons_succ, List.set_cons_zero])
            refine wp_world (R := fun w9 => Hp NoM wo w9 [rowA B5 32 (fsR kind mode uid gid time (.slice (some ⟨g7, 0, none⟩) n4 c7) ad (min ld 40) cd (shortS xp) (link.take 40)), slA w6.heap.size 97 2 (.slice (some ⟨g7, 0, none⟩) n4 c7) n4 (rcells (((attrs.take 4).take i).map cutB ++ (attrs.take 4).drop i)), rowA wr.heap.size 97 #[.string ⟨an.toArray⟩, .string ⟨aw.toArray⟩]]) (HI.out.newRow _ _) ?_
            intro w9 H9
            obtain ⟨B7, hB7⟩ : ∃ B7, wr.heap.size = B7 := ⟨_, rfl⟩
            rw [hB7] at H9 ⊢
            clear hB7 hld2 k6
            have hr9 := H9.out.row 0 rfl
            unfold fsR at hr9
            have k6 := hr9.cell (i := 6) rfl
            have c70 := (H9.out.row 2 rfl).cell (i := 0) rfl
            have c71 := (H9.out.row 2 rfl).cell (i := 1) rfl
            have mnA : min (an.length : Int) 40 = ((min an.length 40 : Nat) : Int) := by omega
            have mnB : min (aw.length : Int) 200 = ((min aw.length 200 : Nat) : Int) := by omega
            have slA1 := run_slice_to (P := Tryz.prog) Tryz.underlying9 an .i64 (min an.length 40) (Nat.min_le_left _ _)
            have slB1 := run_slice_to (P := Tryz.prog) Tryz.underlying9 aw .i64 (min aw.length 200) (Nat.min_le_left _ _)
            have eA : an.take (min an.length 40) = an.take 40 := by rw [List.take_eq_take_iff]; omega
            have eB : aw.take (min aw.length 200) = aw.take 200 := by rw [List.take_eq_take_iff]; omega
            rw [eA] at slA1
            rw [eB] at slB1
            have hbA := buildA (an.take 40) (aw.take 200)
            have hCB : Keep (cutB (an, aw) = (an.take 40, aw.take 200)) := ⟨rfl⟩
            obtain ⟨an4, han4⟩ : ∃ x, x = an.take 40 := ⟨_, rfl⟩
            obtain ⟨aw4, haw4⟩ : ∃ x, x = aw.take 200 := ⟨_, rfl⟩
            rw [← han4, ← haw4] at hCB
            rw [← han4] at slA1 hbA
            rw [← haw4] at slB1 hbA
            clear eA eB hr9 han4 haw4
            generalize min an.length 40 = mA at *
            generalize min aw.length 200 = mB at *
            refine wp_region_quiet_tail_drawn 20 (by kernel_rfl) (by kernel_rfl) ?_; simp only [List.take_succ_cons, List.take_zero, List.drop_succ_cons, List.drop_zero]; (repeat (go_big_quiet_step (fail))); refine wpQuiet_nil ?_; rintro _ ⟨nq, rfl⟩
            refine arm_setAt (base := w6.heap.size) (l := ((attrs.take 4).take i).map cutB ++ (attrs.take 4).drop i) (k := i) (cap := c7) (n := n4) (g := g7) (an4, aw4) (((H9.out.drewN nq).sl 1 rfl)) HLL.out.symm (by rw [HLL.out]; exact hin) rfl rfl ?_
            intro w10 ho10 hg10
            have HG := Keep.keep ((H9.out.drewN nq).upd 1 rfl (slA w6.heap.size 97 2 (.slice (some ⟨g7, 0, none⟩) n4 c7) n4 (rcells (((attrs.take 4).take (i + 1)).map cutB ++ (attrs.take 4).drop (i + 1)))) (chg_grown hg10) (by rw [← HTA.out, hCB.out]; exact ho10) (fun b hb => .inl hb))
            clear ho10 hg10 H9 k6 c70 c71 mnA mnB slA1 slB1 hbA
            simp only [Act.put]
            go_wp2_with fail
            go_roundg gi
            case measure => omega
            case rel => exact ⟨i + 1, by omega, by simp, HG.out.init⟩
theorem few19_any (v : Value) (l : List Mv) (w : World) (hr : Mbs w (· < w.heap.size) (· < w.heap.size) v l) :
    Calls Tryz.prog 21 #[v] w fun e w' => ∃ v' l', e = .returned v' ∧ l'.map (·.1) = few19 (l.map (·.1)) ∧ RowM w.heap.size (· < w.heap.size) w' v' l' ∧ Below w.heap.size w w' := few19K v l w _ (fun _ h => h) hr
end Go.Proofs.YtplafpokgpolkaaGreatDoor
/- []byte(s) OF ANY TEXT: the capacity that is drawn stays hidden. -/
namespace Go.Proofs.YtplafpokgpolkaaGreatDoor
open Go.RowKit
theorem convS (l : List UInt8) (n : Nat) (hn : l.length = n) (hl : l.length ≤ maxLen) : ∃ cf : World → Nat, ∃ rf : World → Array Value, ∃ mf : World → Nat × Nat,
    (∀ w, (convert 9 28 (.string ⟨l.toArray⟩)).run Tryz.prog w = .ok (.slice (some ⟨w.heap.size, 0, none⟩) n (cf w)) (w.drew.alloc (.cells (rf w) 5 (mf w)))) ∧
    (∀ w, Reads (w.drew.alloc (.cells (rf w) 5 (mf w))) (fun b => b = w.heap.size) (.slice (some ⟨w.heap.size, 0, none⟩) n (cf w)) l) := by
  subst hn
  have hsz : (⟨l.toArray⟩ : ByteArray).size = l.length := by simp [ByteArray.size]
  refine ⟨fun w => grownCap w l.length 0 5, fun w => bytesRow ⟨l.toArray⟩ (grownCap w l.length 0 5), fun w => ((bytesRow ⟨l.toArray⟩ (grownCap w l.length 0 5)).size, (bytesRow ⟨l.toArray⟩ (grownCap w l.length 0 5)).size + 1), fun w => ?_, fun w => ?_⟩
  · have := run_bytes_of_string (P := Tryz.prog) w 9 28 5 ⟨l.toArray⟩ Tryz.underlying9 Tryz.underlying28 Tryz.underlying5
    rw [hsz] at this
    exact this
  · refine ⟨⟨_, _, rfl, grownCap_ge _ _ _ _, grownCap_le_maxLen _ _ _ _ hl, .inr ⟨_, _, rfl, rfl⟩⟩, fun b off m cap he j hj => ?_⟩
    injection he with e1 _ _; injection e1 with e1; injection e1 with e1 e2 _; subst e1 e2
    rw [show w.heap.size = w.drew.heap.size from rfl, World.cell?_alloc_mark, Nat.zero_add]
    have h2 : j < (bytesRow ⟨l.toArray⟩ (grownCap w l.length 0 5)).size := by simp [bytesRow]; omega
    simp [bytesRow, Array.getElem?_append, hj]
end Go.Proofs.YtplafpokgpolkaaGreatDoor
/- portolanlaw19: dir, file, paths; what stands while it is gone on. -/
namespace Go.Proofs.YtplafpokgpolkaaGreatDoor
open Go.RowKit
/-- a tree at hand -/
def TrL (w : World) (T : Nat) (t : List Mb) : Prop := ∃ mb Bk f, TreeIn w T mb Bk f t ∧ ∀ b, Bk b → b < w.heap.size
theorem TrL.on {w w' : World} {T : Nat} {t : List Mb} (h : TrL w T t) (hb : Below w.heap.size w w') : TrL w' T t := by
  obtain ⟨mb, Bk, f, h1, h2⟩ := h
  exact ⟨mb, Bk, f, h1.loc (fun b hb' => hb.block b (by
    rcases hb' with rfl | rfl | h
    · exact h1.row.lt
    · exact h1.map.lt
    · exact h2 b h)), fun b hb' => Nat.lt_of_lt_of_le (h2 b hb') hb.size⟩
theorem TrL.ofNew {w w' : World} {pv : Value} {t : List Mb} (h : NewIs w w' pv (some t)) : ∃ T, pv = .pointer (some ⟨T, 0, none⟩) ∧ TrL w' T t := by
  obtain ⟨T, mb, Bk, f, he, h1, h2⟩ := h
  exact ⟨T, he, mb, Bk, f, h1, fun b hb => (h2.2.2 b hb).2⟩
def NdL (w : World) (n : Nd) (av dv : Value) : Prop := NdR w (· < w.heap.size) n av dv
theorem NdL.on {w w' : World} {n : Nd} {av dv : Value} (h : NdL w n av dv) (hb : Below w.heap.size w w') : NdL w' n av dv := (h.below hb (fun _ hb => hb)).mono (fun _ hb' => Nat.lt_of_lt_of_le hb' hb.size)
def MbL (w : World) (v : Value) (l : List Mv) : Prop := Mbs w (· < w.heap.size) (· < w.heap.size) v l
theorem MbL.on {w w' : World} {v : Value} {l : List Mv} (h : MbL w v l) (hb : Below w.heap.size w w') : MbL w' v l := (Mbs.below h hb (fun _ hb => hb) (fun _ hb => hb)).mono (fun _ hb' => Nat.lt_of_lt_of_le hb' hb.size) (fun _ hb' => Nat.lt_of_lt_of_le hb' hb.size)
theorem MbL.ofRow {w : World} {v : Value} {l : List Mv} {B : Nat} {K : Nat → Prop} (h : RowM B K w v l) : MbL w v l := h.mbs.mono (fun _ hb => hb.2) (fun _ hb => hb.2.1)
theorem RdS.on' {w w' : World} {v : Value} {l : List Tx} (h : RdS w (· < w.heap.size) v l) (hb : Below w.heap.size w w') : RdS w' (· < w'.heap.size) v l := (RdV.below h hb (fun _ hb => hb)).mono (fun _ hb' => Nat.lt_of_lt_of_le hb' hb.size)
theorem OwnS.rd' {w : World} {B : Nat} {v : Value} {l : List Tx} (h : OwnS w B v l) : RdS w (· < w.heap.size) v l := (ownsV_reads h).mono (fun _ hb => hb.2.1)
def dirM (mode : Int) : Nd := ⟨1, mode, 0, 0, 0, [], [], []⟩
def fileD (d : Tx) : Nd := ⟨2, 0, 0, 0, 0, [], d, []⟩
theorem dirL (w : World) (mode : Int) : NdL w (dirM mode) nilV nilV := ndR_nil rfl rfl
theorem sm_dirM (p : Tx) (mode : Int) (hp : p.length ≤ 400000) : Sm (p, dirM mode) := ⟨hp, by simp [dirM], by simp [dirM], by simp [dirM], fun x hx => by simp [dirM] at hx, by simp [dirM]⟩
theorem sm_fileD (p d : Tx) (hp : p.length ≤ 400000) (hd : d.length ≤ 1000) : Sm (p, fileD d) := ⟨hp, by simp [fileD], by simp [fileD]; omega, by simp [fileD], fun x hx => by simp [fileD] at hx, by simp [fileD]⟩
set_option maxHeartbeats 1000000 in
set_option maxRecDepth 100000 in
theorem dir_any (p : Tx) (mode : Int) (w : World) : Calls Tryz.prog 9 #[.string ⟨p.toArray⟩, .int .u32 mode] w fun e w' => e = .returned (.agg #[.string ⟨p.toArray⟩, .int .i64 1, .int .u32 mode, .int .u32 0, .int .u32 0, .int .i64 0, .slice none 0 0, .slice none 0 0, .string ⟨#[]⟩]) ∧ Below w.heap.size w w' := by
  have hb1 : ∀ w, (Instr.build 30 #[(0, .int .i64 1), (1, .int .u32 mode)]).run Tryz.prog w = .ok (.agg #[.int .i64 1, .int .u32 mode, .int .u32 0, .int .u32 0, .int .i64 0, .slice none 0 0, .slice none 0 0, .string ⟨#[]⟩]) w := fun w => by kernel_rfl
  have hb3 : ∀ w, (Instr.build 32 #[(0, .string ⟨p.toArray⟩), (1, .agg #[.int .i64 1, .int .u32 mode, .int .u32 0, .int .u32 0, .int .i64 0, .slice none 0 0, .slice none 0 0, .string ⟨#[]⟩])]).run Tryz.prog w = .ok (.agg #[.string ⟨p.toArray⟩, .int .i64 1, .int .u32 mode, .int .u32 0, .int .u32 0, .int .i64 0, .slice none 0 0, .slice none 0 0, .string ⟨#[]⟩]) w := fun w => buildM (p, dirM mode) nilV nilV w
  have HX : Keep (mbC (p, dirM mode) nilV nilV = #[.string ⟨p.toArray⟩, .int .i64 1, .int .u32 mode, .int .u32 0, .int .u32 0, .int .i64 0, .slice none 0 0, .slice none 0 0, .string ⟨#[]⟩]) := ⟨rfl⟩
  have HZ : Keep ((#[.string ⟨#[]⟩, .int .i64 0, .int .u32 0, .int .u32 0, .int .u32 0, .int .i64 0, .slice none 0 0, .slice none 0 0, .string ⟨#[]⟩] : Array Value).size = 9) := ⟨rfl⟩
  have HSZ : Keep ((#[.string ⟨p.toArray⟩, .int .i64 1, .int .u32 mode, .int .u32 0, .int .u32 0, .int .i64 0, .slice none 0 0, .slice none 0 0, .string ⟨#[]⟩] : Array Value).size = 9) := ⟨rfl⟩
  have HON : Keep ((#[.string ⟨p.toArray⟩, .int .i64 1, .int .u32 mode, .int .u32 0, .int .u32 0, .int .i64 0, .slice none 0 0, .slice none 0 0, .string ⟨#[]⟩] : Array Value).all (·.oneCell') = true) := ⟨by simp [Value.oneCell']⟩
  go_enter Tryz.func9, Tryz.ntmps9
  go_upto_region 1 with fail
  refine wp_world (R := fun w1 => Hp NoM w w1 [rowA w.heap.size 32 #[.string ⟨#[]⟩, .int .i64 0, .int .u32 0, .int .u32 0, .int .u32 0, .int .i64 0, .slice none 0 0, .slice none 0 0, .string ⟨#[]⟩]]) ((Hp.begin NoM w).newRow _ _) ?_
  intro w1 H1
  have HRW := Keep.keep (H1.out.row 0 rfl)
  have HB := Keep.keep ((Chg.of_below (M := NoM) H1.out.below))
  go_wp2_with ((with_reducible refine arm_storeRow HRW.out aggM HZ.out HSZ.out HON.out ?_ ?_ ?_); (focus rfl); (focus rfl); simp only [Act.put])
  exact bodyPost_ret (results_row (p := 4) (ty := 32) rfl (HRW.out.setRow _) aggM HSZ.out rfl) rfl ⟨rfl, (HB.out.setRow (.inl (Nat.le_refl _)) _).below (fun _ _ h => h)⟩
set_option maxHeartbeats 1000000 in
set_option maxRecDepth 100000 in
theorem file_any0 (p data : Tx) (hd : data.length ≤ 1000) (w : World) : Calls Tryz.prog 10 #[.string ⟨p.toArray⟩, .string ⟨data.toArray⟩] w fun e w' => ∃ dv, e = .returned (.agg (mbC (p, fileD data) nilV dv)) ∧ NdR w' (Fresh w.heap.size w') (fileD data) nilV dv ∧ Below w.heap.size w w' := by
  obtain ⟨n, hn⟩ : ∃ n, data.length = n := ⟨_, rfl⟩
  obtain ⟨cf, rf, mf, hcv, hcr⟩ := convS data n hn (by unfold maxLen; omega)
  have HCR := Keep.keep hcr
  have hb1 : ∀ a n c w, (Instr.build 30 #[(0, .int .i64 2), (6, .slice a n c)]).run Tryz.prog w = .ok (.agg #[.int .i64 2, .int .u32 0, .int .u32 0, .int .u32 0, .int .i64 0, .slice none 0 0, .slice a n c, .string ⟨#[]⟩]) w := fun a n c w => by kernel_rfl
  have hb3 : ∀ a n c w, (Instr.build 32 #[(0, .string ⟨p.toArray⟩), (1, .agg #[.int .i64 2, .int .u32 0, .int .u32 0, .int .u32 0, .int .i64 0, .slice none 0 0, .slice a n c, .string ⟨#[]⟩])]).run Tryz.prog w = .ok (.agg #[.string ⟨p.toArray⟩, .int .i64 2, .int .u32 0, .int .u32 0, .int .u32 0, .int .i64 0, .slice none 0 0, .slice a n c, .string ⟨#[]⟩]) w := fun a n c w => buildM (p, fileD data) nilV (.slice a n c) w
  have HZ : Keep ((#[.string ⟨#[]⟩, .int .i64 0, .int .u32 0, .int .u32 0, .int .u32 0, .int .i64 0, .slice none 0 0, .slice none 0 0, .string ⟨#[]⟩] : Array Value).size = 9) := ⟨rfl⟩
  have HX : Keep (∀ a n c, mbC (p, fileD data) nilV (.slice a n c) = #[.string ⟨p.toArray⟩, .int .i64 2, .int .u32 0, .int .u32 0, .int .u32 0, .int .i64 0, .slice none 0 0, .slice a n c, .string ⟨#[]⟩]) := ⟨fun _ _ _ => rfl⟩
  clear hcr hn hd
  go_enter Tryz.func10, Tryz.ntmps10
  go_upto_region 1 with fail
  refine wp_world (R := fun w1 => Hp NoM w w1 [rowA w.heap.size 32 #[.string ⟨#[]⟩, .int .i64 0, .int .u32 0, .int .u32 0, .int .u32 0, .int .i64 0, .slice none 0 0, .slice none 0 0, .string ⟨#[]⟩]]) ((Hp.begin NoM w).newRow _ _) ?_
  intro w1 H1
  obtain ⟨b0, hb0⟩ : ∃ b, w.heap.size = b := ⟨_, rfl⟩
  have HB0 := Keep.keep hb0
  rw [hb0] at H1 ⊢
  clear hb0
  go_wp2_with (with_reducible refine arm_sSt ?_)
  refine StM.out ?_
  refine wpList_world (R := fun w2 => Hp NoM w w2 [rowA b0 32 #[.string ⟨#[]⟩, .int .i64 0, .int .u32 0, .int .u32 0, .int .u32 0, .int .i64 0, .slice none 0 0, .slice none 0 0, .string ⟨#[]⟩]] ∧ Reads w2 (fun b => b = w1.heap.size) (.slice (some ⟨w1.heap.size, 0, none⟩) n (cf w1)) data ∧ w1.heap.size < w2.heap.size) ⟨H1.out.call (((Below.refl w1.heap.size w1).drew).alloc (Nat.le_refl _) _), HCR.out w1, Nat.lt_of_lt_of_le (Nat.lt_succ_self w1.heap.size) (Nat.le_of_eq (World.size_alloc w1 _).symm)⟩ ?_
  intro w2 H2
  obtain ⟨b7, hb7⟩ : ∃ b, w1.heap.size = b := ⟨_, rfl⟩
  have hs1 := (H1.out.row 0 rfl).lt
  have hsw := H1.out.size
  have HHB := Keep.keep HB0.out
  rw [hb7] at H2 hs1 hsw ⊢
  generalize cf w1 = c7 at *
  clear hb7 hcv H1 hb1 hb3
  have HRW := Keep.keep (H2.out.1.row 0 rfl)
  have HSZ : Keep ((#[.string ⟨p.toArray⟩, .int .i64 2, .int .u32 0, .int .u32 0, .int .u32 0, .int .i64 0, .slice none 0 0, .slice (some ⟨b7, 0, none⟩) n c7, .string ⟨#[]⟩] : Array Value).size = 9) := ⟨rfl⟩
  have HON : Keep ((#[.string ⟨p.toArray⟩, .int .i64 2, .int .u32 0, .int .u32 0, .int .u32 0, .int .i64 0, .slice none 0 0, .slice (some ⟨b7, 0, none⟩) n c7, .string ⟨#[]⟩] : Array Value).all (·.oneCell') = true) := ⟨by simp [Value.oneCell']⟩
  refine arm_storeRow HRW.out aggM HZ.out HSZ.out HON.out rfl rfl ?_
  simp only [Act.put]
  go_wp2_with fail
  have hch : Chg (fun k => k = b0) w2.heap.size w2 (w2.setRow b0 #[.string ⟨p.toArray⟩, .int .i64 2, .int .u32 0, .int .u32 0, .int .u32 0, .int .i64 0, .slice none 0 0, .slice (some ⟨b7, 0, none⟩) n c7, .string ⟨#[]⟩]) := Chg.setRow (M := fun k => k = b0) (.refl _ _ _) (.inr rfl) _
  refine bodyPost_ret (results_row (p := 4) (ty := 32) rfl (HRW.out.setRow _) aggM HSZ.out rfl) rfl ⟨.slice (some ⟨b7, 0, none⟩) n c7, rfl, ⟨RdV.ofNil, ?_⟩, ?_⟩
  · exact (H2.out.2.1.chg hch (fun b e => by subst e; exact ⟨H2.out.2.2, by omega⟩)).mono (fun b e => by subst e; exact ⟨by have := HB0.out; omega, by have := hch.size; have := H2.out.2.2; omega⟩)
  · exact ((Chg.of_below (M := NoM) H2.out.1.below).setRow (.inl (by have := HB0.out; omega)) _).below (fun _ _ h => h)
theorem file_any (p data : Tx) (n : Nat) (hn : data.length = n) (hd : n ≤ 1000) (w : World) : Calls Tryz.prog 10 #[.string ⟨p.toArray⟩, .string ⟨data.toArray⟩] w fun e w' => ∃ a c, e = .returned (.agg #[.string ⟨p.toArray⟩, .int .i64 2, .int .u32 0, .int .u32 0, .int .u32 0, .int .i64 0, .slice none 0 0, .slice a n c, .string ⟨#[]⟩]) ∧ NdL w' (fileD data) nilV (.slice a n c) ∧ Below w.heap.size w w' := by
  refine (file_any0 p data (by omega) w).mono ?_
  rintro e w' ⟨dv, rfl, hn', hb⟩
  obtain ⟨a, c, he, -⟩ := hn'.dt.shape
  have he : dv = .slice a n c := by rw [he, ← hn]; rfl
  subst he
  exact ⟨a, c, rfl, hn'.mono (fun _ h => h.2), hb⟩
/-- what a row of one's own grows by -/
theorem own_chg {base k n : Nat} {e : TypeId} {w w' : World} {v : Value} {vs : List Value} (h : w.ownsRow base e k v n vs) (hB : base ≤ w.heap.size) (hg : w.grownBy w' v.ownBlock) : Below base w w' :=
  (Chg.grown (M := NoM) (.refl _ _ _) hg hB (fun k e => .inl (ownsV_lt h k e).1)).below (fun _ _ h => h)
set_option maxHeartbeats 1000000 in
set_option maxRecDepth 100000 in
theorem paths_any {w : World} {T : Nat} {L : List Mb} (h : TrL w T L) (hL : L.length ≤ 100000) :
    Calls Tryz.prog 14 #[.pointer (some ⟨T, 0, none⟩)] w fun e w' => ∃ v, e = .returned v ∧ OwnS w' w.heap.size v (L.map (·.1)) ∧ Below w.heap.size w w' := by
  obtain ⟨mb, Bk, f, hti, hBk⟩ := h
  have HA := Keep.keep (all_own T mb Bk f L w hL hti ⟨hti.row.lt, hti.map.lt, hBk⟩)
  clear hti
  go_enter Tryz.func14, Tryz.ntmps14
  go_wp2_with fail
  refine HA.out.mono ?_
  rintro e w1 ⟨v1, l, rfl, hl, ho, hb1⟩
  have HB1 := Keep.keep hb1
  have HM : Keep (MbL w1 v1 l) := ⟨MbL.ofRow (RowM.ofOwn ho NoM)⟩
  obtain ⟨a, cap, hv, hcap, hmx, h3⟩ := HM.out.rd.shape
  have H3 := Keep.keep h3
  unfold maxLen at hmx
  have hll : l.length ≤ 100000 := by rw [← hl, List.length_map] at hL; exact hL
  have HLL : Keep (L = l.map (·.1)) := ⟨hl.symm⟩
  clear ho hb1 HA h3 hl hL
  subst hv
  go_wp2_with fail
  go_loopg [3, 9] l.length (fun g u3 u9 wx => ∃ (k : Nat), k + g = l.length ∧ u9 = .int .i64 (k : Int) ∧ wx.ownsRow w1.heap.size 9 1 u3 k (((l.take k).map (·.1.1)).map strV) ∧ Below w1.heap.size w1 wx)
  case atStart => exact ⟨0, by omega, rfl, World.ownsRow_nil _ _ _ _, Below.refl _ _⟩
  case round =>
    obtain ⟨k, hkg, rfl, hown, hb⟩ := hrel
    have HO := Keep.keep hown; have HB := Keep.keep hb
    obtain ⟨a3, c3, hv3, -⟩ := (ownsV_reads hown).shape
    clear hown hb
    subst hv3
    cases gk with
    | zero =>
      obtain rfl : k = l.length := by omega
      have HF : Keep (L.map (·.1) = (l.take l.length).map (·.1.1)) := ⟨by rw [HLL.out, List.take_length, List.map_map]; rfl⟩
      go_wp2_with fail
      go_ret
      refine ⟨_, rfl, ?_, HB1.out.trans (HB.out.mono HB1.out.size)⟩
      rw [HF.out]
      unfold OwnS
      rw [List.length_map, List.length_take, Nat.min_self]
      exact ownsV_mono HO.out HB1.out.size
    | succ g =>
      have hk : k < l.length := by omega
      obtain ⟨b, off, rfl, hbl⟩ : ∃ b off, a = some ⟨b, off, none⟩ ∧ b < w1.heap.size := by
        rcases H3.out with h | ⟨b, off, h, hb⟩
        · omega
        · exact ⟨b, off, h, hb⟩
      have hrx := Mbs.below (w' := wr) HM.out HB.out (fun b hb => hb) (fun b hb => hb)
      have hld := hrx.load hk
      have HND := Keep.keep (hrx.nd l[k] (List.getElem_mem hk))
      have HTK : Keep (((l.take (k + 1)).map (·.1.1)).map strV = ((l.take k).map (·.1.1)).map strV ++ [strV l[k].1.1]) := ⟨by
        rw [List.take_succ_eq_append_getElem hk, List.map_append, List.map_append]; rfl⟩
      clear hrx
      generalize l[k] = x at *
      obtain ⟨⟨xp, ⟨kind, mode, uid, gid, time, attrs, data, link⟩⟩, av, dv⟩ := x
      obtain ⟨aa, la, ca, ad, ld, cd, e1, e2⟩ := HND.out.shape
      dsimp only at e1 e2 HTK
      subst e1 e2
      have HMC : Keep (mcell ((xp, ⟨kind, mode, uid, gid, time, attrs, data, link⟩), .slice aa la ca, .slice ad ld cd) = #[.string ⟨xp.toArray⟩, .int .i64 kind, .int .u32 mode, .int .u32 uid, .int .u32 gid, .int .i64 time, .slice aa la ca, .slice ad ld cd, .string ⟨link.toArray⟩]) := ⟨rfl⟩
      rw [HMC.out] at hld
      go_upto_region 5 with ((with_reducible refine arm_loadM hld ?_ ?_); (focus rfl); simp only [Act.put, List.setIfInBounds_toArray, List.set_cons_succ, List.set_cons_zero])
      refine wp_world (R := fun wq => Hp NoM wr wq [rowA wr.heap.size 32 #[.string ⟨xp.toArray⟩, .int .i64 kind, .int .u32 mode, .int .u32 uid, .int .u32 gid, .int .i64 time, .slice aa la ca, .slice ad ld cd, .string ⟨link.toArray⟩]]) ((Hp.begin NoM wr).newRow _ _) ?_
      intro w2 H2
      obtain ⟨b5, hb5⟩ : ∃ b5, wr.heap.size = b5 := ⟨_, rfl⟩
      have HB5 := Keep.keep hb5
      have HB2 := Keep.keep H2.out.below
      rw [hb5] at H2 ⊢
      have c50 := (H2.out.row 0 rfl).cell (i := 0) rfl
      clear hld hb5
      go_wp2_with (with_reducible refine arm_stop ?_)
      refine Stopped.out ?_
      have hal : Below w2.heap.size w2 (w2.alloc (.cells #[.string ⟨xp.toArray⟩] 9)) := (Below.refl _ _).alloc (Nat.le_refl _) _
      have hbA : Below wr.heap.size wr (w2.alloc (.cells #[.string ⟨xp.toArray⟩] 9)) := HB2.out.trans (hal.mono HB2.out.size)
      have hoA := ownsRow_loc _ _ (fun b hb => hbA.block b (ownsV_lt HO.out b hb).2) HO.out
      have hws := HB.out.size
      have hwA := hbA.size
      refine arm_appendV slS hoA (RdV.new (N := fun _ => True) 9 [strV xp] 1 1 _ rfl rfl (by unfold maxLen; omega) trivial) (by simp [Value.oneCell', strV]) (by unfold maxLen; omega) (by omega) (by omega) rfl rfl ?_
      intro v4 w4 ho hg hov _
      obtain ⟨a4, c4, hv4, -⟩ := (ownsV_reads ho).shape
      have HO4 : Keep (w4.ownsRow w1.heap.size 9 1 v4 (k + 1) (((l.take (k + 1)).map (·.1.1)).map strV)) := ⟨by rw [HTK.out]; exact ho⟩
      have HB4 : Keep (Below w1.heap.size w1 w4) := ⟨(HB.out.trans (hbA.mono hws)).trans (own_chg hoA (by omega) hg)⟩
      clear ho hg hov hal hbA hoA HB2 H2 c50
      subst hv4
      simp only [Act.put, List.setIfInBounds_toArray, List.set_cons_succ, List.set_cons_zero]
      go_wp2_with fail
      go_roundg g
      case measure => omega
      case rel => exact ⟨k + 1, by omega, by simp, HO4.out, HB4.out⟩
end Go.Proofs.YtplafpokgpolkaaGreatDoor
