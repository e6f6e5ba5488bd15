/- PARTS OF ONE PROOF, set in one file: TreeCopy, TreeSame, SpcTwo, PathWakes, PathKnownL, TreeLaw. Each part tells its own conditions. -/
import Derived.Test.YtphgmkhbhboklaaGreatDoorP4
import Derived.Test.YtphgmkhbhboklaaGreatDoorP5
import Derived.Test.YtphgmkhbhboklaaGreatDoorP6
import Derived.Test.YtphgmkhbhboklaaGreatDoorP8
import Derived.Test.YtphgmkhbhboklaaGreatDoorP10
import Derived.Test.YtphgmkhbhboklaaGreatDoorP11
import Derived.Test.YtphgmkhbhboklaaGreatDoorP12
/- tree.Copy: a tree that lives apart. -/
namespace Go.Proofs.YtphgmkhbhboklaaGreatDoor
open Go.RowKit
/-- what has come, when one more comes -/
theorem came_put {L : List Mb} (h : SM.Srt L) {todo : Tx → Bool} {p : Tx} {n : Nd} (hp : todo p = true) (hl : SM.look L p = some n) : L.filter (fun x => !(todo x.1 && x.1 != p)) = SM.put (L.filter (fun x => !todo x.1)) (p, n) := by
  have hs : SM.Srt (L.filter (fun x => !todo x.1)) := h.filter _
  have h2 : SM.Srt (L.filter (fun x => !(todo x.1 && x.1 != p))) := h.filter _
  refine h2.ext (hs.put _) (fun q => ?_)
  rw [hs.look_put, h.look_filter (fun k => !(todo k && k != p)), h.look_filter (fun k => !todo k)]
  by_cases e : q = p
  · subst e
    simp [hl]
  · simp [e]
def cpT (W : World) (T2 m2 : Nat) (p : Tx) (n : Nd) (av dv : Value) : Nat → Value → World → Prop
  | 0, v, _ => v = .pointer (some ⟨T2, 0, none⟩)
  | 1, v, _ => v = .pointer (some ⟨T2, 0, none⟩)
  | 2, v, _ => v = .pointer (some ⟨T2, 0, none⟩)
  | 3, v, _ => v = .map (some m2)
  | 4, v, _ => v = .string ⟨p.toArray⟩
  | 5, v, _ => v = .agg (ndC n av dv)
  | _, v, w => ∃ av' dv', v = .agg (ndC n av' dv') ∧ NdR w (Fresh W.heap.size w) n av' dv'
theorem cpT_stays {W : World} {T2 m2 : Nat} {p : Tx} {n : Nd} {av dv : Value} (k : Nat) (v : Value) (w w' : World) (h : cpT W T2 m2 p n av dv k v w) (hb : Below w.heap.size w w') : cpT W T2 m2 p n av dv k v w' := by
  unfold cpT at h ⊢
  split at h
  · exact h
  · exact h
  · exact h
  · exact h
  · exact h
  · exact h
  · obtain ⟨a, d, h1, h2⟩ := h
    exact ⟨a, d, h1, (h2.below hb (fun b hb => hb.2)).mono (fun b hb' => hb'.mono (Nat.le_refl _) hb.size)⟩
set_option maxHeartbeats 4000000 in
set_option maxRecDepth 100000 in
theorem copy_tree (T mb : Nat) (Bk : Nat → Prop) (f : Tx → Value × Value) (L : List Mb) (w : World) (h : TreeIn w T mb Bk f L) (hBk : ∀ b, Bk b → b < w.heap.size) (hL : L.length ≤ 100000) :
    Calls Tryz.prog 7 #[.pointer (some ⟨T, 0, none⟩)] w fun e w' => ∃ T2 m2 Bk2 f2, e = .returned (.pointer (some ⟨T2, 0, none⟩)) ∧ TreeIn w' T2 m2 Bk2 f2 L ∧ (w.heap.size ≤ T2 ∧ w.heap.size ≤ m2 ∧ ∀ b, Bk2 b → Fresh w.heap.size w' b) ∧ Below w.heap.size w w' := by
  have HT := Keep.keep h; have HBK := Keep.keep hBk
  have HN := Keep.keep (none_ok T mb w h.row)
  have hmbw := h.map.lt
  have hTw := h.row.lt
  clear h hBk
  go_enter Tryz.func7, Tryz.ntmps7
  go_wp2_with fail
  refine HN.out.mono ?_
  rintro e w' ⟨rfl, rfl⟩
  have hmm := @run_makeMap Tryz.prog
  go_upto_region 4 with fail
  refine wp_world (R := fun w2 => Hp NoM w w2 [trA (w.heap.size + 1) w.heap.size (fun _ => False) (fun _ => (nilV, nilV)) []]) ?_ ?_
  · have h1 := Hp.begin NoM w
    have hb2 : Below w.heap.size w ((w.alloc (Obj.map #[] 0)).alloc (Obj.cells #[Value.map (some w.heap.size)] 65)) := ((Below.refl _ _).alloc (Nat.le_refl _) _).alloc (by simp) _
    have hm1 := MapS.made (k := 9) w
    exact h1.push (trA (w.heap.size + 1) w.heap.size (fun _ => False) (fun _ => (nilV, nilV)) []) (.of_below hb2)
      ⟨Row.new' (by simp) rfl, hm1.loc (Below.heap_alloc _ _ _ hm1.lt), (fun m hm => (List.not_mem_nil hm).elim), (fun m hm => (List.not_mem_nil hm).elim), ⟨by omega, fun h => h, fun h => h⟩⟩
      (fun b hb => by rcases hb with rfl | rfl | h
                      · simp
                      · simp; omega
                      · exact h.elim)
  intro w2 H2
  obtain ⟨m2, hm2⟩ : ∃ m2, w.heap.size = m2 := ⟨_, rfl⟩
  have HM2 := Keep.keep hm2
  obtain ⟨T2, hT2⟩ : ∃ T2, m2 + 1 = T2 := ⟨_, rfl⟩
  have HT2E := Keep.keep hT2
  rw [hm2, hT2] at H2 ⊢
  clear hmm hm2 hT2
  have hT2w : TreeIn w2 T mb Bk f L := HT.out.loc (fun b hb => H2.out.below.block b (by
    rcases hb with rfl | rfl | h
    · exact hTw
    · exact hmbw
    · exact HBK.out b h))
  have cT := hT2w.row.cell (i := 0) rfl
  have HM := Keep.keep hT2w.map
  have HSR := Keep.keep HT.out.srt
  have HSM := Keep.keep HT.out.sm
  have HND := Keep.keep HT.out.nd
  have HEL : Keep ((entries f L).length = L.length) := ⟨by simp [entries]⟩
  have hs2 := H2.out.size
  have hT2lt : T2 < w2.heap.size := by
    have := (H2.out.p _ (List.mem_of_getElem? (i := 0) rfl)).2 T2 (.inl rfl)
    exact this.2
  clear hT2w HN
  go_wp2_with (first | (with_reducible refine arm_sRange ?_) | (with_reducible refine arm_sNext ?_) | (with_reducible refine arm_sDel ?_) | (with_reducible refine arm_sPut ?_) | (with_reducible refine arm_sIns ?_))
  refine StM.out ?_
  refine arm_rangeS Tryz.underlying9 Tryz.underlying63 HM.out rfl ?_
  intro w3 hrg hb3 hs3
  obtain ⟨r, hr⟩ : ∃ r, w2.heap.size = r := ⟨_, rfl⟩
  have HRE : Keep (w.heap.size ≤ r ∧ mb < r ∧ T2 < r ∧ m2 < r) := ⟨by have := HT2E.out; omega⟩
  have H3 := Keep.keep (H2.out.call hb3)
  rw [hr] at hrg ⊢
  have HRG := Keep.keep hrg
  clear hrg hb3 hs3 hr cT HM H2 hs2 hT2lt
  simp only [Act.put, List.setIfInBounds_toArray, List.set_cons_succ, List.set_cons_zero]
  go_wp2_with fail
  go_loopg [4] L.length (fun g _ wx => ∃ (todo : Tx → Bool) (Bk2 : Nat → Prop) (f2 : Tx → Value × Value), RgS wx 9 mb r (entries f L) todo g ∧ Hp NoM w wx [trA T2 m2 Bk2 f2 (L.filter (fun x => !todo x.1))] ∧ ∀ b, Bk2 b → r < b)
  case atStart =>
    refine ⟨_, fun _ => False, fun _ => (nilV, nilV), by rw [← HEL.out]; exact HRG.out, ?_, fun b hb => hb.elim⟩
    have e0 : L.filter (fun x => !(SM.look (entries f L) x.1).isSome) = [] := by
      rw [List.filter_eq_nil_iff]
      intro x hx
      rw [look_entries, HSR.out.look.2 hx]; simp
    rw [e0]
    exact H3.out
  case round =>
    obtain ⟨todo, Bk2, f2, hrg, hH, hbr⟩ := hrel
    have HRG2 := Keep.keep hrg; have HH := Keep.keep hH; have HBR := Keep.keep hbr
    clear hrg hH hbr HRG H3
    go_wp2_with (first | (with_reducible refine arm_sRange ?_) | (with_reducible refine arm_sNext ?_) | (with_reducible refine arm_sDel ?_) | (with_reducible refine arm_sPut ?_) | (with_reducible refine arm_sIns ?_))
    refine StM.out ?_
    refine arm_nextS Tryz.underlying9 HRG2.out rfl ?_ ?_
    · intro h0 hall
      have e0 : L.filter (fun x => !todo x.1) = L := by
        rw [List.filter_eq_self]
        intro x _
        simp [hall]
      rw [e0] at HH
      clear h0 hall e0
      simp only [Act.put, List.setIfInBounds_toArray, List.set_cons_succ, List.set_cons_zero]
      go_wp2_with fail
      go_ret
      refine ⟨T2, m2, Bk2, f2, rfl, HH.out.get 0 rfl, ?_, HH.out.below⟩
      refine ⟨HH.out.new 0 rfl (b := T2) (.inl rfl) |>.1, HH.out.new 0 rfl (b := m2) (.inr (.inl rfl)) |>.1, fun b hb => HH.out.new 0 rfl (b := b) (.inr (.inr hb))⟩
    · intro p v w4 cnt' h1 h2 h3 h4 h5 h6 hen
      obtain ⟨n, hln, hve⟩ : ∃ n, SM.look L p = some n ∧ v = .agg (ndC n (f p).1 (f p).2) := by
        rw [look_entries] at h2
        cases hl : SM.look L p with
        | none => rw [hl] at h2; cases h2
        | some n => rw [hl] at h2; injection h2 with h2; exact ⟨n, rfl, h2.symm⟩
      have hmem := SM.look_mem hln
      have HCP := Keep.keep (came_put HSR.out h1 hln)
      have HNX := Keep.keep (HND.out _ hmem)
      have HSX := Keep.keep (HSM.out _ hmem)
      have HLN : Keep ((L.filter (fun x => !todo x.1)).length ≤ L.length) := ⟨List.length_filter_le _ _⟩
      obtain ⟨aa, la, ca, ad, ld, cd, e1, e2⟩ := HNX.out.shape
      dsimp only at e1 e2 HNX
      rw [e1, e2] at HNX hve
      have HRG4 := Keep.keep h3
      have hne5 : ∀ b, b < wr.heap.size → b ≠ r → w4.heap[b]? = wr.heap[b]? := fun b hb hn => h5.block b hb hn
      have hr4 := HRG2.out.lt.2.1
      have H4 : Keep (Hp NoM w w4 [trA T2 m2 Bk2 f2 (L.filter (fun x => !todo x.1))]) := ⟨by
        refine HH.out.grownBy (row := some r) ⟨h5.os, h5.tape, h5.output, h5.size, fun k hk hm => h5.block k hk (fun e => hm (by rw [e]))⟩ (fun r' e => ?_)
        injection e with e
        subst e
        refine ⟨HRE.out.1, fun A hA => ?_⟩
        obtain rfl := List.mem_singleton.1 hA
        rintro (h | h | h)
        · have := HRE.out.2.2.1; omega
        · have := HRE.out.2.2.2; omega
        · have := HBR.out _ h; omega⟩
      have hs4 := h5.size
      clear h1 h2 h3 h5 h6 e1 e2 HRG2 HH hmem
      subst hve
      have HNC : Keep (ndC n (.slice aa la ca) (.slice ad ld cd) = #[.int .i64 n.kind, .int .u32 n.mode, .int .u32 n.uid, .int .u32 n.gid, .int .i64 n.time, .slice aa la ca, .slice ad ld cd, .string ⟨n.link.toArray⟩]) := ⟨rfl⟩
      rw [HNC.out] at hen ⊢
      simp only [Act.put, List.setIfInBounds_toArray, List.set_cons_succ, List.set_cons_zero]
      go_upto_region 7 with fail
      refine wp_world (R := fun w5 => (Hp NoM w w5 [trA T2 m2 Bk2 f2 (L.filter (fun x => !todo x.1)), rowA w4.heap.size 30 #[.int .i64 n.kind, .int .u32 n.mode, .int .u32 n.uid, .int .u32 n.gid, .int .i64 n.time, .slice aa la ca, .slice ad ld cd, .string ⟨n.link.toArray⟩]]) ∧ RgS w5 9 mb r (entries f L) (fun q => todo q && q != p) cnt') ⟨H4.out.newRow _ _, HRG4.out.loc (Below.heap_alloc _ _ _ HRG4.out.lt.1) (Below.heap_alloc _ _ _ HRG4.out.lt.2.1)⟩ ?_
      intro w5 H5
      obtain ⟨b5, hb5⟩ : ∃ b5, w4.heap.size = b5 := ⟨_, rfl⟩
      rw [hb5] at H5 ⊢
      have hs5 := (H5.out.1.row 1 rfl).lt
      have hrg5 := H5.out.2.lt
      clear hen H4 HRG4
      refine wp_region_spcT 7 [21, 22, 23, 24, 25, 26, 27] (Below w5.heap.size w5) (cpT w5 T2 m2 p n (.slice aa la ca) (.slice ad ld cd)) (fun w w' => Below w.heap.size w w') (by kernel_rfl) rfl (by decide) (by show ∀ d ∈ _, d < 29; decide) (by kernel_rfl) (by decide) (by kernel_rfl) (by kernel_rfl) (by kernel_rfl) (Below.refl _ _).drew (fun i v w w' h _ hb => cpT_stays i v w w' h hb) ?_ ?_
      · intro q hq a1 w6 hF hC hT
        have b3 : a1.eval (.tmp 3) = .pointer (some ⟨T2, 0, none⟩) := (hF.same 3 (by decide)).trans rfl
        have b4 : a1.eval (.tmp 4) = .string ⟨p.toArray⟩ := (hF.same 4 (by decide)).trans rfl
        have b5e : a1.eval (.tmp 5) = .pointer (some ⟨b5, 0, none⟩) := (hF.same 5 (by decide)).trans rfl
        have hkr : Below w6.heap.size w6 w6 := Below.refl _ _
        have HP := H5.out.1.call hC
        have hRC := HP.row 1 rfl
        have hTW := (HP.get 0 rfl).row
        rcases (by omega : q = 0 ∨ q = 1 ∨ q = 2 ∨ q = 3 ∨ q = 4 ∨ q = 5 ∨ q = 6) with rfl | rfl | rfl | rfl | rfl | rfl | rfl
        · exact spcS_val (d := 21) rfl (wanted_none rfl) run_move hC hkr b3
        · have hx : a1.eval (.tmp 21) = .pointer (some ⟨T2, 0, none⟩) := hT 0 (by decide) (by kernel_rfl)
          exact spcS_val (d := 22) rfl (wanted_none rfl) (by simp [execOp, hx]) hC hkr rfl
        · have hx : a1.eval (.tmp 22) = .pointer (some ⟨T2, 0, none⟩) := hT 1 (by decide) (by kernel_rfl)
          exact spcS_val (d := 23) rfl (wanted_none rfl) (run_fieldAddr (m := 0) Tryz.underlying65 rfl (by kernel_rfl) hx) hC hkr rfl
        · have hx : a1.eval (.tmp 23) = .pointer (some ⟨T2, 0, none⟩) := hT 2 (by decide) (by kernel_rfl)
          exact spcS_val (d := 24) rfl (wanted_none rfl) (run_loadCell (run_isAgg_plain Tryz.underlying63 rfl) (hTW.cell (i := 0) rfl) hx) hC hkr rfl
        · exact spcS_val (d := 25) rfl (wanted_none rfl) run_move hC hkr b4
        · have hld := hRC.loadAt (P := Tryz.prog) 30 _ Tryz.underlying30 rfl (by kernel_rfl)
          exact spcS_val (d := 26) rfl (wanted_none rfl) (by unfold execOp; simp only [b5e, Sem.run_bind, Sem.run_pure, Result.andThen_ok, hld]; rfl) hC hkr rfl
        · have hx : a1.eval (.tmp 26) = .agg (ndC n (.slice aa la ca) (.slice ad ld cd)) := hT 5 (by decide) (by kernel_rfl)
          refine spcS_call (d := 27) (vs := #[.agg (ndC n (.slice aa la ca) (.slice ad ld cd))]) rfl (wanted_none rfl) (Go.Proofs.enters_of Tryz.func31 (by kernel_rfl) rfl) (by simp [hx]) ?_
          have hsz6 := HP.size
          refine (clone_node n _ _ w6 ((HNX.out.below HP.below (fun b hb => HBK.out b hb)).mono (fun b hb => by have := HBK.out b hb; omega)) HSX.out.a (Nat.le_trans HSX.out.d (by decide))).mono ?_
          rintro e wz ⟨a', d', rfl, hn', hb⟩
          exact ⟨_, rfl, hC.trans (hb.mono hC.size), hb, a', d', rfl, hn'.mono (fun b hb' => hb'.mono hC.size (Nat.le_refl _))⟩
      · intro a2 w6 ha hC hT
        have t3 : slot a2 24 = .map (some m2) := hT 3 (by decide)
        have t5 : slot a2 25 = .string ⟨p.toArray⟩ := hT 4 (by decide)
        obtain ⟨av', dv', t8, hn'⟩ : ∃ av' dv', slot a2 27 = .agg (ndC n av' dv') ∧ NdR w6 (Fresh w5.heap.size w6) n av' dv' := hT 6 (by decide)
        simp only [List.foldl_cons, List.foldl_nil, t3, t5, t8] at ha
        clear hT t3 t5 t8
        generalize slot a2 21 = y21 at *
        generalize slot a2 22 = y22 at *
        generalize slot a2 23 = y23 at *
        generalize slot a2 26 = y26 at *
        have HN' := Keep.keep hn'
        have H6 := Keep.keep (H5.out.1.call hC)
        have HS6 := Keep.keep hC.size
        have HC6 := Keep.keep hC
        have HRG6 : Keep (RgS w6 9 mb r (entries f L) (fun q => todo q && q != p) cnt') := ⟨H5.out.2.loc (hC.block _ hrg5.1) (hC.block _ hrg5.2.1)⟩
        clear hn' hC
        subst ha
        simp only [List.drop_succ_cons, List.drop_zero]
        simp only [Act.put, List.setIfInBounds_toArray, List.set_cons_succ, List.set_cons_zero]
        have hT6 : TreeIn w6 T2 m2 Bk2 f2 (L.filter (fun x => !todo x.1)) := H6.out.get 0 rfl
        have hbk6 : ∀ b, Bk2 b → b < w5.heap.size := fun b hb => ((H5.out.1.p _ (List.mem_of_getElem? (i := 0) rfl)).2 b (.inr (.inr hb))).2
        have hT6lt : T2 < w5.heap.size ∧ m2 < w5.heap.size := ⟨((H5.out.1.p _ (List.mem_of_getElem? (i := 0) rfl)).2 T2 (.inl rfl)).2, ((H5.out.1.p _ (List.mem_of_getElem? (i := 0) rfl)).2 m2 (.inr (.inl rfl))).2⟩
        have HT6 := Keep.keep hT6; have HBK6 := Keep.keep hbk6; have HLT6 := Keep.keep hT6lt
        have hel : (entries f2 (L.filter (fun x => !todo x.1))).length < maxLen := by
          have := HLN.out
          simp only [entries, List.length_map]
          unfold maxLen; omega
        clear hT6 hbk6 hT6lt
        go_wp2_with (first | (with_reducible refine arm_sRange ?_) | (with_reducible refine arm_sNext ?_) | (with_reducible refine arm_sDel ?_) | (with_reducible refine arm_sPut ?_) | (with_reducible refine arm_sIns ?_))
        refine StM.out ?_
        refine arm_putS Tryz.underlying9 Tryz.underlying63 HT6.out.map (p := p) (by have := HSX.out.p; dsimp only at this; unfold maxLen; omega) hel rfl rfl rfl ?_
        intro w7 hm7 hc7
        have hs6 := HS6.out
        have hs7 := hc7.size
        have hfin := HT6.out.put (Bk' := fun b => Bk2 b ∨ Fresh w5.heap.size w6 b) (fun b hb => by have := HBK6.out b hb; omega) (p, n) av' dv' HSX.out hm7 hc7 (HN'.out.mono (fun b hb => .inr hb)) (fun b hb => .inl hb) (fun b hb => by
          rcases hb with hb | hb
          · have h1 := HBK6.out b hb
            exact ⟨by omega, fun e => HT6.out.ne.2.1 (e ▸ hb), fun e => HT6.out.ne.2.2 (e ▸ hb)⟩
          · have h1 := hb.1
            have h2 := HLT6.out
            exact ⟨hb.2, by omega, by omega⟩)
        rw [← HCP.out] at hfin
        have hch : Chg (fun j => (trA T2 m2 Bk2 f2 (L.filter (fun x => !todo x.1))).blk j) w5.heap.size w5 w7 := ((Chg.of_below (M := fun j => (trA T2 m2 Bk2 f2 (L.filter (fun x => !todo x.1))).blk j) HC6.out)).trans ((hc7.lower HS6.out).mono (Nat.le_refl _) (fun j hj => .inr (.inl hj)))
        have H7 := Keep.keep (H5.out.1.upd 0 rfl (trA T2 m2 (fun b => Bk2 b ∨ Fresh w5.heap.size w6 b) (fun q => if q = p then (av', dv') else f2 q) (L.filter (fun x => !(todo x.1 && x.1 != p)))) hch hfin (fun b hb => by
          rcases hb with h | h | h | h
          · exact .inl (.inl h)
          · exact .inl (.inr (.inl h))
          · exact .inl (.inr (.inr h))
          · exact .inr ⟨h.1, by have := h.2; omega⟩))
        have HRG7 : Keep (RgS w7 9 mb r (entries f L) (fun q => todo q && q != p) cnt') := ⟨HRG6.out.loc (hc7.block _ HRG6.out.lt.1 (by have := HRE.out; have := HM2.out; omega)) (hc7.block _ HRG6.out.lt.2.1 (by have := HRE.out; omega))⟩
        clear hfin hm7 hc7 hch
        simp only [Act.put]
        go_wp2_with fail
        go_roundg cnt'
        case measure => omega
        case rel =>
          refine ⟨_, (fun b => Bk2 b ∨ Fresh w5.heap.size w6 b), (fun q => if q = p then (av', dv') else f2 q), HRG7.out, H7.out.take 1, fun b hb => ?_⟩
          rcases hb with hb | hb
          · exact HBR.out b hb
          · have := hb.1; omega
end Go.Proofs.YtphgmkhbhboklaaGreatDoor
/- tree.Same: two trees are the same. -/
namespace Go.Proofs.YtphgmkhbhboklaaGreatDoor
open Go.RowKit
theorem srt_sub {L K : List Mb} (h : SM.Srt L) (k : SM.Srt K) (hs : ∀ p n, SM.look L p = some n → SM.look K p = some n) (hl : L.length = K.length) : L = K := by
  have e : K.filter (fun x => (SM.look L x.1).isSome) = L := by
    refine SM.Srt.ext (k.filter _) h (fun p => ?_)
    rw [k.look_filter (fun p => (SM.look L p).isSome)]
    cases hp : SM.look L p with
    | none => simp
    | some n => simp [hs p n hp]
  have e2 : K.filter (fun x => (SM.look L x.1).isSome) = K := by
    refine List.filter_eq_self.2 ?_
    refine List.length_filter_eq_length_iff.1 ?_
    rw [e, hl]
  rw [← e, e2]
set_option maxHeartbeats 4000000 in
set_option maxRecDepth 100000 in
theorem same_tree (T mb : Nat) (Bk : Nat → Prop) (f : Tx → Value × Value) (L : List Mb) (T2 m2 : Nat) (Bk2 : Nat → Prop) (f2 : Tx → Value × Value) (L2 : List Mb) (w : World) (h : TreeIn w T mb Bk f L) (hBk : ∀ b, Bk b → b < w.heap.size) (h2 : TreeIn w T2 m2 Bk2 f2 L2) (hBk2 : ∀ b, Bk2 b → b < w.heap.size) (_hL : L.length ≤ 100000) :
    Calls Tryz.prog 10 #[.pointer (some ⟨T, 0, none⟩), .pointer (some ⟨T2, 0, none⟩)] w fun e w' => SaysB (L = L2) e ∧ Below w.heap.size w w' := by
  have HT := Keep.keep h; have HBK := Keep.keep hBk
  have HT2 := Keep.keep h2; have HBK2 := Keep.keep hBk2
  have HN := Keep.keep (none_ok T mb w h.row)
  have HN2 := Keep.keep (none_ok T2 m2 w h2.row)
  have hmbw := h.map.lt
  have hTw := h.row.lt
  have hm2w := h2.map.lt
  have hT2w := h2.row.lt
  have HEQ : Keep (∀ p n, SM.look L p = some n → SM.look L2 p ≠ some n → L ≠ L2) := ⟨fun p n h1 h2 e => h2 (by rw [← e]; exact h1)⟩
  have HLE : Keep (L.length ≠ L2.length → L ≠ L2) := ⟨fun h e => h (by rw [e])⟩
  have HSB : Keep (L.length = L2.length → (∀ p n, SM.look L p = some n → SM.look L2 p = some n) → L = L2) := ⟨fun hl hs => srt_sub h.srt h2.srt hs hl⟩
  clear h hBk h2 hBk2
  obtain ⟨P, hP⟩ : ∃ P : Prop, (L = L2) = P := ⟨_, rfl⟩
  rw [hP] at HSB ⊢
  have HP : Keep (P ↔ L = L2) := ⟨by rw [hP]⟩
  clear hP
  go_enter Tryz.func10, Tryz.ntmps10
  go_wp2_with fail
  refine HN.out.mono ?_
  rintro e w' ⟨rfl, rfl⟩
  go_wp2_with fail
  refine HN2.out.mono ?_
  rintro e w' ⟨rfl, rfl⟩
  have cT := HT.out.row.cell (i := 0) rfl
  have cT2 := HT2.out.row.cell (i := 0) rfl
  have e1 : (entries f L).length = L.length := by simp [entries]
  have e2 : (entries f2 L2).length = L2.length := by simp [entries]
  have hlen := fun n => (HT.out.map.loc (w' := w.drewN n) rfl).len Tryz.underlying63 3
  have hlen2 := fun n => (HT2.out.map.loc (w' := w.drewN n) rfl).len Tryz.underlying63 3
  rw [e1] at hlen
  rw [e2] at hlen2
  have HE1 := Keep.keep e1
  clear e1 e2 HN HN2
  go_upto_region 3 with fail
  (refine wp_region_quiet_lit (by kernel_rfl) (by kernel_rfl) ?_); (repeat (first | (fail) | go_big_quiet_step (fail))); (refine wpQuiet_nil ?_); (intro _ hwq); (obtain ⟨nq, hwq⟩ := hwq); (subst hwq)
  by_cases hl : L.length = L2.length
  · have hne : ((L.length : Int) != (L2.length : Int)) = false := by simp [hl]
    have HL := Keep.keep hl
    simp only [hne]
    clear hl hlen hlen2 cT cT2 hne
    have hb1 := below_drewN' (Below.refl w.heap.size w) nq
    generalize w.drewN nq = w1 at *
    have HB1 := Keep.keep hb1
    have hs1 := hb1.size
    have HTX : Keep (∀ wx, Below w.heap.size w wx → TreeIn wx T mb Bk f L) := ⟨fun wx hb => HT.out.loc (fun b hb' => hb.block b (by
      rcases hb' with rfl | rfl | h
      · exact hTw
      · exact hmbw
      · exact HBK.out b h))⟩
    have HTY : Keep (∀ wx, Below w.heap.size w wx → TreeIn wx T2 m2 Bk2 f2 L2) := ⟨fun wx hb => HT2.out.loc (fun b hb' => hb.block b (by
      rcases hb' with rfl | rfl | h
      · exact hT2w
      · exact hm2w
      · exact HBK2.out b h))⟩
    have cT := (HTX.out w1 hb1).row.cell (i := 0) rfl
    have HM := Keep.keep (HTX.out w1 hb1).map
    clear hb1
    go_wp2_with (first | (with_reducible refine arm_sRange ?_) | (with_reducible refine arm_sNext ?_) | (with_reducible refine arm_sDel ?_) | (with_reducible refine arm_sPut ?_) | (with_reducible refine arm_sIns ?_))
    refine StM.out ?_
    refine arm_rangeS Tryz.underlying9 Tryz.underlying63 HM.out rfl ?_
    intro w3 hrg hb3 hs3
    obtain ⟨r, hr⟩ : ∃ r, w1.heap.size = r := ⟨_, rfl⟩
    have hwr : w.heap.size ≤ r := by omega
    have HB3 := Keep.keep (HB1.out.trans (hb3.mono hs1))
    rw [hr] at hrg ⊢
    rw [HE1.out] at hrg
    have HRG := Keep.keep hrg
    clear hrg hb3 hs3 hr cT HM
    simp only [Act.put, List.setIfInBounds_toArray, List.set_cons_succ, List.set_cons_zero]
    go_wp2_with fail
    go_loopg [5] L.length (fun g _ wx => ∃ (todo : Tx → Bool), RgS wx 9 mb r (entries f L) todo g ∧ (∀ p n, SM.look L p = some n → todo p = false → SM.look L2 p = some n) ∧ Below w.heap.size w wx)
    case atStart =>
      refine ⟨_, HRG.out, fun p n h1 h2 => ?_, HB3.out⟩
      rw [look_entries, h1] at h2
      simp at h2
    case round =>
      obtain ⟨todo, hrg, hok, hb⟩ := hrel
      have HRG2 := Keep.keep hrg; have HOK := Keep.keep hok; have HB := Keep.keep hb
      clear hrg hok hb HRG HB3
      go_wp2_with (first | (with_reducible refine arm_sRange ?_) | (with_reducible refine arm_sNext ?_) | (with_reducible refine arm_sDel ?_) | (with_reducible refine arm_sPut ?_) | (with_reducible refine arm_sIns ?_))
      refine StM.out ?_
      refine arm_nextS Tryz.underlying9 HRG2.out rfl ?_ ?_
      · intro h0 hall
        have HF : Keep P := ⟨HP.out.2 (by
          have := HSB.out HL.out (fun p n h => HOK.out p n h (hall p))
          exact HP.out.1 this)⟩
        clear h0 hall
        simp only [Act.put, List.setIfInBounds_toArray, List.set_cons_succ, List.set_cons_zero]
        go_wp2_with fail
        go_ret
        exact ⟨⟨true, rfl, ⟨fun _ => HF.out, fun _ => rfl⟩⟩, HB.out⟩
      · intro p v w4 cnt' h1 h2 h3 h4 h5 h6 hen
        obtain ⟨n, hln, hve⟩ : ∃ n, SM.look L p = some n ∧ v = .agg (ndC n (f p).1 (f p).2) := by
          rw [look_entries] at h2
          cases hl : SM.look L p with
          | none => rw [hl] at h2; cases h2
          | some n => rw [hl] at h2; injection h2 with h2; exact ⟨n, rfl, h2.symm⟩
        have HB4 : Keep (Below w.heap.size w w4) := ⟨HB.out.trans ((h5.lower HB.out.size).below (fun k hk e => by omega))⟩
        have hmem := SM.look_mem hln
        have HNX := Keep.keep ((HTX.out w4 HB4.out).nd _ hmem)
        have HSX := Keep.keep (HT.out.sm _ hmem)
        obtain ⟨aa, la, ca, ad, ld, cd, e1, e2⟩ := HNX.out.shape
        dsimp only at e1 e2 HNX
        rw [e1, e2] at HNX hve
        have HRG4 := Keep.keep h3
        have HLN := Keep.keep hln
        have HSH := Keep.keep (And.intro e1 e2)
        have HTD := Keep.keep h1
        clear h1 h2 h3 h5 h6 e1 e2 HRG2 hmem
        subst hve
        have hlt4 := HRG4.out.lt
        have HNC : Keep (ndC n (.slice aa la ca) (.slice ad ld cd) = #[.int .i64 n.kind, .int .u32 n.mode, .int .u32 n.uid, .int .u32 n.gid, .int .i64 n.time, .slice aa la ca, .slice ad ld cd, .string ⟨n.link.toArray⟩]) := ⟨rfl⟩
        rw [HNC.out] at hen ⊢
        simp only [Act.put, List.setIfInBounds_toArray, List.set_cons_succ, List.set_cons_zero]
        go_upto_region 8 with fail
        refine wp_world (R := fun w5 => Below w.heap.size w w5 ∧ RgS w5 9 mb r (entries f L) (fun q => todo q && q != p) cnt' ∧ Row w5 w4.heap.size 30 #[.int .i64 n.kind, .int .u32 n.mode, .int .u32 n.uid, .int .u32 n.gid, .int .i64 n.time, .slice aa la ca, .slice ad ld cd, .string ⟨n.link.toArray⟩]) ⟨HB4.out.alloc HB4.out.size _, HRG4.out.loc (Below.heap_alloc _ _ _ hlt4.1) (Below.heap_alloc _ _ _ hlt4.2.1), Row.new _ _ _⟩ ?_
        intro w5 H5
        obtain ⟨b6, hb6⟩ : ∃ b6, w4.heap.size = b6 := ⟨_, rfl⟩
        rw [hb6] at H5 ⊢
        have hT5 := HTY.out w5 H5.out.1
        have c2 := hT5.row.cell (i := 0) rfl
        have hlk := hT5.map.lookOk Tryz.underlying9 Tryz.underlying63 (zeroN w5) (p := p) (by have := HSX.out.p; dsimp only at this; unfold maxLen; omega)
        have HND2 := Keep.keep hT5.nd
        have hb6lt := H5.out.2.2.lt
        rw [look_entries] at hlk
        clear hen HRG4 HB4 HNX hT5
        cases hl2 : SM.look L2 p with
        | none =>
          have HNE := Keep.keep (HEQ.out p n HLN.out (by rw [hl2]; simp))
          rw [hl2] at hlk
          replace hlk : (Instr.lookup 63 (.map (some m2)) (.string ⟨p.toArray⟩) true).run Tryz.prog w5 = .ok (.tuple #[.agg #[.int .i64 0, .int .u32 0, .int .u32 0, .int .u32 0, .int .i64 0, .slice none 0 0, .slice none 0 0, .string ⟨#[]⟩], .bool false]) w5 := hlk
          clear hl2
          go_wp2_with fail
          go_ret
          exact ⟨⟨false, rfl, ⟨fun h => (by cases h), fun h => (HNE.out (HP.out.1 h)).elim⟩⟩, H5.out.1.alloc H5.out.1.size _⟩
        | some m =>
          have hnm := HND2.out _ (SM.look_mem hl2)
          obtain ⟨ba, lb, cb, bd, le, ce, e1, e2⟩ := hnm.shape
          dsimp only at e1 e2 hnm
          rw [hl2] at hlk
          replace hlk : (Instr.lookup 63 (.map (some m2)) (.string ⟨p.toArray⟩) true).run Tryz.prog w5 = .ok (.tuple #[.agg (ndC m (f2 p).1 (f2 p).2), .bool true]) w5 := hlk
          rw [e1, e2] at hnm hlk
          replace hlk : (Instr.lookup 63 (.map (some m2)) (.string ⟨p.toArray⟩) true).run Tryz.prog w5 = .ok (.tuple #[.agg #[.int .i64 m.kind, .int .u32 m.mode, .int .u32 m.uid, .int .u32 m.gid, .int .i64 m.time, .slice ba lb cb, .slice bd le ce, .string ⟨m.link.toArray⟩], .bool true]) w5 := hlk
          have HNM := Keep.keep hnm
          have HL2 := Keep.keep hl2
          have HS2 := Keep.keep (And.intro e1 e2)
          clear hl2 hnm e1 e2
          go_upto_region 9 with fail
          refine wp_world (R := fun w9 => Below w5.heap.size w5 w9 ∧ Row w9 w5.heap.size 30 #[.int .i64 m.kind, .int .u32 m.mode, .int .u32 m.uid, .int .u32 m.gid, .int .i64 m.time, .slice ba lb cb, .slice bd le ce, .string ⟨m.link.toArray⟩]) ⟨(Below.refl _ _).alloc (Nat.le_refl _) _, Row.new _ _ _⟩ ?_
          intro w9 H9
          obtain ⟨b7, hb7⟩ : ∃ b7, w5.heap.size = b7 := ⟨_, rfl⟩
          rw [hb7] at H9 ⊢
          have HR6 := Keep.keep (H5.out.2.2.below (hb7 ▸ H9.out.1) hb6lt)
          have HR7 := Keep.keep H9.out.2
          have HS6 : Keep ((#[.int .i64 n.kind, .int .u32 n.mode, .int .u32 n.uid, .int .u32 n.gid, .int .i64 n.time, .slice aa la ca, .slice ad ld cd, .string ⟨n.link.toArray⟩] : Array Value).size = 8) := ⟨rfl⟩
          have HS7 : Keep ((#[.int .i64 m.kind, .int .u32 m.mode, .int .u32 m.uid, .int .u32 m.gid, .int .i64 m.time, .slice ba lb cb, .slice bd le ce, .string ⟨m.link.toArray⟩] : Array Value).size = 8) := ⟨rfl⟩
          have HB9 := Keep.keep (H5.out.1.trans ((show Below w5.heap.size w5 w9 from hb7 ▸ H9.out.1).mono H5.out.1.size))
          have hw9 := HB9.out.size
          have hbm1 : ∀ w, (Instr.build 32 #[(0, .string ⟨p.toArray⟩), (1, .agg #[.int .i64 n.kind, .int .u32 n.mode, .int .u32 n.uid, .int .u32 n.gid, .int .i64 n.time, .slice aa la ca, .slice ad ld cd, .string ⟨n.link.toArray⟩])]).run Tryz.prog w = .ok (.agg (mbC (p, n) (.slice aa la ca) (.slice ad ld cd))) w := fun w => by kernel_rfl
          have hbm2 : ∀ w, (Instr.build 32 #[(0, .string ⟨p.toArray⟩), (1, .agg #[.int .i64 m.kind, .int .u32 m.mode, .int .u32 m.uid, .int .u32 m.gid, .int .i64 m.time, .slice ba lb cb, .slice bd le ce, .string ⟨m.link.toArray⟩])]).run Tryz.prog w = .ok (.agg (mbC (p, m) (.slice ba lb cb) (.slice bd le ce))) w := fun w => by kernel_rfl
          have HTS := Keep.keep (same_tar (p, n) (p, m) (.slice aa la ca) (.slice ad ld cd) (.slice ba lb cb) (.slice bd le ce) w9 (by
            have h1 := (HTX.out w9 HB9.out).nd _ (SM.look_mem HLN.out)
            dsimp only at h1
            rw [HSH.out.1, HSH.out.2] at h1
            exact h1.mono (fun b hb => by have := HBK.out b hb; omega)) (by
            have h1 := (HTY.out w9 HB9.out).nd _ (SM.look_mem HL2.out)
            dsimp only at h1
            rw [HS2.out.1, HS2.out.2] at h1
            exact h1.mono (fun b hb => by have := HBK2.out b hb; omega)))
          clear hlk c2
          go_wp2_with (first
            | ((with_reducible refine arm_loadRowG ?_ HR6.out aggN HS6.out ?_ ?_); (focus rfl); (focus rfl); simp only [Act.put, List.setIfInBounds_toArray, List.set_cons_succ, List.set_cons_zero])
            | ((with_reducible refine arm_loadRowG ?_ HR7.out aggN HS7.out ?_ ?_); (focus rfl); (focus rfl); simp only [Act.put, List.setIfInBounds_toArray, List.set_cons_succ, List.set_cons_zero]))
          refine HTS.out.mono ?_
          rintro e w10 ⟨⟨rb, rfl, hrb⟩, hb10⟩
          have HB10 := Keep.keep (HB9.out.trans (hb10.mono hw9))
          have hrg5 := H5.out.2.1.lt
          have HRG10 : Keep (RgS w10 9 mb r (entries f L) (fun q => todo q && q != p) cnt') := ⟨H5.out.2.1.loc (by rw [hb10.block mb (by have := HB9.out.size; omega), H9.out.1.block mb (by omega)]) (by rw [hb10.block r (by have := (hb7 ▸ H9.out.1 : Below w5.heap.size w5 w9).size; omega), H9.out.1.block r (by omega)])⟩
          cases rb with
          | true =>
            have hmn : n = m := by
              have := hrb.1 rfl
              injection this
            have HMN := Keep.keep hmn
            clear hmn hrb hb10
            go_wp2_with fail
            go_roundg cnt'
            case measure => omega
            case rel =>
              refine ⟨_, HRG10.out, fun p' n' h1 h2 => ?_, HB10.out⟩
              by_cases e : p' = p
              · rw [e] at h1 ⊢
                rw [HLN.out] at h1
                rw [HL2.out, ← HMN.out]; exact h1
              · exact HOK.out p' n' h1 (by simpa [e] using h2)
          | false =>
            have HNE := Keep.keep (HEQ.out p n HLN.out (by
              rw [HL2.out]
              intro e
              injection e with e
              have := hrb.2 (by rw [e])
              cases this))
            clear hrb hb10
            go_wp2_with fail
            go_ret
            exact ⟨⟨false, rfl, ⟨fun h => (by cases h), fun h => (HNE.out (HP.out.1 h)).elim⟩⟩, HB10.out⟩
  · have hne : ((L.length : Int) == (L2.length : Int)) = false := by simp; omega
    have HL := Keep.keep hl
    clear hl hlen hlen2
    go_wp2_with fail
    go_ret
    exact ⟨⟨false, rfl, ⟨fun h => (by cases h), fun h => (HLE.out HL.out (HP.out.1 h)).elim⟩⟩, below_drewN' (Below.refl _ _) _⟩
end Go.Proofs.YtphgmkhbhboklaaGreatDoor
/- A REGION THAT DRAWS ITS ORDER, TWO OF WHOSE CALLS CHANGE THE MEMORY, the second behind the first: one fact an operation, and what is known of the memory by how many of the two are done. -/
namespace Go.Proofs.YtphgmkhbhboklaaGreatDoor
open Go.RowKit
theorem run_loadRowG {P : Program} {ρ : Operand → Value} {d : Option Tmp} {x : Operand} {ty t e : TypeId} {n : Nat} {pos : String} {af : Array Edge} {g : Option (Nat × Bool)} {w : World} {b : Nat} {c : Array Value}
    (hrow : Row w b e c) (hA : AggTy P ty n) (hs : c.size = n) (hx : ρ x = .pointer (some ⟨b, 0, none⟩)) :
    (execOp ρ (⟨d, .load ty x, t, pos, af, g⟩ : Oper)).run P w = .ok (.value (.agg c)) w := by
  obtain ⟨de, hu, hd⟩ := hA.u
  have hl := hrow.loadAt (P := P) ty de hu hd (by rw [hs]; exact hA.i)
  unfold execOp
  simp only [hx, Sem.run_bind, Sem.run_pure, Result.andThen_ok, hl]
theorem wp_region_two {P : Program} {ops : Array Oper} {id : Nat} {Q : Exit → Act → World → Prop} {a : Act} {w : World} (D : List Nat) (T : Nat → Value → Prop) (M : Bool → Bool → World → Prop) (c1 c2 : Nat) (hne : c1 ≠ c2) (hm : P.follows .mixedOrders = true)
    (hD : ops.toList.map (·.dst) = D.map some) (hnd : D.Nodup) (hds : ∀ d ∈ D, d < a.tmps.size) (hB : inOrderB ops = true) (hw : Region.waitsFor .any ops c2 c1 = true) (h1l : c1 < ops.size) (h2l : c2 < ops.size) (h0 : M false false w.drew)
    (hs : ∀ i, i < ops.size → i ≠ c1 → i ≠ c2 → ∀ a1 w1 b1 b2, Fr a D a1 → M b1 b2 w1 → (∀ j, Region.waitsFor .any ops i j = true → T j (slot a1 (D.getD j 0))) →
      wpOp P ops Q i (fun a2 w2 => ∃ v, a2 = a1.put (some (D.getD i 0)) v ∧ M b1 b2 w2 ∧ True ∧ T i v) a1 w1)
    (h1 : ∀ a1 w1, Fr a D a1 → M false false w1 → (∀ j, Region.waitsFor .any ops c1 j = true → T j (slot a1 (D.getD j 0))) →
      wpOp P ops Q c1 (fun a2 w2 => ∃ v, a2 = a1.put (some (D.getD c1 0)) v ∧ M true false w2 ∧ True ∧ T c1 v) a1 w1)
    (h2 : ∀ a1 w1, Fr a D a1 → M true false w1 → (∀ j, Region.waitsFor .any ops c2 j = true → T j (slot a1 (D.getD j 0))) →
      wpOp P ops Q c2 (fun a2 w2 => ∃ v, a2 = a1.put (some (D.getD c2 0)) v ∧ M true true w2 ∧ True ∧ T c2 v) a1 w1)
    (he : ∀ a1 w1, a1 = D.foldl (fun b d => b.put (some d) (slot a1 d)) a → M true true w1 → (∀ j, j < ops.size → T j (slot a1 (D.getD j 0))) → Q .normal a1 w1) : (Code.region id ops true).wp P Q a w := by
  have hlen : D.length = ops.size := by have := congrArg List.length hD; simpa using this.symm
  have hmem : ∀ i, i < ops.size → D.getD i 0 ∈ D := fun i hi => by
    rw [List.getD_eq_getElem?_getD, List.getElem?_eq_getElem (by omega)]
    exact List.getElem_mem _
  have hinj : ∀ i j, i < ops.size → j < ops.size → D.getD i 0 = D.getD j 0 → i = j := fun i j hi hj h => by
    rw [List.getD_eq_getElem?_getD, List.getD_eq_getElem?_getD, List.getElem?_eq_getElem (by omega), List.getElem?_eq_getElem (by omega)] at h
    exact (List.getElem_inj hnd).1 h
  refine wp_region_fr D (fun done s w1 => M (done.getD c1 false) (done.getD c2 false) w1 ∧ ∀ j, j < ops.size → done.getD j false = true → T j (s (D.getD j 0))) hm ⟨?_, fun j hj hd => ?_⟩ ?_ ?_
  · have e : ∀ c, (Array.replicate ops.size false).getD c false = false := fun c => by
      rcases Nat.lt_or_ge c ops.size with h | h <;> simp [Array.getD_eq_getD_getElem?, h]
    rw [e, e]; exact h0
  · simp [Array.getD_eq_getD_getElem?, hj] at hd
  · intro done a1 w1 hF hI hz hcl i hi
    have hlt := ready_lt hi
    have hrdy : ∀ j, Region.waitsFor .any ops i j = true → done.getD j false = true := fun j hj => by
      obtain ⟨e, he1, he2, he3⟩ := waits_of (Array.getElem?_eq_getElem hlt) hj
      have hdn := (ready_at hi (Array.getElem?_eq_getElem hlt)).2 e he1 he2
      rw [he3] at hdn
      exact hdn
    have hlts : ∀ j, done.getD j false = true → j < ops.size := fun j hdn => by
      rcases Nat.lt_or_ge j done.size with h | h
      · omega
      · simp [Array.getD_eq_getD_getElem?, Array.getElem?_eq_none h] at hdn
    have hT : ∀ j, Region.waitsFor .any ops i j = true → T j (slot a1 (D.getD j 0)) := fun j hj => hI.2 j (hlts j (hrdy j hj)) (hrdy j hj)
    have hu : done.getD i true = false := (ready_at hi (Array.getElem?_eq_getElem hlt)).1
    have hu' : done.getD i false = false := by
      rcases Nat.lt_or_ge i done.size with h | h
      · rw [Array.getD_eq_getD_getElem?, Array.getElem?_eq_getElem h] at hu ⊢; exact hu
      · omega
    have hset : ∀ q, q ≠ i → (done.setIfInBounds i true).getD q false = done.getD q false := fun q hq => by
      simp [Array.getD_eq_getD_getElem?, Array.getElem?_setIfInBounds_ne (Ne.symm hq)]
    have hself : (done.setIfInBounds i true).getD i false = true := by
      have : i < done.size := by omega
      simp [Array.getD_eq_getD_getElem?, this]
    have fin : ∀ b1 b2, (done.setIfInBounds i true).getD c1 false = b1 → (done.setIfInBounds i true).getD c2 false = b2 → ∀ a2 w2, (∃ v, a2 = a1.put (some (D.getD i 0)) v ∧ M b1 b2 w2 ∧ True ∧ T i v) →
        Fr a D a2 ∧ M ((done.setIfInBounds i true).getD c1 false) ((done.setIfInBounds i true).getD c2 false) w2 ∧ ∀ j, j < ops.size → (done.setIfInBounds i true).getD j false = true → T j (slot a2 (D.getD j 0)) := by
      rintro b1 b2 e1 e2 a2 w2 ⟨v, rfl, hM, -, hTv⟩
      refine ⟨hF.put _ (hmem i hlt) v, by rw [e1, e2]; exact hM, fun j hj hd => ?_⟩
      by_cases e : i = j
      · subst e
        rw [slot_put_same _ _ _ (by rw [hF.size]; exact hds _ (hmem i hlt))]
        exact hTv
      · have hd' := (getD_set_iff hd).resolve_left e
        rw [slot_put_ne _ _ _ _ (fun e2 => e (hinj i j hlt hj e2))]
        exact hI.2 j hj hd'
    by_cases ec1 : i = c1
    · subst ec1
      have hc2 : done.getD c2 false = false := by
        cases hc : done.getD c2 false with
        | false => rfl
        | true =>
          obtain ⟨e, g1, g2, g3⟩ := waits_of (Array.getElem?_eq_getElem h2l) hw
          have := hcl c2 _ (Array.getElem?_eq_getElem h2l) hc e g1 g2
          rw [g3, hu'] at this; cases this
      have hM := hI.1
      rw [hu', hc2] at hM
      exact wpOp_mono (fin true false hself (by rw [hset _ (Ne.symm hne)]; exact hc2)) (h1 a1 w1 hF hM hT)
    · by_cases ec2 : i = c2
      · subst ec2
        have hc1 : done.getD c1 false = true := hrdy c1 hw
        have hM := hI.1
        rw [hu', hc1] at hM
        exact wpOp_mono (fin true true (by rw [hset _ hne]; exact hc1) hself) (h2 a1 w1 hF hM hT)
      · exact wpOp_mono (fin _ _ (hset c1 (Ne.symm ec1)) (hset c2 (Ne.symm ec2))) (hs i hlt ec1 ec2 a1 w1 _ _ hF hI.1 hT)
  · intro done a1 w1 ha hI hz hr
    have hall := all_done hB hz hr
    have hM := hI.1
    rw [hall c1 h1l, hall c2 h2l] at hM
    exact he a1 w1 ha hM (fun j hj => hI.2 j hj (hall j hj))
end Go.Proofs.YtphgmkhbhboklaaGreatDoor
/- portolanlaw11.wakes. -/
namespace Go.Proofs.YtphgmkhbhboklaaGreatDoor
open Go.RowKit
theorem wk_cl0 : cleanP [46, 47, 97, 47, 47, 98, 47, 46, 47, 99, 47] = ([97, 47, 98, 47, 99], 0) := by decide +kernel
theorem wk_cl1 : cleanP [47, 97] = ([], 30) := by decide +kernel
theorem wk_cl2 : cleanP [97, 47, 46, 46, 47, 98] = ([], 30) := by decide +kernel
theorem wk_cl3 : cleanP [46] = ([], 0) := by decide +kernel
theorem wk_cs0 : classP [97, 47, 46, 119, 104, 46, 98] = (2, [97, 47, 98]) := by decide +kernel
theorem wk_cs1 : classP [46, 119, 104, 46, 46, 119, 104, 46, 46, 111, 112, 113] = (3, []) := by decide +kernel
theorem wk_cs2 : classP [97, 47, 46, 119, 104, 46, 46, 120] = (2, [97, 47, 46, 120]) := by decide +kernel
theorem wk_cs3 : classP [46, 119, 104, 46, 46, 119, 104, 46, 120] = (0, []) := by decide +kernel
theorem wk_cs4 : classP [97, 47, 46, 119, 104, 46, 46, 119, 104, 46, 116, 111, 99] = (0, []) := by decide +kernel
theorem wk_ab : aboveP [97, 47, 98, 47, 99] = [[97], [97, 47, 98]] := by decide +kernel
end Go.Proofs.YtphgmkhbhboklaaGreatDoor
/- PathKnown: closed facts about long texts (kernel). -/
namespace Go.Proofs.YtphgmkhbhboklaaGreatDoor
def longT : List UInt8 := List.replicate 251 110
def deepT : List UInt8 := (List.replicate 253 [100, 47]).flatten ++ [100]
def wideT : List UInt8 := (List.replicate 16 (List.replicate 249 119 ++ [47])).flatten ++ List.replicate 80 119
theorem kn_c1 : classP ([97, 47, 46, 119, 104, 46] ++ longT) = (2, [97, 47] ++ longT) := by decide +kernel
theorem kn_c2 : (classP ([97, 47, 46, 119, 104, 46] ++ longT ++ [110])).1 = 0 := by decide +kernel
theorem kn_c3 : (classP [47, 46, 119, 104, 46, 46, 119, 104, 46, 46, 111, 112, 113]).1 = 0 := by decide +kernel
theorem kn_c4 : (classP []).1 = 0 := by decide +kernel
theorem kn_c5 : classP tableB = (4, []) := by decide +kernel
theorem kn_c6 : (classP [46, 119, 104, 46, 120, 47, 121]).1 = 0 := by decide +kernel
theorem kn_l1 : (cleanP (List.replicate 256 120)).2 = 3 := by decide +kernel
theorem kn_l2 : (cleanP [97, 0]).2 = 30 := by decide +kernel
theorem kn_l3 : (cleanP (List.replicate 256 [97, 47]).flatten).2 = 3 := by decide +kernel
theorem kn_l4 : (cleanP (List.replicate 255 [97, 47]).flatten).2 = 0 ∧ (cleanP (List.replicate 255 [97, 47]).flatten).1.length = 509 := by decide +kernel
theorem kn_l5 : cleanP [] = ([], 0) := by decide +kernel
theorem kn_m1 : mayP [] = true := by decide +kernel
theorem kn_m2 : mayP deepT = true := by decide +kernel
theorem kn_m3 : mayP (deepT ++ [47, 100]) = false := by decide +kernel
theorem kn_m4 : wideT.length = 4080 := by decide +kernel
theorem kn_m5 : mayP wideT = true := by decide +kernel
theorem kn_m6 : mayP (wideT ++ [119]) = false := by decide +kernel
theorem kn_m7 : mayP [97, 47, 47, 98] = false := by decide +kernel
theorem kn_m8 : mayP [97, 47] = false := by decide +kernel
theorem kn_j1 : joinP [[], [97], [], [98]] = [97, 47, 98] := by decide +kernel
theorem kn_p1 : parentP [97] = [] ∧ baseP [97, 47] = [] ∧ whiteoutP [] = [] ∧ opaqueP [] = markB := by decide +kernel
theorem kn_n : mayN longT = true ∧ mayN (longT ++ [110]) = false ∧ mayN [255] = true ∧ mayN [32] = true ∧ mayN [46, 119, 104, 46, 120] = false := by decide +kernel
end Go.Proofs.YtphgmkhbhboklaaGreatDoor
/- TREES, plainly: what stays so under calls; whose parent, what is under. -/
namespace Go.Proofs.YtphgmkhbhboklaaGreatDoor
theorem class_one {p : Tx} (h : (classP p).1 = 1) : mayP p = true ∧ p ≠ [] := by
  have h0 : p ≠ [] := by
    rintro rfl
    rw [kn_c4] at h; cases h
  by_cases ht : (p == tableB) = true
  · have : p = tableB := by simpa using ht
    subst this
    rw [kn_c5] at h; cases h
  · obtain ⟨init, base, _, hb, hc⟩ := split_parts h0
    rw [class_ref h0 (by simpa using ht) hb hc] at h
    unfold refC at h
    split at h
    · unfold refF at h
      split at h
      · cases h
      · rename_i hn
        unfold refT at h hn
        split at h
        · rename_i hm
          rw [if_pos hm] at hn
          exact ⟨by simpa using hn, h0⟩
        · split at h
          · cases h
          · split at h <;> cases h
    · cases h
theorem parent_lt {q : Tx} (h0 : q ≠ []) : (parentP q).length < q.length := by
  rcases path_cases q with ⟨_, _, hp, _⟩ | ⟨e, b, rfl, _, _, _, hp⟩
  · rw [hp]; exact List.length_pos_iff.2 h0
  · rw [hp]; simp
theorem under_len {d q : Tx} (h : underP d q = true) : d.length < q.length := by
  unfold underP at h
  by_cases hd : d = []
  · subst hd
    simp at h
    exact List.length_pos_iff.2 h
  · simp [hd] at h
    have := h.2.length_le
    simp at this; omega
theorem under_rec {q d : Tx} (hq : mayP q = true) (h0 : q ≠ []) : underP d q = (parentP q == d || underP d (parentP q)) := by
  rcases path_cases q with ⟨_, _, hp, hns⟩ | ⟨e, b, rfl, hb, _, _, hp⟩
  · rw [hp]
    by_cases hd : d = []
    · subst hd; rw [under_nil]; simp [h0]
    · have h1 : underP d q = false := by
        rw [Bool.eq_false_iff]; intro h
        unfold underP at h
        simp [hd] at h
        obtain ⟨r, hr⟩ := h.2
        exact hns 47 (by rw [← hr]; simp) rfl
      have h2 : underP d [] = false := rfl
      rw [h1, h2]
      simpa using hd
  · rw [hp]
    have he : e ≠ [] := may_dir hb hq
    by_cases hd : d = []
    · subst hd; rw [under_nil, under_nil]; simp [he]
    · have key : (d ++ [47] <+: e ++ 47 :: b) ↔ e = d ∨ d ++ [47] <+: e := by
        constructor
        · rintro ⟨r, hr⟩
          have hr : d ++ (47 :: r) = e ++ 47 :: b := by simpa using hr
          rcases List.append_eq_append_iff.1 hr with ⟨a, h1, h2⟩ | ⟨a, h1, h2⟩
          · cases a with
            | nil => exact .inl (by simpa using h1)
            | cons x t =>
              simp at h2
              obtain ⟨rfl, _⟩ := h2
              exact .inr ⟨t, by rw [h1]; simp⟩
          · cases a with
            | nil => exact .inl (by simpa using h1.symm)
            | cons x t =>
              simp at h2
              exact (hb 47 (by rw [h2.2]; simp) rfl).elim
        · rintro (rfl | ⟨r, hr⟩)
          · exact ⟨b, by simp⟩
          · exact ⟨r ++ 47 :: b, by rw [← hr]; simp⟩
      unfold underP
      rw [Bool.eq_iff_iff]
      simp [hd, he, key]
theorem under_parent {q : Tx} (hq : mayP q = true) (h0 : q ≠ []) : underP (parentP q) q = true := by rw [under_rec hq h0]; simp
theorem path_join {q : Tx} (hq : mayP q = true) (h0 : q ≠ []) : q = if parentP q = [] then baseP q else parentP q ++ 47 :: baseP q := by
  rcases path_cases q with ⟨_, hb, hp, _⟩ | ⟨e, b, rfl, hb, _, hb2, hp⟩
  · rw [hp, hb, if_pos rfl]
  · rw [hp, hb2, if_neg (may_dir hb hq)]
/-- WHAT STAYS SO of a tree -/
structure WellL (L : List Mb) : Prop where
  s : SM.Srt L
  m : ∀ x ∈ L, mayM x = true
  p : ∀ x ∈ L, dirT L (parentP x.1) = true
theorem mayM_path {x : Mb} (h : mayM x = true) : mayP x.1 = true ∧ x.1 ≠ [] := by
  unfold mayM at h
  simp only [Bool.and_eq_true, decide_eq_true_eq] at h
  exact class_one h.1
theorem WellL.path {L : List Mb} (h : WellL L) {x : Mb} (hx : x ∈ L) : mayP x.1 = true ∧ x.1 ≠ [] := mayM_path (h.m x hx)
theorem dirT_of {L : List Mb} {p : Tx} {n : Nd} (h : SM.look L p = some n) (hk : n.kind = 1) : dirT L p = true := by unfold dirT; rw [h]; simp [hk]
theorem dirT_iff {L : List Mb} {p : Tx} : dirT L p = true ↔ p = [] ∨ ∃ n, SM.look L p = some n ∧ n.kind = 1 := by
  unfold dirT
  cases h : SM.look L p with
  | none => simp
  | some n => simp
theorem WellL.nil : WellL [] := ⟨SM.Srt.nil, fun _ h => (List.not_mem_nil h).elim, fun _ h => (List.not_mem_nil h).elim⟩
theorem look_clear {L : List Mb} (h : SM.Srt L) (p q : Tx) : SM.look (clearT L p) q = if underP p q = true then none else SM.look L q := by
  unfold clearT
  rw [h.look_filter (fun k => !underP p k)]
  cases underP p q <;> simp
theorem put_well {L : List Mb} (h : WellL L) (m : Mb) : WellL (putT L m).2 := by
  unfold putT
  split
  · exact h
  · rename_i hm
    split
    · exact h
    · rename_i hd
      split
      · exact h
      · have hm : mayM m = true := by simpa using hm
        have hd : dirT L (parentP m.1) = true := by simpa using hd
        obtain ⟨hmp, hm0⟩ := mayM_path hm
        have hpl := parent_lt hm0
        by_cases hk : m.2.kind = 1
        · rw [if_pos hk]
          refine ⟨h.s.put m, fun x hx => ?_, fun x hx => ?_⟩
          · rcases SM.mem_put.1 hx with rfl | ⟨hx, _⟩
            · exact hm
            · exact h.m x hx
          · have key : ∀ q, dirT L q = true → dirT (SM.put L m) q = true := by
              intro q hq
              rcases dirT_iff.1 hq with rfl | ⟨n, hn, hnk⟩
              · rfl
              · rw [dirT_iff, h.s.look_put]
                split
                · exact .inr ⟨_, rfl, hk⟩
                · exact .inr ⟨n, hn, hnk⟩
            rcases SM.mem_put.1 hx with rfl | ⟨hx, _⟩
            · exact key _ hd
            · exact key _ (h.p x hx)
        · rw [if_neg hk]
          have hs : SM.Srt (clearT L m.1) := h.s.filter _
          have key : ∀ q, dirT L q = true → underP m.1 q = false → q ≠ m.1 → dirT (SM.put (clearT L m.1) m) q = true := by
            intro q hq hu hne
            rcases dirT_iff.1 hq with rfl | ⟨n, hn, hnk⟩
            · rfl
            · rw [dirT_iff, hs.look_put, if_neg hne, look_clear h.s, if_neg (by rw [hu]; decide)]
              exact .inr ⟨n, hn, hnk⟩
          refine ⟨hs.put m, fun x hx => ?_, fun x hx => ?_⟩
          · rcases SM.mem_put.1 hx with rfl | ⟨hx, _⟩
            · exact hm
            · exact h.m x (List.mem_filter.1 hx).1
          · rcases SM.mem_put.1 hx with rfl | ⟨hx, hne⟩
            · refine key _ hd ?_ (fun e => by rw [e] at hpl; omega)
              rw [Bool.eq_false_iff]; intro hu
              have := under_len hu; omega
            · obtain ⟨hx, hu⟩ := List.mem_filter.1 hx
              obtain ⟨hxp, hx0⟩ := h.path hx
              have hu : underP m.1 x.1 = false := by simpa using hu
              rw [under_rec hxp hx0] at hu
              simp only [Bool.or_eq_false_iff] at hu
              exact key _ (h.p x hx) hu.2 (by simpa using hu.1)
theorem remove_well {L : List Mb} (h : WellL L) (p : Tx) : WellL (removeT L p).2 := by
  unfold removeT
  split
  · exact h
  · rename_i n hn
    have hs : SM.Srt (clearT L p) := h.s.filter _
    have key : ∀ q, dirT L q = true → underP p q = false → q ≠ p → dirT ((clearT L p).filter (fun m => m.1 != p)) q = true := by
      intro q hq hu hne
      rcases dirT_iff.1 hq with rfl | ⟨n, hn, hnk⟩
      · rfl
      · rw [dirT_iff, hs.look_filter (fun k => k != p), if_pos (by simpa using hne), look_clear h.s, if_neg (by rw [hu]; decide)]
        exact .inr ⟨n, hn, hnk⟩
    refine ⟨hs.filter _, fun x hx => h.m x (List.mem_filter.1 (List.mem_filter.1 hx).1).1, fun x hx => ?_⟩
    obtain ⟨hx, hne⟩ := List.mem_filter.1 hx
    obtain ⟨hx, hu⟩ := List.mem_filter.1 hx
    obtain ⟨hxp, hx0⟩ := h.path hx
    have hu : underP p x.1 = false := by simpa using hu
    rw [under_rec hxp hx0] at hu
    simp only [Bool.or_eq_false_iff] at hu
    exact key _ (h.p x hx) hu.2 (by simpa using hu.1)
theorem step_well {L : List Mb} (h : WellL L) (a : Bool × Mb) : WellL (stepT L a) := by
  unfold stepT
  split
  · exact put_well h _
  · exact remove_well h _
theorem fold_well (l : List (Bool × Mb)) : ∀ L, WellL L → WellL (l.foldl stepT L) := by
  induction l with
  | nil => intro L h; exact h
  | cons a l ih => intro L h; exact ih _ (step_well h a)
theorem grown_well (l : List (Bool × Mb)) : WellL (grownL l) := fold_well _ _ WellL.nil
theorem step_len {L : List Mb} (h : WellL L) (a : Bool × Mb) : (stepT L a).length ≤ L.length + 1 := by
  unfold stepT
  split
  · exact put_len h.s _
  · exact Nat.le_succ_of_le (remove_len L _)
theorem fold_lenT (l : List (Bool × Mb)) : ∀ L, WellL L → (l.foldl stepT L).length ≤ L.length + l.length := by
  induction l with
  | nil => intro L _; simp
  | cons a l ih =>
    intro L h
    have h1 := ih _ (step_well h a)
    have h2 := step_len h a
    rw [List.foldl_cons, List.length_cons]; omega
theorem grown_len (l : List (Bool × Mb)) : (grownL l).length ≤ 40 := by
  have := fold_lenT (l.take 40) [] WellL.nil
  have h2 := List.length_take_le 40 l
  unfold grownL
  simp at this ⊢; omega
/-- A DIR'S LIST -/
def kids (d : Tx) (L : List Mb) : List Mb := L.filter (fun x => parentP x.1 == d)
theorem mem_kids {d : Tx} {L : List Mb} {x : Mb} : x ∈ kids d L ↔ x ∈ L ∧ parentP x.1 = d := by unfold kids; simp
theorem kids_join {L : List Mb} (h : WellL L) {d : Tx} {x : Mb} (hx : x ∈ kids d L) : x.1 = if d = [] then baseP x.1 else d ++ 47 :: baseP x.1 := by
  obtain ⟨h1, rfl⟩ := mem_kids.1 hx
  obtain ⟨hp, h0⟩ := h.path h1
  exact path_join hp h0
theorem app_lt : ∀ (a x y : Tx), (a ++ x < a ++ y) ↔ x < y
  | [], x, y => Iff.rfl
  | c :: a, x, y => by rw [List.cons_append, List.cons_append, List.cons_lt_cons_iff, ← app_lt a x y]; simp
theorem names_rise {L : List Mb} (h : WellL L) (d : Tx) : ((kids d L).map fun x => baseP x.1).Pairwise (· < ·) := by
  rw [List.pairwise_map]
  have hs : SM.Srt (kids d L) := h.s.filter _
  refine List.Pairwise.imp_of_mem ?_ hs
  intro a b ha hb hab
  rw [kids_join h ha, kids_join h hb] at hab
  by_cases hd : d = []
  · rw [if_pos hd, if_pos hd] at hab; exact hab
  · rw [if_neg hd, if_neg hd] at hab
    exact (app_lt [47] _ _).1 ((app_lt d _ _).1 hab)
theorem names_sorted {L : List Mb} (h : WellL L) (d : Tx) : (namesT d L).mergeSort (fun x y => decide (x ≤ y)) = (kids d L).map fun x => baseP x.1 := by
  refine List.mergeSort_of_pairwise ?_
  refine List.Pairwise.imp ?_ (names_rise h d)
  intro a b hab
  exact decide_eq_true (List.le_of_lt hab)
/-- how many of L a path has under it, it too -/
def manyU (L : List Mb) (p : Tx) : Nat := (underL p L).length
theorem kids_one {L : List Mb} (h : WellL L) {q : Mb} (hq : q ∈ L) : (kids (parentP q.1) L).countP (fun c => c.1 == q.1) = 1 := by
  rw [List.countP_eq_length_filter]
  have hs : SM.Srt (kids (parentP q.1) L) := h.s.filter _
  have hl : SM.look (kids (parentP q.1) L) q.1 = some q.2 := hs.look.2 (mem_kids.2 ⟨hq, rfl⟩)
  rw [hs.mid, hl]; rfl
theorem kids_hit {L : List Mb} (h : WellL L) (d : Tx) : ∀ (n : Nat) (q : Mb), q.1.length = n → q ∈ L → (kids d L).countP (fun c => hitU c.1 q) = if underP d q.1 = true then 1 else 0 := by
  intro n
  induction n using Nat.strongRecOn with
  | ind n ih =>
    intro q hn hq
    obtain ⟨hqp, hq0⟩ := h.path hq
    have hlt := parent_lt hq0
    by_cases hd : parentP q.1 = d
    · rw [under_rec hqp hq0, if_pos (by simp [hd])]
      rw [← kids_one h hq, hd]
      refine List.countP_congr (fun c hc => ?_)
      obtain ⟨hcL, hcd⟩ := mem_kids.1 hc
      obtain ⟨hcp, hc0⟩ := h.path hcL
      have hcl := parent_lt hc0
      rw [hcd] at hcl
      have hu : underP c.1 q.1 = false := by
        rw [under_rec hqp hq0, hd]
        simp only [Bool.or_eq_false_iff]
        refine ⟨by simpa using fun e : d = c.1 => by rw [e] at hcl; omega, ?_⟩
        rw [Bool.eq_false_iff]; intro hu
        have := under_len hu; omega
      unfold hitU
      rw [hu, Bool.or_false]
      simp only [beq_iff_eq]
      exact ⟨fun e => e.symm, fun e => e.symm⟩
    · have hstep : ∀ c ∈ kids d L, hitU c.1 q = (parentP q.1 == c.1 || underP c.1 (parentP q.1)) := by
        intro c hc
        obtain ⟨hcL, hcd⟩ := mem_kids.1 hc
        have : q.1 ≠ c.1 := fun e => hd (by rw [e]; exact hcd)
        unfold hitU
        rw [under_rec hqp hq0]
        simp [this]
      rw [List.countP_congr (q := fun c => (parentP q.1 == c.1 || underP c.1 (parentP q.1))) (fun c hc => by rw [hstep c hc])]
      rcases dirT_iff.1 (h.p q hq) with hr | ⟨nd, hl, _⟩
      · rw [hr]
        have h1 : underP d q.1 = false := by
          rw [under_rec hqp hq0, hr]
          simp only [Bool.or_eq_false_iff]
          exact ⟨by simpa using fun e : [] = d => hd (by rw [hr]; exact e), rfl⟩
        rw [h1, if_neg (by decide), List.countP_eq_zero]
        intro c hc
        obtain ⟨hcL, hcd⟩ := mem_kids.1 hc
        obtain ⟨_, hc0⟩ := h.path hcL
        have : underP c.1 [] = false := rfl
        rw [this]
        simpa using fun e : [] = c.1 => hc0 e.symm
      · have hm := SM.look_mem hl
        have := ih (parentP q.1).length (by omega) (parentP q.1, nd) rfl hm
        unfold hitU at this
        rw [this, under_rec hqp hq0]
        have : (parentP q.1 == d) = false := by simpa using hd
        rw [this, Bool.false_or]
theorem sum_countP {α β : Type} (f : α → β → Bool) (K : List α) : ∀ L : List β, (K.map fun c => (L.countP fun q => f c q)).sum = (L.map fun q => (K.countP fun c => f c q)).sum := by
  induction K with
  | nil =>
    intro L
    induction L with
    | nil => rfl
    | cons q L ih => simpa using ih
  | cons c K ih =>
    intro L
    rw [List.map_cons, List.sum_cons, ih]
    induction L with
    | nil => rfl
    | cons q L ihL => simp only [List.countP_cons, List.map_cons, List.sum_cons] at ihL ⊢; omega
theorem sum_ite {β : Type} (p : β → Bool) : ∀ L : List β, (L.map fun q => if p q = true then 1 else 0).sum = L.countP p
  | [] => rfl
  | q :: L => by
    rw [List.map_cons, List.sum_cons, sum_ite p L, List.countP_cons]; omega
theorem countP_or {β : Type} (a b : β → Bool) (hab : ∀ q, a q = true → b q = false) : ∀ L : List β, L.countP (fun q => a q || b q) = L.countP a + L.countP b
  | [] => rfl
  | q :: L => by
    have := hab q
    rw [List.countP_cons, List.countP_cons, List.countP_cons, countP_or a b hab L]
    cases h1 : a q <;> cases h2 : b q <;> simp_all <;> omega
/-- what is under a path, without it, is what is under all that its list tells -/
theorem many_kids {L : List Mb} (h : WellL L) (d : Tx) : ((kids d L).map fun c => manyU L c.1).sum = L.countP (fun q => underP d q.1) := by
  unfold manyU underL
  have e1 : ((kids d L).map fun c => (L.filter (hitU c.1)).length) = (kids d L).map fun c => (L.countP fun q => hitU c.1 q) := by
    refine List.map_congr_left (fun c _ => ?_)
    rw [List.countP_eq_length_filter]
  rw [e1, sum_countP (fun (c : Mb) (q : Mb) => hitU c.1 q)]
  have e2 : (L.map fun q => (kids d L).countP fun c => hitU c.1 q) = L.map fun q => if underP d q.1 = true then 1 else 0 := List.map_congr_left (fun q hq => kids_hit h d _ q rfl hq)
  rw [e2]
  exact sum_ite (fun q : Mb => underP d q.1) L
theorem many_root {L : List Mb} (h : WellL L) : manyU L [] = ((kids [] L).map fun c => manyU L c.1).sum := by
  rw [many_kids h, List.countP_eq_length_filter]
  unfold manyU underL
  congr 1
  refine List.filter_congr (fun q hq => ?_)
  unfold hitU
  rw [under_nil]
  have := (h.path hq).2
  simp [this]
theorem many_dir {L : List Mb} (h : WellL L) {x : Mb} (hx : x ∈ L) : manyU L x.1 = ((kids x.1 L).map fun c => manyU L c.1).sum + 1 := by
  rw [many_kids h]
  unfold manyU underL
  rw [← List.countP_eq_length_filter]
  have h1 : L.countP (fun q => q.1 == x.1) = 1 := by
    rw [List.countP_eq_length_filter]
    have hl : SM.look L x.1 = some x.2 := h.s.look.2 hx
    rw [h.s.mid, hl]; rfl
  have h2 := countP_or (fun q : Mb => q.1 == x.1) (fun q => underP x.1 q.1) (fun q hq => by
    have hq : q.1 = x.1 := by simpa using hq
    simp only [hq]
    exact under_self x.1) L
  unfold hitU
  rw [h2, h1]; omega
/-- nothing is under what is no Dir -/
theorem many_leaf {L : List Mb} (h : WellL L) {x : Mb} (hx : x ∈ L) (hk : x.2.kind ≠ 1) : manyU L x.1 = 1 := by
  rw [many_dir h hx]
  have : kids x.1 L = [] := by
    unfold kids
    rw [List.filter_eq_nil_iff]
    intro c hc
    have h0 := (h.path hx).2
    intro e
    have e : parentP c.1 = x.1 := by simpa using e
    have hd := h.p c hc
    rw [e, dirT_iff] at hd
    rcases hd with hd | ⟨n, hn, hnk⟩
    · exact h0 hd
    · rw [h.s.look.2 hx] at hn
      injection hn with hn
      rw [hn] at hk
      exact hk hnk
  rw [this]; rfl
end Go.Proofs.YtphgmkhbhboklaaGreatDoor
