/- PARTS OF ONE PROOF, set in one file: TreeCopy, AttrEq, SpcF, Conv, Bytes, NodeSame, TreeSame, RefSame, Alike, AlikeO. Each part tells its own conditions. -/
import Derived.Shelf.Bytes.SlEqualAll
import Derived.Lib.SlBytesConst
import Derived.Lib.SmallJoins
import Derived.Test.YtphgmkhbhboklaaGreatDoorP1
import Derived.Test.YtphgmkhbhboklaaGreatDoorP2
import Derived.Test.YtphgmkhbhboklaaGreatDoorP4
import Derived.Test.YtphgmkhbhboklaaGreatDoorP5
import Derived.Test.YtphgmkhbhboklaaGreatDoorP6
import Derived.Test.YtphgmkhbhboklaaGreatDoorP7
import Derived.Test.YtphgmkhbhboklaaGreatDoorP9
/- tree.Copy: a tree that lives apart. -/
namespace Go.Proofs.YtphgmkhbhboklaaGreatDoor
open Go.RowKit
/-- what has come, when one more comes -/
theorem came_put {L : List Mb} (h : SM.Srt L) {todo : Tx → Bool} {p : Tx} {n : Nd} (hp : todo p = true) (hl : SM.look L p = some n) : L.filter (fun x => !(todo x.1 && x.1 != p)) = SM.put (L.filter (fun x => !todo x.1)) (p, n) := by
  have hs : SM.Srt (L.filter (fun x => !todo x.1)) := h.filter _
  have h2 : SM.Srt (L.filter (fun x => !(todo x.1 && x.1 != p))) := h.filter _
  refine h2.ext (hs.put _) (fun q => ?_)
  rw [hs.look_put, h.look_filter (fun k => !(todo k && k != p)), h.look_filter (fun k => !todo k)]
  by_cases e : q = p
  · subst e
    simp [hl]
  · simp [e]
def cpT (W : World) (T2 m2 : Nat) (p : Tx) (n : Nd) (av dv : Value) : Nat → Value → World → Prop
  | 0, v, _ => v = .pointer (some ⟨T2, 0, none⟩)
  | 1, v, _ => v = .pointer (some ⟨T2, 0, none⟩)
  | 2, v, _ => v = .pointer (some ⟨T2, 0, none⟩)
  | 3, v, _ => v = .map (some m2)
  | 4, v, _ => v = .string ⟨p.toArray⟩
  | 5, v, _ => v = .agg (ndC n av dv)
  | _, v, w => ∃ av' dv', v = .agg (ndC n av' dv') ∧ NdR w (Fresh W.heap.size w) n av' dv'
theorem cpT_stays {W : World} {T2 m2 : Nat} {p : Tx} {n : Nd} {av dv : Value} (k : Nat) (v : Value) (w w' : World) (h : cpT W T2 m2 p n av dv k v w) (hb : Below w.heap.size w w') : cpT W T2 m2 p n av dv k v w' := by
  unfold cpT at h ⊢
  split at h
  · exact h
  · exact h
  · exact h
  · exact h
  · exact h
  · exact h
  · obtain ⟨a, d, h1, h2⟩ := h
    exact ⟨a, d, h1, (h2.below hb (fun b hb => hb.2)).mono (fun b hb' => hb'.mono (Nat.le_refl _) hb.size)⟩
set_option maxHeartbeats 4000000 in
set_option maxRecDepth 100000 in
theorem copy_tree (T mb : Nat) (Bk : Nat → Prop) (f : Tx → Value × Value) (L : List Mb) (w : World) (h : TreeIn w T mb Bk f L) (hBk : ∀ b, Bk b → b < w.heap.size) (hL : L.length ≤ 100000) :
    Calls Tryz.prog 7 #[.pointer (some ⟨T, 0, none⟩)] w fun e w' => ∃ T2 m2 Bk2 f2, e = .returned (.pointer (some ⟨T2, 0, none⟩)) ∧ TreeIn w' T2 m2 Bk2 f2 L ∧ (w.heap.size ≤ T2 ∧ w.heap.size ≤ m2 ∧ ∀ b, Bk2 b → Fresh w.heap.size w' b) ∧ Below w.heap.size w w' := by
  have HT := Keep.keep h; have HBK := Keep.keep hBk
  have HN := Keep.keep (none_ok T mb w h.row)
  have hmbw := h.map.lt
  have hTw := h.row.lt
  clear h hBk
  go_enter Tryz.func7, Tryz.ntmps7
  go_wp2_with fail
  refine HN.out.mono ?_
  rintro e w' ⟨rfl, rfl⟩
  have hmm := @run_makeMap Tryz.prog
  go_upto_region 4 with fail
  refine wp_world (R := fun w2 => Hp NoM w w2 [trA (w.heap.size + 1) w.heap.size (fun _ => False) (fun _ => (nilV, nilV)) []]) ?_ ?_
  · have h1 := Hp.begin NoM w
    have hb2 : Below w.heap.size w ((w.alloc (Obj.map #[] 0)).alloc (Obj.cells #[Value.map (some w.heap.size)] 65)) := ((Below.refl _ _).alloc (Nat.le_refl _) _).alloc (by simp) _
    have hm1 := MapS.made (k := 9) w
    exact h1.push (trA (w.heap.size + 1) w.heap.size (fun _ => False) (fun _ => (nilV, nilV)) []) (.of_below hb2)
      ⟨Row.new' (by simp) rfl, hm1.loc (Below.heap_alloc _ _ _ hm1.lt), (fun m hm => (List.not_mem_nil hm).elim), (fun m hm => (List.not_mem_nil hm).elim), ⟨by omega, fun h => h, fun h => h⟩⟩
      (fun b hb => by rcases hb with rfl | rfl | h
                      · simp
                      · simp; omega
                      · exact h.elim)
  intro w2 H2
  obtain ⟨m2, hm2⟩ : ∃ m2, w.heap.size = m2 := ⟨_, rfl⟩
  have HM2 := Keep.keep hm2
  obtain ⟨T2, hT2⟩ : ∃ T2, m2 + 1 = T2 := ⟨_, rfl⟩
  have HT2E := Keep.keep hT2
  rw [hm2, hT2] at H2 ⊢
  clear hmm hm2 hT2
  have hT2w : TreeIn w2 T mb Bk f L := HT.out.loc (fun b hb => H2.out.below.block b (by
    rcases hb with rfl | rfl | h
    · exact hTw
    · exact hmbw
    · exact HBK.out b h))
  have cT := hT2w.row.cell (i := 0) rfl
  have HM := Keep.keep hT2w.map
  have HSR := Keep.keep HT.out.srt
  have HSM := Keep.keep HT.out.sm
  have HND := Keep.keep HT.out.nd
  have HEL : Keep ((entries f L).length = L.length) := ⟨by simp [entries]⟩
  have hs2 := H2.out.size
  have hT2lt : T2 < w2.heap.size := by
    have := (H2.out.p _ (List.mem_of_getElem? (i := 0) rfl)).2 T2 (.inl rfl)
    exact this.2
  clear hT2w HN
  go_wp2_with (first | (with_reducible refine arm_sRange ?_) | (with_reducible refine arm_sNext ?_) | (with_reducible refine arm_sDel ?_) | (with_reducible refine arm_sPut ?_) | (with_reducible refine arm_sIns ?_))
  refine StM.out ?_
  refine arm_rangeS Tryz.underlying9 Tryz.underlying63 HM.out rfl ?_
  intro w3 hrg hb3 hs3
  obtain ⟨r, hr⟩ : ∃ r, w2.heap.size = r := ⟨_, rfl⟩
  have HRE : Keep (w.heap.size ≤ r ∧ mb < r ∧ T2 < r ∧ m2 < r) := ⟨by have := HT2E.out; omega⟩
  have H3 := Keep.keep (H2.out.call hb3)
  rw [hr] at hrg ⊢
  have HRG := Keep.keep hrg
  clear hrg hb3 hs3 hr cT HM H2 hs2 hT2lt
  simp only [Act.put, List.setIfInBounds_toArray, List.set_cons_succ, List.set_cons_zero]
  go_wp2_with fail
  go_loopg [4] L.length (fun g _ wx => ∃ (todo : Tx → Bool) (Bk2 : Nat → Prop) (f2 : Tx → Value × Value), RgS wx 9 mb r (entries f L) todo g ∧ Hp NoM w wx [trA T2 m2 Bk2 f2 (L.filter (fun x => !todo x.1))] ∧ ∀ b, Bk2 b → r < b)
  case atStart =>
    refine ⟨_, fun _ => False, fun _ => (nilV, nilV), by rw [← HEL.out]; exact HRG.out, ?_, fun b hb => hb.elim⟩
    have e0 : L.filter (fun x => !(SM.look (entries f L) x.1).isSome) = [] := by
      rw [List.filter_eq_nil_iff]
      intro x hx
      rw [look_entries, HSR.out.look.2 hx]; simp
    rw [e0]
    exact H3.out
  case round =>
    obtain ⟨todo, Bk2, f2, hrg, hH, hbr⟩ := hrel
    have HRG2 := Keep.keep hrg; have HH := Keep.keep hH; have HBR := Keep.keep hbr
    clear hrg hH hbr HRG H3
    go_wp2_with (first | (with_reducible refine arm_sRange ?_) | (with_reducible refine arm_sNext ?_) | (with_reducible refine arm_sDel ?_) | (with_reducible refine arm_sPut ?_) | (with_reducible refine arm_sIns ?_))
    refine StM.out ?_
    refine arm_nextS Tryz.underlying9 HRG2.out rfl ?_ ?_
    · intro h0 hall
      have e0 : L.filter (fun x => !todo x.1) = L := by
        rw [List.filter_eq_self]
        intro x _
        simp [hall]
      rw [e0] at HH
      clear h0 hall e0
      simp only [Act.put, List.setIfInBounds_toArray, List.set_cons_succ, List.set_cons_zero]
      go_wp2_with fail
      go_ret
      refine ⟨T2, m2, Bk2, f2, rfl, HH.out.get 0 rfl, ?_, HH.out.below⟩
      refine ⟨HH.out.new 0 rfl (b := T2) (.inl rfl) |>.1, HH.out.new 0 rfl (b := m2) (.inr (.inl rfl)) |>.1, fun b hb => HH.out.new 0 rfl (b := b) (.inr (.inr hb))⟩
    · intro p v w4 cnt' h1 h2 h3 h4 h5 h6 hen
      obtain ⟨n, hln, hve⟩ : ∃ n, SM.look L p = some n ∧ v = .agg (ndC n (f p).1 (f p).2) := by
        rw [look_entries] at h2
        cases hl : SM.look L p with
        | none => rw [hl] at h2; cases h2
        | some n => rw [hl] at h2; injection h2 with h2; exact ⟨n, rfl, h2.symm⟩
      have hmem := SM.look_mem hln
      have HCP := Keep.keep (came_put HSR.out h1 hln)
      have HNX := Keep.keep (HND.out _ hmem)
      have HSX := Keep.keep (HSM.out _ hmem)
      have HLN : Keep ((L.filter (fun x => !todo x.1)).length ≤ L.length) := ⟨List.length_filter_le _ _⟩
      obtain ⟨aa, la, ca, ad, ld, cd, e1, e2⟩ := HNX.out.shape
      dsimp only at e1 e2 HNX
      rw [e1, e2] at HNX hve
      have HRG4 := Keep.keep h3
      have hne5 : ∀ b, b < wr.heap.size → b ≠ r → w4.heap[b]? = wr.heap[b]? := fun b hb hn => h5.block b hb hn
      have hr4 := HRG2.out.lt.2.1
      have H4 : Keep (Hp NoM w w4 [trA T2 m2 Bk2 f2 (L.filter (fun x => !todo x.1))]) := ⟨by
        refine HH.out.grownBy (row := some r) ⟨h5.os, h5.tape, h5.output, h5.size, fun k hk hm => h5.block k hk (fun e => hm (by rw [e]))⟩ (fun r' e => ?_)
        injection e with e
        subst e
        refine ⟨HRE.out.1, fun A hA => ?_⟩
        obtain rfl := List.mem_singleton.1 hA
        rintro (h | h | h)
        · have := HRE.out.2.2.1; omega
        · have := HRE.out.2.2.2; omega
        · have := HBR.out _ h; omega⟩
      have hs4 := h5.size
      clear h1 h2 h3 h5 h6 e1 e2 HRG2 HH hmem
      subst hve
      have HNC : Keep (ndC n (.slice aa la ca) (.slice ad ld cd) = #[.int .i64 n.kind, .int .u32 n.mode, .int .u32 n.uid, .int .u32 n.gid, .int .i64 n.time, .slice aa la ca, .slice ad ld cd, .string ⟨n.link.toArray⟩]) := ⟨rfl⟩
      rw [HNC.out] at hen ⊢
      simp only [Act.put, List.setIfInBounds_toArray, List.set_cons_succ, List.set_cons_zero]
      go_upto_region 7 with fail
      refine wp_world (R := fun w5 => (Hp NoM w w5 [trA T2 m2 Bk2 f2 (L.filter (fun x => !todo x.1)), rowA w4.heap.size 30 #[.int .i64 n.kind, .int .u32 n.mode, .int .u32 n.uid, .int .u32 n.gid, .int .i64 n.time, .slice aa la ca, .slice ad ld cd, .string ⟨n.link.toArray⟩]]) ∧ RgS w5 9 mb r (entries f L) (fun q => todo q && q != p) cnt') ⟨H4.out.newRow _ _, HRG4.out.loc (Below.heap_alloc _ _ _ HRG4.out.lt.1) (Below.heap_alloc _ _ _ HRG4.out.lt.2.1)⟩ ?_
      intro w5 H5
      obtain ⟨b5, hb5⟩ : ∃ b5, w4.heap.size = b5 := ⟨_, rfl⟩
      rw [hb5] at H5 ⊢
      have hs5 := (H5.out.1.row 1 rfl).lt
      have hrg5 := H5.out.2.lt
      clear hen H4 HRG4
      refine wp_region_spcT 7 [21, 22, 23, 24, 25, 26, 27] (Below w5.heap.size w5) (cpT w5 T2 m2 p n (.slice aa la ca) (.slice ad ld cd)) (fun w w' => Below w.heap.size w w') (by kernel_rfl) rfl (by decide) (by show ∀ d ∈ _, d < 29; decide) (by kernel_rfl) (by decide) (by kernel_rfl) (by kernel_rfl) (by kernel_rfl) (Below.refl _ _).drew (fun i v w w' h _ hb => cpT_stays i v w w' h hb) ?_ ?_
      · intro q hq a1 w6 hF hC hT
        have b3 : a1.eval (.tmp 3) = .pointer (some ⟨T2, 0, none⟩) := (hF.same 3 (by decide)).trans rfl
        have b4 : a1.eval (.tmp 4) = .string ⟨p.toArray⟩ := (hF.same 4 (by decide)).trans rfl
        have b5e : a1.eval (.tmp 5) = .pointer (some ⟨b5, 0, none⟩) := (hF.same 5 (by decide)).trans rfl
        have hkr : Below w6.heap.size w6 w6 := Below.refl _ _
        have HP := H5.out.1.call hC
        have hRC := HP.row 1 rfl
        have hTW := (HP.get 0 rfl).row
        rcases (by omega : q = 0 ∨ q = 1 ∨ q = 2 ∨ q = 3 ∨ q = 4 ∨ q = 5 ∨ q = 6) with rfl | rfl | rfl | rfl | rfl | rfl | rfl
        · exact spcS_val (d := 21) rfl (wanted_none rfl) run_move hC hkr b3
        · have hx : a1.eval (.tmp 21) = .pointer (some ⟨T2, 0, none⟩) := hT 0 (by decide) (by kernel_rfl)
          exact spcS_val (d := 22) rfl (wanted_none rfl) (by simp [execOp, hx]) hC hkr rfl
        · have hx : a1.eval (.tmp 22) = .pointer (some ⟨T2, 0, none⟩) := hT 1 (by decide) (by kernel_rfl)
          exact spcS_val (d := 23) rfl (wanted_none rfl) (run_fieldAddr (m := 0) Tryz.underlying65 rfl (by kernel_rfl) hx) hC hkr rfl
        · have hx : a1.eval (.tmp 23) = .pointer (some ⟨T2, 0, none⟩) := hT 2 (by decide) (by kernel_rfl)
          exact spcS_val (d := 24) rfl (wanted_none rfl) (run_loadCell (run_isAgg_plain Tryz.underlying63 rfl) (hTW.cell (i := 0) rfl) hx) hC hkr rfl
        · exact spcS_val (d := 25) rfl (wanted_none rfl) run_move hC hkr b4
        · have hld := hRC.loadAt (P := Tryz.prog) 30 _ Tryz.underlying30 rfl (by kernel_rfl)
          exact spcS_val (d := 26) rfl (wanted_none rfl) (by unfold execOp; simp only [b5e, Sem.run_bind, Sem.run_pure, Result.andThen_ok, hld]; rfl) hC hkr rfl
        · have hx : a1.eval (.tmp 26) = .agg (ndC n (.slice aa la ca) (.slice ad ld cd)) := hT 5 (by decide) (by kernel_rfl)
          refine spcS_call (d := 27) (vs := #[.agg (ndC n (.slice aa la ca) (.slice ad ld cd))]) rfl (wanted_none rfl) (Go.Proofs.enters_of Tryz.func31 (by kernel_rfl) rfl) (by simp [hx]) ?_
          have hsz6 := HP.size
          refine (clone_node n _ _ w6 ((HNX.out.below HP.below (fun b hb => HBK.out b hb)).mono (fun b hb => by have := HBK.out b hb; omega)) HSX.out.a (Nat.le_trans HSX.out.d (by decide))).mono ?_
          rintro e wz ⟨a', d', rfl, hn', hb⟩
          exact ⟨_, rfl, hC.trans (hb.mono hC.size), hb, a', d', rfl, hn'.mono (fun b hb' => hb'.mono hC.size (Nat.le_refl _))⟩
      · intro a2 w6 ha hC hT
        have t3 : slot a2 24 = .map (some m2) := hT 3 (by decide)
        have t5 : slot a2 25 = .string ⟨p.toArray⟩ := hT 4 (by decide)
        obtain ⟨av', dv', t8, hn'⟩ : ∃ av' dv', slot a2 27 = .agg (ndC n av' dv') ∧ NdR w6 (Fresh w5.heap.size w6) n av' dv' := hT 6 (by decide)
        simp only [List.foldl_cons, List.foldl_nil, t3, t5, t8] at ha
        clear hT t3 t5 t8
        generalize slot a2 21 = y21 at *
        generalize slot a2 22 = y22 at *
        generalize slot a2 23 = y23 at *
        generalize slot a2 26 = y26 at *
        have HN' := Keep.keep hn'
        have H6 := Keep.keep (H5.out.1.call hC)
        have HS6 := Keep.keep hC.size
        have HC6 := Keep.keep hC
        have HRG6 : Keep (RgS w6 9 mb r (entries f L) (fun q => todo q && q != p) cnt') := ⟨H5.out.2.loc (hC.block _ hrg5.1) (hC.block _ hrg5.2.1)⟩
        clear hn' hC
        subst ha
        simp only [List.drop_succ_cons, List.drop_zero]
        simp only [Act.put, List.setIfInBounds_toArray, List.set_cons_succ, List.set_cons_zero]
        have hT6 : TreeIn w6 T2 m2 Bk2 f2 (L.filter (fun x => !todo x.1)) := H6.out.get 0 rfl
        have hbk6 : ∀ b, Bk2 b → b < w5.heap.size := fun b hb => ((H5.out.1.p _ (List.mem_of_getElem? (i := 0) rfl)).2 b (.inr (.inr hb))).2
        have hT6lt : T2 < w5.heap.size ∧ m2 < w5.heap.size := ⟨((H5.out.1.p _ (List.mem_of_getElem? (i := 0) rfl)).2 T2 (.inl rfl)).2, ((H5.out.1.p _ (List.mem_of_getElem? (i := 0) rfl)).2 m2 (.inr (.inl rfl))).2⟩
        have HT6 := Keep.keep hT6; have HBK6 := Keep.keep hbk6; have HLT6 := Keep.keep hT6lt
        have hel : (entries f2 (L.filter (fun x => !todo x.1))).length < maxLen := by
          have := HLN.out
          simp only [entries, List.length_map]
          unfold maxLen; omega
        clear hT6 hbk6 hT6lt
        go_wp2_with (first | (with_reducible refine arm_sRange ?_) | (with_reducible refine arm_sNext ?_) | (with_reducible refine arm_sDel ?_) | (with_reducible refine arm_sPut ?_) | (with_reducible refine arm_sIns ?_))
        refine StM.out ?_
        refine arm_putS Tryz.underlying9 Tryz.underlying63 HT6.out.map (p := p) (by have := HSX.out.p; dsimp only at this; unfold maxLen; omega) hel rfl rfl rfl ?_
        intro w7 hm7 hc7
        have hs6 := HS6.out
        have hs7 := hc7.size
        have hfin := HT6.out.put (Bk' := fun b => Bk2 b ∨ Fresh w5.heap.size w6 b) (fun b hb => by have := HBK6.out b hb; omega) (p, n) av' dv' HSX.out hm7 hc7 (HN'.out.mono (fun b hb => .inr hb)) (fun b hb => .inl hb) (fun b hb => by
          rcases hb with hb | hb
          · have h1 := HBK6.out b hb
            exact ⟨by omega, fun e => HT6.out.ne.2.1 (e ▸ hb), fun e => HT6.out.ne.2.2 (e ▸ hb)⟩
          · have h1 := hb.1
            have h2 := HLT6.out
            exact ⟨hb.2, by omega, by omega⟩)
        rw [← HCP.out] at hfin
        have hch : Chg (fun j => (trA T2 m2 Bk2 f2 (L.filter (fun x => !todo x.1))).blk j) w5.heap.size w5 w7 := ((Chg.of_below (M := fun j => (trA T2 m2 Bk2 f2 (L.filter (fun x => !todo x.1))).blk j) HC6.out)).trans ((hc7.lower HS6.out).mono (Nat.le_refl _) (fun j hj => .inr (.inl hj)))
        have H7 := Keep.keep (H5.out.1.upd 0 rfl (trA T2 m2 (fun b => Bk2 b ∨ Fresh w5.heap.size w6 b) (fun q => if q = p then (av', dv') else f2 q) (L.filter (fun x => !(todo x.1 && x.1 != p)))) hch hfin (fun b hb => by
          rcases hb with h | h | h | h
          · exact .inl (.inl h)
          · exact .inl (.inr (.inl h))
          · exact .inl (.inr (.inr h))
          · exact .inr ⟨h.1, by have := h.2; omega⟩))
        have HRG7 : Keep (RgS w7 9 mb r (entries f L) (fun q => todo q && q != p) cnt') := ⟨HRG6.out.loc (hc7.block _ HRG6.out.lt.1 (by have := HRE.out; have := HM2.out; omega)) (hc7.block _ HRG6.out.lt.2.1 (by have := HRE.out; omega))⟩
        clear hfin hm7 hc7 hch
        simp only [Act.put]
        go_wp2_with fail
        go_roundg cnt'
        case measure => omega
        case rel =>
          refine ⟨_, (fun b => Bk2 b ∨ Fresh w5.heap.size w6 b), (fun q => if q = p then (av', dv') else f2 q), HRG7.out, H7.out.take 1, fun b hb => ?_⟩
          rcases hb with hb | hb
          · exact HBR.out b hb
          · have := hb.1; omega
end Go.Proofs.YtphgmkhbhboklaaGreatDoor
/- slices.Equal OVER ATTRIBUTES; two attributes set side by side. -/
namespace Go.Proofs.YtphgmkhbhboklaaGreatDoor
open Go.RowKit
set_option maxRecDepth 100000 in
theorem neq_attr (x y : R2) (w : World) : (binOp .neq 85 (.agg #[.string ⟨x.1.toArray⟩, .string ⟨x.2.toArray⟩]) (.agg #[.string ⟨y.1.toArray⟩, .string ⟨y.2.toArray⟩])).run Tryz.prog w = .ok (.bool (!decide (x = y))) w := by
  obtain ⟨k, v⟩ := x
  obtain ⟨l, u⟩ := y
  have h := run_equalIn_struct (P := Tryz.prog) w 9999 85 #[.string ⟨k.toArray⟩, .string ⟨v.toArray⟩] #[.string ⟨l.toArray⟩, .string ⟨u.toArray⟩] (by kernel_rfl) (by kernel_rfl)
  have p0 := run_part_one (P := Tryz.prog) (e := 9) Tryz.underlying9 rfl #[.string ⟨k.toArray⟩, .string ⟨v.toArray⟩] 0 (.string ⟨k.toArray⟩) rfl
  have p1 := run_part_one (P := Tryz.prog) (e := 9) Tryz.underlying9 rfl #[.string ⟨k.toArray⟩, .string ⟨v.toArray⟩] 1 (.string ⟨v.toArray⟩) rfl
  have q0 := run_part_one (P := Tryz.prog) (e := 9) Tryz.underlying9 rfl #[.string ⟨l.toArray⟩, .string ⟨u.toArray⟩] 0 (.string ⟨l.toArray⟩) rfl
  have q1 := run_part_one (P := Tryz.prog) (e := 9) Tryz.underlying9 rfl #[.string ⟨l.toArray⟩, .string ⟨u.toArray⟩] 1 (.string ⟨u.toArray⟩) rfl
  simp only [Program.fieldsOf, Tryz.underlying85] at h
  rw [run_neq_struct]
  have e2 : ∀ (l m : List UInt8) (d : Nat) (w : World), (Op.equalIn (d + 1) 9 (.string ⟨l.toArray⟩) (.string ⟨m.toArray⟩)).run Tryz.prog w = .ok (l == m) w := fun l m d w => by
    rw [run_equalIn_string w d 9 _ _ Tryz.underlying9]
    congr 1
    rw [Bool.eq_iff_iff]
    simp
  have h2 : (Op.equalIn 10000 85 (.agg #[.string ⟨k.toArray⟩, .string ⟨v.toArray⟩]) (.agg #[.string ⟨l.toArray⟩, .string ⟨u.toArray⟩])).run Tryz.prog w = .ok (decide ((k, v) = (l, u))) w := by
    refine h.trans ?_
    by_cases e1 : k = l
    · by_cases e3 : v = u
      · subst e1 e3; simp [Op.eqFields, p0, p1, e2]
      · subst e1; simp [Op.eqFields, p0, p1, q0, q1, e2, e3]
    · simp [Op.eqFields, p0, q0, e2, e1]
  rw [h2]; rfl
set_option maxHeartbeats 1000000 in
set_option maxRecDepth 100000 in
theorem aequal_any (v1 v2 : Value) (l1 l2 : List R2) (w : World) (h1 : RdV w (· < w.heap.size) 2 v1 l1.length (rcells l1)) (h2 : RdV w (· < w.heap.size) 2 v2 l2.length (rcells l2)) :
    Calls Tryz.prog 65 #[v1, v2] w fun e w' => e = .returned (.bool (decide (l1 = l2))) ∧ Below w.heap.size w w' := by
  obtain ⟨a1, c1, rfl, hc1, hm1, g1⟩ := h1.shape
  obtain ⟨a2, c2, rfl, hc2, hm2, g2⟩ := h2.shape
  unfold maxLen at hm1 hm2
  have H1 := Keep.keep h1; have H2 := Keep.keep h2; have G1 := Keep.keep g1; have G2 := Keep.keep g2
  clear h1 h2 g1 g2
  by_cases hl : l1.length = l2.length
  · have HL := Keep.keep hl
    rw [← hl] at H2 hc2 ⊢
    clear hl
    obtain ⟨n, hn⟩ : ∃ n, l1.length = n := ⟨_, rfl⟩
    have HN := Keep.keep hn
    rw [hn] at H1 H2 hc1 hc2 HL ⊢
    clear hn
    go_enter Tryz.func65, Tryz.ntmps65
    go_wp2_with fail
    go_loopg [5, 13] n (fun g _ u13 wx => ∃ (k : Nat), k + g = n ∧ u13 = .int .i64 (k : Int) ∧ l1.take k = l2.take k ∧ Below w.heap.size w wx)
    case atStart => exact ⟨0, by omega, rfl, rfl, Below.refl _ _⟩
    case round =>
      obtain ⟨k, hkg, rfl, heq, hb⟩ := hrel
      have HEQ := Keep.keep heq; have HB := Keep.keep hb
      clear heq hb
      cases gk with
      | zero =>
        obtain rfl : k = n := by omega
        have HF : Keep (decide (l1 = l2) = true) := ⟨by
          have h := HEQ.out
          rw [List.take_of_length_le (by rw [HN.out]; exact Nat.le_refl _), List.take_of_length_le (by rw [← HL.out]; exact Nat.le_refl _)] at h
          exact decide_eq_true h⟩
        go_wp2_with fail
        go_ret
        exact ⟨by rw [HF.out]; rfl, HB.out⟩
      | succ g =>
        have hk : k < n := by omega
        have hk1 : k < l1.length := by rw [HN.out]; exact hk
        have hk2 : k < l2.length := by rw [← HL.out]; exact hk
        have hd : decide ((k : Int) < (n : Int)) = true := decide_eq_true (by omega)
        obtain ⟨b1, o1, rfl, hb1⟩ : ∃ b off, a1 = some ⟨b, off, none⟩ ∧ b < w.heap.size := by
          rcases G1.out with h | ⟨b, off, h, hb⟩
          · omega
          · exact ⟨b, off, h, hb⟩
        obtain ⟨b2, o2, rfl, hb2⟩ : ∃ b off, a2 = some ⟨b, off, none⟩ ∧ b < w.heap.size := by
          rcases G2.out with h | ⟨b, off, h, hb⟩
          · omega
          · exact ⟨b, off, h, hb⟩
        have hr1 := H1.out.below HB.out (fun b hb => hb)
        have hr2 := H2.out.below HB.out (fun b hb => hb)
        obtain ⟨s1, s2⟩ := rcells_get l1 k hk1
        obtain ⟨t1, t2⟩ := rcells_get l2 k hk2
        have x1 := hr1.cell b1 o1 _ _ rfl _ _ s1
        have x2 := hr1.cell b1 o1 _ _ rfl _ _ s2
        have y1 := hr2.cell b2 o2 _ _ rfl _ _ t1
        have y2 := hr2.cell b2 o2 _ _ rfl _ _ t2
        rw [← Nat.add_assoc] at x2 y2
        have HST : Keep (l1[k] = l2[k] → l1.take (k + 1) = l2.take (k + 1)) := ⟨fun e => by rw [List.take_succ_eq_append_getElem hk1, List.take_succ_eq_append_getElem hk2, HEQ.out, e]⟩
        have HNE : Keep (l1[k] ≠ l2[k] → decide (l1 = l2) = false) := ⟨fun e => decide_eq_false (fun h => e (by simp only [h]))⟩
        clear hr1 hr2 s1 s2 t1 t2
        generalize l1[k] = p at *
        generalize l2[k] = q at *
        have hneq := neq_attr p q
        unfold strV at x1 x2 y1 y2
        obtain ⟨pk, pv⟩ := p
        obtain ⟨qk, qv⟩ := q
        dsimp only at x1 x2 y1 y2 hneq
        by_cases e : ((pk, pv) : R2) = (qk, qv)
        · have HE := Keep.keep (HST.out e)
          rw [decide_eq_true e] at hneq
          clear e HST HNE
          go_upto_region 6 with fail
          (refine wp_region_quiet_lit (by kernel_rfl) (by kernel_rfl) ?_); (repeat (first | (fail) | go_big_quiet_step (fail))); (refine wpQuiet_nil ?_); (intro _ hwq); (obtain ⟨nq, hwq⟩ := hwq); (subst hwq)
          go_wp2_with fail
          go_roundg g
          case measure => omega
          case rel => exact ⟨k + 1, by omega, by simp, HE.out, below_drewN' HB.out _⟩
        · have HE := Keep.keep (HNE.out e)
          rw [decide_eq_false e] at hneq
          clear e HST HNE
          go_upto_region 6 with fail
          (refine wp_region_quiet_lit (by kernel_rfl) (by kernel_rfl) ?_); (repeat (first | (fail) | go_big_quiet_step (fail))); (refine wpQuiet_nil ?_); (intro _ hwq); (obtain ⟨nq, hwq⟩ := hwq); (subst hwq)
          go_wp2_with fail
          go_ret
          exact ⟨by rw [HE.out]; rfl, below_drewN' HB.out _⟩
  · have HE : Keep (decide (l1 = l2) = false) := ⟨decide_eq_false (fun e => hl (by rw [e]))⟩
    have hd : ((l1.length : Int) != (l2.length : Int)) = true := by simp; omega
    clear hl
    go_enter Tryz.func65, Tryz.ntmps65
    go_wp2_with fail
    go_ret
    exact ⟨by rw [HE.out]; rfl, Below.refl _ _⟩
end Go.Proofs.YtphgmkhbhboklaaGreatDoor
/- A REGION THAT DRAWS ITS ORDER, one fact an operation, each of all slots and of the memory; stores into boxes that the region itself makes. -/
namespace Go.Proofs.YtphgmkhbhboklaaGreatDoor
open Go.RowKit
theorem wp_region_spcF {P : Program} {ops : Array Oper} {id : Nat} {Q : Exit → Act → World → Prop} {a : Act} {w : World} (D : List (Option Nat)) (C : (Nat → Value) → World → Prop) (T : Nat → (Nat → Value) → World → Prop) (hm : P.follows .mixedOrders = true)
    (hD : ops.toList.map (·.dst) = D) (hB : inOrderB ops = true) (h0 : C (slot a) w.drew)
    (hs : ∀ i, i < ops.size → ∀ a1 w1, Fr a (D.filterMap (·)) a1 → C (slot a1) w1 → (∀ j, Region.waitsFor .any ops i j = true → T j (slot a1) w1) →
      wpOp P ops Q i (fun a2 w2 => ∃ v, a2 = a1.put (D.getD i none) v ∧ C (slot a2) w2 ∧ T i (slot a2) w2 ∧ ∀ j, j ≠ i → Region.waitsFor .any ops j i = false → T j (slot a1) w1 → T j (slot a2) w2) a1 w1)
    (he : ∀ a1 w1, a1 = (D.filterMap (·)).foldl (fun b d => b.put (some d) (slot a1 d)) a → C (slot a1) w1 → (∀ j, j < ops.size → T j (slot a1) w1) → Q .normal a1 w1) : (Code.region id ops true).wp P Q a w := by
  have hlen : D.length = ops.size := by rw [← hD]; simp
  have hget : ∀ i, i < ops.size → D.getD i none ∈ D := fun i hi => by
    rw [List.getD_eq_getElem?_getD, List.getElem?_eq_getElem (by omega)]
    exact List.getElem_mem _
  refine wp_region_fr (D.filterMap (·)) (fun done s w1 => C s w1 ∧ ∀ j, j < ops.size → done.getD j false = true → T j s w1) hm ⟨h0, fun j hj hd => ?_⟩ ?_ ?_
  · simp [Array.getD_eq_getD_getElem?, hj] at hd
  · intro done a1 w1 hF hI hz hcl i hi
    have hlt := ready_lt hi
    refine wpOp_mono ?_ (hs i hlt a1 w1 hF hI.1 (fun j hj => ?_))
    · rintro a2 w2 ⟨v, rfl, hC2, hT, hst⟩
      have hFr : Fr a (D.filterMap (·)) (a1.put (D.getD i none) v) := by
        cases hd : D.getD i none with
        | none => exact hF
        | some d =>
          refine hF.put d ?_ v
          rw [List.mem_filterMap]
          exact ⟨some d, hd ▸ hget i hlt, rfl⟩
      refine ⟨hFr, hC2, fun j hj hd => ?_⟩
      by_cases e : i = j
      · subst e; exact hT
      · have hd' := (getD_set_iff hd).resolve_left e
        refine hst j (Ne.symm e) ?_ (hI.2 j hj hd')
        rw [Bool.eq_false_iff]
        intro hw
        obtain ⟨ed, he1, he2, he3⟩ := waits_of (Array.getElem?_eq_getElem hj) hw
        have := hcl j _ (Array.getElem?_eq_getElem hj) hd' ed he1 he2
        rw [he3] at this
        have hr := (ready_at hi (Array.getElem?_eq_getElem hlt)).1
        rw [getD_both hr] at this; cases this
    · obtain ⟨e, he1, he2, he3⟩ := waits_of (Array.getElem?_eq_getElem hlt) hj
      have hdn := (ready_at hi (Array.getElem?_eq_getElem hlt)).2 e he1 he2
      rw [he3] at hdn
      have hjlt : j < ops.size := by
        rcases Nat.lt_or_ge j done.size with h | h
        · omega
        · simp [Array.getD_eq_getD_getElem?, Array.getElem?_eq_none h] at hdn
      exact hI.2 j hjlt hdn
  · intro done a1 w1 ha hI hz hr
    exact he a1 w1 ha hI.1 (fun j hj => hI.2 j hj (all_done hB hz hr j hj))
section
variable {P : Program} {ops : Array Oper} {Q : Exit → Act → World → Prop} {C : (Nat → Value) → World → Prop} {T : Nat → (Nat → Value) → World → Prop} {i d : Nat} {a1 : Act} {w1 w2 : World} {op : Op} {tp : TypeId} {pos : String} {af : Array Edge} {g : Option (Nat × Bool)} {v : Value}
theorem spcF_val (hi : ops[i]? = some ⟨some d, op, tp, pos, af, g⟩) (hg : Region.wanted (⟨some d, op, tp, pos, af, g⟩ : Oper) (yielded ops a1.tmps) = true)
    (hr : (execOp a1.eval (⟨some d, op, tp, pos, af, g⟩ : Oper)).run P w1 = .ok (.value v) w2) (hd : d < a1.tmps.size)
    (h : ∀ s : Nat → Value, s d = v → (∀ j, j ≠ d → s j = slot a1 j) → C s w2 ∧ T i s w2 ∧ ∀ j, j ≠ i → Region.waitsFor .any ops j i = false → T j (slot a1) w1 → T j s w2) :
    wpOp P ops Q i (fun a2 w2 => ∃ v, a2 = a1.put (some d) v ∧ C (slot a2) w2 ∧ T i (slot a2) w2 ∧ ∀ j, j ≠ i → Region.waitsFor .any ops j i = false → T j (slot a1) w1 → T j (slot a2) w2) a1 w1 := by
  unfold wpOp
  rw [hi]
  simp only
  rw [if_pos hg]
  refine .inl ?_
  unfold Oper.wp
  rw [hr]
  exact ⟨v, rfl, h _ (slot_put_same _ _ _ hd) (fun j hj => slot_put_ne _ _ _ _ (Ne.symm hj))⟩
theorem spcF_skip (hi : ops[i]? = some ⟨none, op, tp, pos, af, g⟩) (hg : Region.wanted (⟨none, op, tp, pos, af, g⟩ : Oper) (yielded ops a1.tmps) = true)
    (hr : (execOp a1.eval (⟨none, op, tp, pos, af, g⟩ : Oper)).run P w1 = .ok .skip w2)
    (h : C (slot a1) w2 ∧ T i (slot a1) w2 ∧ ∀ j, j ≠ i → Region.waitsFor .any ops j i = false → T j (slot a1) w1 → T j (slot a1) w2) :
    wpOp P ops Q i (fun a2 w2 => ∃ v, a2 = a1.put none v ∧ C (slot a2) w2 ∧ T i (slot a2) w2 ∧ ∀ j, j ≠ i → Region.waitsFor .any ops j i = false → T j (slot a1) w1 → T j (slot a2) w2) a1 w1 := by
  unfold wpOp
  rw [hi]
  simp only
  rw [if_pos hg]
  refine .inl ?_
  unfold Oper.wp
  rw [hr]
  exact ⟨undef, rfl, h⟩
end
end Go.Proofs.YtphgmkhbhboklaaGreatDoor
/- string(b) of what reads as bytes; []byte of a text that is written out. -/
namespace Go.Proofs.YtphgmkhbhboklaaGreatDoor
open Go.RowKit
def ints (l : List UInt8) : List Int := l.map fun c => (c.toNat : Int)
theorem ints_length (l : List UInt8) : (ints l).length = l.length := by simp [ints]
theorem bytesOf_ints (l : List UInt8) : Lib.bytesOf (ints l) = l := by simp [Lib.bytesOf, ints, Function.comp_def]
theorem ints_cells (l : List UInt8) : (ints l).map (Value.int .u8) = bcells l := by simp [ints, bcells, Function.comp_def]
theorem Reads.bytesIn {w : World} {N : Nat → Prop} {p : Option Addr} {n c : Nat} {l : List UInt8} (h : Reads w N (.slice p n c) l) : n = l.length ∧ Lib.BytesIn w p n (ints l) := by
  obtain ⟨⟨a, cap, he, h1, h2, h3⟩, hc⟩ := h
  injection he with e1 e2 e3; subst e1 e2 e3
  refine ⟨rfl, fun hn => ?_⟩
  rcases h3 with h3 | ⟨b, off, rfl, _⟩
  · omega
  · refine ⟨b, off, rfl, fun i hi => ?_⟩
    rw [hc b off _ _ rfl i hi]
    simp [ints, List.getD_eq_getElem?_getD, hi]
theorem run_string_of {w : World} {N : Nat → Prop} {v : Value} {l : List UInt8} (h : Reads w N v l) : (convert 23 9 v).run Tryz.prog w = .ok (.string ⟨l.toArray⟩) w := by
  obtain ⟨a, cap, hu, _⟩ := h.shape
  subst hu
  have := Lib.BytesIn.convert h.bytesIn.2 (ints_length l) cap 23 5 9 Tryz.underlying23 Tryz.underlying5 Tryz.underlying9
  rw [this]
  rw [show strOfNums (ints l) = ⟨l.toArray⟩ by simp [strOfNums, ints, Function.comp_def]]
/-- []byte of a text that is written out: the row that the walk leaves -/
theorem Reads.lit {w : World} (e : TypeId) (c : Array Value) (l : List UInt8) (fr : Nat × Nat) (g n : Nat) (hg : g = w.heap.size) (hc : c = (bcells l).toArray) (hn : n = l.length) (hm : l.length ≤ maxLen) : Reads (w.alloc (.cells c e fr)) (fun b => b = w.heap.size) (.slice (some ⟨g, 0, none⟩) n n) l := by
  subst hg hc hn
  refine ⟨⟨_, _, rfl, Nat.le_refl _, hm, .inr ⟨_, _, rfl, rfl⟩⟩, fun b off m cap he j hj => ?_⟩
  injection he with e1 _ _; injection e1 with e1; injection e1 with e1 e2 _; subst e1 e2
  rw [World.cell?_alloc_mark, Nat.zero_add]
  simpa using bcells_get l j hj
/-- .. as a rule of the walk -/
theorem convB (w : World) (C : Array Value) (n c g : Nat) (hg : g = w.heap.size) : (convert 23 23 (.slice (some ⟨g, 0, none⟩) n c)).run Tryz.prog (w.alloc (.cells C 5)) = .ok (.slice (some ⟨g, 0, none⟩) n c) (w.alloc (.cells C 5 (C.size, C.size + 1))) :=
  Go.Joins.run_convert_bytes_const_at w 23 5 C n c g hg Tryz.underlying23 Tryz.underlying5
end Go.Proofs.YtphgmkhbhboklaaGreatDoor
/- bytes.Clone, bytes.Equal, string(b): on what reads as bytes. -/
namespace Go.Proofs.YtphgmkhbhboklaaGreatDoor
open Go.RowKit
theorem equal_any (v1 v2 : Value) (l1 l2 : List UInt8) (N1 N2 : Nat → Prop) (w : World) (h1 : Reads w N1 v1 l1) (h2 : Reads w N2 v2 l2) :
    Calls Tryz.prog 64 #[v1, v2] w fun e w' => e = .returned (.bool (l1 == l2)) ∧ w = w' := by
  obtain ⟨a, cap, hu, _⟩ := h1.shape
  obtain ⟨a2, cap2, hu2, _⟩ := h2.shape
  subst hu hu2
  refine (Tryz.bytes_Equal_all a a2 _ _ _ _ (ints l1) (ints l2) w (ints_length _) (ints_length _) h1.bytesIn.2 h2.bytesIn.2).mono ?_
  rintro e w' ⟨rfl, rfl⟩
  exact ⟨by rw [bytesOf_ints, bytesOf_ints], rfl⟩
end Go.Proofs.YtphgmkhbhboklaaGreatDoor
/- tar.Same: two Members are the same. -/
namespace Go.Proofs.YtphgmkhbhboklaaGreatDoor
open Go.RowKit
/-- the box at slot d: a new row -/
def Bx (n d : Nat) (c : Array Value) (s : Nat → Value) (w : World) : Prop := ∃ b, s d = .pointer (some ⟨b, 0, none⟩) ∧ n ≤ b ∧ Row w b 30 c
def Bx8 (n d : Nat) (s : Nat → Value) (w : World) : Prop := ∃ c, Bx n d c s w ∧ c.size = 8
def twT (n b2 b3 : Nat) (A B : Array Value) : Nat → (Nat → Value) → World → Prop
  | 0, s, _ => s 7 = .pointer (some ⟨b2, 1, none⟩)
  | 1, s, _ => s 8 = .agg A
  | 2, s, _ => s 9 = .pointer (some ⟨b3, 1, none⟩)
  | 3, s, _ => s 10 = .agg B
  | 4, s, w => Bx8 n 5 s w
  | 5, s, w => Bx8 n 6 s w
  | 6, s, w => Bx n 5 A s w
  | 7, s, w => Bx n 6 B s w
  | _, _, _ => True
theorem Bx.keep {n d : Nat} {c : Array Value} {s s' : Nat → Value} {w w' : World} (h : Bx n d c s w) (hs : s' d = s d) (hb : ∀ b, s d = .pointer (some ⟨b, 0, none⟩) → w'.heap[b]? = w.heap[b]?) : Bx n d c s' w' := by
  obtain ⟨b, h1, h2, h3⟩ := h
  exact ⟨b, hs.trans h1, h2, (hb b h1).trans h3⟩
theorem Bx8.keep {n d : Nat} {s s' : Nat → Value} {w w' : World} (h : Bx8 n d s w) (hs : s' d = s d) (hb : ∀ b, s d = .pointer (some ⟨b, 0, none⟩) → w'.heap[b]? = w.heap[b]?) : Bx8 n d s' w' := by
  obtain ⟨c, h1, h2⟩ := h
  exact ⟨c, h1.keep hs hb, h2⟩
theorem Bx.lt {n d : Nat} {c : Array Value} {s : Nat → Value} {w : World} (h : Bx n d c s w) {b : Nat} (hb : s d = .pointer (some ⟨b, 0, none⟩)) : b < w.heap.size := by
  obtain ⟨b', h1, _, h3⟩ := h
  rw [h1] at hb; cases hb
  exact Row.lt h3
theorem Bx8.lt {n d : Nat} {s : Nat → Value} {w : World} (h : Bx8 n d s w) {b : Nat} (hb : s d = .pointer (some ⟨b, 0, none⟩)) : b < w.heap.size := by
  obtain ⟨c, h1, _⟩ := h
  exact h1.lt hb
/-- what holds throughout: two boxes lie apart -/
structure twC (n : Nat) (w : World) (s : Nat → Value) (wx : World) : Prop where
  b : Below w.heap.size w wx
  p : ∀ b, s 5 = .pointer (some ⟨b, 0, none⟩) → n ≤ b ∧ b < wx.heap.size
  q : ∀ b, s 6 = .pointer (some ⟨b, 0, none⟩) → n ≤ b ∧ b < wx.heap.size
  a : ∀ b b', s 5 = .pointer (some ⟨b, 0, none⟩) → s 6 = .pointer (some ⟨b', 0, none⟩) → b ≠ b'
/-- a quiet operation of slot d, or one that makes a new row -/
theorem twT_keep {n b2 b3 : Nat} {A B : Array Value} {s s' : Nat → Value} {w w' : World} (d : Nat) (hs : ∀ j, j ≠ d → s' j = s j) (hw : ∀ b, b < w.heap.size → w'.heap[b]? = w.heap[b]?) (j : Nat) (hj : (j = 0 → d ≠ 7) ∧ (j = 1 → d ≠ 8) ∧ (j = 2 → d ≠ 9) ∧ (j = 3 → d ≠ 10) ∧ (j = 4 ∨ j = 6 → d ≠ 5) ∧ (j = 5 ∨ j = 7 → d ≠ 6)) (h : twT n b2 b3 A B j s w) : twT n b2 b3 A B j s' w' := by
  obtain ⟨j0, j1, j2, j3, j4, j5⟩ := hj
  rcases (by omega : j = 0 ∨ j = 1 ∨ j = 2 ∨ j = 3 ∨ j = 4 ∨ j = 5 ∨ j = 6 ∨ j = 7 ∨ 8 ≤ j) with rfl | rfl | rfl | rfl | rfl | rfl | rfl | rfl | h8
  · exact (hs 7 (Ne.symm (j0 rfl))).trans h
  · exact (hs 8 (Ne.symm (j1 rfl))).trans h
  · exact (hs 9 (Ne.symm (j2 rfl))).trans h
  · exact (hs 10 (Ne.symm (j3 rfl))).trans h
  · have h : Bx8 n 5 s w := h
    exact h.keep (hs 5 (Ne.symm (j4 (.inl rfl)))) (fun b hb => hw b (h.lt hb))
  · have h : Bx8 n 6 s w := h
    exact h.keep (hs 6 (Ne.symm (j5 (.inl rfl)))) (fun b hb => hw b (h.lt hb))
  · have h : Bx n 5 A s w := h
    exact h.keep (hs 5 (Ne.symm (j4 (.inr rfl)))) (fun b hb => hw b (h.lt hb))
  · have h : Bx n 6 B s w := h
    exact h.keep (hs 6 (Ne.symm (j5 (.inr rfl)))) (fun b hb => hw b (h.lt hb))
  · obtain ⟨i, rfl⟩ : ∃ i, j = i + 8 := ⟨j - 8, by omega⟩
    trivial
/-- the first box is written -/
theorem twT_store5 {n b2 b3 b : Nat} {A B c : Array Value} {w0 : World} {s : Nat → Value} {w : World} (hC : twC n w0 s w) (h5 : s 5 = .pointer (some ⟨b, 0, none⟩)) (hrow : Row w b 30 c) (hA : A.size = 8) (j : Nat) (h : twT n b2 b3 A B j s w) : twT n b2 b3 A B j s (w.setRow b A) := by
  have hoth : ∀ k, k ≠ b → (w.setRow b A).heap[k]? = w.heap[k]? := fun k hk => Go.setRow_other w b k A hk
  have h6 : ∀ b', s 6 = .pointer (some ⟨b', 0, none⟩) → (w.setRow b A).heap[b']? = w.heap[b']? := fun b' h' => hoth b' (Ne.symm (hC.a b b' h5 h'))
  rcases (by omega : j = 0 ∨ j = 1 ∨ j = 2 ∨ j = 3 ∨ j = 4 ∨ j = 5 ∨ j = 6 ∨ j = 7 ∨ 8 ≤ j) with rfl | rfl | rfl | rfl | rfl | rfl | rfl | rfl | h8
  · exact h
  · exact h
  · exact h
  · exact h
  · exact ⟨A, ⟨b, h5, (hC.p b h5).1, hrow.setRow A⟩, hA⟩
  · have h : Bx8 n 6 s w := h
    exact h.keep rfl h6
  · exact ⟨b, h5, (hC.p b h5).1, hrow.setRow A⟩
  · have h : Bx n 6 B s w := h
    exact h.keep rfl h6
  · obtain ⟨i, rfl⟩ : ∃ i, j = i + 8 := ⟨j - 8, by omega⟩
    trivial
/-- the second box is written -/
theorem twT_store6 {n b2 b3 b : Nat} {A B c : Array Value} {w0 : World} {s : Nat → Value} {w : World} (hC : twC n w0 s w) (h5 : s 6 = .pointer (some ⟨b, 0, none⟩)) (hrow : Row w b 30 c) (hB : B.size = 8) (j : Nat) (h : twT n b2 b3 A B j s w) : twT n b2 b3 A B j s (w.setRow b B) := by
  have hoth : ∀ k, k ≠ b → (w.setRow b B).heap[k]? = w.heap[k]? := fun k hk => Go.setRow_other w b k B hk
  have h6 : ∀ b', s 5 = .pointer (some ⟨b', 0, none⟩) → (w.setRow b B).heap[b']? = w.heap[b']? := fun b' h' => hoth b' (hC.a b' b h' h5)
  rcases (by omega : j = 0 ∨ j = 1 ∨ j = 2 ∨ j = 3 ∨ j = 4 ∨ j = 5 ∨ j = 6 ∨ j = 7 ∨ 8 ≤ j) with rfl | rfl | rfl | rfl | rfl | rfl | rfl | rfl | h8
  · exact h
  · exact h
  · exact h
  · exact h
  · have h : Bx8 n 5 s w := h
    exact h.keep rfl h6
  · exact ⟨B, ⟨b, h5, (hC.q b h5).1, hrow.setRow B⟩, hB⟩
  · have h : Bx n 5 A s w := h
    exact h.keep rfl h6
  · exact ⟨b, h5, (hC.q b h5).1, hrow.setRow B⟩
  · obtain ⟨i, rfl⟩ : ∃ i, j = i + 8 := ⟨j - 8, by omega⟩
    trivial
/-- a bool is handed back, which tells whether P -/
def SaysB (P : Prop) (e : Ending) : Prop := ∃ r : Bool, e = .returned (.bool r) ∧ (r = true ↔ P)
theorem mb_eq {a b : Mb} : a = b ↔ a.1 = b.1 ∧ a.2.kind = b.2.kind ∧ a.2.mode = b.2.mode ∧ a.2.uid = b.2.uid ∧ a.2.gid = b.2.gid ∧ a.2.time = b.2.time ∧ a.2.link = b.2.link ∧ a.2.data = b.2.data ∧ a.2.attrs = b.2.attrs := by
  obtain ⟨p, ⟨k, m, u, g, t, at_, d, l⟩⟩ := a
  obtain ⟨p', ⟨k', m', u', g', t', at', d', l'⟩⟩ := b
  simp only [Prod.mk.injEq, Nd.mk.injEq]
  constructor
  · rintro ⟨h1, h2, h3, h4, h5, h6, h7, h8, h9⟩; exact ⟨h1, h2, h3, h4, h5, h6, h9, h8, h7⟩
  · rintro ⟨h1, h2, h3, h4, h5, h6, h7, h8, h9⟩; exact ⟨h1, h2, h3, h4, h5, h6, h9, h8, h7⟩
set_option maxHeartbeats 4000000 in
set_option maxRecDepth 100000 in
theorem same_tar (a b : Mb) (av dv bv ev : Value) (w : World) (ha : NdR w (· < w.heap.size) a.2 av dv) (hb : NdR w (· < w.heap.size) b.2 bv ev) :
    Calls Tryz.prog 36 #[.agg (mbC a av dv), .agg (mbC b bv ev)] w fun e w' => SaysB (a = b) e ∧ Below w.heap.size w w' := by
  obtain ⟨aa, la, ca, ad, ld, cd, e1, e2⟩ := ha.shape
  obtain ⟨ba, lb, cb, bd, le, ce, e3, e4⟩ := hb.shape
  subst e1 e2 e3 e4
  have HA := Keep.keep ha; have HB := Keep.keep hb
  have HEQ := Keep.keep (mb_eq (a := a) (b := b))
  clear ha hb
  obtain ⟨ap, ⟨kind, mode, uid, gid, time, attrs, data, link⟩⟩ := a
  obtain ⟨bp, ⟨kind2, mode2, uid2, gid2, time2, attrs2, data2, link2⟩⟩ := b
  unfold mbC strV
  dsimp only at HEQ HA HB ⊢
  obtain ⟨PEQ, hP⟩ : ∃ P : Prop, (((ap, ⟨kind, mode, uid, gid, time, attrs, data, link⟩) : Mb) = (bp, ⟨kind2, mode2, uid2, gid2, time2, attrs2, data2, link2⟩)) = P := ⟨_, rfl⟩
  rw [hP] at HEQ ⊢
  clear hP
  go_enter Tryz.func36, Tryz.ntmps36
  go_upto_region 1 with fail
  refine wp_world (R := fun w1 => Hp NoM w w1 [rowA w.heap.size 32 #[.string ⟨ap.toArray⟩, .int .i64 kind, .int .u32 mode, .int .u32 uid, .int .u32 gid, .int .i64 time, .slice aa la ca, .slice ad ld cd, .string ⟨link.toArray⟩], rowA (w.heap.size + 1) 32 #[.string ⟨bp.toArray⟩, .int .i64 kind2, .int .u32 mode2, .int .u32 uid2, .int .u32 gid2, .int .i64 time2, .slice ba lb cb, .slice bd le ce, .string ⟨link2.toArray⟩]]) ?_ ?_
  · exact ((Hp.begin NoM w).newRow _ _).newRow' _ _ _ _ (by simp) rfl
  intro w1 H1
  obtain ⟨b2, hb2⟩ : ∃ b2, w.heap.size = b2 := ⟨_, rfl⟩
  have HB2 := Keep.keep hb2
  have hsz1 := (H1.out.row 1 rfl).lt
  rw [hb2] at H1 hsz1 ⊢
  clear hb2
  obtain ⟨A, hA⟩ : ∃ A : Array Value, #[.int .i64 kind, .int .u32 mode, .int .u32 uid, .int .u32 gid, .int .i64 time, .slice aa la ca, .slice ad ld cd, .string ⟨link.toArray⟩] = A := ⟨_, rfl⟩
  obtain ⟨C, hC⟩ : ∃ C : Array Value, #[.int .i64 kind2, .int .u32 mode2, .int .u32 uid2, .int .u32 gid2, .int .i64 time2, .slice ba lb cb, .slice bd le ce, .string ⟨link2.toArray⟩] = C := ⟨_, rfl⟩
  refine wp_region_spcF [some 7, some 8, some 9, some 10, some 5, some 6, none, none] (twC w1.heap.size w1) (twT w1.heap.size b2 (b2 + 1) A C) (by kernel_rfl) rfl (by kernel_rfl) ?_ ?_ ?_
  · exact ⟨(Below.refl _ _).drew, fun b h => (by cases h), fun b h => (by cases h), fun b b' h => (by cases h)⟩
  · intro k hk a1 w2 hF hCC hT
    have s2 : a1.eval (.tmp 2) = .pointer (some ⟨b2, 0, none⟩) := (hF.same 2 (by decide)).trans rfl
    have s3 : a1.eval (.tmp 3) = .pointer (some ⟨b2 + 1, 0, none⟩) := (hF.same 3 (by decide)).trans rfl
    have hsz : a1.tmps.size = 72 := hF.size
    have HP := H1.out.call hCC.b
    have hb12 := HP.size
    have hk : k < 8 := hk
    have hoC : C.all (·.oneCell') = true := by rw [← hC]; simp [Value.oneCell']
    have hoA : A.all (·.oneCell') = true := by rw [← hA]; simp [Value.oneCell']
    have hzA : A.size = 8 := by rw [← hA]; rfl
    have hzC : C.size = 8 := by rw [← hC]; rfl
    have hcq : ∀ d, d ≠ 5 → d ≠ 6 → ∀ s : Nat → Value, (∀ j, j ≠ d → s j = slot a1 j) → twC w1.heap.size w1 s w2 := fun d h5 h6 s hs => ⟨hCC.b, fun b h => hCC.p b (by rw [← hs 5 (Ne.symm h5)]; exact h), fun b h => hCC.q b (by rw [← hs 6 (Ne.symm h6)]; exact h), fun b b' h h' => hCC.a b b' (by rw [← hs 5 (Ne.symm h5)]; exact h) (by rw [← hs 6 (Ne.symm h6)]; exact h')⟩
    rcases (by omega : k = 0 ∨ k = 1 ∨ k = 2 ∨ k = 3 ∨ k = 4 ∨ k = 5 ∨ k = 6 ∨ k = 7) with rfl | rfl | rfl | rfl | rfl | rfl | rfl | rfl
    · refine spcF_val (d := 7) rfl (wanted_none rfl) (run_fieldAddr (m := 7) Tryz.underlying32 rfl (by kernel_rfl) s2) (by omega) (fun s hd hs => ⟨hcq 7 (by decide) (by decide) s hs, hd, fun j hj _ h => twT_keep 7 hs (fun _ _ => rfl) j (by omega) h⟩)
    · have hx : a1.eval (.tmp 7) = .pointer (some ⟨b2, 1, none⟩) := hT 0 (by kernel_rfl)
      have HL := Keep.keep (HP)
      exact spcF_val (d := 8) rfl (wanted_none rfl) (run_loadNd (m := (ap, ⟨kind, mode, uid, gid, time, attrs, data, link⟩)) (HL.out.row 0 rfl) hx) (by omega) (fun s hd hs => ⟨hcq 8 (by decide) (by decide) s hs, hd.trans (by rw [← hA]; rfl), fun j hj _ h => twT_keep 8 hs (fun _ _ => rfl) j (by omega) h⟩)
    · exact spcF_val (d := 9) rfl (wanted_none rfl) (run_fieldAddr (m := 7) Tryz.underlying32 rfl (by kernel_rfl) s3) (by omega) (fun s hd hs => ⟨hcq 9 (by decide) (by decide) s hs, hd, fun j hj _ h => twT_keep 9 hs (fun _ _ => rfl) j (by omega) h⟩)
    · have hx : a1.eval (.tmp 9) = .pointer (some ⟨b2 + 1, 1, none⟩) := hT 2 (by kernel_rfl)
      have HL := Keep.keep (HP)
      exact spcF_val (d := 10) rfl (wanted_none rfl) (run_loadNd (m := (bp, ⟨kind2, mode2, uid2, gid2, time2, attrs2, data2, link2⟩)) (HL.out.row 1 rfl) hx) (by omega) (fun s hd hs => ⟨hcq 10 (by decide) (by decide) s hs, hd.trans (by rw [← hC]; rfl), fun j hj _ h => twT_keep 10 hs (fun _ _ => rfl) j (by omega) h⟩)
    · have hws := hCC.b.size
      refine spcF_val (d := 5) (v := .pointer (some ⟨w2.heap.size, 0, none⟩)) (w2 := w2.alloc (.cells zeroNd 30)) rfl (wanted_none rfl) (by simp [execOp, run_newN]) (by omega) (fun s hd hs => ⟨⟨hCC.b.alloc hCC.b.size _, fun b h => ?_, fun b h => ?_, fun b b' h h' => ?_⟩, ⟨zeroNd, ⟨w2.heap.size, hd, hws, Row.new _ _ _⟩, rfl⟩, fun j hj hw h => twT_keep 5 hs (fun b hb => Below.heap_alloc w2 _ b hb) j ?_ h⟩)
      · rw [hd] at h; cases h; simp; omega
      · rw [hs 6 (by decide)] at h
        have := hCC.q b h
        simp; omega
      · rw [hd] at h; cases h
        rw [hs 6 (by decide)] at h'
        have := (hCC.q b' h').2
        omega
      · have h6 : j ≠ 6 := by rintro rfl; exact Bool.false_ne_true (hw.symm.trans (by kernel_rfl))
        omega
    · have hws := hCC.b.size
      refine spcF_val (d := 6) (v := .pointer (some ⟨w2.heap.size, 0, none⟩)) (w2 := w2.alloc (.cells zeroNd 30)) rfl (wanted_none rfl) (by simp [execOp, run_newN]) (by omega) (fun s hd hs => ⟨⟨hCC.b.alloc hCC.b.size _, fun b h => ?_, fun b h => ?_, fun b b' h h' => ?_⟩, ⟨zeroNd, ⟨w2.heap.size, hd, hws, Row.new _ _ _⟩, rfl⟩, fun j hj hw h => ?_⟩)
      · rw [hs 5 (by decide)] at h
        have := hCC.p b h
        simp; omega
      · rw [hd] at h; cases h; simp; omega
      · rw [hd] at h'; cases h'
        rw [hs 5 (by decide)] at h
        have := (hCC.p b h).2
        omega
      · have h7 : j ≠ 7 := by rintro rfl; exact Bool.false_ne_true (hw.symm.trans (by kernel_rfl))
        exact twT_keep 6 hs (fun b hb => Below.heap_alloc w2 _ b hb) j (by omega) h
    · obtain ⟨c, ⟨b, h5, hnb, hrow⟩, hc8⟩ : Bx8 w1.heap.size 5 (slot a1) w2 := hT 4 (by kernel_rfl)
      have h8 : a1.eval (.tmp 8) = .agg A := hT 1 (by kernel_rfl)
      have hx : a1.eval (.tmp 5) = .pointer (some ⟨b, 0, none⟩) := h5
      have hst := hrow.storeAt (P := Tryz.prog) 30 A (by rw [hzA]; exact aggN.i) (by rw [hzA, hc8]) hoA
      refine spcF_skip (w2 := w2.setRow b A) rfl (wanted_none rfl) (by unfold execOp; simp only [hx, h8, Sem.run_bind, Sem.run_pure, Result.andThen_ok, hst]) ⟨⟨(Chg.setRow (M := NoM) (.of_below hCC.b) (.inl hnb) A).below (fun _ _ h => h), fun b' h => ?_, fun b' h => ?_, hCC.a⟩, ⟨b, h5, hnb, hrow.setRow A⟩, fun j hj hw h => twT_store5 hCC h5 hrow hzA j h⟩
      · have := hCC.p b' h; exact ⟨this.1, by have := (Chg.setRow (M := fun x => x = b) (.refl _ 0 w2) (.inr rfl) A).size; omega⟩
      · have := hCC.q b' h; exact ⟨this.1, by have := (Chg.setRow (M := fun x => x = b) (.refl _ 0 w2) (.inr rfl) A).size; omega⟩
    · obtain ⟨c, ⟨b, h5, hnb, hrow⟩, hc8⟩ : Bx8 w1.heap.size 6 (slot a1) w2 := hT 5 (by kernel_rfl)
      have h8 : a1.eval (.tmp 10) = .agg C := hT 3 (by kernel_rfl)
      have hx : a1.eval (.tmp 6) = .pointer (some ⟨b, 0, none⟩) := h5
      have hst := hrow.storeAt (P := Tryz.prog) 30 C (by rw [hzC]; exact aggN.i) (by rw [hzC, hc8]) hoC
      refine spcF_skip (w2 := w2.setRow b C) rfl (wanted_none rfl) (by unfold execOp; simp only [hx, h8, Sem.run_bind, Sem.run_pure, Result.andThen_ok, hst]) ⟨⟨(Chg.setRow (M := NoM) (.of_below hCC.b) (.inl hnb) C).below (fun _ _ h => h), fun b' h => ?_, fun b' h => ?_, hCC.a⟩, ⟨b, h5, hnb, hrow.setRow C⟩, fun j hj hw h => twT_store6 hCC h5 hrow hzC j h⟩
      · have := hCC.p b' h; exact ⟨this.1, by have := (Chg.setRow (M := fun x => x = b) (.refl _ 0 w2) (.inr rfl) C).size; omega⟩
      · have := hCC.q b' h; exact ⟨this.1, by have := (Chg.setRow (M := fun x => x = b) (.refl _ 0 w2) (.inr rfl) C).size; omega⟩
  · intro a1 w2 ha hCC hT
    have t7 : slot a1 7 = .pointer (some ⟨b2, 1, none⟩) := hT 0 (by decide)
    have t8 : slot a1 8 = .agg A := hT 1 (by decide)
    have t9 : slot a1 9 = .pointer (some ⟨b2 + 1, 1, none⟩) := hT 2 (by decide)
    have t10 : slot a1 10 = .agg C := hT 3 (by decide)
    obtain ⟨b5, t5, _, r5⟩ : Bx w1.heap.size 5 A (slot a1) w2 := hT 6 (by decide)
    obtain ⟨b6, t6, _, r6⟩ : Bx w1.heap.size 6 C (slot a1) w2 := hT 7 (by decide)
    have H2 := H1.out.call hCC.b
    have m20 := (H2.row 0 rfl).cell (i := 0) rfl
    have m30 := (H2.row 1 rfl).cell (i := 0) rfl
    have HA2 := Keep.keep (HA.out.below H2.below (fun b hb => hb))
    have HB3 := Keep.keep (HB.out.below H2.below (fun b hb => hb))
    have HBL := Keep.keep H2.below
    rw [← hA] at r5
    rw [← hC] at r6
    have x0 := r5.cell (i := 0) rfl
    have x1 := r5.cell (i := 1) rfl
    have x2 := r5.cell (i := 2) rfl
    have x3 := r5.cell (i := 3) rfl
    have x4 := r5.cell (i := 4) rfl
    have x5 := r5.cell (i := 5) rfl
    have x6 := r5.cell (i := 6) rfl
    have x7 := r5.cell (i := 7) rfl
    have y0 := r6.cell (i := 0) rfl
    have y1 := r6.cell (i := 1) rfl
    have y2 := r6.cell (i := 2) rfl
    have y3 := r6.cell (i := 3) rfl
    have y4 := r6.cell (i := 4) rfl
    have y5 := r6.cell (i := 5) rfl
    have y6 := r6.cell (i := 6) rfl
    have y7 := r6.cell (i := 7) rfl
    simp only [List.filterMap_cons, List.filterMap_nil, List.foldl_cons, List.foldl_nil, t5, t6, t7, t8, t9, t10] at ha
    clear hT t5 t6 t7 t8 t9 t10 r5 r6 hCC H2 hA hC
    subst ha
    simp only [Act.put, List.setIfInBounds_toArray, List.set_cons_succ, List.set_cons_zero]
    go_wp2_with fail
    rotate_left
    all_goals try (
      go_ret
      refine ⟨⟨false, rfl, ⟨fun h => (by cases h), fun h => ?_⟩⟩, HBL.out⟩
      obtain ⟨e1, e2, e3, e4, e5, e6, e7, e8, e9⟩ := HEQ.out.1 h
      contradiction)
    have HE : Keep (ap = bp ∧ kind = kind2 ∧ mode = mode2 ∧ uid = uid2 ∧ gid = gid2 ∧ time = time2 ∧ link = link2) := ⟨⟨by assumption, by assumption, by assumption, by assumption, by assumption, by assumption, by assumption⟩⟩
    have hle := HBL.out.size
    refine (equal_any _ _ _ _ _ _ w2 HA2.out.dt HB3.out.dt).mono ?_
    rintro e w3 ⟨rfl, rfl⟩
    by_cases hdt : data = data2
    · have HD := Keep.keep hdt
      have hbd : (data == data2) = true := by simpa using hdt
      rw [hbd]
      clear hdt hbd
      go_wp2_with fail
      refine (aequal_any _ _ _ _ w2 (HA2.out.at_.mono (fun b hb => Nat.lt_of_lt_of_le hb hle)) (HB3.out.at_.mono (fun b hb => Nat.lt_of_lt_of_le hb hle))).mono ?_
      rintro e w4 ⟨rfl, hb4⟩
      have HB4 := Keep.keep (HBL.out.trans (hb4.mono hle))
      have HR : Keep (decide (attrs = attrs2) = true ↔ PEQ) := ⟨by
        rw [decide_eq_true_eq, HEQ.out]
        exact ⟨fun h => ⟨HE.out.1, HE.out.2.1, HE.out.2.2.1, HE.out.2.2.2.1, HE.out.2.2.2.2.1, HE.out.2.2.2.2.2.1, HE.out.2.2.2.2.2.2, HD.out, h⟩, fun h => h.2.2.2.2.2.2.2.2⟩⟩
      clear hb4
      generalize decide (attrs = attrs2) = rb at *
      go_wp2_with fail
      go_ret
      exact ⟨⟨rb, rfl, HR.out⟩, HB4.out⟩
    · have hbd : (data == data2) = false := by simpa using hdt
      have HD := Keep.keep hdt
      rw [hbd]
      clear hdt hbd
      go_wp2_with fail
      go_ret
      exact ⟨⟨false, rfl, ⟨fun h => (by cases h), fun h => (HD.out (HEQ.out.1 h).2.2.2.2.2.2.2.1).elim⟩⟩, HBL.out⟩
end Go.Proofs.YtphgmkhbhboklaaGreatDoor
/- tree.Same: two trees are the same. -/
namespace Go.Proofs.YtphgmkhbhboklaaGreatDoor
open Go.RowKit
theorem srt_sub {L K : List Mb} (h : SM.Srt L) (k : SM.Srt K) (hs : ∀ p n, SM.look L p = some n → SM.look K p = some n) (hl : L.length = K.length) : L = K := by
  have e : K.filter (fun x => (SM.look L x.1).isSome) = L := by
    refine SM.Srt.ext (k.filter _) h (fun p => ?_)
    rw [k.look_filter (fun p => (SM.look L p).isSome)]
    cases hp : SM.look L p with
    | none => simp
    | some n => simp [hs p n hp]
  have e2 : K.filter (fun x => (SM.look L x.1).isSome) = K := by
    refine List.filter_eq_self.2 ?_
    refine List.length_filter_eq_length_iff.1 ?_
    rw [e, hl]
  rw [← e, e2]
set_option maxHeartbeats 4000000 in
set_option maxRecDepth 100000 in
theorem same_tree (T mb : Nat) (Bk : Nat → Prop) (f : Tx → Value × Value) (L : List Mb) (T2 m2 : Nat) (Bk2 : Nat → Prop) (f2 : Tx → Value × Value) (L2 : List Mb) (w : World) (h : TreeIn w T mb Bk f L) (hBk : ∀ b, Bk b → b < w.heap.size) (h2 : TreeIn w T2 m2 Bk2 f2 L2) (hBk2 : ∀ b, Bk2 b → b < w.heap.size) (hL : L.length ≤ 100000) :
    Calls Tryz.prog 10 #[.pointer (some ⟨T, 0, none⟩), .pointer (some ⟨T2, 0, none⟩)] w fun e w' => SaysB (L = L2) e ∧ Below w.heap.size w w' := by
  have HT := Keep.keep h; have HBK := Keep.keep hBk
  have HT2 := Keep.keep h2; have HBK2 := Keep.keep hBk2
  have HN := Keep.keep (none_ok T mb w h.row)
  have HN2 := Keep.keep (none_ok T2 m2 w h2.row)
  have hmbw := h.map.lt
  have hTw := h.row.lt
  have hm2w := h2.map.lt
  have hT2w := h2.row.lt
  have HEQ : Keep (∀ p n, SM.look L p = some n → SM.look L2 p ≠ some n → L ≠ L2) := ⟨fun p n h1 h2 e => h2 (by rw [← e]; exact h1)⟩
  have HLE : Keep (L.length ≠ L2.length → L ≠ L2) := ⟨fun h e => h (by rw [e])⟩
  have HSB : Keep (L.length = L2.length → (∀ p n, SM.look L p = some n → SM.look L2 p = some n) → L = L2) := ⟨fun hl hs => srt_sub h.srt h2.srt hs hl⟩
  clear h hBk h2 hBk2
  obtain ⟨P, hP⟩ : ∃ P : Prop, (L = L2) = P := ⟨_, rfl⟩
  rw [hP] at HSB ⊢
  have HP : Keep (P ↔ L = L2) := ⟨by rw [hP]⟩
  clear hP
  go_enter Tryz.func10, Tryz.ntmps10
  go_wp2_with fail
  refine HN.out.mono ?_
  rintro e w' ⟨rfl, rfl⟩
  go_wp2_with fail
  refine HN2.out.mono ?_
  rintro e w' ⟨rfl, rfl⟩
  have cT := HT.out.row.cell (i := 0) rfl
  have cT2 := HT2.out.row.cell (i := 0) rfl
  have e1 : (entries f L).length = L.length := by simp [entries]
  have e2 : (entries f2 L2).length = L2.length := by simp [entries]
  have hlen := fun n => (HT.out.map.loc (w' := w.drewN n) rfl).len Tryz.underlying63 3
  have hlen2 := fun n => (HT2.out.map.loc (w' := w.drewN n) rfl).len Tryz.underlying63 3
  rw [e1] at hlen
  rw [e2] at hlen2
  have HE1 := Keep.keep e1
  clear e1 e2 HN HN2
  go_upto_region 3 with fail
  (refine wp_region_quiet_lit (by kernel_rfl) (by kernel_rfl) ?_); (repeat (first | (fail) | go_big_quiet_step (fail))); (refine wpQuiet_nil ?_); (intro _ hwq); (obtain ⟨nq, hwq⟩ := hwq); (subst hwq)
  by_cases hl : L.length = L2.length
  · have hne : ((L.length : Int) != (L2.length : Int)) = false := by simp [hl]
    have HL := Keep.keep hl
    simp only [hne]
    clear hl hlen hlen2 cT cT2 hne
    have hb1 := below_drewN' (Below.refl w.heap.size w) nq
    generalize w.drewN nq = w1 at *
    have HB1 := Keep.keep hb1
    have hs1 := hb1.size
    have HTX : Keep (∀ wx, Below w.heap.size w wx → TreeIn wx T mb Bk f L) := ⟨fun wx hb => HT.out.loc (fun b hb' => hb.block b (by
      rcases hb' with rfl | rfl | h
      · exact hTw
      · exact hmbw
      · exact HBK.out b h))⟩
    have HTY : Keep (∀ wx, Below w.heap.size w wx → TreeIn wx T2 m2 Bk2 f2 L2) := ⟨fun wx hb => HT2.out.loc (fun b hb' => hb.block b (by
      rcases hb' with rfl | rfl | h
      · exact hT2w
      · exact hm2w
      · exact HBK2.out b h))⟩
    have cT := (HTX.out w1 hb1).row.cell (i := 0) rfl
    have HM := Keep.keep (HTX.out w1 hb1).map
    clear hb1
    go_wp2_with (first | (with_reducible refine arm_sRange ?_) | (with_reducible refine arm_sNext ?_) | (with_reducible refine arm_sDel ?_) | (with_reducible refine arm_sPut ?_) | (with_reducible refine arm_sIns ?_))
    refine StM.out ?_
    refine arm_rangeS Tryz.underlying9 Tryz.underlying63 HM.out rfl ?_
    intro w3 hrg hb3 hs3
    obtain ⟨r, hr⟩ : ∃ r, w1.heap.size = r := ⟨_, rfl⟩
    have hwr : w.heap.size ≤ r := by omega
    have HB3 := Keep.keep (HB1.out.trans (hb3.mono hs1))
    rw [hr] at hrg ⊢
    rw [HE1.out] at hrg
    have HRG := Keep.keep hrg
    clear hrg hb3 hs3 hr cT HM
    simp only [Act.put, List.setIfInBounds_toArray, List.set_cons_succ, List.set_cons_zero]
    go_wp2_with fail
    go_loopg [5] L.length (fun g _ wx => ∃ (todo : Tx → Bool), RgS wx 9 mb r (entries f L) todo g ∧ (∀ p n, SM.look L p = some n → todo p = false → SM.look L2 p = some n) ∧ Below w.heap.size w wx)
    case atStart =>
      refine ⟨_, HRG.out, fun p n h1 h2 => ?_, HB3.out⟩
      rw [look_entries, h1] at h2
      simp at h2
    case round =>
      obtain ⟨todo, hrg, hok, hb⟩ := hrel
      have HRG2 := Keep.keep hrg; have HOK := Keep.keep hok; have HB := Keep.keep hb
      clear hrg hok hb HRG HB3
      go_wp2_with (first | (with_reducible refine arm_sRange ?_) | (with_reducible refine arm_sNext ?_) | (with_reducible refine arm_sDel ?_) | (with_reducible refine arm_sPut ?_) | (with_reducible refine arm_sIns ?_))
      refine StM.out ?_
      refine arm_nextS Tryz.underlying9 HRG2.out rfl ?_ ?_
      · intro h0 hall
        have HF : Keep P := ⟨HP.out.2 (by
          have := HSB.out HL.out (fun p n h => HOK.out p n h (hall p))
          exact HP.out.1 this)⟩
        clear h0 hall
        simp only [Act.put, List.setIfInBounds_toArray, List.set_cons_succ, List.set_cons_zero]
        go_wp2_with fail
        go_ret
        exact ⟨⟨true, rfl, ⟨fun _ => HF.out, fun _ => rfl⟩⟩, HB.out⟩
      · intro p v w4 cnt' h1 h2 h3 h4 h5 h6 hen
        obtain ⟨n, hln, hve⟩ : ∃ n, SM.look L p = some n ∧ v = .agg (ndC n (f p).1 (f p).2) := by
          rw [look_entries] at h2
          cases hl : SM.look L p with
          | none => rw [hl] at h2; cases h2
          | some n => rw [hl] at h2; injection h2 with h2; exact ⟨n, rfl, h2.symm⟩
        have HB4 : Keep (Below w.heap.size w w4) := ⟨HB.out.trans ((h5.lower HB.out.size).below (fun k hk e => by omega))⟩
        have hmem := SM.look_mem hln
        have HNX := Keep.keep ((HTX.out w4 HB4.out).nd _ hmem)
        have HSX := Keep.keep (HT.out.sm _ hmem)
        obtain ⟨aa, la, ca, ad, ld, cd, e1, e2⟩ := HNX.out.shape
        dsimp only at e1 e2 HNX
        rw [e1, e2] at HNX hve
        have HRG4 := Keep.keep h3
        have HLN := Keep.keep hln
        have HSH := Keep.keep (And.intro e1 e2)
        have HTD := Keep.keep h1
        clear h1 h2 h3 h5 h6 e1 e2 HRG2 hmem
        subst hve
        have hlt4 := HRG4.out.lt
        have HNC : Keep (ndC n (.slice aa la ca) (.slice ad ld cd) = #[.int .i64 n.kind, .int .u32 n.mode, .int .u32 n.uid, .int .u32 n.gid, .int .i64 n.time, .slice aa la ca, .slice ad ld cd, .string ⟨n.link.toArray⟩]) := ⟨rfl⟩
        rw [HNC.out] at hen ⊢
        simp only [Act.put, List.setIfInBounds_toArray, List.set_cons_succ, List.set_cons_zero]
        go_upto_region 8 with fail
        refine wp_world (R := fun w5 => Below w.heap.size w w5 ∧ RgS w5 9 mb r (entries f L) (fun q => todo q && q != p) cnt' ∧ Row w5 w4.heap.size 30 #[.int .i64 n.kind, .int .u32 n.mode, .int .u32 n.uid, .int .u32 n.gid, .int .i64 n.time, .slice aa la ca, .slice ad ld cd, .string ⟨n.link.toArray⟩]) ⟨HB4.out.alloc HB4.out.size _, HRG4.out.loc (Below.heap_alloc _ _ _ hlt4.1) (Below.heap_alloc _ _ _ hlt4.2.1), Row.new _ _ _⟩ ?_
        intro w5 H5
        obtain ⟨b6, hb6⟩ : ∃ b6, w4.heap.size = b6 := ⟨_, rfl⟩
        rw [hb6] at H5 ⊢
        have hT5 := HTY.out w5 H5.out.1
        have c2 := hT5.row.cell (i := 0) rfl
        have hlk := hT5.map.lookOk Tryz.underlying9 Tryz.underlying63 (zeroN w5) (p := p) (by have := HSX.out.p; dsimp only at this; unfold maxLen; omega)
        have HND2 := Keep.keep hT5.nd
        have hb6lt := H5.out.2.2.lt
        rw [look_entries] at hlk
        clear hen HRG4 HB4 HNX hT5
        cases hl2 : SM.look L2 p with
        | none =>
          have HNE := Keep.keep (HEQ.out p n HLN.out (by rw [hl2]; simp))
          rw [hl2] at hlk
          replace hlk : (Instr.lookup 63 (.map (some m2)) (.string ⟨p.toArray⟩) true).run Tryz.prog w5 = .ok (.tuple #[.agg #[.int .i64 0, .int .u32 0, .int .u32 0, .int .u32 0, .int .i64 0, .slice none 0 0, .slice none 0 0, .string ⟨#[]⟩], .bool false]) w5 := hlk
          clear hl2
          go_wp2_with fail
          go_ret
          exact ⟨⟨false, rfl, ⟨fun h => (by cases h), fun h => (HNE.out (HP.out.1 h)).elim⟩⟩, H5.out.1.alloc H5.out.1.size _⟩
        | some m =>
          have hnm := HND2.out _ (SM.look_mem hl2)
          obtain ⟨ba, lb, cb, bd, le, ce, e1, e2⟩ := hnm.shape
          dsimp only at e1 e2 hnm
          rw [hl2] at hlk
          replace hlk : (Instr.lookup 63 (.map (some m2)) (.string ⟨p.toArray⟩) true).run Tryz.prog w5 = .ok (.tuple #[.agg (ndC m (f2 p).1 (f2 p).2), .bool true]) w5 := hlk
          rw [e1, e2] at hnm hlk
          replace hlk : (Instr.lookup 63 (.map (some m2)) (.string ⟨p.toArray⟩) true).run Tryz.prog w5 = .ok (.tuple #[.agg #[.int .i64 m.kind, .int .u32 m.mode, .int .u32 m.uid, .int .u32 m.gid, .int .i64 m.time, .slice ba lb cb, .slice bd le ce, .string ⟨m.link.toArray⟩], .bool true]) w5 := hlk
          have HNM := Keep.keep hnm
          have HL2 := Keep.keep hl2
          have HS2 := Keep.keep (And.intro e1 e2)
          clear hl2 hnm e1 e2
          go_upto_region 9 with fail
          refine wp_world (R := fun w9 => Below w5.heap.size w5 w9 ∧ Row w9 w5.heap.size 30 #[.int .i64 m.kind, .int .u32 m.mode, .int .u32 m.uid, .int .u32 m.gid, .int .i64 m.time, .slice ba lb cb, .slice bd le ce, .string ⟨m.link.toArray⟩]) ⟨(Below.refl _ _).alloc (Nat.le_refl _) _, Row.new _ _ _⟩ ?_
          intro w9 H9
          obtain ⟨b7, hb7⟩ : ∃ b7, w5.heap.size = b7 := ⟨_, rfl⟩
          rw [hb7] at H9 ⊢
          have HR6 := Keep.keep (H5.out.2.2.below (hb7 ▸ H9.out.1) hb6lt)
          have HR7 := Keep.keep H9.out.2
          have HS6 : Keep ((#[.int .i64 n.kind, .int .u32 n.mode, .int .u32 n.uid, .int .u32 n.gid, .int .i64 n.time, .slice aa la ca, .slice ad ld cd, .string ⟨n.link.toArray⟩] : Array Value).size = 8) := ⟨rfl⟩
          have HS7 : Keep ((#[.int .i64 m.kind, .int .u32 m.mode, .int .u32 m.uid, .int .u32 m.gid, .int .i64 m.time, .slice ba lb cb, .slice bd le ce, .string ⟨m.link.toArray⟩] : Array Value).size = 8) := ⟨rfl⟩
          have HB9 := Keep.keep (H5.out.1.trans ((show Below w5.heap.size w5 w9 from hb7 ▸ H9.out.1).mono H5.out.1.size))
          have hw9 := HB9.out.size
          have hbm1 : ∀ w, (Instr.build 32 #[(0, .string ⟨p.toArray⟩), (1, .agg #[.int .i64 n.kind, .int .u32 n.mode, .int .u32 n.uid, .int .u32 n.gid, .int .i64 n.time, .slice aa la ca, .slice ad ld cd, .string ⟨n.link.toArray⟩])]).run Tryz.prog w = .ok (.agg (mbC (p, n) (.slice aa la ca) (.slice ad ld cd))) w := fun w => by kernel_rfl
          have hbm2 : ∀ w, (Instr.build 32 #[(0, .string ⟨p.toArray⟩), (1, .agg #[.int .i64 m.kind, .int .u32 m.mode, .int .u32 m.uid, .int .u32 m.gid, .int .i64 m.time, .slice ba lb cb, .slice bd le ce, .string ⟨m.link.toArray⟩])]).run Tryz.prog w = .ok (.agg (mbC (p, m) (.slice ba lb cb) (.slice bd le ce))) w := fun w => by kernel_rfl
          have HTS := Keep.keep (same_tar (p, n) (p, m) (.slice aa la ca) (.slice ad ld cd) (.slice ba lb cb) (.slice bd le ce) w9 (by
            have h1 := (HTX.out w9 HB9.out).nd _ (SM.look_mem HLN.out)
            dsimp only at h1
            rw [HSH.out.1, HSH.out.2] at h1
            exact h1.mono (fun b hb => by have := HBK.out b hb; omega)) (by
            have h1 := (HTY.out w9 HB9.out).nd _ (SM.look_mem HL2.out)
            dsimp only at h1
            rw [HS2.out.1, HS2.out.2] at h1
            exact h1.mono (fun b hb => by have := HBK2.out b hb; omega)))
          clear hlk c2
          go_wp2_with (first
            | ((with_reducible refine arm_loadRowG ?_ HR6.out aggN HS6.out ?_ ?_); (focus rfl); (focus rfl); simp only [Act.put, List.setIfInBounds_toArray, List.set_cons_succ, List.set_cons_zero])
            | ((with_reducible refine arm_loadRowG ?_ HR7.out aggN HS7.out ?_ ?_); (focus rfl); (focus rfl); simp only [Act.put, List.setIfInBounds_toArray, List.set_cons_succ, List.set_cons_zero]))
          refine HTS.out.mono ?_
          rintro e w10 ⟨⟨rb, rfl, hrb⟩, hb10⟩
          have HB10 := Keep.keep (HB9.out.trans (hb10.mono hw9))
          have hrg5 := H5.out.2.1.lt
          have HRG10 : Keep (RgS w10 9 mb r (entries f L) (fun q => todo q && q != p) cnt') := ⟨H5.out.2.1.loc (by rw [hb10.block mb (by have := HB9.out.size; omega), H9.out.1.block mb (by omega)]) (by rw [hb10.block r (by have := (hb7 ▸ H9.out.1 : Below w5.heap.size w5 w9).size; omega), H9.out.1.block r (by omega)])⟩
          cases rb with
          | true =>
            have hmn : n = m := by
              have := hrb.1 rfl
              injection this
            have HMN := Keep.keep hmn
            clear hmn hrb hb10
            go_wp2_with fail
            go_roundg cnt'
            case measure => omega
            case rel =>
              refine ⟨_, HRG10.out, fun p' n' h1 h2 => ?_, HB10.out⟩
              by_cases e : p' = p
              · rw [e] at h1 ⊢
                rw [HLN.out] at h1
                rw [HL2.out, ← HMN.out]; exact h1
              · exact HOK.out p' n' h1 (by simpa [e] using h2)
          | false =>
            have HNE := Keep.keep (HEQ.out p n HLN.out (by
              rw [HL2.out]
              intro e
              injection e with e
              have := hrb.2 (by rw [e])
              cases this))
            clear hrb hb10
            go_wp2_with fail
            go_ret
            exact ⟨⟨false, rfl, ⟨fun h => (by cases h), fun h => (HNE.out (HP.out.1 h)).elim⟩⟩, HB10.out⟩
  · have hne : ((L.length : Int) == (L2.length : Int)) = false := by simp; omega
    have HL := Keep.keep hl
    clear hl hlen hlen2
    go_wp2_with fail
    go_ret
    exact ⟨⟨false, rfl, ⟨fun h => (by cases h), fun h => (HLE.out HL.out (HP.out.1 h)).elim⟩⟩, below_drewN' (Below.refl _ _) _⟩
end Go.Proofs.YtphgmkhbhboklaaGreatDoor
/- portolanref12.Same; portolanlaw12.Alike: Members set side by side. -/
namespace Go.Proofs.YtphgmkhbhboklaaGreatDoor
open Go.RowKit
set_option maxHeartbeats 4000000 in
set_option maxRecDepth 100000 in
theorem same_ref (a b : Mb) (av dv bv ev : Value) (w : World) (ha : NdR w (· < w.heap.size) a.2 av dv) (hb : NdR w (· < w.heap.size) b.2 bv ev) :
    Calls Tryz.prog 37 #[.agg (mbC a av dv), .agg (mbC b bv ev)] w fun e w' => SaysB (a = b) e ∧ Below w.heap.size w w' := by
  obtain ⟨aa, la, ca, ad, ld, cd, e1, e2⟩ := ha.shape
  obtain ⟨ba, lb, cb, bd, le, ce, e3, e4⟩ := hb.shape
  subst e1 e2 e3 e4
  obtain ⟨rfl, -, -⟩ := ha.at_.lens
  obtain ⟨rfl, -, -⟩ := hb.at_.lens
  have hma := ha.at_.lens.2
  have hmb := hb.at_.lens.2
  unfold maxLen at hma hmb
  have HA := Keep.keep ha; have HB := Keep.keep hb
  have HEQ := Keep.keep (mb_eq (a := a) (b := b))
  clear ha hb
  obtain ⟨ap, ⟨kind, mode, uid, gid, time, attrs, data, link⟩⟩ := a
  obtain ⟨bp, ⟨kind2, mode2, uid2, gid2, time2, attrs2, data2, link2⟩⟩ := b
  unfold mbC strV
  dsimp only at HEQ HA HB hma hmb ⊢
  obtain ⟨PEQ, hP⟩ : ∃ P : Prop, (((ap, ⟨kind, mode, uid, gid, time, attrs, data, link⟩) : Mb) = (bp, ⟨kind2, mode2, uid2, gid2, time2, attrs2, data2, link2⟩)) = P := ⟨_, rfl⟩
  rw [hP] at HEQ ⊢
  clear hP
  go_enter Tryz.func37, Tryz.ntmps37
  go_upto_region 3 with fail
  refine wp_world (R := fun w1 => Hp NoM w w1 [rowA w.heap.size 32 #[.string ⟨ap.toArray⟩, .int .i64 kind, .int .u32 mode, .int .u32 uid, .int .u32 gid, .int .i64 time, .slice aa attrs.length ca, .slice ad ld cd, .string ⟨link.toArray⟩], rowA (w.heap.size + 1) 32 #[.string ⟨bp.toArray⟩, .int .i64 kind2, .int .u32 mode2, .int .u32 uid2, .int .u32 gid2, .int .i64 time2, .slice ba attrs2.length cb, .slice bd le ce, .string ⟨link2.toArray⟩], rowA (w.heap.size + 1 + 1) 30 #[.int .i64 kind, .int .u32 mode, .int .u32 uid, .int .u32 gid, .int .i64 time, .slice aa attrs.length ca, .slice ad ld cd, .string ⟨link.toArray⟩], rowA (w.heap.size + 1 + 1 + 1) 30 #[.int .i64 kind2, .int .u32 mode2, .int .u32 uid2, .int .u32 gid2, .int .i64 time2, .slice ba attrs2.length cb, .slice bd le ce, .string ⟨link2.toArray⟩]]) ?_ ?_
  · exact ((((Hp.begin NoM w).newRow _ _).newRow' _ _ _ _ (by simp) rfl).newRow' _ _ _ _ (by simp) rfl).newRow' _ _ _ _ (by simp) rfl
  intro w1 H1
  obtain ⟨b2, hb2⟩ : ∃ b2, w.heap.size = b2 := ⟨_, rfl⟩
  have HB2 := Keep.keep hb2
  have m20 := (H1.out.row 0 rfl).cell (i := 0) rfl
  have m30 := (H1.out.row 1 rfl).cell (i := 0) rfl
  have HA2 := Keep.keep (HA.out.below H1.out.below (fun b hb => hb))
  have HB3 := Keep.keep (HB.out.below H1.out.below (fun b hb => hb))
  have HBL := Keep.keep H1.out.below
  have r5 := H1.out.row 2 rfl
  have r6 := H1.out.row 3 rfl
  have x0 := r5.cell (i := 0) rfl
  have x1 := r5.cell (i := 1) rfl
  have x2 := r5.cell (i := 2) rfl
  have x3 := r5.cell (i := 3) rfl
  have x4 := r5.cell (i := 4) rfl
  have x5 := r5.cell (i := 5) rfl
  have x6 := r5.cell (i := 6) rfl
  have x7 := r5.cell (i := 7) rfl
  have y0 := r6.cell (i := 0) rfl
  have y1 := r6.cell (i := 1) rfl
  have y2 := r6.cell (i := 2) rfl
  have y3 := r6.cell (i := 3) rfl
  have y4 := r6.cell (i := 4) rfl
  have y5 := r6.cell (i := 5) rfl
  have y6 := r6.cell (i := 6) rfl
  have y7 := r6.cell (i := 7) rfl
  rw [hb2] at m20 m30 x0 x1 x2 x3 x4 x5 x6 x7 y0 y1 y2 y3 y4 y5 y6 y7 ⊢
  have hwl : w.heap.size ≤ w1.heap.size := H1.out.size
  have hc1 := run_string_of HA2.out.dt
  have hc2 := run_string_of HB3.out.dt
  clear r5 r6 hb2 H1
  go_upto_region 5 with fail
  all_goals try (
    go_ret
    refine ⟨⟨false, rfl, ⟨fun h => (by cases h), fun h => ?_⟩⟩, HBL.out⟩
    obtain ⟨e1, e2, e3, e4, e5, e6, e7, e8, e9⟩ := HEQ.out.1 h
    first
      | contradiction
      | (simp_all; done))
  have HE : Keep (ap = bp ∧ kind = kind2 ∧ mode = mode2 ∧ uid = uid2 ∧ gid = gid2 ∧ time = time2 ∧ link = link2) := ⟨⟨by assumption, by assumption, by assumption, by assumption, by assumption, by assumption, by simpa using (show (!link == link2) = false by assumption)⟩⟩
  by_cases hdt : data = data2
  · have HD := Keep.keep hdt
    have hbd : (data == data2) = true := by simpa using hdt
    clear hdt
    by_cases hal : attrs.length = attrs2.length
    · have hne : ((attrs.length : Int) == (attrs2.length : Int)) = true := by rw [hal]; exact beq_self_eq_true _
      have HL := Keep.keep hal
      clear hal
      go_wp2_with fail
      go_loopg [7] attrs.length (fun g u7 wx => ∃ (k n : Nat), k + g = attrs.length ∧ u7 = .int .i64 (k : Int) ∧ attrs.take k = attrs2.take k ∧ wx = w1.drewN n)
      case atStart => exact ⟨0, 0, by omega, rfl, rfl, rfl⟩
      case round =>
        obtain ⟨k, nd, hkg, rfl, heq, rfl⟩ := hrel
        have HT := Keep.keep heq
        clear heq
        cases gk with
        | zero =>
          obtain rfl : k = attrs.length := by omega
          have HF : Keep (PEQ) := ⟨HEQ.out.2 ⟨HE.out.1, HE.out.2.1, HE.out.2.2.1, HE.out.2.2.2.1, HE.out.2.2.2.2.1, HE.out.2.2.2.2.2.1, HE.out.2.2.2.2.2.2, HD.out, by
            have h := HT.out
            rw [List.take_length, List.take_of_length_le (by rw [← HL.out]; exact Nat.le_refl _)] at h
            exact h⟩⟩
          go_wp2_with fail
          go_ret
          exact ⟨⟨true, rfl, ⟨fun _ => HF.out, fun _ => rfl⟩⟩, below_drewN' HBL.out _⟩
        | succ g =>
          have hk1 : k < attrs.length := by omega
          have hk2 : k < attrs2.length := by have := HL.out; omega
          have hd : decide ((k : Int) < (attrs.length : Int)) = true := decide_eq_true (by omega)
          obtain ⟨p1, o1, rfl⟩ : ∃ b off, aa = some ⟨b, off, none⟩ := by
            obtain ⟨b, off, cap, h, -⟩ := HA2.out.at_.has (by dsimp only; omega)
            injection h with h; exact ⟨b, off, h⟩
          obtain ⟨p2, o2, rfl⟩ : ∃ b off, ba = some ⟨b, off, none⟩ := by
            obtain ⟨b, off, cap, h, -⟩ := HB3.out.at_.has (by dsimp only; omega)
            injection h with h; exact ⟨b, off, h⟩
          obtain ⟨s1, s2⟩ := rcells_get attrs k hk1
          obtain ⟨t1, t2⟩ := rcells_get attrs2 k hk2
          have z1 := HA2.out.at_.cell p1 o1 _ _ rfl _ _ s1
          have z2 := HA2.out.at_.cell p1 o1 _ _ rfl _ _ s2
          have v1 := HB3.out.at_.cell p2 o2 _ _ rfl _ _ t1
          have v2 := HB3.out.at_.cell p2 o2 _ _ rfl _ _ t2
          rw [← Nat.add_assoc] at z2 v2
          have HST : Keep (attrs[k] = attrs2[k] → attrs.take (k + 1) = attrs2.take (k + 1)) := ⟨fun e => by rw [List.take_succ_eq_append_getElem hk1, List.take_succ_eq_append_getElem hk2, HT.out, e]⟩
          have HNE : Keep (attrs[k] ≠ attrs2[k] → ¬ PEQ) := ⟨fun e h => e (by simp only [(HEQ.out.1 h).2.2.2.2.2.2.2.2])⟩
          clear s1 s2 t1 t2
          generalize attrs[k] = p at *
          generalize attrs2[k] = q at *
          have hneq := neq_attr p q
          unfold strV at z1 z2 v1 v2
          obtain ⟨pk, pv⟩ := p
          obtain ⟨qk, qv⟩ := q
          dsimp only at z1 z2 v1 v2 hneq
          by_cases e : ((pk, pv) : R2) = (qk, qv)
          · have HE2 := Keep.keep (HST.out e)
            rw [decide_eq_true e] at hneq
            clear e HST HNE
            go_upto_region 10 with fail
            (refine wp_region_quiet_lit (by kernel_rfl) (by kernel_rfl) ?_); (repeat (first | (fail) | go_big_quiet_step (fail))); (refine wpQuiet_nil ?_); (intro _ hwq); (obtain ⟨nq, hwq⟩ := hwq); (subst hwq)
            go_wp2_with fail
            go_roundg g
            case measure => omega
            case rel => exact ⟨k + 1, nd + nq, by omega, by simp, HE2.out, rfl⟩
          · have HE2 := Keep.keep (HNE.out e)
            rw [decide_eq_false e] at hneq
            clear e HST HNE
            go_upto_region 10 with fail
            (refine wp_region_quiet_lit (by kernel_rfl) (by kernel_rfl) ?_); (repeat (first | (fail) | go_big_quiet_step (fail))); (refine wpQuiet_nil ?_); (intro _ hwq); (obtain ⟨nq, hwq⟩ := hwq); (subst hwq)
            go_wp2_with fail
            go_ret
            exact ⟨⟨false, rfl, ⟨fun h => (by cases h), fun h => (HE2.out h).elim⟩⟩, below_drewN' (below_drewN' HBL.out _) _⟩
    · have hne : ((attrs.length : Int) == (attrs2.length : Int)) = false := by simp; omega
      have HL := Keep.keep hal
      clear hal
      go_wp2_with fail
      go_ret
      exact ⟨⟨false, rfl, ⟨fun h => (by cases h), fun h => (HL.out (by rw [(HEQ.out.1 h).2.2.2.2.2.2.2.2])).elim⟩⟩, HBL.out⟩
  · have HD := Keep.keep hdt
    have hbd : (data == data2) = false := by simpa using hdt
    clear hdt
    go_wp2_with fail
    go_ret
    exact ⟨⟨false, rfl, ⟨fun h => (by cases h), fun h => (HD.out (HEQ.out.1 h).2.2.2.2.2.2.2.1).elim⟩⟩, HBL.out⟩
end Go.Proofs.YtphgmkhbhboklaaGreatDoor
/- portolanlaw12.Alike: rows of Members set side by side. -/
namespace Go.Proofs.YtphgmkhbhboklaaGreatDoor
open Go.RowKit
theorem SaysB.det {P : Prop} {e : Ending} (h : SaysB P e) {r : Bool} (hr : r = true ↔ P) : e = .returned (.bool r) := by
  obtain ⟨r', rfl, h'⟩ := h
  have : r' = r := by rw [Bool.eq_iff_iff, h', hr]
  rw [this]
theorem bool_of (P : Prop) : ∃ r : Bool, r = true ↔ P := by
  by_cases h : P
  · exact ⟨true, fun _ => h, fun _ => rfl⟩
  · exact ⟨false, fun e => (by cases e), fun e => (h e).elim⟩
set_option maxHeartbeats 2000000 in
set_option maxRecDepth 100000 in
theorem alike_any (v1 v2 : Value) (l1 l2 : List Mv) (w : World) (h1 : Mbs w (· < w.heap.size) (· < w.heap.size) v1 l1) (h2 : Mbs w (· < w.heap.size) (· < w.heap.size) v2 l2) :
    Calls Tryz.prog 12 #[v1, v2] w fun e w' => SaysB (l1.map (·.1) = l2.map (·.1)) e ∧ Below w.heap.size w w' := by
  obtain ⟨a1, c1, rfl, hc1, hm1, g1⟩ := h1.rd.shape
  obtain ⟨a2, c2, rfl, hc2, hm2, g2⟩ := h2.rd.shape
  unfold maxLen at hm1 hm2
  have H1 := Keep.keep h1; have H2 := Keep.keep h2; have G1 := Keep.keep g1; have G2 := Keep.keep g2
  clear h1 h2 g1 g2
  obtain ⟨P, hP⟩ : ∃ P : Prop, (l1.map (·.1) = l2.map (·.1)) = P := ⟨_, rfl⟩
  have HP : Keep (P ↔ l1.map (·.1) = l2.map (·.1)) := ⟨by rw [hP]⟩
  rw [hP]
  clear hP
  by_cases hl : l1.length = l2.length
  · have HL := Keep.keep hl
    have hne : ((l1.length : Int) == (l2.length : Int)) = true := by rw [hl]; exact beq_self_eq_true _
    clear hl
    go_enter Tryz.func12, Tryz.ntmps12
    go_wp2_with fail
    go_loopg [5] l1.length (fun g u5 wx => ∃ (k : Nat), k + g = l1.length ∧ u5 = .int .i64 (k : Int) ∧ (l1.map (·.1)).take k = (l2.map (·.1)).take k ∧ Below w.heap.size w wx)
    case atStart => exact ⟨0, by omega, rfl, rfl, Below.refl _ _⟩
    case round =>
      obtain ⟨k, hkg, rfl, heq, hb⟩ := hrel
      have HEQ := Keep.keep heq; have HB := Keep.keep hb
      clear heq hb
      cases gk with
      | zero =>
        obtain rfl : k = l1.length := by omega
        have HF : Keep P := ⟨HP.out.2 (by
          have h := HEQ.out
          rw [List.take_of_length_le (by rw [List.length_map]; exact Nat.le_refl _), List.take_of_length_le (by rw [List.length_map, ← HL.out]; exact Nat.le_refl _)] at h
          exact h)⟩
        go_wp2_with fail
        go_ret
        exact ⟨⟨true, rfl, ⟨fun _ => HF.out, fun _ => rfl⟩⟩, HB.out⟩
      | succ g =>
        have hk1 : k < l1.length := by omega
        have hk2 : k < l2.length := by have := HL.out; omega
        have hd : decide ((k : Int) < (l1.length : Int)) = true := decide_eq_true (by omega)
        obtain ⟨b1, o1, rfl, hb1⟩ : ∃ b off, a1 = some ⟨b, off, none⟩ ∧ b < w.heap.size := by
          rcases G1.out with h | ⟨b, off, h, hb⟩
          · omega
          · exact ⟨b, off, h, hb⟩
        obtain ⟨b2, o2, rfl, hb2⟩ : ∃ b off, a2 = some ⟨b, off, none⟩ ∧ b < w.heap.size := by
          rcases G2.out with h | ⟨b, off, h, hb⟩
          · omega
          · exact ⟨b, off, h, hb⟩
        obtain ⟨r, hr⟩ := bool_of (l1[k].1 = l2[k].1)
        have HX1 : Keep (∀ wx, Below wr.heap.size wr wx → ∀ (j : Nat) (u : Value), (mcell l1[k]).toList[j]? = some u → wx.cell? ⟨b1, o1 + k * 9 + j, none⟩ = some u) := ⟨fun wx hx j u hj => by
          have hjl := (List.getElem?_eq_some_iff.1 hj).1
          rw [mcell_len] at hjl
          exact (H1.out.below (HB.out.trans (hx.mono HB.out.size)) (fun b hb => hb) (fun b hb => hb)).cell hk1 j hjl (by simpa using hj)⟩
        have HX2 : Keep (∀ wx, Below wr.heap.size wr wx → ∀ (j : Nat) (u : Value), (mcell l2[k]).toList[j]? = some u → wx.cell? ⟨b2, o2 + k * 9 + j, none⟩ = some u) := ⟨fun wx hx j u hj => by
          have hjl := (List.getElem?_eq_some_iff.1 hj).1
          rw [mcell_len] at hjl
          exact (H2.out.below (HB.out.trans (hx.mono HB.out.size)) (fun b hb => hb) (fun b hb => hb)).cell hk2 j hjl (by simpa using hj)⟩
        have HS : Keep (∀ wx, Below wr.heap.size wr wx → Calls Tryz.prog 37 #[.agg (mcell l1[k]).toList.toArray, .agg (mcell l2[k]).toList.toArray] wx fun e w' => e = .returned (.bool r) ∧ Below wx.heap.size wx w') := ⟨fun wx hx => by
          have hbx := HB.out.trans (hx.mono HB.out.size)
          have hsx := hbx.size
          simp only [Array.toArray_toList]
          refine (same_ref _ _ _ _ _ _ wx ((H1.out.nd _ (List.getElem_mem hk1)).below hbx (fun b hb => hb) |>.mono (fun b hb => Nat.lt_of_lt_of_le hb hsx)) ((H2.out.nd _ (List.getElem_mem hk2)).below hbx (fun b hb => hb) |>.mono (fun b hb => Nat.lt_of_lt_of_le hb hsx))).mono ?_
          rintro e w' ⟨he, hb⟩
          exact ⟨he.det hr, hb⟩⟩
        have HST : Keep (r = true → (l1.map (·.1)).take (k + 1) = (l2.map (·.1)).take (k + 1)) := ⟨fun e => by
          rw [List.take_succ_eq_append_getElem (by simpa using hk1), List.take_succ_eq_append_getElem (by simpa using hk2), HEQ.out]
          simp [hr.1 e]⟩
        have HNE : Keep (r = false → ¬ P) := ⟨fun e h => by
          have h := HP.out.1 h
          have : (l1.map (·.1))[k]'(by simpa using hk1) = (l2.map (·.1))[k]'(by simpa using hk2) := by simp only [h]
          simp only [List.getElem_map] at this
          rw [hr.2 this] at e; cases e⟩
        have hs1 : (Tryz.prog.info? 32).map (·.size) = some (mcell l1[k]).toList.length := by rw [mcell_len]; exact aggM.i
        have hs2 : (Tryz.prog.info? 32).map (·.size) = some (mcell l2[k]).toList.length := by rw [mcell_len]; exact aggM.i
        generalize (mcell l1[k]).toList = x1 at *
        generalize (mcell l2[k]).toList = x2 at *
        have HS1 := Keep.keep hs1; have HS2 := Keep.keep hs2
        clear hr hs1 hs2
        go_upto_region 6 with fail
        refine wp_region_cls (fun w' => Below wr.heap.size wr w') (by kernel_rfl) (by kernel_rfl) (Below.refl _ _).drew ?_
        repeat (first
          | ((with_reducible refine cls_call (f := 37) ?_ (Go.Proofs.enters_of Tryz.func37 (by kernel_rfl) rfl) ?_ (fun w1 hw1 => (HS.out w1 hw1).mono (fun e w2 he => ⟨he.1, hw1.trans (he.2.mono hw1.size)⟩)) ?_); (focus rfl); (focus (first | exact Array.map_empty | (simp only [List.map_toArray, List.map_cons, List.map_nil]; rfl))); simp only [Act.put, List.setIfInBounds_toArray, List.set_cons_succ, List.set_cons_zero])
          | ((with_reducible refine cls_agg ?_ HX1.out Tryz.underlying32 rfl HS1.out ?_ ?_); (focus rfl); (focus rfl); simp only [Act.put, List.setIfInBounds_toArray, List.set_cons_succ, List.set_cons_zero])
          | ((with_reducible refine cls_agg ?_ HX2.out Tryz.underlying32 rfl HS2.out ?_ ?_); (focus rfl); (focus rfl); simp only [Act.put, List.setIfInBounds_toArray, List.set_cons_succ, List.set_cons_zero])
          | (first | go_big_quiet_step (fail) | (go_big_quiet_want; go_big_quiet_op; (refine ⟨_, fun _ _ => rfl, ?_⟩); go_big_quiet_on)))
        (refine wpQuiet_nil ?_); intro w6 hw6
        have HB6 := Keep.keep (HB.out.trans (hw6.mono HB.out.size))
        clear hw6
        cases r with
        | true =>
          have HE := Keep.keep (HST.out rfl)
          go_wp2_with fail
          go_roundg g
          case measure => omega
          case rel => exact ⟨k + 1, by omega, by simp, HE.out, HB6.out⟩
        | false =>
          have HE := Keep.keep (HNE.out rfl)
          go_wp2_with fail
          go_ret
          exact ⟨⟨false, rfl, ⟨fun h => (by cases h), fun h => (HE.out h).elim⟩⟩, HB6.out⟩
  · have hne : ((l1.length : Int) == (l2.length : Int)) = false := by simp; omega
    have HL := Keep.keep hl
    clear hl
    go_enter Tryz.func12, Tryz.ntmps12
    go_wp2_with fail
    go_ret
    exact ⟨⟨false, rfl, ⟨fun h => (by cases h), fun h => (HL.out (by have := congrArg List.length (HP.out.1 h); simpa using this)).elim⟩⟩, Below.refl _ _⟩
end Go.Proofs.YtphgmkhbhboklaaGreatDoor
/- portolanlaw12.Alike of one Member each. -/
namespace Go.Proofs.YtphgmkhbhboklaaGreatDoor
open Go.RowKit
theorem alike_one (w : World) (k : Int) (mo : Int) (u : Int) (g : Int) (t : Int) (at_ : List (Tx × Tx)) (da : Tx) (li : Tx) (a7 : Option Addr) (l7 c7 : Nat) (d7 : Option Addr) (n7 e7 : Nat) (a8 : Option Addr) (l8 c8 : Nat) (a9 : Option Addr) (l9 c9 : Nat) (h1 : NdR w (· < w.heap.size) ⟨k, mo, u, g, t, at_, da, li⟩ (.slice a7 l7 c7) (.slice d7 n7 e7)) (h2 : NdR w (· < w.heap.size) ⟨k, mo, u, g, t, at_, da, li⟩ (.slice a8 l8 c8) (.slice a9 l9 c9)) :
    Calls Tryz.prog 12 #[.slice (some ⟨w.heap.size, 0, none⟩) 1 1, .slice (some ⟨w.heap.size + 1, 0, none⟩) 1 1] ((w.alloc (.cells #[.string ⟨#[]⟩, .int .i64 k, .int .u32 mo, .int .u32 u, .int .u32 g, .int .i64 t, .slice a7 l7 c7, .slice d7 n7 e7, .string ⟨li.toArray⟩] 32)).alloc (.cells #[.string ⟨#[]⟩, .int .i64 k, .int .u32 mo, .int .u32 u, .int .u32 g, .int .i64 t, .slice a8 l8 c8, .slice a9 l9 c9, .string ⟨li.toArray⟩] 32)) fun e w' => e = .returned (.bool true) ∧ Below w.heap.size w w' := by
  obtain ⟨wa, hwa⟩ : ∃ wa, w.alloc (.cells #[.string ⟨#[]⟩, .int .i64 k, .int .u32 mo, .int .u32 u, .int .u32 g, .int .i64 t, .slice a7 l7 c7, .slice d7 n7 e7, .string ⟨li.toArray⟩] 32) = wa := ⟨_, rfl⟩
  have hba : Below w.heap.size w wa := hwa ▸ (Below.refl _ w).alloc (Nat.le_refl _) _
  have hsa : wa.heap.size = w.heap.size + 1 := by rw [← hwa]; simp
  have r1 : RdV wa (· < wa.heap.size) 9 (.slice (some ⟨w.heap.size, 0, none⟩) 1 1) 1 [.string ⟨#[]⟩, .int .i64 k, .int .u32 mo, .int .u32 u, .int .u32 g, .int .i64 t, .slice a7 l7 c7, .slice d7 n7 e7, .string ⟨li.toArray⟩] := by
    rw [← hwa]
    exact RdV.new 32 _ 9 1 _ rfl rfl (by unfold maxLen; omega) (by simp)
  rw [hwa]
  obtain ⟨wb, hwb⟩ : ∃ wb, wa.alloc (.cells #[.string ⟨#[]⟩, .int .i64 k, .int .u32 mo, .int .u32 u, .int .u32 g, .int .i64 t, .slice a8 l8 c8, .slice a9 l9 c9, .string ⟨li.toArray⟩] 32) = wb := ⟨_, rfl⟩
  have hbb : Below wa.heap.size wa wb := hwb ▸ (Below.refl _ wa).alloc (Nat.le_refl _) _
  have hsb : wb.heap.size = wa.heap.size + 1 := by rw [← hwb]; simp
  have r2 : RdV wb (· < wb.heap.size) 9 (.slice (some ⟨w.heap.size + 1, 0, none⟩) 1 1) 1 [.string ⟨#[]⟩, .int .i64 k, .int .u32 mo, .int .u32 u, .int .u32 g, .int .i64 t, .slice a8 l8 c8, .slice a9 l9 c9, .string ⟨li.toArray⟩] := by
    rw [← hwb]
    exact RdV.new 32 _ 9 1 _ hsa.symm rfl (by unfold maxLen; omega) (by simp; omega)
  rw [hwb]
  have hbw : Below w.heap.size w wb := hba.trans (hbb.mono (by omega))
  have m1 : Mbs wb (· < wb.heap.size) (· < wb.heap.size) (.slice (some ⟨w.heap.size, 0, none⟩) 1 1) [(([], ⟨k, mo, u, g, t, at_, da, li⟩), .slice a7 l7 c7, .slice d7 n7 e7)] :=
    ⟨(r1.loc (fun b hb => hbb.block b hb)).mono (fun b hb => by omega), fun x hx => by
      obtain rfl : x = (([], ⟨k, mo, u, g, t, at_, da, li⟩), .slice a7 l7 c7, .slice d7 n7 e7) := by simpa using hx
      exact (h1.below hbw (fun b hb => hb)).mono (fun b hb => by omega)⟩
  have m2 : Mbs wb (· < wb.heap.size) (· < wb.heap.size) (.slice (some ⟨w.heap.size + 1, 0, none⟩) 1 1) [(([], ⟨k, mo, u, g, t, at_, da, li⟩), .slice a8 l8 c8, .slice a9 l9 c9)] :=
    ⟨r2, fun x hx => by
      obtain rfl : x = (([], ⟨k, mo, u, g, t, at_, da, li⟩), .slice a8 l8 c8, .slice a9 l9 c9) := by simpa using hx
      exact (h2.below hbw (fun b hb => hb)).mono (fun b hb => by omega)⟩
  refine (alike_any _ _ _ _ wb m1 m2).mono ?_
  rintro e w' ⟨⟨r, rfl, hr⟩, hb⟩
  obtain rfl : r = true := hr.2 rfl
  exact ⟨rfl, hbw.trans (hb.mono (by omega))⟩
end Go.Proofs.YtphgmkhbhboklaaGreatDoor
