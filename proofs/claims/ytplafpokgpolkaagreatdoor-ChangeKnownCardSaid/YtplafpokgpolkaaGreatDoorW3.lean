/- PARTS OF ONE PROOF, set in one file: TreeCopy, ChApply, Conv, ConvS, Tr19, GrwL. Each part tells its own conditions. -/
import Derived.Shelf.Bytes.SlEqualAll
import Derived.Lib.SlBytesConst
import Derived.Lib.SmallJoins
import Derived.Test.YtplafpokgpolkaaGreatDoorW2
/- tree.Copy: a tree that lives apart. -/
namespace Go.Proofs.YtplafpokgpolkaaGreatDoor
open Go.RowKit
/-- what has come, when one more comes -/
theorem came_put {L : List Mb} (h : SM.Srt L) {todo : Tx → Bool} {p : Tx} {n : Nd} (hp : todo p = true) (hl : SM.look L p = some n) : L.filter (fun x => !(todo x.1 && x.1 != p)) = SM.put (L.filter (fun x => !todo x.1)) (p, n) := by
  have hs : SM.Srt (L.filter (fun x => !todo x.1)) := h.filter _
  have h2 : SM.Srt (L.filter (fun x => !(todo x.1 && x.1 != p))) := h.filter _
  refine h2.ext (hs.put _) (fun q => ?_)
  rw [hs.look_put, h.look_filter (fun k => !(todo k && k != p)), h.look_filter (fun k => !todo k)]
  by_cases e : q = p
  · subst e
    simp [hl]
  · simp [e]
def cpT (W : World) (T2 m2 : Nat) (p : Tx) (n : Nd) (av dv : Value) : Nat → Value → World → Prop
  | 0, v, _ => v = .pointer (some ⟨T2, 0, none⟩)
  | 1, v, _ => v = .pointer (some ⟨T2, 0, none⟩)
  | 2, v, _ => v = .pointer (some ⟨T2, 0, none⟩)
  | 3, v, _ => v = .map (some m2)
  | 4, v, _ => v = .string ⟨p.toArray⟩
  | 5, v, _ => v = .agg (ndC n av dv)
  | _, v, w => ∃ av' dv', v = .agg (ndC n av' dv') ∧ NdR w (Fresh W.heap.size w) n av' dv'
theorem cpT_stays {W : World} {T2 m2 : Nat} {p : Tx} {n : Nd} {av dv : Value} (k : Nat) (v : Value) (w w' : World) (h : cpT W T2 m2 p n av dv k v w) (hb : Below w.heap.size w w') : cpT W T2 m2 p n av dv k v w' := by
  unfold cpT at h ⊢
  split at h
  · exact h
  · exact h
  · exact h
  · exact h
  · exact h
  · exact h
  · obtain ⟨a, d, h1, h2⟩ := h
    exact ⟨a, d, h1, (h2.below hb (fun b hb => hb.2)).mono (fun b hb' => hb'.mono (Nat.le_refl _) hb.size)⟩
set_option maxHeartbeats 4000000 in
set_option maxRecDepth 100000 in
theorem copy_tree (T mb : Nat) (Bk : Nat → Prop) (f : Tx → Value × Value) (L : List Mb) (w : World) (h : TreeIn w T mb Bk f L) (hBk : ∀ b, Bk b → b < w.heap.size) (hL : L.length ≤ 100000) :
    Calls Tryz.prog 31 #[.pointer (some ⟨T, 0, none⟩)] w fun e w' => ∃ T2 m2 Bk2 f2, e = .returned (.pointer (some ⟨T2, 0, none⟩)) ∧ TreeIn w' T2 m2 Bk2 f2 L ∧ (w.heap.size ≤ T2 ∧ w.heap.size ≤ m2 ∧ ∀ b, Bk2 b → Fresh w.heap.size w' b) ∧ Below w.heap.size w w' := by
  have HT := Keep.keep h; have HBK := Keep.keep hBk
  have HN := Keep.keep (none_ok T mb w h.row)
  have hmbw := h.map.lt
  have hTw := h.row.lt
  clear h hBk
  go_enter Tryz.func31, Tryz.ntmps31
  go_wp2_with fail
  refine HN.out.mono ?_
  rintro e w' ⟨rfl, rfl⟩
  have hmm := @run_makeMap Tryz.prog
  go_upto_region 4 with fail
  refine wp_world (R := fun w2 => Hp NoM w w2 [trA (w.heap.size + 1) w.heap.size (fun _ => False) (fun _ => (nilV, nilV)) []]) ?_ ?_
  · have h1 := Hp.begin NoM w
    have hb2 : Below w.heap.size w ((w.alloc (Obj.map #[] 0)).alloc (Obj.cells #[Value.map (some w.heap.size)] 86)) := ((Below.refl _ _).alloc (Nat.le_refl _) _).alloc (by simp) _
    have hm1 := MapS.made (k := 9) w
    exact h1.push (trA (w.heap.size + 1) w.heap.size (fun _ => False) (fun _ => (nilV, nilV)) []) (.of_below hb2)
      ⟨Row.new' (by simp) rfl, hm1.loc (Below.heap_alloc _ _ _ hm1.lt), (fun m hm => (List.not_mem_nil hm).elim), (fun m hm => (List.not_mem_nil hm).elim), ⟨by omega, fun h => h, fun h => h⟩⟩
      (fun b hb => by rcases hb with rfl | rfl | h
                      · simp
                      · simp; omega
                      · exact h.elim)
  intro w2 H2
  obtain ⟨m2, hm2⟩ : ∃ m2, w.heap.size = m2 := ⟨_, rfl⟩
  have HM2 := Keep.keep hm2
  obtain ⟨T2, hT2⟩ : ∃ T2, m2 + 1 = T2 := ⟨_, rfl⟩
  have HT2E := Keep.keep hT2
  rw [hm2, hT2] at H2 ⊢
  clear hmm hm2 hT2
  have hT2w : TreeIn w2 T mb Bk f L := HT.out.loc (fun b hb => H2.out.below.block b (by
    rcases hb with rfl | rfl | h
    · exact hTw
    · exact hmbw
    · exact HBK.out b h))
  have cT := hT2w.row.cell (i := 0) rfl
  have HM := Keep.keep hT2w.map
  have HSR := Keep.keep HT.out.srt
  have HSM := Keep.keep HT.out.sm
  have HND := Keep.keep HT.out.nd
  have HEL : Keep ((entries f L).length = L.length) := ⟨by simp [entries]⟩
  have hs2 := H2.out.size
  have hT2lt : T2 < w2.heap.size := by
    have := (H2.out.p _ (List.mem_of_getElem? (i := 0) rfl)).2 T2 (.inl rfl)
    exact this.2
  clear hT2w HN
  go_wp2_with (first | (with_reducible refine arm_sRange ?_) | (with_reducible refine arm_sNext ?_) | (with_reducible refine arm_sDel ?_) | (with_reducible refine arm_sPut ?_) | (with_reducible refine arm_sIns ?_))
  refine StM.out ?_
  refine arm_rangeS Tryz.underlying9 Tryz.underlying84 HM.out rfl ?_
  intro w3 hrg hb3 hs3
  obtain ⟨r, hr⟩ : ∃ r, w2.heap.size = r := ⟨_, rfl⟩
  have HRE : Keep (w.heap.size ≤ r ∧ mb < r ∧ T2 < r ∧ m2 < r) := ⟨by have := HT2E.out; omega⟩
  have H3 := Keep.keep (H2.out.call hb3)
  rw [hr] at hrg ⊢
  have HRG := Keep.keep hrg
  clear hrg hb3 hs3 hr cT HM H2 hs2 hT2lt
  simp only [Act.put, List.setIfInBounds_toArray, List.set_cons_succ, List.set_cons_zero]
  go_wp2_with fail
  go_loopg [4] L.length (fun g _ wx => ∃ (todo : Tx → Bool) (Bk2 : Nat → Prop) (f2 : Tx → Value × Value), RgS wx 9 mb r (entries f L) todo g ∧ Hp NoM w wx [trA T2 m2 Bk2 f2 (L.filter (fun x => !todo x.1))] ∧ ∀ b, Bk2 b → r < b)
  case atStart =>
    refine ⟨_, fun _ => False, fun _ => (nilV, nilV), by rw [← HEL.out]; exact HRG.out, ?_, fun b hb => hb.elim⟩
    have e0 : L.filter (fun x => !(SM.look (entries f L) x.1).isSome) = [] := by
      rw [List.filter_eq_nil_iff]
      intro x hx
      rw [look_entries, HSR.out.look.2 hx]; simp
    rw [e0]
    exact H3.out
  case round =>
    obtain ⟨todo, Bk2, f2, hrg, hH, hbr⟩ := hrel
    have HRG2 := Keep.keep hrg; have HH := Keep.keep hH; have HBR := Keep.keep hbr
    clear hrg hH hbr HRG H3
    go_wp2_with (first | (with_reducible refine arm_sRange ?_) | (with_reducible refine arm_sNext ?_) | (with_reducible refine arm_sDel ?_) | (with_reducible refine arm_sPut ?_) | (with_reducible refine arm_sIns ?_))
    refine StM.out ?_
    refine arm_nextS Tryz.underlying9 HRG2.out rfl ?_ ?_
    · intro h0 hall
      have e0 : L.filter (fun x => !todo x.1) = L := by
        rw [List.filter_eq_self]
        intro x _
        simp [hall]
      rw [e0] at HH
      clear h0 hall e0
      simp only [Act.put, List.setIfInBounds_toArray, List.set_cons_succ, List.set_cons_zero]
      go_wp2_with fail
      go_ret
      refine ⟨T2, m2, Bk2, f2, rfl, HH.out.get 0 rfl, ?_, HH.out.below⟩
      refine ⟨HH.out.new 0 rfl (b := T2) (.inl rfl) |>.1, HH.out.new 0 rfl (b := m2) (.inr (.inl rfl)) |>.1, fun b hb => HH.out.new 0 rfl (b := b) (.inr (.inr hb))⟩
    · intro p v w4 cnt' h1 h2 h3 h4 h5 h6 hen
      obtain ⟨n, hln, hve⟩ : ∃ n, SM.look L p = some n ∧ v = .agg (ndC n (f p).1 (f p).2) := by
        rw [look_entries] at h2
        cases hl : SM.look L p with
        | none => rw [hl] at h2; cases h2
        | some n => rw [hl] at h2; injection h2 with h2; exact ⟨n, rfl, h2.symm⟩
      have hmem := SM.look_mem hln
      have HCP := Keep.keep (came_put HSR.out h1 hln)
      have HNX := Keep.keep (HND.out _ hmem)
      have HSX := Keep.keep (HSM.out _ hmem)
      have HLN : Keep ((L.filter (fun x => !todo x.1)).length ≤ L.length) := ⟨List.length_filter_le _ _⟩
      obtain ⟨aa, la, ca, ad, ld, cd, e1, e2⟩ := HNX.out.shape
      dsimp only at e1 e2 HNX
      rw [e1, e2] at HNX hve
      have HRG4 := Keep.keep h3
      have hne5 : ∀ b, b < wr.heap.size → b ≠ r → w4.heap[b]? = wr.heap[b]? := fun b hb hn => h5.block b hb hn
      have hr4 := HRG2.out.lt.2.1
      have H4 : Keep (Hp NoM w w4 [trA T2 m2 Bk2 f2 (L.filter (fun x => !todo x.1))]) := ⟨by
        refine HH.out.grownBy (row := some r) ⟨h5.os, h5.tape, h5.output, h5.size, fun k hk hm => h5.block k hk (fun e => hm (by rw [e]))⟩ (fun r' e => ?_)
        injection e with e
        subst e
        refine ⟨HRE.out.1, fun A hA => ?_⟩
        obtain rfl := List.mem_singleton.1 hA
        rintro (h | h | h)
        · have := HRE.out.2.2.1; omega
        · have := HRE.out.2.2.2; omega
        · have := HBR.out _ h; omega⟩
      have hs4 := h5.size
      clear h1 h2 h3 h5 h6 e1 e2 HRG2 HH hmem
      subst hve
      have HNC : Keep (ndC n (.slice aa la ca) (.slice ad ld cd) = #[.int .i64 n.kind, .int .u32 n.mode, .int .u32 n.uid, .int .u32 n.gid, .int .i64 n.time, .slice aa la ca, .slice ad ld cd, .string ⟨n.link.toArray⟩]) := ⟨rfl⟩
      rw [HNC.out] at hen ⊢
      simp only [Act.put, List.setIfInBounds_toArray, List.set_cons_succ, List.set_cons_zero]
      go_upto_region 7 with fail
      refine wp_world (R := fun w5 => (Hp NoM w w5 [trA T2 m2 Bk2 f2 (L.filter (fun x => !todo x.1)), rowA w4.heap.size 30 #[.int .i64 n.kind, .int .u32 n.mode, .int .u32 n.uid, .int .u32 n.gid, .int .i64 n.time, .slice aa la ca, .slice ad ld cd, .string ⟨n.link.toArray⟩]]) ∧ RgS w5 9 mb r (entries f L) (fun q => todo q && q != p) cnt') ⟨H4.out.newRow _ _, HRG4.out.loc (Below.heap_alloc _ _ _ HRG4.out.lt.1) (Below.heap_alloc _ _ _ HRG4.out.lt.2.1)⟩ ?_
      intro w5 H5
      obtain ⟨b5, hb5⟩ : ∃ b5, w4.heap.size = b5 := ⟨_, rfl⟩
      rw [hb5] at H5 ⊢
      have hs5 := (H5.out.1.row 1 rfl).lt
      have hrg5 := H5.out.2.lt
      clear hen H4 HRG4
      refine wp_region_spcT 7 [21, 22, 23, 24, 25, 26, 27] (Below w5.heap.size w5) (cpT w5 T2 m2 p n (.slice aa la ca) (.slice ad ld cd)) (fun w w' => Below w.heap.size w w') (by kernel_rfl) rfl (by decide) (by show ∀ d ∈ _, d < 29; decide) (by kernel_rfl) (by decide) (by kernel_rfl) (by kernel_rfl) (by kernel_rfl) (Below.refl _ _).drew (fun i v w w' h _ hb => cpT_stays i v w w' h hb) ?_ ?_
      · intro q hq a1 w6 hF hC hT
        have b3 : a1.eval (.tmp 3) = .pointer (some ⟨T2, 0, none⟩) := (hF.same 3 (by decide)).trans rfl
        have b4 : a1.eval (.tmp 4) = .string ⟨p.toArray⟩ := (hF.same 4 (by decide)).trans rfl
        have b5e : a1.eval (.tmp 5) = .pointer (some ⟨b5, 0, none⟩) := (hF.same 5 (by decide)).trans rfl
        have hkr : Below w6.heap.size w6 w6 := Below.refl _ _
        have HP := H5.out.1.call hC
        have hRC := HP.row 1 rfl
        have hTW := (HP.get 0 rfl).row
        rcases (by omega : q = 0 ∨ q = 1 ∨ q = 2 ∨ q = 3 ∨ q = 4 ∨ q = 5 ∨ q = 6) with rfl | rfl | rfl | rfl | rfl | rfl | rfl
        · exact spcS_val (d := 21) rfl (wanted_none rfl) run_move hC hkr b3
        · have hx : a1.eval (.tmp 21) = .pointer (some ⟨T2, 0, none⟩) := hT 0 (by decide) (by kernel_rfl)
          exact spcS_val (d := 22) rfl (wanted_none rfl) (by simp [execOp, hx]) hC hkr rfl
        · have hx : a1.eval (.tmp 22) = .pointer (some ⟨T2, 0, none⟩) := hT 1 (by decide) (by kernel_rfl)
          exact spcS_val (d := 23) rfl (wanted_none rfl) (run_fieldAddr (m := 0) Tryz.underlying86 rfl (by kernel_rfl) hx) hC hkr rfl
        · have hx : a1.eval (.tmp 23) = .pointer (some ⟨T2, 0, none⟩) := hT 2 (by decide) (by kernel_rfl)
          exact spcS_val (d := 24) rfl (wanted_none rfl) (run_loadCell (run_isAgg_plain Tryz.underlying84 rfl) (hTW.cell (i := 0) rfl) hx) hC hkr rfl
        · exact spcS_val (d := 25) rfl (wanted_none rfl) run_move hC hkr b4
        · have hld := hRC.loadAt (P := Tryz.prog) 30 _ Tryz.underlying30 rfl (by kernel_rfl)
          exact spcS_val (d := 26) rfl (wanted_none rfl) (by unfold execOp; simp only [b5e, Sem.run_bind, Sem.run_pure, Result.andThen_ok, hld]; rfl) hC hkr rfl
        · have hx : a1.eval (.tmp 26) = .agg (ndC n (.slice aa la ca) (.slice ad ld cd)) := hT 5 (by decide) (by kernel_rfl)
          refine spcS_call (d := 27) (vs := #[.agg (ndC n (.slice aa la ca) (.slice ad ld cd))]) rfl (wanted_none rfl) (Go.Proofs.enters_of Tryz.func58 (by kernel_rfl) rfl) (by simp [hx]) ?_
          have hsz6 := HP.size
          refine (clone_node n _ _ w6 ((HNX.out.below HP.below (fun b hb => HBK.out b hb)).mono (fun b hb => by have := HBK.out b hb; omega)) HSX.out.a (Nat.le_trans HSX.out.d (by decide))).mono ?_
          rintro e wz ⟨a', d', rfl, hn', hb⟩
          exact ⟨_, rfl, hC.trans (hb.mono hC.size), hb, a', d', rfl, hn'.mono (fun b hb' => hb'.mono hC.size (Nat.le_refl _))⟩
      · intro a2 w6 ha hC hT
        have t3 : slot a2 24 = .map (some m2) := hT 3 (by decide)
        have t5 : slot a2 25 = .string ⟨p.toArray⟩ := hT 4 (by decide)
        obtain ⟨av', dv', t8, hn'⟩ : ∃ av' dv', slot a2 27 = .agg (ndC n av' dv') ∧ NdR w6 (Fresh w5.heap.size w6) n av' dv' := hT 6 (by decide)
        simp only [List.foldl_cons, List.foldl_nil, t3, t5, t8] at ha
        clear hT t3 t5 t8
        generalize slot a2 21 = y21 at *
        generalize slot a2 22 = y22 at *
        generalize slot a2 23 = y23 at *
        generalize slot a2 26 = y26 at *
        have HN' := Keep.keep hn'
        have H6 := Keep.keep (H5.out.1.call hC)
        have HS6 := Keep.keep hC.size
        have HC6 := Keep.keep hC
        have HRG6 : Keep (RgS w6 9 mb r (entries f L) (fun q => todo q && q != p) cnt') := ⟨H5.out.2.loc (hC.block _ hrg5.1) (hC.block _ hrg5.2.1)⟩
        clear hn' hC
        subst ha
        simp only [List.drop_succ_cons, List.drop_zero]
        simp only [Act.put, List.setIfInBounds_toArray, List.set_cons_succ, List.set_cons_zero]
        have hT6 : TreeIn w6 T2 m2 Bk2 f2 (L.filter (fun x => !todo x.1)) := H6.out.get 0 rfl
        have hbk6 : ∀ b, Bk2 b → b < w5.heap.size := fun b hb => ((H5.out.1.p _ (List.mem_of_getElem? (i := 0) rfl)).2 b (.inr (.inr hb))).2
        have hT6lt : T2 < w5.heap.size ∧ m2 < w5.heap.size := ⟨((H5.out.1.p _ (List.mem_of_getElem? (i := 0) rfl)).2 T2 (.inl rfl)).2, ((H5.out.1.p _ (List.mem_of_getElem? (i := 0) rfl)).2 m2 (.inr (.inl rfl))).2⟩
        have HT6 := Keep.keep hT6; have HBK6 := Keep.keep hbk6; have HLT6 := Keep.keep hT6lt
        have hel : (entries f2 (L.filter (fun x => !todo x.1))).length < maxLen := by
          have := HLN.out
          simp only [entries, List.length_map]
          unfold maxLen; omega
        clear hT6 hbk6 hT6lt
        go_wp2_with (first | (with_reducible refine arm_sRange ?_) | (with_reducible refine arm_sNext ?_) | (with_reducible refine arm_sDel ?_) | (with_reducible refine arm_sPut ?_) | (with_reducible refine arm_sIns ?_))
        refine StM.out ?_
        refine arm_putS Tryz.underlying9 Tryz.underlying84 HT6.out.map (p := p) (by have := HSX.out.p; dsimp only at this; unfold maxLen; omega) hel rfl rfl rfl ?_
        intro w7 hm7 hc7
        have hs6 := HS6.out
        have hs7 := hc7.size
        have hfin := HT6.out.put (Bk' := fun b => Bk2 b ∨ Fresh w5.heap.size w6 b) (fun b hb => by have := HBK6.out b hb; omega) (p, n) av' dv' HSX.out hm7 hc7 (HN'.out.mono (fun b hb => .inr hb)) (fun b hb => .inl hb) (fun b hb => by
          rcases hb with hb | hb
          · have h1 := HBK6.out b hb
            exact ⟨by omega, fun e => HT6.out.ne.2.1 (e ▸ hb), fun e => HT6.out.ne.2.2 (e ▸ hb)⟩
          · have h1 := hb.1
            have h2 := HLT6.out
            exact ⟨hb.2, by omega, by omega⟩)
        rw [← HCP.out] at hfin
        have hch : Chg (fun j => (trA T2 m2 Bk2 f2 (L.filter (fun x => !todo x.1))).blk j) w5.heap.size w5 w7 := ((Chg.of_below (M := fun j => (trA T2 m2 Bk2 f2 (L.filter (fun x => !todo x.1))).blk j) HC6.out)).trans ((hc7.lower HS6.out).mono (Nat.le_refl _) (fun j hj => .inr (.inl hj)))
        have H7 := Keep.keep (H5.out.1.upd 0 rfl (trA T2 m2 (fun b => Bk2 b ∨ Fresh w5.heap.size w6 b) (fun q => if q = p then (av', dv') else f2 q) (L.filter (fun x => !(todo x.1 && x.1 != p)))) hch hfin (fun b hb => by
          rcases hb with h | h | h | h
          · exact .inl (.inl h)
          · exact .inl (.inr (.inl h))
          · exact .inl (.inr (.inr h))
          · exact .inr ⟨h.1, by have := h.2; omega⟩))
        have HRG7 : Keep (RgS w7 9 mb r (entries f L) (fun q => todo q && q != p) cnt') := ⟨HRG6.out.loc (hc7.block _ HRG6.out.lt.1 (by have := HRE.out; have := HM2.out; omega)) (hc7.block _ HRG6.out.lt.2.1 (by have := HRE.out; omega))⟩
        clear hfin hm7 hc7 hch
        simp only [Act.put]
        go_wp2_with fail
        go_roundg cnt'
        case measure => omega
        case rel =>
          refine ⟨_, (fun b => Bk2 b ∨ Fresh w5.heap.size w6 b), (fun q => if q = p then (av', dv') else f2 q), HRG7.out, H7.out.take 1, fun b hb => ?_⟩
          rcases hb with hb | hb
          · exact HBR.out b hb
          · have := hb.1; omega
end Go.Proofs.YtplafpokgpolkaaGreatDoor
/- change.Plain, keeps, Apply. -/
namespace Go.Proofs.YtplafpokgpolkaaGreatDoor
open Go.RowKit
def isPl (x : Mv) : Bool := decide (cls x.1 = 1)
theorem plain_map (l : List Mv) : (l.filter isPl).map (·.1) = plainC (l.map (·.1)) := by
  unfold plainC isPl
  rw [List.filter_map]; rfl
set_option maxHeartbeats 4000000 in
set_option maxRecDepth 100000 in
theorem plain_any (v : Value) (l : List Mv) (B : Nat) (w : World) (hT : Tabs B w) (K : Nat → Prop) (hK : ∀ b, K b → b < w.heap.size) (hr : Mbs w (· < w.heap.size) K v l) (hs : ∀ x ∈ l, Sm x.1) (hl : l.length ≤ 1000000) :
    Calls Tryz.prog 27 #[v] w fun e w' => ∃ v', e = .returned v' ∧ RowM w.heap.size K w' v' (l.filter isPl) ∧ Below w.heap.size w w' := by
  obtain ⟨a, cap, hv, hcap, hmx, h3⟩ := hr.rd.shape
  have HR := Keep.keep hr; have H3 := Keep.keep h3; have HT := Keep.keep hT; have HS := Keep.keep hs; have HKK := Keep.keep hK
  unfold maxLen at hmx
  clear hr h3 hT hs hK
  subst hv
  go_enter Tryz.func27, Tryz.ntmps27
  go_wp2_with fail
  go_loopg [3, 10] l.length (fun g u3 u10 wx => ∃ (k : Nat), k + g = l.length ∧ u10 = .int .i64 (k : Int) ∧ RowM w.heap.size K wx u3 ((l.take k).filter isPl) ∧ Below w.heap.size w wx)
  case atStart => exact ⟨0, by omega, rfl, RowM.nil _ _ _, Below.refl _ _⟩
  case round =>
    obtain ⟨k, hkg, rfl, hrow, hb⟩ := hrel
    have HRW := Keep.keep hrow; have HB := Keep.keep hb
    obtain ⟨a3, c3, hv3, -⟩ := (ownsV_reads hrow.own).shape
    clear hrow hb
    subst hv3
    cases gk with
    | zero =>
      obtain rfl : k = l.length := by omega
      have HTK : Keep (l.take l.length = l) := ⟨List.take_length⟩
      rw [HTK.out] at HRW ⊢
      go_wp2_with fail
      go_ret
      exact ⟨_, rfl, HRW.out, HB.out⟩
    | succ g =>
      have hk : k < l.length := by omega
      obtain ⟨b, off, rfl, hbl⟩ : ∃ b off, a = some ⟨b, off, none⟩ ∧ b < w.heap.size := by
        rcases H3.out with h | ⟨b, off, h, hb⟩
        · omega
        · exact ⟨b, off, h, hb⟩
      have hrx := HR.out.below HB.out (fun b hb => hb) HKK.out
      have hld := hrx.load hk
      have HTK : Keep ((l.take (k + 1)).filter isPl = (l.take k).filter isPl ++ (if isPl l[k] = true then [l[k]] else [])) := ⟨by
        rw [List.take_succ_eq_append_getElem hk, List.filter_append]
        cases h : isPl l[k] <;> simp [h]⟩
      have hsx := HS.out l[k] (List.getElem_mem hk)
      have HND := Keep.keep (HR.out.nd l[k] (List.getElem_mem hk))
      have hlen : ((l.take k).filter isPl).length ≤ k := Nat.le_trans (List.length_filter_le _ _) (by rw [List.length_take]; omega)
      clear hrx
      generalize l[k] = x at *
      generalize (l.take k).filter isPl = acc at *
      obtain ⟨⟨xp, ⟨kind, mode, uid, gid, time, attrs, data, link⟩⟩, av, dv⟩ := x
      obtain ⟨aa, la, ca, ad, ld, cd, e1, e2⟩ := HND.out.shape
      dsimp only at e1 e2 hsx HTK
      have hxp := hsx.p
      dsimp only at hxp
      subst e1 e2
      have HMC : Keep (mcell ((xp, ⟨kind, mode, uid, gid, time, attrs, data, link⟩), .slice aa la ca, .slice ad ld cd) = #[.string ⟨xp.toArray⟩, .int .i64 kind, .int .u32 mode, .int .u32 uid, .int .u32 gid, .int .i64 time, .slice aa la ca, .slice ad ld cd, .string ⟨link.toArray⟩]) := ⟨rfl⟩
      rw [HMC.out] at hld
      have HCL := Keep.keep (fun wx (hb : Below w.heap.size w wx) => class_any xp (by omega) B wx (Nat.le_trans HT.out.b hb.size) (HT.out.m.on (hb.mono HT.out.b)) (HT.out.c.on (hb.mono HT.out.b)))
      have HPL : Keep (isPl ((xp, ⟨kind, mode, uid, gid, time, attrs, data, link⟩), .slice aa la ca, .slice ad ld cd) = ((classP xp).1 == 1)) := ⟨rfl⟩
      obtain ⟨⟨cl, tg⟩, hcp⟩ : ∃ c, classP xp = c := ⟨_, rfl⟩
      rw [hcp] at HCL HPL
      dsimp only at HCL HPL
      clear hsx hcp
      go_wp2_with ((with_reducible refine arm_loadM hld ?_ ?_); (focus rfl); simp only [Act.put, List.setIfInBounds_toArray, List.set_cons_succ, List.set_cons_zero])
      refine calls_at (R := fun wq => Hp NoM wr wq [rowA wr.heap.size 32 #[.string ⟨xp.toArray⟩, .int .i64 kind, .int .u32 mode, .int .u32 uid, .int .u32 gid, .int .i64 time, .slice aa la ca, .slice ad ld cd, .string ⟨link.toArray⟩]]) ((Hp.begin NoM wr).newRow _ _) ?_
      intro w2 H2
      have hbw2 := HB.out.trans (H2.out.below.mono HB.out.size)
      refine (HCL.out w2 hbw2).mono ?_
      rintro e w3 ⟨rfl, hb3⟩
      have H3' := Keep.keep (H2.out.call hb3)
      have HB3 := Keep.keep (HB.out.trans (H3'.out.below.mono HB.out.size))
      have HRW3 := Keep.keep (HRW.out.below H3'.out.below)
      obtain ⟨b5, hb5⟩ : ∃ b5, wr.heap.size = b5 := ⟨_, rfl⟩
      have HB5 := Keep.keep hb5
      rw [hb5] at H3' ⊢
      have HMR := Keep.keep (H3'.out.row 0 rfl)
      have HSZ : Keep ((#[.string ⟨xp.toArray⟩, .int .i64 kind, .int .u32 mode, .int .u32 uid, .int .u32 gid, .int .i64 time, .slice aa la ca, .slice ad ld cd, .string ⟨link.toArray⟩] : Array Value).size = 9) := ⟨rfl⟩
      have hsw3 := HB3.out.size
      clear hb3 H2 HCL hbw2 hld HRW
      cases hz : (cl == 1) with
      | false =>
        rw [hz] at HPL
        rw [HPL.out, if_neg (by decide), List.append_nil] at HTK
        go_wp2_with fail
        go_roundg g
        case measure => omega
        case rel => exact ⟨k + 1, by omega, by simp, by rw [HTK.out]; exact HRW3.out, HB3.out⟩
      | true =>
        rw [hz] at HPL
        rw [HPL.out, if_pos rfl] at HTK
        go_wp2_with (first | ((with_reducible refine arm_loadRow HMR.out aggM HSZ.out ?_ ?_); (focus rfl); simp only [Act.put, List.setIfInBounds_toArray, List.set_cons_succ, List.set_cons_zero]) | (with_reducible refine arm_stop ?_))
        refine Stopped.out ?_
        have hal : Below w3.heap.size w3 (w3.alloc (.cells #[.string ⟨xp.toArray⟩, .int .i64 kind, .int .u32 mode, .int .u32 uid, .int .u32 gid, .int .i64 time, .slice aa la ca, .slice ad ld cd, .string ⟨link.toArray⟩] 32)) := (Below.refl _ _).alloc (Nat.le_refl _) _
        have HAL := Keep.keep hal
        have hrA := HRW3.out.below hal
        have hm : Mbs (w3.alloc (.cells #[.string ⟨xp.toArray⟩, .int .i64 kind, .int .u32 mode, .int .u32 uid, .int .u32 gid, .int .i64 time, .slice aa la ca, .slice ad ld cd, .string ⟨link.toArray⟩] 32)) (fun _ => True) K (.slice (some ⟨w3.heap.size, 0, none⟩) 1 1) [((xp, ⟨kind, mode, uid, gid, time, attrs, data, link⟩), .slice aa la ca, .slice ad ld cd)] :=
          ⟨RdV.new (N := fun _ => True) 32 [.string ⟨xp.toArray⟩, .int .i64 kind, .int .u32 mode, .int .u32 uid, .int .u32 gid, .int .i64 time, .slice aa la ca, .slice ad ld cd, .string ⟨link.toArray⟩] 9 1 _ rfl rfl (by unfold maxLen; omega) trivial, fun y hy => by
            obtain rfl : y = ((xp, ⟨kind, mode, uid, gid, time, attrs, data, link⟩), .slice aa la ca, .slice ad ld cd) := by simpa using hy
            exact ((HND.out.below HB3.out HKK.out).below (hal.mono HB3.out.size) HKK.out)⟩
        refine arm_appM (B := w.heap.size) hrA (Nat.le_trans hsw3 hal.size) hm (fun b hb => ⟨.inl hb, by have := HKK.out b hb; have := hal.size; omega, fun e => by have := (hrA.lt e).1; have := HKK.out b hb; omega⟩) (by simp; omega) rfl rfl ?_
        intro v4 w4 hr4 hg4 hov4 hsh4
        obtain ⟨a4, c4, rfl⟩ := hsh4
        have HR4 := Keep.keep hr4
        have HB4 : Keep (Below w.heap.size w w4) := ⟨(HB3.out.trans (hal.mono HB3.out.size)).trans (hrA.chg (Nat.le_trans hsw3 hal.size) hg4)⟩
        clear hr4 hg4 hov4 hm hrA hal HRW3 HAL
        simp only [Act.put, List.setIfInBounds_toArray, List.set_cons_succ, List.set_cons_zero]
        go_wp2_with fail
        go_roundg g
        case measure => omega
        case rel => exact ⟨k + 1, by omega, by simp, by rw [HTK.out]; exact HR4.out, HB4.out⟩
theorem ent_keeps1 : ∀ args w, (callFunc 102 args).run Tryz.prog w = .ok (.enter 102 args) w := enters_of Tryz.func102 (by kernel_rfl) rfl
theorem ent_stays : ∀ args w, (callFunc 64 args).run Tryz.prog w = .ok (.enter 64 args) w := enters_of Tryz.func64 (by kernel_rfl) rfl
set_option maxHeartbeats 1000000 in
set_option maxRecDepth 100000 in
theorem keeps1_any (x : Mv) (hs : Sm x.1) (hsh : NdS x) (b1 b2 b3 bf : Nat) (S : List Mb) (w : World) (h : EffIn w b1 b2 b3 S) (hc : w.cell? ⟨bf, 0, none⟩ = some (.func (.func 64) #[.agg #[.map (some b1), .map (some b2), .map (some b3)]] #[])) :
    Calls Tryz.prog 102 #[.agg (mcell x), .pointer (some ⟨bf, 0, none⟩)] w fun e w' => e = .returned (.bool (!staysC S x.1.1)) ∧ Below w.heap.size w w' := by
  obtain ⟨⟨xp, ⟨kind, mode, uid, gid, time, attrs, data, link⟩⟩, av, dv⟩ := x
  obtain ⟨aa, la, ca, ad, ld, cd, e1, e2⟩ := hsh
  dsimp only at e1 e2
  have hxp := hs.p
  dsimp only at hxp ⊢
  subst e1 e2
  have HMC : Keep (mcell ((xp, ⟨kind, mode, uid, gid, time, attrs, data, link⟩), .slice aa la ca, .slice ad ld cd) = #[.string ⟨xp.toArray⟩, .int .i64 kind, .int .u32 mode, .int .u32 uid, .int .u32 gid, .int .i64 time, .slice aa la ca, .slice ad ld cd, .string ⟨link.toArray⟩]) := ⟨rfl⟩
  rw [HMC.out]
  have hlt : bf < w.heap.size := World.block_lt_of_cell? w _ hc
  have HS : Keep (∀ wx, Below w.heap.size w wx → Calls Tryz.prog 64 #[.agg #[.map (some b1), .map (some b2), .map (some b3)], .string ⟨xp.toArray⟩] wx fun e w' => e = .returned (.bool (staysC S xp)) ∧ Below wx.heap.size wx w') := ⟨fun wx hb => stays_any b1 b2 b3 S xp (by omega) wx (h.below hb)⟩
  generalize staysC S xp = st at *
  have hent := ent_stays
  have HC : Keep (∀ wx, Below w.heap.size w wx → wx.cell? ⟨bf, 0, none⟩ = some (.func (.func 64) #[.agg #[.map (some b1), .map (some b2), .map (some b3)]] #[])) := ⟨fun wx hb => by rw [hb.cell (p := ⟨bf, 0, none⟩) hlt]; exact hc⟩
  clear h hc hs
  go_enter Tryz.func102, Tryz.ntmps102
  go_upto_region 1 with fail
  refine wp_world (R := fun w1 => Hp NoM w w1 [rowA w.heap.size 32 #[.string ⟨xp.toArray⟩, .int .i64 kind, .int .u32 mode, .int .u32 uid, .int .u32 gid, .int .i64 time, .slice aa la ca, .slice ad ld cd, .string ⟨link.toArray⟩]]) ((Hp.begin NoM w).newRow _ _) ?_
  intro w1 H1
  have hc := HC.out w1 H1.out.below
  have c0 := (H1.out.row 0 rfl).cell (i := 0) rfl
  go_wp2_with fail
  refine (HS.out w1 H1.out.below).mono ?_
  rintro e w2 ⟨rfl, hb2⟩
  have H2 := Keep.keep (H1.out.call hb2).below
  clear hb2
  go_wp2_with fail
  go_ret
  exact ⟨rfl, H2.out⟩
set_option maxHeartbeats 1000000 in
set_option maxRecDepth 100000 in
theorem keeps_any (v : Value) (l : List Mv) (base : Nat) (K : Nat → Prop) (b1 b2 b3 : Nat) (S : List Mb) (w : World) (hB : base ≤ w.heap.size) (hl : l.length ≤ 1000000) (hs : ∀ x ∈ l, Sm x.1) (h : RowM base K w v l) (hE : EffIn w b1 b2 b3 S) (hne : ∀ b, v.ownBlock = some b → b ≠ b1 ∧ b ≠ b2 ∧ b ≠ b3) :
    Calls Tryz.prog 62 #[v, .func (.func 64) #[.agg #[.map (some b1), .map (some b2), .map (some b3)]] #[]] w fun e w' => ∃ v', e = .returned v' ∧ RowM base K w' v' (l.filter fun x => staysC S x.1.1) ∧ v'.ownBlock = v.ownBlock ∧ Chg (fun b => v.ownBlock = some b) w.heap.size w w' := by
  have HH := Keep.keep h; have HE := Keep.keep hE
  have HLT := Keep.keep (fun b e => (h.lt (b := b) e).2)
  have HNS := Keep.keep (fun x hx => (h.nd x hx).shape)
  have hf2 : (fun x : Mv => !!staysC S x.1.1) = fun x => staysC S x.1.1 := by funext x; simp
  have HD : Keep (∀ w1 bf, Below w.heap.size w w1 → bf = w.heap.size → w1.cell? ⟨bf, 0, none⟩ = some (.func (.func 64) #[.agg #[.map (some b1), .map (some b2), .map (some b3)]] #[]) →
      Calls Tryz.prog 101 #[v, .func (.func 102) #[] #[.pointer (some ⟨bf, 0, none⟩)]] w1 fun e w' => ∃ v', e = .returned v' ∧ RowM base K w' v' (l.filter fun x => staysC S x.1.1) ∧ v'.ownBlock = v.ownBlock ∧ Chg (fun b => v.ownBlock = some b) w1.heap.size w1 w') := ⟨fun w1 bf hb hbf hc => by
    have := dfuncM 102 #[.pointer (some ⟨bf, 0, none⟩)] (fun m => !staysC S m.1) v l base K w1 ent_keeps1 (Nat.le_trans hB hb.size) (by omega) (fun wx hch x hx => by
      have hEx : EffIn wx b1 b2 b3 S := (hE.below hb).loc (fun b hb' => hch.block b (by
        have := (hE.below hb).lt
        rcases hb' with rfl | rfl | rfl <;> omega) (fun e => by
        have := hne b e
        rcases hb' with rfl | rfl | rfl <;> simp at this))
      have hcx : wx.cell? ⟨bf, 0, none⟩ = some (.func (.func 64) #[.agg #[.map (some b1), .map (some b2), .map (some b3)]] #[]) := by
        rw [hch.cell (p := ⟨bf, 0, none⟩) (World.block_lt_of_cell? w1 _ hc) (fun e => by have := HLT.out bf e; omega)]; exact hc
      have := keeps1_any x (hs x hx) (HNS.out x hx) b1 b2 b3 bf S wx hEx hcx
      simpa using this) (h.below hb)
    rw [hf2] at this
    exact this⟩
  obtain ⟨a, cap, hv, -⟩ := (ownsV_reads h.own).shape
  clear h hE hs hf2
  subst hv
  go_enter Tryz.func62, Tryz.ntmps62
  go_wp2_with fail
  refine calls_at (R := fun w1 => Below w.heap.size w w1 ∧ w1.cell? ⟨w.heap.size, 0, none⟩ = some (.func (.func 64) #[.agg #[.map (some b1), .map (some b2), .map (some b3)]] #[])) ⟨(Below.refl _ _).alloc (Nat.le_refl _) _, (Row.new w _ _).cell (i := 0) rfl⟩ ?_
  intro w1 H1
  refine (HD.out w1 _ H1.out.1 rfl H1.out.2).mono ?_
  rintro e w2 ⟨v2, rfl, hr2, ho2, hc2⟩
  have HR2 := Keep.keep hr2; have HO2 := Keep.keep ho2
  have HC2 : Keep (Chg (fun b => (Value.slice a l.length cap).ownBlock = some b) w.heap.size w w2) := ⟨(Chg.of_below H1.out.1).trans (hc2.lower H1.out.1.size)⟩
  obtain ⟨a2, c2, hv2, -⟩ := (ownsV_reads hr2.own).shape
  clear hr2 ho2 hc2
  subst hv2
  go_wp2_with fail
  go_ret
  exact ⟨_, rfl, HR2.out, HO2.out, HC2.out⟩
set_option maxHeartbeats 4000000 in
set_option maxRecDepth 100000 in
theorem apply_any (T mb : Nat) (Bk : Nat → Prop) (f : Tx → Value × Value) (A : List Mb) (v : Value) (l : List Mv) (B : Nat) (w : World) (hT : Tabs B w) (hTr : TreeIn w T mb Bk f A) (hBk : ∀ b, Bk b → b < w.heap.size) (hA : A.length ≤ 100000) (hr : Mbs w (· < w.heap.size) (· < w.heap.size) v l) (hs : ∀ x ∈ l, Sm x.1) (hl : l.length ≤ 100000) :
    Calls Tryz.prog 12 #[.pointer (some ⟨T, 0, none⟩), v] w fun e w' => (∃ pv, e = .returned (.tuple #[pv, .int .i64 (applyC A (l.map (·.1))).1]) ∧ NewIs w w' pv (applyC A (l.map (·.1))).2) ∧ Below w.heap.size w w' := by
  obtain ⟨a, cap, hv, hcap, hmx, h3⟩ := hr.rd.shape
  have HR := Keep.keep hr; have HT := Keep.keep hT; have HS := Keep.keep hs; have HBK := Keep.keep hBk; have HTR := Keep.keep hTr
  have HON : Keep (∀ wx, Below w.heap.size w wx → TreeIn wx T mb Bk f A) := ⟨fun wx hb => hTr.loc (fun b hb' => hb.block b (by
    rcases hb' with rfl | rfl | h
    · exact hTr.row.lt
    · exact hTr.map.lt
    · exact hBk b h))⟩
  have HMB : Keep (∀ wx, Below w.heap.size w wx → Mbs wx (· < wx.heap.size) (· < wx.heap.size) v l) := ⟨fun wx hb => (hr.below hb (fun b hb => hb) (fun b hb => hb)).mono (fun b hb' => Nat.lt_of_lt_of_le hb' hb.size) (fun b hb' => Nat.lt_of_lt_of_le hb' hb.size)⟩
  have HCP := Keep.keep (copy_tree T mb Bk f A w hTr hBk hA)
  have HAP : Keep (applyC A (l.map (·.1)) = if mayC (l.map (·.1)) ≠ 0 then (mayC (l.map (·.1)), none) else newT (A.filter (fun m => staysC (l.map (·.1)) m.1) ++ plainC (l.map (·.1)))) := ⟨rfl⟩
  have HSA := Keep.keep hTr.sm
  have hTlt := hTr.row.lt
  clear hr h3 hT hs hBk hTr
  unfold maxLen at hmx
  subst hv
  generalize hout : applyC A (l.map (·.1)) = out at *
  go_enter Tryz.func12, Tryz.ntmps12
  go_wp2_with fail
  refine HCP.out.mono ?_
  rintro e w1 ⟨T2, m2, Bk2, f2, rfl, -, -, hb1⟩
  have HB1 := Keep.keep hb1
  have HMY := Keep.keep (chmay_any _ l B w1 (HT.out.on (hb1.mono HT.out.b)) (HMB.out w1 hb1) HS.out (by omega))
  generalize mayC (l.map (·.1)) = me at *
  clear hb1 HCP
  go_wp2_with fail
  refine HMY.out.mono ?_
  rintro e w2 ⟨rfl, hb2⟩
  have HB2 := Keep.keep (HB1.out.trans (hb2.mono HB1.out.size))
  clear hb2 HMY
  cases hz : (me != 0) with
  | true =>
    have hz2 : me ≠ 0 := by simpa using hz
    have HX : Keep (out = (me, none)) := ⟨by rw [HAP.out, if_pos hz2]⟩
    go_wp2_with fail
    go_ret2
    exact ⟨⟨.pointer none, by rw [HX.out]; rfl, by rw [HX.out]; rfl⟩, HB2.out⟩
  | false =>
    have hz2 : me = 0 := by simpa using hz
    have HX : Keep (out = newT (A.filter (fun m => staysC (l.map (·.1)) m.1) ++ plainC (l.map (·.1)))) := ⟨by rw [HAP.out, if_neg (by simpa using hz2)]⟩
    have hsz2 := HB2.out.size
    have HAL := Keep.keep (all_own T mb Bk f A w2 hA (HON.out w2 HB2.out) ⟨by omega, by have := (HTR.out.map.lt); omega, fun b hb => by have := HBK.out b hb; omega⟩)
    clear hz
    go_wp2_with fail
    refine HAL.out.mono ?_
    rintro e w3 ⟨v6, l6, rfl, hl6, hm6, hb3⟩
    have HR6 : Keep (RowM w.heap.size (· < w.heap.size) w3 v6 l6) := ⟨(RowM.ofOwn hm6 (· < w.heap.size)).lower hsz2 (fun b hb => hb)⟩
    have HL6 := Keep.keep hl6
    have hn6 : l6.length = A.length := by rw [← hl6, List.length_map]
    have HB3 := Keep.keep (HB2.out.trans (hb3.mono HB2.out.size))
    have hsz3 := HB3.out.size
    obtain ⟨a6, c6, hv6, -⟩ := (ownsV_reads hm6.own).shape
    have HOF := Keep.keep (of_any _ l B w3 (HT.out.on (HB3.out.mono HT.out.b)) (HMB.out w3 HB3.out) HS.out (by omega))
    have HN6 := Keep.keep hn6
    rw [hn6] at hv6
    clear hl6 hm6 hb3 HAL hn6
    subst hv6
    go_wp2_with fail
    refine HOF.out.mono ?_
    rintro e w4 ⟨b1, b2, b3, rfl, hE, hge, hb4⟩
    have HB4 := Keep.keep (HB3.out.trans (hb4.mono HB3.out.size))
    have hsz4 := HB4.out.size
    have HKP := Keep.keep (keeps_any _ l6 w.heap.size (· < w.heap.size) b1 b2 b3 (l.map (·.1)) w4 hsz4 (by rw [HN6.out]; omega) (fun x hx => HSA.out x.1 (by rw [← HL6.out]; exact List.mem_map.2 ⟨x, hx, rfl⟩)) (HR6.out.below hb4) hE (fun b hb => by have := (HR6.out.lt hb).2; omega))
    clear hE hb4 HOF
    go_wp2_with fail
    refine HKP.out.mono ?_
    rintro e w5 ⟨v7, rfl, hr7, ho7, hc5⟩
    have HR7 := Keep.keep hr7
    have HB5 : Keep (Below w.heap.size w w5) := ⟨HB4.out.trans ((hc5.lower hsz4).below (fun k hk e => by have := (HR6.out.lt e).1; omega))⟩
    have hsz5 := HB5.out.size
    obtain ⟨a7, c7, hv7, -⟩ := (ownsV_reads hr7.own).shape
    have HPL := Keep.keep (plain_any _ l B w5 (HT.out.on (HB5.out.mono HT.out.b)) (fun b => b < w.heap.size) (fun b hb => by omega) ((HR.out.below HB5.out (fun b hb => hb) (fun b hb => hb)).mono (fun b hb => Nat.lt_of_lt_of_le hb hsz5) (fun b hb => hb)) HS.out (by omega))
    clear hr7 ho7 hc5 HKP
    obtain ⟨n7, hn7⟩ : ∃ n, (l6.filter fun x => staysC (l.map (·.1)) x.1.1).length = n := ⟨_, rfl⟩
    have HN7 := Keep.keep hn7
    have hn7l : n7 ≤ A.length := by rw [← hn7, ← HN6.out]; exact List.length_filter_le _ _
    rw [hn7] at hv7
    clear hn7
    subst hv7
    go_wp2_with fail
    refine HPL.out.mono ?_
    rintro e w6 ⟨v8, rfl, hr8, hb6⟩
    have HR8 := Keep.keep hr8
    have HR7' := Keep.keep (HR7.out.below hb6)
    have HB6 := Keep.keep (HB5.out.trans (hb6.mono HB5.out.size))
    have hsz6 := HB6.out.size
    have hsz56 := hb6.size
    obtain ⟨a8, c8, hv8, -⟩ := (ownsV_reads hr8.own).shape
    obtain ⟨n8, hn8⟩ : ∃ n, (l.filter isPl).length = n := ⟨_, rfl⟩
    have HN8 := Keep.keep hn8
    have hn8l : n8 ≤ l.length := by rw [← hn8]; exact List.length_filter_le _ _
    rw [hn8] at hv8
    clear hr8 hb6 hn8 HPL
    subst hv8
    go_wp2_with (with_reducible refine arm_stop ?_)
    refine Stopped.out ?_
    refine arm_appM (B := w.heap.size) HR7'.out hsz6 HR8.out.mbs (fun b hb => ⟨?_, hb.2.1, fun e => ?_⟩) (by rw [HN7.out, HN8.out]; omega) rfl rfl ?_
    · rcases hb.1 with h | h
      · exact .inl h
      · exact .inr (by omega)
    · have h1 := (HR7.out.lt e)
      rcases hb.1 with h | h
      · omega
      · omega
    intro v9 w7 hr9 hg9 hov9 hsh9
    have HB7 : Keep (Below w.heap.size w w7) := ⟨HB6.out.trans (HR7'.out.chg hsz6 hg9)⟩
    have HNW := Keep.keep (new_tree v9 _ B w7 (HT.out.on (HB7.out.mono HT.out.b)) (hr9.mbs.mono (fun b hb => hb.2) (fun b hb => hb.2.1)) (fun x hx => by
      rcases List.mem_append.1 hx with hx | hx
      · exact HSA.out x.1 (by rw [← HL6.out]; exact List.mem_map.2 ⟨x, (List.mem_filter.1 hx).1, rfl⟩)
      · exact HS.out x (List.mem_filter.1 hx).1) (by rw [List.length_append, HN7.out, HN8.out]; omega))
    have hmap : ((l6.filter fun x => staysC (l.map (·.1)) x.1.1) ++ l.filter isPl).map (·.1) = A.filter (fun m => staysC (l.map (·.1)) m.1) ++ plainC (l.map (·.1)) := by
      rw [List.map_append, plain_map, ← HL6.out, List.filter_map]; rfl
    rw [hmap, ← HX.out] at HNW
    obtain ⟨a9, c9, hv9⟩ := hsh9
    rw [HN7.out, HN8.out] at hv9
    clear hr9 hg9 hov9 hmap HR7 HR8 HR7'
    subst hv9
    simp only [Act.put, List.setIfInBounds_toArray, List.set_cons_succ, List.set_cons_zero]
    go_wp2_with fail
    refine HNW.out.mono ?_
    rintro e w8 ⟨⟨pv, rfl, hnew⟩, hb8⟩
    have HB8 := Keep.keep (HB7.out.trans (hb8.mono HB7.out.size))
    have HNI : Keep (NewIs w w8 pv out.2) := ⟨by
      have := HB7.out.size
      cases ho : out.2 with
      | none => rw [ho] at hnew; exact hnew
      | some t =>
        rw [ho] at hnew
        obtain ⟨T3, m3, Bk3, f3, e1, h1, h2, h3, h4⟩ := hnew
        exact ⟨T3, m3, Bk3, f3, e1, h1, by omega, by omega, fun b hb => (h4 b hb).mono this (Nat.le_refl _)⟩⟩
    have hpv : ∃ q, pv = .pointer q := by
      cases ho : out.2 with
      | none => rw [ho] at hnew; exact ⟨_, hnew⟩
      | some t =>
        rw [ho] at hnew
        obtain ⟨T3, m3, Bk3, f3, e1, -⟩ := hnew
        exact ⟨_, e1⟩
    obtain ⟨q, hq⟩ := hpv
    clear hnew hb8 HNW
    subst hq
    go_wp2_with fail
    go_ret2
    exact ⟨⟨_, rfl, HNI.out⟩, HB8.out⟩
end Go.Proofs.YtplafpokgpolkaaGreatDoor
/- string(b) of what reads as bytes; []byte of a text that is written out. -/
namespace Go.Proofs.YtplafpokgpolkaaGreatDoor
open Go.RowKit
def ints (l : List UInt8) : List Int := l.map fun c => (c.toNat : Int)
theorem ints_length (l : List UInt8) : (ints l).length = l.length := by simp [ints]
theorem bytesOf_ints (l : List UInt8) : Lib.bytesOf (ints l) = l := by simp [Lib.bytesOf, ints, Function.comp_def]
theorem Reads.bytesIn {w : World} {N : Nat → Prop} {p : Option Addr} {n c : Nat} {l : List UInt8} (h : Reads w N (.slice p n c) l) : n = l.length ∧ Lib.BytesIn w p n (ints l) := by
  obtain ⟨⟨a, cap, he, h1, h2, h3⟩, hc⟩ := h
  injection he with e1 e2 e3; subst e1 e2 e3
  refine ⟨rfl, fun hn => ?_⟩
  rcases h3 with h3 | ⟨b, off, rfl, _⟩
  · omega
  · refine ⟨b, off, rfl, fun i hi => ?_⟩
    rw [hc b off _ _ rfl i hi]
    simp [ints, List.getD_eq_getElem?_getD, hi]
theorem run_string_of {w : World} {N : Nat → Prop} {v : Value} {l : List UInt8} (h : Reads w N v l) : (convert 28 9 v).run Tryz.prog w = .ok (.string ⟨l.toArray⟩) w := by
  obtain ⟨a, cap, hu, _⟩ := h.shape
  subst hu
  have := Lib.BytesIn.convert h.bytesIn.2 (ints_length l) cap 28 5 9 Tryz.underlying28 Tryz.underlying5 Tryz.underlying9
  rw [this]
  rw [show strOfNums (ints l) = ⟨l.toArray⟩ by simp [strOfNums, ints, Function.comp_def]]
/-- []byte of a text that is written out: the row that the walk leaves -/
theorem Reads.lit {w : World} (e : TypeId) (c : Array Value) (l : List UInt8) (fr : Nat × Nat) (g n : Nat) (hg : g = w.heap.size) (hc : c = (bcells l).toArray) (hn : n = l.length) (hm : l.length ≤ maxLen) : Reads (w.alloc (.cells c e fr)) (fun b => b = w.heap.size) (.slice (some ⟨g, 0, none⟩) n n) l := by
  subst hg hc hn
  refine ⟨⟨_, _, rfl, Nat.le_refl _, hm, .inr ⟨_, _, rfl, rfl⟩⟩, fun b off m cap he j hj => ?_⟩
  injection he with e1 _ _; injection e1 with e1; injection e1 with e1 e2 _; subst e1 e2
  rw [World.cell?_alloc_mark, Nat.zero_add]
  simpa using bcells_get l j hj
end Go.Proofs.YtplafpokgpolkaaGreatDoor
/- []byte(s) OF ANY TEXT: the capacity that is drawn stays hidden. -/
namespace Go.Proofs.YtplafpokgpolkaaGreatDoor
open Go.RowKit
theorem convS (l : List UInt8) (n : Nat) (hn : l.length = n) (hl : l.length ≤ maxLen) : ∃ cf : World → Nat, ∃ rf : World → Array Value, ∃ mf : World → Nat × Nat,
    (∀ w, (convert 9 28 (.string ⟨l.toArray⟩)).run Tryz.prog w = .ok (.slice (some ⟨w.heap.size, 0, none⟩) n (cf w)) (w.drew.alloc (.cells (rf w) 5 (mf w)))) ∧
    (∀ w, Reads (w.drew.alloc (.cells (rf w) 5 (mf w))) (fun b => b = w.heap.size) (.slice (some ⟨w.heap.size, 0, none⟩) n (cf w)) l) := by
  subst hn
  have hsz : (⟨l.toArray⟩ : ByteArray).size = l.length := by simp [ByteArray.size]
  refine ⟨fun w => grownCap w l.length 0 5, fun w => bytesRow ⟨l.toArray⟩ (grownCap w l.length 0 5), fun w => ((bytesRow ⟨l.toArray⟩ (grownCap w l.length 0 5)).size, (bytesRow ⟨l.toArray⟩ (grownCap w l.length 0 5)).size + 1), fun w => ?_, fun w => ?_⟩
  · have := run_bytes_of_string (P := Tryz.prog) w 9 28 5 ⟨l.toArray⟩ Tryz.underlying9 Tryz.underlying28 Tryz.underlying5
    rw [hsz] at this
    exact this
  · refine ⟨⟨_, _, rfl, grownCap_ge _ _ _ _, grownCap_le_maxLen _ _ _ _ hl, .inr ⟨_, _, rfl, rfl⟩⟩, fun b off m cap he j hj => ?_⟩
    injection he with e1 _ _; injection e1 with e1; injection e1 with e1 e2 _; subst e1 e2
    rw [show w.heap.size = w.drew.heap.size from rfl, World.cell?_alloc_mark, Nat.zero_add]
    have h2 : j < (bytesRow ⟨l.toArray⟩ (grownCap w l.length 0 5)).size := by simp [bytesRow]; omega
    simp [bytesRow, Array.getElem?_append, hj]
end Go.Proofs.YtplafpokgpolkaaGreatDoor
/- portolanlaw19: dir, file, paths; what stands while it is gone on. -/
namespace Go.Proofs.YtplafpokgpolkaaGreatDoor
open Go.RowKit
/-- a tree at hand -/
def TrL (w : World) (T : Nat) (t : List Mb) : Prop := ∃ mb Bk f, TreeIn w T mb Bk f t ∧ ∀ b, Bk b → b < w.heap.size
theorem TrL.on {w w' : World} {T : Nat} {t : List Mb} (h : TrL w T t) (hb : Below w.heap.size w w') : TrL w' T t := by
  obtain ⟨mb, Bk, f, h1, h2⟩ := h
  exact ⟨mb, Bk, f, h1.loc (fun b hb' => hb.block b (by
    rcases hb' with rfl | rfl | h
    · exact h1.row.lt
    · exact h1.map.lt
    · exact h2 b h)), fun b hb' => Nat.lt_of_lt_of_le (h2 b hb') hb.size⟩
theorem TrL.ofNew {w w' : World} {pv : Value} {t : List Mb} (h : NewIs w w' pv (some t)) : ∃ T, pv = .pointer (some ⟨T, 0, none⟩) ∧ TrL w' T t := by
  obtain ⟨T, mb, Bk, f, he, h1, h2⟩ := h
  exact ⟨T, he, mb, Bk, f, h1, fun b hb => (h2.2.2 b hb).2⟩
def NdL (w : World) (n : Nd) (av dv : Value) : Prop := NdR w (· < w.heap.size) n av dv
theorem NdL.on {w w' : World} {n : Nd} {av dv : Value} (h : NdL w n av dv) (hb : Below w.heap.size w w') : NdL w' n av dv := (h.below hb (fun _ hb => hb)).mono (fun _ hb' => Nat.lt_of_lt_of_le hb' hb.size)
def MbL (w : World) (v : Value) (l : List Mv) : Prop := Mbs w (· < w.heap.size) (· < w.heap.size) v l
theorem MbL.on {w w' : World} {v : Value} {l : List Mv} (h : MbL w v l) (hb : Below w.heap.size w w') : MbL w' v l := (Mbs.below h hb (fun _ hb => hb) (fun _ hb => hb)).mono (fun _ hb' => Nat.lt_of_lt_of_le hb' hb.size) (fun _ hb' => Nat.lt_of_lt_of_le hb' hb.size)
theorem MbL.ofRow {w : World} {v : Value} {l : List Mv} {B : Nat} {K : Nat → Prop} (h : RowM B K w v l) : MbL w v l := h.mbs.mono (fun _ hb => hb.2) (fun _ hb => hb.2.1)
theorem RdS.on' {w w' : World} {v : Value} {l : List Tx} (h : RdS w (· < w.heap.size) v l) (hb : Below w.heap.size w w') : RdS w' (· < w'.heap.size) v l := (RdV.below h hb (fun _ hb => hb)).mono (fun _ hb' => Nat.lt_of_lt_of_le hb' hb.size)
theorem OwnS.rd' {w : World} {B : Nat} {v : Value} {l : List Tx} (h : OwnS w B v l) : RdS w (· < w.heap.size) v l := (ownsV_reads h).mono (fun _ hb => hb.2.1)
def dirM (mode : Int) : Nd := ⟨1, mode, 0, 0, 0, [], [], []⟩
def fileD (d : Tx) : Nd := ⟨2, 0, 0, 0, 0, [], d, []⟩
theorem dirL (w : World) (mode : Int) : NdL w (dirM mode) nilV nilV := ndR_nil rfl rfl
theorem sm_dirM (p : Tx) (mode : Int) (hp : p.length ≤ 400000) : Sm (p, dirM mode) := ⟨hp, by simp [dirM], by simp [dirM], by simp [dirM], fun x hx => by simp [dirM] at hx, by simp [dirM]⟩
theorem sm_fileD (p d : Tx) (hp : p.length ≤ 400000) (hd : d.length ≤ 1000) : Sm (p, fileD d) := ⟨hp, by simp [fileD], by simp [fileD]; omega, by simp [fileD], fun x hx => by simp [fileD] at hx, by simp [fileD]⟩
set_option maxHeartbeats 1000000 in
set_option maxRecDepth 100000 in
theorem dir_any (p : Tx) (mode : Int) (w : World) : Calls Tryz.prog 9 #[.string ⟨p.toArray⟩, .int .u32 mode] w fun e w' => e = .returned (.agg #[.string ⟨p.toArray⟩, .int .i64 1, .int .u32 mode, .int .u32 0, .int .u32 0, .int .i64 0, .slice none 0 0, .slice none 0 0, .string ⟨#[]⟩]) ∧ Below w.heap.size w w' := by
  have hb1 : ∀ w, (Instr.build 30 #[(0, .int .i64 1), (1, .int .u32 mode)]).run Tryz.prog w = .ok (.agg #[.int .i64 1, .int .u32 mode, .int .u32 0, .int .u32 0, .int .i64 0, .slice none 0 0, .slice none 0 0, .string ⟨#[]⟩]) w := fun w => by kernel_rfl
  have hb3 : ∀ w, (Instr.build 32 #[(0, .string ⟨p.toArray⟩), (1, .agg #[.int .i64 1, .int .u32 mode, .int .u32 0, .int .u32 0, .int .i64 0, .slice none 0 0, .slice none 0 0, .string ⟨#[]⟩])]).run Tryz.prog w = .ok (.agg #[.string ⟨p.toArray⟩, .int .i64 1, .int .u32 mode, .int .u32 0, .int .u32 0, .int .i64 0, .slice none 0 0, .slice none 0 0, .string ⟨#[]⟩]) w := fun w => buildM (p, dirM mode) nilV nilV w
  have HX : Keep (mbC (p, dirM mode) nilV nilV = #[.string ⟨p.toArray⟩, .int .i64 1, .int .u32 mode, .int .u32 0, .int .u32 0, .int .i64 0, .slice none 0 0, .slice none 0 0, .string ⟨#[]⟩]) := ⟨rfl⟩
  have HZ : Keep ((#[.string ⟨#[]⟩, .int .i64 0, .int .u32 0, .int .u32 0, .int .u32 0, .int .i64 0, .slice none 0 0, .slice none 0 0, .string ⟨#[]⟩] : Array Value).size = 9) := ⟨rfl⟩
  have HSZ : Keep ((#[.string ⟨p.toArray⟩, .int .i64 1, .int .u32 mode, .int .u32 0, .int .u32 0, .int .i64 0, .slice none 0 0, .slice none 0 0, .string ⟨#[]⟩] : Array Value).size = 9) := ⟨rfl⟩
  have HON : Keep ((#[.string ⟨p.toArray⟩, .int .i64 1, .int .u32 mode, .int .u32 0, .int .u32 0, .int .i64 0, .slice none 0 0, .slice none 0 0, .string ⟨#[]⟩] : Array Value).all (·.oneCell') = true) := ⟨by simp [Value.oneCell']⟩
  go_enter Tryz.func9, Tryz.ntmps9
  go_upto_region 1 with fail
  refine wp_world (R := fun w1 => Hp NoM w w1 [rowA w.heap.size 32 #[.string ⟨#[]⟩, .int .i64 0, .int .u32 0, .int .u32 0, .int .u32 0, .int .i64 0, .slice none 0 0, .slice none 0 0, .string ⟨#[]⟩]]) ((Hp.begin NoM w).newRow _ _) ?_
  intro w1 H1
  have HRW := Keep.keep (H1.out.row 0 rfl)
  have HB := Keep.keep ((Chg.of_below (M := NoM) H1.out.below))
  go_wp2_with ((with_reducible refine arm_storeRow HRW.out aggM HZ.out HSZ.out HON.out ?_ ?_ ?_); (focus rfl); (focus rfl); simp only [Act.put])
  exact bodyPost_ret (results_row (p := 4) (ty := 32) rfl (HRW.out.setRow _) aggM HSZ.out rfl) rfl ⟨rfl, (HB.out.setRow (.inl (Nat.le_refl _)) _).below (fun _ _ h => h)⟩
set_option maxHeartbeats 1000000 in
set_option maxRecDepth 100000 in
theorem file_any0 (p data : Tx) (hd : data.length ≤ 1000) (w : World) : Calls Tryz.prog 10 #[.string ⟨p.toArray⟩, .string ⟨data.toArray⟩] w fun e w' => ∃ dv, e = .returned (.agg (mbC (p, fileD data) nilV dv)) ∧ NdR w' (Fresh w.heap.size w') (fileD data) nilV dv ∧ Below w.heap.size w w' := by
  obtain ⟨n, hn⟩ : ∃ n, data.length = n := ⟨_, rfl⟩
  obtain ⟨cf, rf, mf, hcv, hcr⟩ := convS data n hn (by unfold maxLen; omega)
  have HCR := Keep.keep hcr
  have hb1 : ∀ a n c w, (Instr.build 30 #[(0, .int .i64 2), (6, .slice a n c)]).run Tryz.prog w = .ok (.agg #[.int .i64 2, .int .u32 0, .int .u32 0, .int .u32 0, .int .i64 0, .slice none 0 0, .slice a n c, .string ⟨#[]⟩]) w := fun a n c w => by kernel_rfl
  have hb3 : ∀ a n c w, (Instr.build 32 #[(0, .string ⟨p.toArray⟩), (1, .agg #[.int .i64 2, .int .u32 0, .int .u32 0, .int .u32 0, .int .i64 0, .slice none 0 0, .slice a n c, .string ⟨#[]⟩])]).run Tryz.prog w = .ok (.agg #[.string ⟨p.toArray⟩, .int .i64 2, .int .u32 0, .int .u32 0, .int .u32 0, .int .i64 0, .slice none 0 0, .slice a n c, .string ⟨#[]⟩]) w := fun a n c w => buildM (p, fileD data) nilV (.slice a n c) w
  have HZ : Keep ((#[.string ⟨#[]⟩, .int .i64 0, .int .u32 0, .int .u32 0, .int .u32 0, .int .i64 0, .slice none 0 0, .slice none 0 0, .string ⟨#[]⟩] : Array Value).size = 9) := ⟨rfl⟩
  have HX : Keep (∀ a n c, mbC (p, fileD data) nilV (.slice a n c) = #[.string ⟨p.toArray⟩, .int .i64 2, .int .u32 0, .int .u32 0, .int .u32 0, .int .i64 0, .slice none 0 0, .slice a n c, .string ⟨#[]⟩]) := ⟨fun _ _ _ => rfl⟩
  clear hcr hn hd
  go_enter Tryz.func10, Tryz.ntmps10
  go_upto_region 1 with fail
  refine wp_world (R := fun w1 => Hp NoM w w1 [rowA w.heap.size 32 #[.string ⟨#[]⟩, .int .i64 0, .int .u32 0, .int .u32 0, .int .u32 0, .int .i64 0, .slice none 0 0, .slice none 0 0, .string ⟨#[]⟩]]) ((Hp.begin NoM w).newRow _ _) ?_
  intro w1 H1
  obtain ⟨b0, hb0⟩ : ∃ b, w.heap.size = b := ⟨_, rfl⟩
  have HB0 := Keep.keep hb0
  rw [hb0] at H1 ⊢
  clear hb0
  go_wp2_with (with_reducible refine arm_sSt ?_)
  refine StM.out ?_
  refine wpList_world (R := fun w2 => Hp NoM w w2 [rowA b0 32 #[.string ⟨#[]⟩, .int .i64 0, .int .u32 0, .int .u32 0, .int .u32 0, .int .i64 0, .slice none 0 0, .slice none 0 0, .string ⟨#[]⟩]] ∧ Reads w2 (fun b => b = w1.heap.size) (.slice (some ⟨w1.heap.size, 0, none⟩) n (cf w1)) data ∧ w1.heap.size < w2.heap.size) ⟨H1.out.call (((Below.refl w1.heap.size w1).drew).alloc (Nat.le_refl _) _), HCR.out w1, Nat.lt_of_lt_of_le (Nat.lt_succ_self w1.heap.size) (Nat.le_of_eq (World.size_alloc w1 _).symm)⟩ ?_
  intro w2 H2
  obtain ⟨b7, hb7⟩ : ∃ b, w1.heap.size = b := ⟨_, rfl⟩
  have hs1 := (H1.out.row 0 rfl).lt
  have hsw := H1.out.size
  have HHB := Keep.keep HB0.out
  rw [hb7] at H2 hs1 hsw ⊢
  generalize cf w1 = c7 at *
  clear hb7 hcv H1 hb1 hb3
  have HRW := Keep.keep (H2.out.1.row 0 rfl)
  have HSZ : Keep ((#[.string ⟨p.toArray⟩, .int .i64 2, .int .u32 0, .int .u32 0, .int .u32 0, .int .i64 0, .slice none 0 0, .slice (some ⟨b7, 0, none⟩) n c7, .string ⟨#[]⟩] : Array Value).size = 9) := ⟨rfl⟩
  have HON : Keep ((#[.string ⟨p.toArray⟩, .int .i64 2, .int .u32 0, .int .u32 0, .int .u32 0, .int .i64 0, .slice none 0 0, .slice (some ⟨b7, 0, none⟩) n c7, .string ⟨#[]⟩] : Array Value).all (·.oneCell') = true) := ⟨by simp [Value.oneCell']⟩
  refine arm_storeRow HRW.out aggM HZ.out HSZ.out HON.out rfl rfl ?_
  simp only [Act.put]
  go_wp2_with fail
  have hch : Chg (fun k => k = b0) w2.heap.size w2 (w2.setRow b0 #[.string ⟨p.toArray⟩, .int .i64 2, .int .u32 0, .int .u32 0, .int .u32 0, .int .i64 0, .slice none 0 0, .slice (some ⟨b7, 0, none⟩) n c7, .string ⟨#[]⟩]) := Chg.setRow (M := fun k => k = b0) (.refl _ _ _) (.inr rfl) _
  refine bodyPost_ret (results_row (p := 4) (ty := 32) rfl (HRW.out.setRow _) aggM HSZ.out rfl) rfl ⟨.slice (some ⟨b7, 0, none⟩) n c7, rfl, ⟨RdV.ofNil, ?_⟩, ?_⟩
  · exact (H2.out.2.1.chg hch (fun b e => by subst e; exact ⟨H2.out.2.2, by omega⟩)).mono (fun b e => by subst e; exact ⟨by have := HB0.out; omega, by have := hch.size; have := H2.out.2.2; omega⟩)
  · exact ((Chg.of_below (M := NoM) H2.out.1.below).setRow (.inl (by have := HB0.out; omega)) _).below (fun _ _ h => h)
theorem file_any (p data : Tx) (n : Nat) (hn : data.length = n) (hd : n ≤ 1000) (w : World) : Calls Tryz.prog 10 #[.string ⟨p.toArray⟩, .string ⟨data.toArray⟩] w fun e w' => ∃ a c, e = .returned (.agg #[.string ⟨p.toArray⟩, .int .i64 2, .int .u32 0, .int .u32 0, .int .u32 0, .int .i64 0, .slice none 0 0, .slice a n c, .string ⟨#[]⟩]) ∧ NdL w' (fileD data) nilV (.slice a n c) ∧ Below w.heap.size w w' := by
  refine (file_any0 p data (by omega) w).mono ?_
  rintro e w' ⟨dv, rfl, hn', hb⟩
  obtain ⟨a, c, he, -⟩ := hn'.dt.shape
  have he : dv = .slice a n c := by rw [he, ← hn]; rfl
  subst he
  exact ⟨a, c, rfl, hn'.mono (fun _ h => h.2), hb⟩
/-- what a row of one's own grows by -/
theorem own_chg {base k n : Nat} {e : TypeId} {w w' : World} {v : Value} {vs : List Value} (h : w.ownsRow base e k v n vs) (hB : base ≤ w.heap.size) (hg : w.grownBy w' v.ownBlock) : Below base w w' :=
  (Chg.grown (M := NoM) (.refl _ _ _) hg hB (fun k e => .inl (ownsV_lt h k e).1)).below (fun _ _ h => h)
set_option maxHeartbeats 1000000 in
set_option maxRecDepth 100000 in
theorem paths_any {w : World} {T : Nat} {L : List Mb} (h : TrL w T L) (hL : L.length ≤ 100000) :
    Calls Tryz.prog 14 #[.pointer (some ⟨T, 0, none⟩)] w fun e w' => ∃ v, e = .returned v ∧ OwnS w' w.heap.size v (L.map (·.1)) ∧ Below w.heap.size w w' := by
  obtain ⟨mb, Bk, f, hti, hBk⟩ := h
  have HA := Keep.keep (all_own T mb Bk f L w hL hti ⟨hti.row.lt, hti.map.lt, hBk⟩)
  clear hti
  go_enter Tryz.func14, Tryz.ntmps14
  go_wp2_with fail
  refine HA.out.mono ?_
  rintro e w1 ⟨v1, l, rfl, hl, ho, hb1⟩
  have HB1 := Keep.keep hb1
  have HM : Keep (MbL w1 v1 l) := ⟨MbL.ofRow (RowM.ofOwn ho NoM)⟩
  obtain ⟨a, cap, hv, hcap, hmx, h3⟩ := HM.out.rd.shape
  have H3 := Keep.keep h3
  unfold maxLen at hmx
  have hll : l.length ≤ 100000 := by rw [← hl, List.length_map] at hL; exact hL
  have HLL : Keep (L = l.map (·.1)) := ⟨hl.symm⟩
  clear ho hb1 HA h3 hl hL
  subst hv
  go_wp2_with fail
  go_loopg [3, 9] l.length (fun g u3 u9 wx => ∃ (k : Nat), k + g = l.length ∧ u9 = .int .i64 (k : Int) ∧ wx.ownsRow w1.heap.size 9 1 u3 k (((l.take k).map (·.1.1)).map strV) ∧ Below w1.heap.size w1 wx)
  case atStart => exact ⟨0, by omega, rfl, World.ownsRow_nil _ _ _ _, Below.refl _ _⟩
  case round =>
    obtain ⟨k, hkg, rfl, hown, hb⟩ := hrel
    have HO := Keep.keep hown; have HB := Keep.keep hb
    obtain ⟨a3, c3, hv3, -⟩ := (ownsV_reads hown).shape
    clear hown hb
    subst hv3
    cases gk with
    | zero =>
      obtain rfl : k = l.length := by omega
      have HF : Keep (L.map (·.1) = (l.take l.length).map (·.1.1)) := ⟨by rw [HLL.out, List.take_length, List.map_map]; rfl⟩
      go_wp2_with fail
      go_ret
      refine ⟨_, rfl, ?_, HB1.out.trans (HB.out.mono HB1.out.size)⟩
      rw [HF.out]
      unfold OwnS
      rw [List.length_map, List.length_take, Nat.min_self]
      exact ownsV_mono HO.out HB1.out.size
    | succ g =>
      have hk : k < l.length := by omega
      obtain ⟨b, off, rfl, hbl⟩ : ∃ b off, a = some ⟨b, off, none⟩ ∧ b < w1.heap.size := by
        rcases H3.out with h | ⟨b, off, h, hb⟩
        · omega
        · exact ⟨b, off, h, hb⟩
      have hrx := Mbs.below (w' := wr) HM.out HB.out (fun b hb => hb) (fun b hb => hb)
      have hld := hrx.load hk
      have HND := Keep.keep (hrx.nd l[k] (List.getElem_mem hk))
      have HTK : Keep (((l.take (k + 1)).map (·.1.1)).map strV = ((l.take k).map (·.1.1)).map strV ++ [strV l[k].1.1]) := ⟨by
        rw [List.take_succ_eq_append_getElem hk, List.map_append, List.map_append]; rfl⟩
      clear hrx
      generalize l[k] = x at *
      obtain ⟨⟨xp, ⟨kind, mode, uid, gid, time, attrs, data, link⟩⟩, av, dv⟩ := x
      obtain ⟨aa, la, ca, ad, ld, cd, e1, e2⟩ := HND.out.shape
      dsimp only at e1 e2 HTK
      subst e1 e2
      have HMC : Keep (mcell ((xp, ⟨kind, mode, uid, gid, time, attrs, data, link⟩), .slice aa la ca, .slice ad ld cd) = #[.string ⟨xp.toArray⟩, .int .i64 kind, .int .u32 mode, .int .u32 uid, .int .u32 gid, .int .i64 time, .slice aa la ca, .slice ad ld cd, .string ⟨link.toArray⟩]) := ⟨rfl⟩
      rw [HMC.out] at hld
      go_upto_region 5 with ((with_reducible refine arm_loadM hld ?_ ?_); (focus rfl); simp only [Act.put, List.setIfInBounds_toArray, List.set_cons_succ, List.set_cons_zero])
      refine wp_world (R := fun wq => Hp NoM wr wq [rowA wr.heap.size 32 #[.string ⟨xp.toArray⟩, .int .i64 kind, .int .u32 mode, .int .u32 uid, .int .u32 gid, .int .i64 time, .slice aa la ca, .slice ad ld cd, .string ⟨link.toArray⟩]]) ((Hp.begin NoM wr).newRow _ _) ?_
      intro w2 H2
      obtain ⟨b5, hb5⟩ : ∃ b5, wr.heap.size = b5 := ⟨_, rfl⟩
      have HB5 := Keep.keep hb5
      have HB2 := Keep.keep H2.out.below
      rw [hb5] at H2 ⊢
      have c50 := (H2.out.row 0 rfl).cell (i := 0) rfl
      clear hld hb5
      go_wp2_with (with_reducible refine arm_stop ?_)
      refine Stopped.out ?_
      have hal : Below w2.heap.size w2 (w2.alloc (.cells #[.string ⟨xp.toArray⟩] 9)) := (Below.refl _ _).alloc (Nat.le_refl _) _
      have hbA : Below wr.heap.size wr (w2.alloc (.cells #[.string ⟨xp.toArray⟩] 9)) := HB2.out.trans (hal.mono HB2.out.size)
      have hoA := ownsRow_loc _ _ (fun b hb => hbA.block b (ownsV_lt HO.out b hb).2) HO.out
      have hws := HB.out.size
      have hwA := hbA.size
      refine arm_appendV slS hoA (RdV.new (N := fun _ => True) 9 [strV xp] 1 1 _ rfl rfl (by unfold maxLen; omega) trivial) (by simp [Value.oneCell', strV]) (by unfold maxLen; omega) (by omega) (by omega) rfl rfl ?_
      intro v4 w4 ho hg hov _
      obtain ⟨a4, c4, hv4, -⟩ := (ownsV_reads ho).shape
      have HO4 : Keep (w4.ownsRow w1.heap.size 9 1 v4 (k + 1) (((l.take (k + 1)).map (·.1.1)).map strV)) := ⟨by rw [HTK.out]; exact ho⟩
      have HB4 : Keep (Below w1.heap.size w1 w4) := ⟨(HB.out.trans (hbA.mono hws)).trans (own_chg hoA (by omega) hg)⟩
      clear ho hg hov hal hbA hoA HB2 H2 c50
      subst hv4
      simp only [Act.put, List.setIfInBounds_toArray, List.set_cons_succ, List.set_cons_zero]
      go_wp2_with fail
      go_roundg g
      case measure => omega
      case rel => exact ⟨k + 1, by omega, by simp, HO4.out, HB4.out⟩
end Go.Proofs.YtplafpokgpolkaaGreatDoor
/- portolanlaw19.Grown, plainly. -/
namespace Go.Proofs.YtplafpokgpolkaaGreatDoor
/-- the Dirs that stand above -/
def abvM (m : Mb) : List Mb := (aboveP m.1).map fun p => (p, dirM 493)
def grown19 (l : List Mb) : List Mb := sortedS (few19 l ++ (few19 l).flatMap abvM)
theorem cut19_idem (m : Mb) : cut19 (cut19 m) = cut19 m := by
  obtain ⟨p, ⟨kind, mode, uid, gid, time, attrs, data, link⟩⟩ := m
  unfold cut19
  simp only [shortS_idem, List.take_take, Nat.min_self]
  congr 2
  rw [← List.map_take, List.take_take, Nat.min_self, List.map_map]
  refine List.map_congr_left fun x _ => ?_
  simp [cutB, List.take_take]
theorem few19_idem (l : List Mb) : few19 (few19 l) = few19 l := by
  unfold few19
  rw [← List.map_take, List.take_take, Nat.min_self, List.map_map]
  exact List.map_congr_left fun x _ => cut19_idem x
theorem aboveP_cnt (p : Tx) : (aboveP p).length = p.countP (· == 47) := by
  have h1 : p = (List.range p.length).map fun i => p.getD i 0 := by
    apply List.ext_getElem
    · simp
    · intro i h1 h2
      simp [h1]
  unfold aboveP
  rw [List.length_filterMap_eq_countP]
  conv => rhs; rw [h1]
  rw [List.countP_map]
  refine List.countP_congr fun i hi => ?_
  have hi := List.mem_range.1 hi
  simp only [Function.comp_apply, List.getD_eq_getElem?_getD, List.getElem?_eq_getElem hi, Option.getD_some, Option.some.injEq]
  by_cases e : p[i] = 47 <;> simp [e]
theorem few19_abv {l : List Mb} {m : Mb} (hm : m ∈ few19 l) : (aboveP m.1).length ≤ 19 := by
  obtain ⟨y, hy, rfl⟩ := List.mem_map.1 hm
  rw [aboveP_cnt]
  have := shortS_cnt y.1
  show (shortS y.1).countP _ ≤ 19
  omega
theorem flatA_len {S : List Mb} (h : ∀ m ∈ S, (aboveP m.1).length ≤ 19) : (S.flatMap abvM).length ≤ S.length * 19 := by
  induction S with
  | nil => simp
  | cons x S ih =>
    rw [List.flatMap_cons, List.length_append, List.length_cons]
    have h1 := ih (fun m hm => h m (List.mem_cons_of_mem _ hm))
    have h2 := h x List.mem_cons_self
    have h3 : (abvM x).length = (aboveP x.1).length := by unfold abvM; simp
    omega
theorem above_len (p q : Tx) (h : q ∈ aboveP p) : q.length ≤ p.length := by
  unfold aboveP at h
  obtain ⟨i, hi, e⟩ := List.mem_filterMap.1 h
  split at e
  · injection e with e
    rw [← e]
    exact List.length_take_le' _ _
  · cases e
/-- sorted, of one path the first one -/
theorem comp_map {l : List Mv} : (compA (fun x : Mv => x.1.1) (l.mergeSort (leK (fun x => x.1.1)))).map (·.1) = sortedS (l.map (·.1)) := by
  rw [compA_map (k := fun x : Mb => x.1) (fun x : Mv => x.1), compA_is _ _ (Nat.le_refl _), ← comp_sorted]
  congr 1
  unfold sortM
  exact List.map_mergeSort (fun a _ b _ => rfl)
theorem sortedS_sub (L : List Mb) : (sortedS L).length ≤ L.length ∧ ∀ x ∈ sortedS L, x ∈ L := by
  rw [← comp_sorted]
  refine ⟨Nat.le_trans (comp_sub _ _ (Nat.le_refl _)).length_le (by unfold sortM; rw [List.length_mergeSort]; exact Nat.le_refl _), fun x hx => ?_⟩
  have h := (comp_sub _ _ (Nat.le_refl _)).subset hx
  exact List.mem_mergeSort.1 h
theorem grown19_len (l : List Mb) : (grown19 l).length ≤ 280 := by
  unfold grown19
  refine Nat.le_trans (sortedS_sub _).1 ?_
  rw [List.length_append]
  have h1 := few19_len l
  have h2 := flatA_len (S := few19 l) (fun m hm => few19_abv hm)
  omega
theorem grown19_sm {l : List Mb} (h : ∀ x ∈ l, Kb x) : ∀ x ∈ grown19 l, Sm x := fun x hx => by
  have hx := (sortedS_sub _).2 x hx
  rcases List.mem_append.1 hx with hx | hx
  · exact few19_sm h x hx
  · obtain ⟨m, hm, hx⟩ := List.mem_flatMap.1 hx
    obtain ⟨p, hp, rfl⟩ := List.mem_map.1 hx
    exact sm_dirM _ _ (Nat.le_trans (above_len _ _ hp) (few19_sm h m hm).p)
end Go.Proofs.YtplafpokgpolkaaGreatDoor
