/- PARTS OF ONE PROOF, set in one file: TreeNewB, Iter, TreeEach, SpcIn, TreeUnder, MbSl. Each part tells its own conditions. -/
import Derived.Shelf.SlIter.Nil
import Derived.Shelf.SortM.Plain
import Derived.Shelf.SortM.SortNone
import Derived.Ground.GgzProg
import Derived.Ground.SlgmProg
import Derived.Test.YtplafpokgpolkaaGreatDoorProg
import Derived.RangeFuncNested
import Derived.RangeFuncBound
import Derived.RangeFuncCalls
import Derived.RangeFuncLeaves
import Derived.Shelf.Abstract
import Derived.Shelf.RegionOpen
import Derived.WalkKit
import Derived.OwnWalkIn
import Derived.TacticsInMore
import Derived.LoopNIn
import Derived.LoopIn
import Derived.OrdersIn
import Derived.Test.YtplafpokgpolkaaGreatDoorP4
import Derived.Test.YtplafpokgpolkaaGreatDoorP5
import Derived.Test.YtplafpokgpolkaaGreatDoorP6
/- tree.New. -/
namespace Go.Proofs.YtplafpokgpolkaaGreatDoor
open Go.RowKit
theorem growT_snoc (l : List Mb) (m : Mb) : growT (l ++ [m]) = SM.put (growT l) m := by unfold growT; rw [List.foldl_append]; rfl
theorem srt_fold (l : List Mb) : ∀ t : List Mb, SM.Srt t → SM.Srt (l.foldl SM.put t) := by
  induction l with
  | nil => exact fun t h => h
  | cons m l ih => exact fun t h => ih _ (h.put m)
theorem growT_srt (l : List Mb) : SM.Srt (growT l) := srt_fold l [] SM.Srt.nil
theorem fold_len (l : List Mb) : ∀ t : List Mb, SM.Srt t → (l.foldl SM.put t).length ≤ t.length + l.length := by
  induction l with
  | nil => intro t _; simp
  | cons m l ih =>
    intro t h
    have h1 := ih _ (h.put m)
    have h2 := h.length_put m
    rw [List.foldl_cons, List.length_cons]
    split at h2 <;> omega
theorem growT_len (l : List Mb) : (growT l).length ≤ l.length := by have := fold_len l [] SM.Srt.nil; simpa [growT] using this
def NewIs (w w' : World) (pv : Value) : Option (List Mb) → Prop
  | none => pv = .pointer none
  | some t => ∃ T mb Bk f, pv = .pointer (some ⟨T, 0, none⟩) ∧ TreeIn w' T mb Bk f t ∧ w.heap.size ≤ T ∧ w.heap.size ≤ mb ∧ ∀ b, Bk b → Fresh w.heap.size w' b
set_option maxHeartbeats 4000000 in
set_option maxRecDepth 100000 in
theorem new_tree (v : Value) (l : List Mv) (B : Nat) (w : World) (hT : Tabs B w) (hr : Mbs w (· < w.heap.size) (· < w.heap.size) v l) (hs : ∀ x ∈ l, Sm x.1) (hl : l.length ≤ 1000000) :
    Calls Tryz.prog 8 #[v] w fun e w' => (∃ pv, e = .returned (.tuple #[pv, .int .i64 (newT (l.map (·.1))).1]) ∧ NewIs w w' pv (newT (l.map (·.1))).2) ∧ Below w.heap.size w w' := by
  have HR := Keep.keep hr; have HS := Keep.keep hs; have HTB := Keep.keep hT
  have HC1 := Keep.keep (cfuncM 56 #[] (fun m => !mayM m) v l w ent_n1 (fun wx hb x hx => by
    have := n1_any x.1 x.2.1 x.2.2 (hs x hx) B wx (hT.on (hb.mono hT.b)) (((hr.nd x hx).below hb (fun b hb => hb)).mono (fun b hb' => Nat.lt_of_lt_of_le hb' hb.size))
    simpa [mcell] using this) hr)
  have HNT : Keep (newT (l.map (·.1)) = if (l.any fun x => !mayM x.1) then (1, none) else if (growT (l.map (·.1))).length < l.length then (9, none) else if (l.any fun x => !dirT (growT (l.map (·.1))) (parentP x.1.1)) then (33, none) else if 4096 < l.length then (42, none) else (0, some (growT (l.map (·.1))))) := ⟨by
    unfold newT; rw [List.any_map, List.length_map, List.any_map]; rfl⟩
  generalize newT (l.map (·.1)) = res at *
  obtain ⟨a, cap, hv, hcap, hmx, hsh⟩ := hr.rd.shape
  have HSH := Keep.keep hsh
  obtain ⟨an, han⟩ : ∃ an, (l.any fun x => !mayM x.1) = an := ⟨_, rfl⟩
  rw [han] at HC1 HNT
  clear hr hs hT hsh han
  unfold maxLen at hmx
  subst hv
  obtain ⟨n, hn⟩ : ∃ n, l.length = n := ⟨_, rfl⟩
  have HN := Keep.keep hn
  rw [hn] at hl hcap HNT HC1 ⊢
  clear hn
  go_enter Tryz.func8, Tryz.ntmps8
  go_wp2_with fail
  refine HC1.out.mono ?_
  rintro e w1 ⟨rfl, hb1⟩
  have HB1 := Keep.keep hb1
  clear hb1 HC1
  cases an with
  | true =>
    have HRE : Keep (res = (1, none)) := ⟨HNT.out⟩
    go_wp2_with fail
    go_ret2
    rw [HRE.out]
    exact ⟨⟨_, rfl, rfl⟩, HB1.out⟩
  | false =>
    have HNT2 : Keep (res = if (growT (l.map (·.1))).length < n then (9, none) else if (l.any fun x => !dirT (growT (l.map (·.1))) (parentP x.1.1)) then (33, none) else if 4096 < n then (42, none) else (0, some (growT (l.map (·.1))))) := ⟨HNT.out⟩
    clear HNT
    have hmm := @run_makeMap Tryz.prog
    go_upto_region 4 with fail
    refine wp_world (R := fun w2 => Hp NoM w w2 [trA (w1.heap.size + 1) w1.heap.size (fun _ => False) (fun _ => (nilV, nilV)) [], rowA (w1.heap.size + 1 + 1) 22 #[.pointer (some ⟨w1.heap.size + 1, 0, none⟩)]]) ?_ ?_
    · have h1 := (Hp.begin NoM w).call HB1.out
      have hb2 : Below w1.heap.size w1 ((w1.alloc (Obj.map #[] 0)).alloc (Obj.cells #[Value.map (some w1.heap.size)] 86)) := ((Below.refl _ _).alloc (Nat.le_refl _) _).alloc (by simp) _
      have hm1 := MapS.made (k := 9) w1
      have h2 := h1.push (trA (w1.heap.size + 1) w1.heap.size (fun _ => False) (fun _ => (nilV, nilV)) []) (.of_below hb2)
        ⟨Row.new' (by simp) rfl, hm1.loc (Below.heap_alloc _ _ _ hm1.lt), (fun m hm => (List.not_mem_nil hm).elim), (fun m hm => (List.not_mem_nil hm).elim), ⟨by omega, fun h => h, fun h => h⟩⟩
        (fun b hb => by rcases hb with rfl | rfl | h
                        · simp
                        · simp; omega
                        · exact h.elim)
      exact h2.newRow' _ _ _ _ (by simp) rfl
    intro w2 H2
    obtain ⟨mb, hmb⟩ : ∃ mb, w1.heap.size = mb := ⟨_, rfl⟩
    have HMB : Keep (w.heap.size ≤ mb) := ⟨by rw [← hmb]; exact HB1.out.size⟩
    rw [hmb] at H2 ⊢
    clear hmb
    obtain ⟨T, hTe⟩ : ∃ T, mb + 1 = T := ⟨_, rfl⟩
    rw [hTe] at H2 ⊢
    obtain ⟨P4, hP4⟩ : ∃ P, T + 1 = P := ⟨_, rfl⟩
    rw [hP4] at H2 ⊢
    go_wp2_with fail
    go_loopg [6, 15] n (fun g _ u15 wx => ∃ (k : Nat) (Bk : Nat → Prop) (f : Tx → Value × Value), k + g = n ∧ u15 = .int .i64 (k : Int) ∧ Hp NoM w wx [trA T mb Bk f (growT ((l.take k).map (·.1))), rowA P4 22 #[.pointer (some ⟨T, 0, none⟩)]])
    case atStart => exact ⟨0, _, _, by omega, rfl, H2.out⟩
    case round =>
      obtain ⟨k, Bk, f, hkg, rfl, hH⟩ := hrel
      have HH := Keep.keep hH
      clear hH H2
      by_cases hk : k < n
      · have hd : decide ((k : Int) < (n : Int)) = true := decide_eq_true (by omega)
        have hkl : k < l.length := by rw [HN.out]; exact hk
        obtain ⟨b, off, rfl, hbl⟩ : ∃ b off, a = some ⟨b, off, none⟩ ∧ b < w.heap.size := by
          rcases HSH.out with h | ⟨b, off, h, hb⟩
          · omega
          · exact ⟨b, off, h, hb⟩
        obtain ⟨gn, hgn⟩ : ∃ gn, gk = gn + 1 := ⟨gk - 1, by omega⟩
        subst hgn
        have hrx := HR.out.below HH.out.below (fun b hb => hb) (fun b hb => hb)
        have hld := hrx.load hkl
        have hGS : Keep ((l.take (k + 1)).map (·.1) = (l.take k).map (·.1) ++ [l[k].1]) := ⟨by rw [List.take_succ_eq_append_getElem hkl, List.map_append]; rfl⟩
        have HSX := Keep.keep (HS.out _ (List.getElem_mem hkl))
        have HNX := Keep.keep (HR.out.nd _ (List.getElem_mem hkl))
        generalize l[k] = x at *
        obtain ⟨aa, la, ca, ad, ld, cd, e1, e2⟩ := HNX.out.shape
        have HMC : Keep (mcell x = #[.string ⟨x.1.1.toArray⟩, .int .i64 x.1.2.kind, .int .u32 x.1.2.mode, .int .u32 x.1.2.uid, .int .u32 x.1.2.gid, .int .i64 x.1.2.time, .slice aa la ca, .slice ad ld cd, .string ⟨x.1.2.link.toArray⟩]) := ⟨by unfold mcell; rw [e1, e2]; rfl⟩
        rw [HMC.out] at hld
        rw [e1, e2] at HNX
        clear hrx e1 e2 hkl HMC
        go_upto_region 7 with ((with_reducible refine arm_loadM hld ?_ ?_); (focus rfl); simp only [Act.put, List.setIfInBounds_toArray, List.set_cons_succ, List.set_cons_zero])
        refine wp_world (R := fun w3 => Hp NoM w w3 [trA T mb Bk f (growT ((l.take k).map (·.1))), rowA P4 22 #[.pointer (some ⟨T, 0, none⟩)], rowA wr.heap.size 32 #[.string ⟨x.1.1.toArray⟩, .int .i64 x.1.2.kind, .int .u32 x.1.2.mode, .int .u32 x.1.2.uid, .int .u32 x.1.2.gid, .int .i64 x.1.2.time, .slice aa la ca, .slice ad ld cd, .string ⟨x.1.2.link.toArray⟩]]) (HH.out.newRow _ _) ?_
        intro wc HC
        generalize wr.heap.size = b6 at *
        clear hld HH
        refine wp_region_spcT 9 [19, 20, 21, 22, 23, 24, 25, 26, 27] (Below wc.heap.size wc) (p12T wc T mb b6 x.1.1 x.1.2 (.slice aa la ca) (.slice ad ld cd)) (fun w w' => Below w.heap.size w w') (by kernel_rfl) rfl (by decide) (by show ∀ d ∈ _, d < 48; decide) (by kernel_rfl) (by decide) (by kernel_rfl) (by kernel_rfl) (by kernel_rfl) (Below.refl _ _).drew (fun i v w w' h _ hb => p12T_stays i v w w' h hb) ?_ ?_
        · intro q hq a1 w6 hF hC hT
          have b4 : a1.eval (.tmp 4) = .pointer (some ⟨P4, 0, none⟩) := (hF.same 4 (by decide)).trans rfl
          have b6e : a1.eval (.tmp 6) = .pointer (some ⟨b6, 0, none⟩) := (hF.same 6 (by decide)).trans rfl
          have hkr : Below w6.heap.size w6 w6 := Below.refl _ _
          have HP := HC.out.call hC
          have hRC := HP.row 2 rfl
          have hTW := (HP.get 0 rfl).row
          rcases (by omega : q = 0 ∨ q = 1 ∨ q = 2 ∨ q = 3 ∨ q = 4 ∨ q = 5 ∨ q = 6 ∨ q = 7 ∨ q = 8) with rfl | rfl | rfl | rfl | rfl | rfl | rfl | rfl | rfl
          · exact spcS_val (d := 19) rfl (wanted_none rfl) (run_loadCell (run_isAgg_plain Tryz.underlying22 rfl) ((HP.row 1 rfl).cell (i := 0) rfl) b4) hC hkr rfl
          · have hx : a1.eval (.tmp 19) = .pointer (some ⟨T, 0, none⟩) := hT 0 (by decide) (by kernel_rfl)
            exact spcS_val (d := 20) rfl (wanted_none rfl) (by simp [execOp, hx]) hC hkr rfl
          · have hx : a1.eval (.tmp 20) = .pointer (some ⟨T, 0, none⟩) := hT 1 (by decide) (by kernel_rfl)
            exact spcS_val (d := 21) rfl (wanted_none rfl) (run_fieldAddr (m := 0) Tryz.underlying86 rfl (by kernel_rfl) hx) hC hkr rfl
          · have hx : a1.eval (.tmp 21) = .pointer (some ⟨T, 0, none⟩) := hT 2 (by decide) (by kernel_rfl)
            exact spcS_val (d := 22) rfl (wanted_none rfl) (run_loadCell (run_isAgg_plain Tryz.underlying84 rfl) (hTW.cell (i := 0) rfl) hx) hC hkr rfl
          · exact spcS_val (d := 23) rfl (wanted_none rfl) (run_fieldAddr (m := 0) Tryz.underlying32 rfl (by kernel_rfl) b6e) hC hkr rfl
          · have hx : a1.eval (.tmp 23) = .pointer (some ⟨b6, 0, none⟩) := hT 4 (by decide) (by kernel_rfl)
            exact spcS_val (d := 24) rfl (wanted_none rfl) (run_loadCell (run_isAgg_plain Tryz.underlying9 rfl) (hRC.cell (i := 0) rfl) hx) hC hkr rfl
          · exact spcS_val (d := 25) rfl (wanted_none rfl) (run_fieldAddr (m := 7) Tryz.underlying32 rfl (by kernel_rfl) b6e) hC hkr rfl
          · have hx : a1.eval (.tmp 25) = .pointer (some ⟨b6, 1, none⟩) := hT 6 (by decide) (by kernel_rfl)
            exact spcS_val (d := 26) rfl (wanted_none rfl) (run_loadNd (m := x.1) hRC hx) hC hkr rfl
          · have hx : a1.eval (.tmp 26) = .agg (ndC x.1.2 (.slice aa la ca) (.slice ad ld cd)) := hT 7 (by decide) (by kernel_rfl)
            refine spcS_call (d := 27) (vs := #[.agg (ndC x.1.2 (.slice aa la ca) (.slice ad ld cd))]) rfl (wanted_none rfl) (Go.Proofs.enters_of Tryz.func58 (by kernel_rfl) rfl) (by simp [hx]) ?_
            have hsz6 := HP.size
            refine (clone_node x.1.2 _ _ w6 ((HNX.out.below HP.below (fun b hb => hb)).mono (fun b hb => by omega)) HSX.out.a (Nat.le_trans HSX.out.d (by decide))).mono ?_
            rintro e wz ⟨a', d', rfl, hn', hb⟩
            exact ⟨_, rfl, hC.trans (hb.mono hC.size), hb, a', d', rfl, hn'.mono (fun b hb' => hb'.mono hC.size (Nat.le_refl _))⟩
        · intro a2 w6 ha hC hT
          have t3 : slot a2 22 = .map (some mb) := hT 3 (by decide)
          have t5 : slot a2 24 = .string ⟨x.1.1.toArray⟩ := hT 5 (by decide)
          obtain ⟨av', dv', t8, hn'⟩ : ∃ av' dv', slot a2 27 = .agg (ndC x.1.2 av' dv') ∧ NdR w6 (Fresh wc.heap.size w6) x.1.2 av' dv' := hT 8 (by decide)
          simp only [List.foldl_cons, List.foldl_nil, t3, t5, t8] at ha
          clear hT t3 t5 t8
          generalize slot a2 19 = y19 at *
          generalize slot a2 20 = y20 at *
          generalize slot a2 21 = y21 at *
          generalize slot a2 23 = y23 at *
          generalize slot a2 25 = y25 at *
          generalize slot a2 26 = y26 at *
          have HN' := Keep.keep hn'
          have H6 := Keep.keep (HC.out.call hC)
          have HS6 := Keep.keep hC.size
          have HC6 := Keep.keep hC
          clear hn' hC
          subst ha
          simp only [List.drop_succ_cons, List.drop_zero]
          simp only [Act.put, List.setIfInBounds_toArray, List.set_cons_succ, List.set_cons_zero]
          have hT6 : TreeIn w6 T mb Bk f (growT ((l.take k).map (·.1))) := H6.out.get 0 rfl
          have hbk6 : ∀ b, Bk b → b < wc.heap.size := fun b hb => ((HC.out.p _ (List.mem_of_getElem? (i := 0) rfl)).2 b (.inr (.inr hb))).2
          have hT6lt : T < wc.heap.size ∧ mb < wc.heap.size := ⟨((HC.out.p _ (List.mem_of_getElem? (i := 0) rfl)).2 T (.inl rfl)).2, ((HC.out.p _ (List.mem_of_getElem? (i := 0) rfl)).2 mb (.inr (.inl rfl))).2⟩
          have HT6 := Keep.keep hT6; have HBK6 := Keep.keep hbk6; have HLT6 := Keep.keep hT6lt
          have hel : (entries f (growT ((l.take k).map (·.1)))).length < maxLen := by
            have := growT_len ((l.take k).map (·.1))
            simp [entries] at this ⊢
            unfold maxLen; omega
          clear hT6 hbk6 hT6lt
          go_wp2_with (first | (with_reducible refine arm_sRange ?_) | (with_reducible refine arm_sNext ?_) | (with_reducible refine arm_sDel ?_) | (with_reducible refine arm_sPut ?_) | (with_reducible refine arm_sIns ?_))
          refine StM.out ?_
          refine arm_putS Tryz.underlying9 Tryz.underlying84 HT6.out.map (p := x.1.1) (by have := HSX.out.p; unfold maxLen; omega) hel rfl rfl rfl ?_
          intro w7 hm7 hc7
          have hs6 := HS6.out
          have hs7 := hc7.size
          have hfin := HT6.out.put (Bk' := fun b => Bk b ∨ Fresh wc.heap.size w6 b) (fun b hb => by have := HBK6.out b hb; omega) x.1 av' dv' HSX.out hm7 hc7 (HN'.out.mono (fun b hb => .inr hb)) (fun b hb => .inl hb) (fun b hb => by
            rcases hb with hb | hb
            · have h1 := HBK6.out b hb
              exact ⟨by omega, fun e => HT6.out.ne.2.1 (e ▸ hb), fun e => HT6.out.ne.2.2 (e ▸ hb)⟩
            · have h1 := hb.1
              have h2 := HLT6.out
              exact ⟨hb.2, by omega, by omega⟩)
          rw [← growT_snoc, ← hGS.out] at hfin
          have hch : Chg (fun j => (trA T mb Bk f (growT ((l.take k).map (·.1)))).blk j) wc.heap.size wc w7 := ((Chg.of_below (M := fun j => (trA T mb Bk f (growT ((l.take k).map (·.1)))).blk j) HC6.out)).trans ((hc7.lower HS6.out).mono (Nat.le_refl _) (fun j hj => .inr (.inl hj)))
          have H7 := Keep.keep (HC.out.upd 0 rfl (trA T mb (fun b => Bk b ∨ Fresh wc.heap.size w6 b) (fun q => if q = x.1.1 then (av', dv') else f q) (growT ((l.take (k + 1)).map (fun y : Mv => y.1)))) hch hfin (fun b hb => by
            rcases hb with h | h | h | h
            · exact .inl (.inl h)
            · exact .inl (.inr (.inl h))
            · exact .inl (.inr (.inr h))
            · exact .inr ⟨h.1, by have := h.2; omega⟩))
          clear hfin hm7 hc7 hch
          simp only [Act.put]
          go_wp2_with fail
          go_roundg gn
          case measure => omega
          case rel => exact ⟨k + 1, (fun b => Bk b ∨ Fresh wc.heap.size w6 b), (fun q => if q = x.1.1 then (av', dv') else f q), by omega, by simp, H7.out.take 2⟩
      · have hd : decide ((k : Int) < (n : Int)) = false := decide_eq_false (by omega)
        have hkn : k = n := by omega
        subst hkn
        have etk : l.take k = l := List.take_of_length_le (by rw [HN.out]; exact Nat.le_refl _)
        rw [etk] at HH
        obtain ⟨t, ht⟩ : ∃ t, growT (l.map (·.1)) = t := ⟨_, rfl⟩
        rw [ht] at HH HNT2
        have htl : t.length ≤ k := by rw [← ht]; have := growT_len (l.map (·.1)); rw [List.length_map, HN.out] at this; exact this
        have hTI : TreeIn wr T mb Bk f t := HH.out.get 0 rfl
        have hbk : ∀ b, Bk b → w.heap.size ≤ b ∧ b < wr.heap.size := fun b hb => by
          have := (HH.out.p _ (List.mem_of_getElem? (i := 0) rfl)).2 b (.inr (.inr hb))
          exact ⟨this.1.elim id (fun h => h.elim), this.2⟩
        have hlt0 : w.heap.size ≤ T ∧ w.heap.size ≤ mb := ⟨((HH.out.p _ (List.mem_of_getElem? (i := 0) rfl)).2 T (.inl rfl)).1.elim id (fun h => h.elim), HMB.out⟩
        have c4 := (HH.out.row 1 rfl).cell (i := 0) rfl
        have cT := hTI.row.cell (i := 0) rfl
        have hlen := fun ty => hTI.map.len Tryz.underlying84 ty
        have e1 : (entries f t).length = t.length := by simp [entries]
        rw [e1] at hlen
        have HTI := Keep.keep hTI; have HBKK := Keep.keep hbk; have HL0 := Keep.keep hlt0
        have HC2 : Keep (Calls Tryz.prog 43 #[.slice a k cap, .func (.func 59) #[] #[.pointer (some ⟨P4, 0, none⟩)]] wr fun e w' => e = .returned (.bool (l.any fun x => !dirT t (parentP x.1.1))) ∧ Below wr.heap.size wr w') := ⟨cfuncM 59 #[.pointer (some ⟨P4, 0, none⟩)] (fun m => !dirT t (parentP m.1)) _ l wr ent_n2 (fun wx hb x hx => by
          have hP := HH.out.call hb
          have := n2_any x.1 x.2.1 x.2.2 (HS.out x hx) (HR.out.nd x hx).shape P4 T mb Bk f t wx (hP.get 0 rfl) (fun b hb' => Nat.lt_of_lt_of_le (hbk b hb').2 hb.size) ((hP.row 1 rfl).cell (i := 0) rfl)
          simpa [mcell] using this) (by
          have hq := (HR.out.below HH.out.below (fun b hb => hb) (fun b hb => hb)).mono (K := (· < wr.heap.size)) (K' := (· < wr.heap.size)) (fun b hb => Nat.lt_of_lt_of_le hb HH.out.size) (fun b hb => Nat.lt_of_lt_of_le hb HH.out.size)
          rwa [HN.out] at hq)⟩
        obtain ⟨an, han⟩ : ∃ an, (l.any fun x => !dirT t (parentP x.1.1)) = an := ⟨_, rfl⟩
        rw [han] at HC2 HNT2
        clear hTI hbk hlt0 e1 han ht etk hmm
        by_cases hl9 : t.length < k
        · have hd9 : decide ((t.length : Int) < (k : Int)) = true := decide_eq_true (by omega)
          have hd9n : decide (t.length < k) = true := decide_eq_true hl9
          have HRE : Keep (res = (9, none)) := ⟨by rw [HNT2.out, if_pos hl9]⟩
          clear HC2
          go_wp2_with fail
          go_ret2
          rw [HRE.out]
          exact ⟨⟨_, rfl, rfl⟩, HH.out.below⟩
        · have hd9 : decide ((t.length : Int) < (k : Int)) = false := decide_eq_false (by omega)
          have hd9n : decide (t.length < k) = false := decide_eq_false hl9
          have HNT3 : Keep (res = if an then (33, none) else if 4096 < k then (42, none) else (0, some t)) := ⟨by rw [HNT2.out, if_neg hl9]⟩
          clear HNT2 hl9
          go_wp2_with fail
          refine HC2.out.mono ?_
          rintro e w3 ⟨rfl, hb3⟩
          have H3 := Keep.keep (HH.out.call hb3)
          clear hb3
          cases an with
          | true =>
            have HRE : Keep (res = (33, none)) := ⟨HNT3.out⟩
            go_wp2_with fail
            go_ret2
            rw [HRE.out]
            exact ⟨⟨_, rfl, rfl⟩, H3.out.below⟩
          | false =>
            by_cases h42 : 4096 < k
            · have hd42 : decide ((4096 : Int) < (k : Int)) = true := decide_eq_true (by omega)
              have hd42n : decide (4096 < k) = true := decide_eq_true h42
              have HRE : Keep (res = (42, none)) := ⟨by rw [HNT3.out, if_pos h42]; rfl⟩
              go_wp2_with fail
              go_ret2
              rw [HRE.out]
              exact ⟨⟨_, rfl, rfl⟩, H3.out.below⟩
            · have hd42 : decide ((4096 : Int) < (k : Int)) = false := decide_eq_false (by omega)
              have hd42n : decide (4096 < k) = false := decide_eq_false h42
              have HRE : Keep (res = (0, some t)) := ⟨by rw [HNT3.out, if_neg h42]; rfl⟩
              clear h42 c4
              have c4 := (H3.out.row 1 rfl).cell (i := 0) rfl
              go_wp2_with fail
              go_ret2
              rw [HRE.out]
              refine ⟨⟨_, rfl, T, mb, Bk, f, rfl, H3.out.get 0 rfl, HL0.out.1, HL0.out.2, fun b hb => ?_⟩, H3.out.below⟩
              have := (H3.out.p _ (List.mem_of_getElem? (i := 0) rfl)).2 b (.inr (.inr hb))
              exact ⟨this.1.elim id (fun h => h.elim), this.2⟩
end Go.Proofs.YtplafpokgpolkaaGreatDoor
/- THE LIBRARY CONTRACTS on sorted keys, laid at this translation by the shelf's own programs (lay-iter, lay-plain). -/
namespace Go.Proofs
open Go.RowKit Go.Maps Go.Sort Go.Shelf
def Tryz.keys144_ren : Go.Shelf.Ren := ⟨fun | 7 => 144 | 10 => 165 | n => n, fun | 23 => 84 | 26 => 9 | 3 => 30 | 28 => 154 | 0 => 0 | 27 => 153 | 33 => 88 | 4 => 4 | n => n, fun | n => n⟩
theorem Tryz.keys144 : Go.Proofs.SlLaysZ.n7 Tryz.prog Tryz.keys144_ren := {
  mixed := by kernel_rfl
  f7 := ⟨Tryz.f144.name, by decide, Tryz.func144.trans (congrArg some (by kernel_rfl))⟩
  f10 := ⟨Tryz.f165.name, by decide, Tryz.func165.trans (congrArg some (by kernel_rfl))⟩
  t0 := Tryz.underlying0
  a0 := Tryz.isAgg0
  z0 := Tryz.sizeOf0
  v0 := Tryz.zeroValue0
  t4 := Tryz.underlying4
  a4 := Tryz.isAgg4
  z4 := Tryz.sizeOf4
  v4 := Tryz.zeroValue4
  t23 := Tryz.underlying84
  a23 := Tryz.isAgg84
  z23 := Tryz.sizeOf84
  v23 := Tryz.zeroValue84
  t26 := Tryz.underlying9
  a26 := Tryz.isAgg9
  z26 := Tryz.sizeOf9
  v26 := Tryz.zeroValue9
  t27 := Tryz.underlying153
  a27 := Tryz.isAgg153
  z27 := Tryz.sizeOf153
  v27 := Tryz.zeroValue153
  t28 := Tryz.underlying154
  a28 := Tryz.isAgg154
  z28 := Tryz.sizeOf154
  v28 := Tryz.zeroValue154
  t33 := Tryz.underlying88
  a33 := Tryz.isAgg88
  z33 := Tryz.sizeOf88
  v33 := Tryz.zeroValue88 }
def Tryz.sorted143_ren : Go.Shelf.Ren := ⟨fun | 6 => 143 | 8 => 164 | 9 => 97 | 11 => 181 | 13 => 130 | 12 => 129 | 23 => 158 | 24 => 159 | 14 => 149 | 15 => 150 | 16 => 151 | 17 => 152 | 18 => 153 | 19 => 154 | 20 => 155 | 21 => 156 | 22 => 157 | 25 => 171 | 26 => 172 | 27 => 173 | 28 => 174 | 29 => 175 | 30 => 176 | 31 => 188 | n => n, fun | 26 => 9 | 28 => 154 | 24 => 38 | 0 => 0 | 3 => 3 | 37 => 138 | 48 => 26 | 50 => 167 | 4 => 4 | 40 => 160 | 39 => 159 | 45 => 150 | 5 => 5 | 9 => 9 | 51 => 177 | 55 => 181 | 57 => 191 | 58 => 192 | 33 => 88 | n => n, fun | n => n⟩
theorem Tryz.sorted143 : Go.Proofs.SlLaysZ.n6 Tryz.prog Tryz.sorted143_ren := {
  mixed := by kernel_rfl
  f6 := ⟨Tryz.f143.name, by decide, Tryz.func143.trans (congrArg some (by kernel_rfl))⟩
  f8 := ⟨Tryz.f164.name, by decide, Tryz.func164.trans (congrArg some (by kernel_rfl))⟩
  f11 := ⟨Tryz.f181.name, by decide, Tryz.func181.trans (congrArg some (by kernel_rfl))⟩
  t0 := Tryz.underlying0
  a0 := Tryz.isAgg0
  z0 := Tryz.sizeOf0
  v0 := Tryz.zeroValue0
  t24 := Tryz.underlying38
  a24 := Tryz.isAgg38
  z24 := Tryz.sizeOf38
  v24 := Tryz.zeroValue38
  t26 := Tryz.underlying9
  a26 := Tryz.isAgg9
  z26 := Tryz.sizeOf9
  v26 := Tryz.zeroValue9
  t28 := Tryz.underlying154
  a28 := Tryz.isAgg154
  z28 := Tryz.sizeOf154
  v28 := Tryz.zeroValue154
  i26 := by kernel_rfl }
def Tryz.sort97_ren : Go.Shelf.Ren := ⟨fun | 6 => 97 | 8 => 130 | 9 => 129 | 19 => 158 | 20 => 159 | 21 => 149 | 22 => 150 | 23 => 151 | 24 => 152 | 25 => 153 | 26 => 154 | 27 => 155 | 28 => 156 | 29 => 157 | 36 => 171 | 31 => 172 | 32 => 173 | 37 => 174 | 38 => 175 | 39 => 176 | 41 => 188 | n => n, fun | 27 => 38 | 29 => 9 | 3 => 3 | 32 => 138 | 26 => 38 | 0 => 0 | 44 => 26 | 46 => 167 | 4 => 4 | 36 => 160 | 35 => 159 | 41 => 150 | 5 => 5 | 9 => 9 | 53 => 177 | 57 => 181 | 63 => 191 | 64 => 192 | n => n, fun | n => n⟩
theorem Tryz.sort97 : Go.Proofs.SlLaysM.n6 Tryz.prog Tryz.sort97_ren := {
  mixed := by kernel_rfl
  f6 := ⟨Tryz.f97.name, by decide, Tryz.func97.trans (congrArg some (by kernel_rfl))⟩
  f8 := Tryz.func130.trans (congrArg some (by kernel_rfl))
  f9 := ⟨Tryz.f129.name, by decide, Tryz.func129.trans (congrArg some (by kernel_rfl))⟩
  f19 := Tryz.func158.trans (congrArg some (by kernel_rfl))
  f20 := Tryz.func159.trans (congrArg some (by kernel_rfl))
  f21 := ⟨Tryz.f149.name, by decide, Tryz.func149.trans (congrArg some (by kernel_rfl))⟩
  f22 := ⟨Tryz.f150.name, by decide, Tryz.func150.trans (congrArg some (by kernel_rfl))⟩
  f23 := ⟨Tryz.f151.name, by decide, Tryz.func151.trans (congrArg some (by kernel_rfl))⟩
  f24 := ⟨Tryz.f152.name, by decide, Tryz.func152.trans (congrArg some (by kernel_rfl))⟩
  f25 := ⟨Tryz.f153.name, by decide, Tryz.func153.trans (congrArg some (by kernel_rfl))⟩
  f26 := ⟨Tryz.f154.name, by decide, Tryz.func154.trans (congrArg some (by kernel_rfl))⟩
  f27 := ⟨Tryz.f155.name, by decide, Tryz.func155.trans (congrArg some (by kernel_rfl))⟩
  f28 := ⟨Tryz.f156.name, by decide, Tryz.func156.trans (congrArg some (by kernel_rfl))⟩
  f29 := ⟨Tryz.f157.name, by decide, Tryz.func157.trans (congrArg some (by kernel_rfl))⟩
  f31 := Tryz.func172.trans (congrArg some (by kernel_rfl))
  f32 := Tryz.func173.trans (congrArg some (by kernel_rfl))
  f36 := ⟨Tryz.f171.name, by decide, Tryz.func171.trans (congrArg some (by kernel_rfl))⟩
  f37 := ⟨Tryz.f174.name, by decide, Tryz.func174.trans (congrArg some (by kernel_rfl))⟩
  f38 := ⟨Tryz.f175.name, by decide, Tryz.func175.trans (congrArg some (by kernel_rfl))⟩
  f39 := ⟨Tryz.f176.name, by decide, Tryz.func176.trans (congrArg some (by kernel_rfl))⟩
  f41 := ⟨Tryz.f188.name, by decide, Tryz.func188.trans (congrArg some (by kernel_rfl))⟩
  t0 := Tryz.underlying0
  a0 := Tryz.isAgg0
  z0 := Tryz.sizeOf0
  v0 := Tryz.zeroValue0
  t3 := Tryz.underlying3
  a3 := Tryz.isAgg3
  z3 := Tryz.sizeOf3
  v3 := Tryz.zeroValue3
  t4 := Tryz.underlying4
  a4 := Tryz.isAgg4
  z4 := Tryz.sizeOf4
  v4 := Tryz.zeroValue4
  t5 := Tryz.underlying5
  a5 := Tryz.isAgg5
  z5 := Tryz.sizeOf5
  v5 := Tryz.zeroValue5
  t9 := Tryz.underlying9
  a9 := Tryz.isAgg9
  z9 := Tryz.sizeOf9
  v9 := Tryz.zeroValue9
  t26 := Tryz.underlying38
  a26 := Tryz.isAgg38
  z26 := Tryz.sizeOf38
  v26 := Tryz.zeroValue38
  t27 := Tryz.underlying38
  a27 := Tryz.isAgg38
  z27 := Tryz.sizeOf38
  v27 := Tryz.zeroValue38
  t29 := Tryz.underlying9
  a29 := Tryz.isAgg9
  z29 := Tryz.sizeOf9
  v29 := Tryz.zeroValue9
  t32 := Tryz.underlying138
  a32 := Tryz.isAgg138
  z32 := Tryz.sizeOf138
  v32 := Tryz.zeroValue138
  t35 := Tryz.underlying159
  a35 := Tryz.isAgg159
  z35 := Tryz.sizeOf159
  v35 := Tryz.zeroValue159
  t36 := Tryz.underlying160
  a36 := Tryz.isAgg160
  z36 := Tryz.sizeOf160
  v36 := Tryz.zeroValue160
  t41 := Tryz.underlying150
  a41 := Tryz.isAgg150
  z41 := Tryz.sizeOf150
  v41 := Tryz.zeroValue150
  t44 := Tryz.underlying26
  a44 := Tryz.isAgg26
  z44 := Tryz.sizeOf26
  v44 := Tryz.zeroValue26
  t46 := Tryz.underlying167
  a46 := Tryz.isAgg167
  z46 := Tryz.sizeOf167
  v46 := Tryz.zeroValue167
  t53 := Tryz.underlying177
  a53 := Tryz.isAgg177
  z53 := Tryz.sizeOf177
  v53 := Tryz.zeroValue177
  t57 := Tryz.underlying181
  a57 := Tryz.isAgg181
  z57 := Tryz.sizeOf181
  v57 := Tryz.zeroValue181
  t63 := Tryz.underlying191
  a63 := Tryz.isAgg191
  z63 := Tryz.sizeOf191
  v63 := Tryz.zeroValue191
  t64 := Tryz.underlying192
  a64 := Tryz.isAgg192
  z64 := Tryz.sizeOf192
  v64 := Tryz.zeroValue192 }


theorem Tryz.sorts143 (m : Nat) : AnyZ.SortsIn Tryz.prog Tryz.sorted143_ren Fence.wide m :=
  ⟨fun blk off cap ss W hH hblk hsz => callsIn_wide.2 (AnyM.slices_Sort_string Tryz.sort97 blk off cap ss W hH hblk hsz),
   fun p cap W => callsIn_wide.2 (AnyM.slices_Sort_string_none Tryz.sort97 p cap W)⟩

theorem Tryz.maps_Keys_144 (mb : Option Nat) (W : World) : CallsIn Fence.wide 5 Tryz.prog 144 #[.map mb] W fun e w' => e = .returned (.func (.func 165) #[] #[.pointer (some ⟨W.heap.size, 0, none⟩)]) ∧ w' = W.alloc (.cells #[.map mb] 84) :=
  AnyZ.keys_in Tryz.keys144 Fence.wide 5 trivial rfl mb W

set_option maxHeartbeats 1000000 in
theorem Tryz.slices_Sorted_keys_143_144 {H : Type} (b nn : Nat) (D0 : DataW H) (R : Value → Option (DataW H × List MemPlace)) (w : World) (hown : w.ownsMap Tryz.prog 9 R b nn D0) (hmax : Maps.size D0 ≤ maxLen) (hbytes : Maps.size D0 * 16 ≤ 140737488355328) :
    CallsIn Fence.wide 5 Tryz.prog 143 #[.func (.func 165) #[] #[.pointer (some ⟨w.heap.size, 0, none⟩)]] (w.alloc (.cells #[.map (some b)] 84)) fun e w' => ∃ (v : Value) (ss : List (List UInt8)), e = .returned v ∧ ss.Perm (strKeys D0) ∧
      w'.ownsRow (w.alloc (.cells #[.map (some b)] 84)).heap.size 9 1 v ss.length ((ss.mergeSort (fun x y => decide (x ≤ y))).map encStr) ∧ (v = .slice none 0 0 ↔ ss = []) ∧ Below (w.alloc (.cells #[.map (some b)] 84)).heap.size (w.alloc (.cells #[.map (some b)] 84)) w' := by
  have hbl := hown.lt
  have hseq : SeqGives Fence.wide 2 Tryz.prog 165 #[.pointer (some ⟨w.heap.size, 0, none⟩)] encStr (fun ss => ss.Perm (strKeys D0)) (Maps.size D0) (w.alloc (.cells #[.map (some b)] 84)) :=
    AnyZ.keys_gives (ρ := Tryz.keys144_ren) { Tryz.keys144 with } Fence.wide _ trivial rfl (by omega) w.heap.size b nn D0 _ (by simp) (by simp) (by
      obtain ⟨es, clock, hb, Ft, hs, hD⟩ := hown
      exact ⟨es, clock, (Below.heap_alloc _ _ b hbl).trans hb, Ft, hs, hD⟩)
  exact AnyZ.sorted_in Tryz.sorted143 Fence.wide 5 trivial trivial trivial trivial rfl (by omega) (Tryz.sorts143 _) (enters_of Tryz.func97 (by kernel_rfl) rfl) 165 #[.pointer (some ⟨w.heap.size, 0, none⟩)] trivial (enters_of Tryz.func165 (by kernel_rfl) rfl) _ _ hmax hbytes _ hseq

set_option maxHeartbeats 1000000 in
theorem Tryz.slices_Sorted_keys_nil_143_144 (w : World) :
    CallsIn Fence.wide 5 Tryz.prog 143 #[.func (.func 165) #[] #[.pointer (some ⟨w.heap.size, 0, none⟩)]] (w.alloc (.cells #[.map none] 84)) fun e w' => ∃ (v : Value) (ss : List (List UInt8)), e = .returned v ∧ ss = [] ∧
      w'.ownsRow (w.alloc (.cells #[.map none] 84)).heap.size 9 1 v ss.length ((ss.mergeSort (fun x y => decide (x ≤ y))).map encStr) ∧ (v = .slice none 0 0 ↔ ss = []) ∧ Below (w.alloc (.cells #[.map none] 84)).heap.size (w.alloc (.cells #[.map none] 84)) w' := by
  have hseq : SeqGives Fence.wide 2 Tryz.prog 165 #[.pointer (some ⟨w.heap.size, 0, none⟩)] encStr (fun ss : List (List UInt8) => ss = []) 0 (w.alloc (.cells #[.map none] 84)) :=
    AnyZ.keys_gives_nil (ρ := Tryz.keys144_ren) { Tryz.keys144 with } Fence.wide _ trivial rfl w.heap.size _ (by simp) (by simp)
  exact AnyZ.sorted_in Tryz.sorted143 Fence.wide 5 trivial trivial trivial trivial rfl (by omega) (Tryz.sorts143 _) (enters_of Tryz.func97 (by kernel_rfl) rfl) 165 #[.pointer (some ⟨w.heap.size, 0, none⟩)] trivial (enters_of Tryz.func165 (by kernel_rfl) rfl) _ 0 (Nat.zero_le _) (by omega) _ hseq



end Go.Proofs
/- tree.Each: what it hands out. -/
namespace Go.Proofs.YtplafpokgpolkaaGreatDoor
open Go.RowKit Go.Shelf
attribute [local go_sem] Oper.semAt_some
/-- what a round keeps: what lay below n₀, and each row of texts -/
def KE (M : Nat → Prop) (n₀ : Nat) (W W' : World) : Prop := Chg M n₀ W W' ∧ ∀ (b : Nat) (c : Array Value), W.heap[b]? = some (Obj.cells c 9 (0, 0)) → W'.heap[b]? = some (Obj.cells c 9 (0, 0))
theorem KE.refl (M : Nat → Prop) (n₀ : Nat) (W : World) : KE M n₀ W W := ⟨Chg.refl _ _ _, fun _ _ h => h⟩
theorem KE.trans {M : Nat → Prop} {n₀ : Nat} {A B C : World} (h : KE M n₀ A B) (k : KE M n₀ B C) : KE M n₀ A C := ⟨h.1.trans k.1, fun b c hb => k.2 b c (h.2 b c hb)⟩
theorem KE.of_below {M : Nat → Prop} {n₀ : Nat} {A B : World} (h : Below A.heap.size A B) (hn : n₀ ≤ A.heap.size) : KE M n₀ A B := ⟨.of_below (h.mono hn), fun b c hb => by rw [h.block b (Array.getElem?_eq_some_iff.1 hb).1]; exact hb⟩
theorem KE.b {M : Nat → Prop} {n₀ : Nat} {w : World} (hn : n₀ ≤ w.heap.size) (W : World) (l : Nat) (o o' : Obj) (hl : w.heap.size ≤ l) (h : W.heap[l]? = some o) (hc : o.isCells = false) (hw : o.isWalk = false) : KE M n₀ W (W.putObj l o') :=
  ⟨.of_below (belowK_b hn W l o o' hl h hc hw), fun b c hb => by
    have hne : b ≠ l := by rintro rfl; rw [h] at hb; injection hb with hb; subst hb; cases hc
    rw [World.putObj_heap_other hne]; exact hb⟩
theorem strKeys_dS (M : List (Tx × Value)) : strKeys (dS M) = M.map (·.1) := by
  show (M.map dSe).map (fun p => strOf p.1) = M.map (·.1)
  rw [List.map_map]
  rfl
theorem sort_srt {α : Type} {M : List (Tx × α)} (h : SM.Srt M) {ss : List Tx} (hp : ss.Perm (M.map (·.1))) : ss.mergeSort (fun x y => decide (x ≤ y)) = M.map (·.1) := by
  have := mergeSort_of_perm hp
  rw [show (fun x y => decide (x ≤ y)) = leB from rfl, this]
  refine List.mergeSort_of_pairwise (le := leB) ?_
  rw [List.pairwise_map]
  exact List.Pairwise.imp (R := fun a b : Tx × α => a.1 < b.1) (fun {a b} hab => by simpa [leB] using List.le_of_lt hab) h
theorem buildM (m : Mb) (av dv : Value) (w : World) : (Instr.build 32 #[(0, .string ⟨m.1.toArray⟩), (1, .agg (ndC m.2 av dv))]).run Tryz.prog w = .ok (.agg (mbC m av dv)) w := by kernel_rfl
/-- a row of the names -/
theorem names_row {w : World} {base : Nat} {v : Value} {ss : List Tx} {L : List Mb} (hss : ss.mergeSort (fun x y => decide (x ≤ y)) = L.map (·.1)) (h : w.ownsRow base 9 1 v ss.length ((ss.mergeSort (fun x y => decide (x ≤ y))).map encStr)) :
    ∃ av cv, v = .slice av ss.length cv ∧ (L = [] ∨ ∃ g cur, av = some ⟨g, 0, none⟩ ∧ w.heap[g]? = some (Obj.cells cur 9 (0, 0)) ∧ ∀ k (hk : k < L.length), cur[k]? = some (encStr L[k].1)) := by
  rw [hss] at h
  obtain ⟨hl, h⟩ := h
  rw [List.map_map, List.length_map, Nat.mul_one] at hl
  rcases h with ⟨rfl, h0⟩ | ⟨g, cap, cur, rfl, hb, hh, hn, hm, hs, ht⟩
  · exact ⟨none, 0, by rw [h0], .inl (List.eq_nil_of_length_eq_zero (by omega))⟩
  · refine ⟨_, cap, rfl, .inr ⟨g, cur, rfl, hh, fun k hk => ?_⟩⟩
    have : (cur.toList.take (ss.length * 1))[k]? = some (encStr L[k].1) := by
      rw [ht]; simp [hk]
    rw [List.getElem?_take] at this
    split at this
    · simpa using this
    · cases this
def encM (f : Tx → Value × Value) (x : Mb) : Array Value := #[.agg (mbC x (f x.1).1 (f x.1).2)]
set_option maxRecDepth 100000 in
set_option maxHeartbeats 4000000 in
theorem each1_in (M : Nat → Prop) (n : Nat) (hn : 6 ≤ n) (lo Bt n₀ T mb : Nat) (Bk : Nat → Prop) (f : Tx → Value × Value) (L : List Mb) (hL : L.length ≤ 1000000) (J Jx : List Mb → World → Prop)
    (hY : ∀ pre x W, x ∈ L → J pre W → pre.length < L.length → YieldAt Fence.wide (n - 1) Tryz.prog lo (encM f x) W fun e W' =>
      (e = .returned (.bool true) ∧ J (pre ++ [x]) W' ∧ KE M n₀ W W') ∨ (e = .returned (.bool false) ∧ Jx (pre ++ [x]) W'))
    (W : World) (hJ : AbidesFrom W.heap.size J) (hBt : W.cell? ⟨Bt, 0, none⟩ = some (.pointer (some ⟨T, 0, none⟩))) (hBt0 : Bt < n₀ ∧ ¬ M Bt) (hT : TreeIn W T mb Bk f L) (hlt : T < n₀ ∧ mb < n₀ ∧ ∀ b, Bk b → b < n₀) (hM : ¬ M T ∧ ¬ M mb ∧ ∀ b, Bk b → ¬ M b) (hn0 : n₀ ≤ W.heap.size) (h0 : J [] W) :
    CallsIn Fence.wide n Tryz.prog 142 #[.func (.yield lo) #[] #[], .pointer (some ⟨Bt, 0, none⟩)] W fun e W' => (∃ v, e = .returned v) ∧
      ((∃ ys, ys = L ∧ J ys W') ∨ (∃ pre, (∃ k, k ≤ L.length ∧ pre = L.take k) ∧ Jx pre W')) := by
  have hn1 : 1 ≤ n := by omega
  have HT := Keep.keep hT
  have HNN := Keep.keep (none_ok T mb W hT.row)
  have c0 := hT.row.cell (i := 0) rfl
  have hsz : Maps.size (dS (entries f L)) = L.length := by rw [size_dS]; simp [entries]
  have HSO := Keep.keep (Tryz.slices_Sorted_keys_143_144 mb _ (dS (entries f L)) rawE W hT.map.o (by rw [hsz]; unfold maxLen; omega) (by rw [hsz]; omega))
  have HSK : Keep (∀ ss : List Tx, ss.Perm (strKeys (dS (entries f L))) → ss.mergeSort (fun x y => decide (x ≤ y)) = L.map (·.1)) := ⟨fun ss hp => by
    rw [strKeys_dS] at hp
    have := sort_srt hT.map.s hp
    rw [this]; simp [entries, Function.comp_def]⟩
  have HON : Keep (∀ wx, Chg M n₀ W wx → TreeIn wx T mb Bk f L) := ⟨fun wx hb => hT.loc (fun b hb' => hb.block b (by rcases hb' with h | h | h; omega; omega; exact hlt.2.2 b h) (by rcases hb' with rfl | rfl | h; exact hM.1; exact hM.2.1; exact hM.2.2 b h))⟩
  have HBT : Keep (∀ wx, Chg M n₀ W wx → wx.cell? ⟨Bt, 0, none⟩ = some (.pointer (some ⟨T, 0, none⟩))) := ⟨fun wx hb => by rw [hb.cell (p := ⟨Bt, 0, none⟩) hBt0.1 hBt0.2]; exact hBt⟩
  clear hsz
  have hf1 : Fence.wide.fn 65 := trivial
  have hf2 : Fence.wide.fn 144 := trivial
  have hf3 : Fence.wide.fn 143 := trivial
  refine callsIn_of_wp Tryz.func142 rfl trivial ?_ rfl
  simp only [Tryz.ntmps142, List.size_toArray, List.length_cons, List.length_nil, Nat.reduceAdd, Nat.reduceSub, Array.replicate_succ, Array.replicate_zero, List.push_toArray, List.append_toArray, List.nil_append, List.cons_append]
  gi_wp2_with (first
    | (gi_at_call 65; refine (callsIn_wide.2 HNN.out).mono ?_; rintro e w' ⟨rfl, rfl⟩)
    | (gi_at_call 144; refine (callsIn_wide.2 (callsIn_wide.1 (Tryz.maps_Keys_144 _ _))).mono ?_; rintro e w' ⟨rfl, rfl⟩)
    | (gi_at_call 143; refine (callsIn_wide.2 (callsIn_wide.1 HSO.out)).mono ?_; rintro e w' ⟨v, ss, rfl, hS, hrow, hnil, hb⟩
       have hss := HSK.out ss hS
       obtain ⟨av, cv, hv, HNR⟩ := names_row hss hrow
       have HLS : Keep (ss.length = L.length) := ⟨by have := congrArg List.length hss; rw [List.length_mergeSort, List.length_map] at this; exact this⟩
       rw [HLS.out] at hv
       have HB := Keep.keep (((Below.refl W.heap.size W).alloc (Nat.le_refl _) _).trans (hb.mono (by simp)))
       have HNR := Keep.keep HNR
       clear hS hrow hnil hb hss HLS
       subst hv))
  gi_loopw [4, 14] (fun _ u14 wr => ∃ k : Nat, k ≤ L.length ∧ u14 = .int .i64 (k : Int) ∧ J (L.take k) wr ∧ Chg M n₀ W wr ∧ (L = [] ∨ ∃ g cur, av = some ⟨g, 0, none⟩ ∧ wr.heap[g]? = some (Obj.cells cur 9 (0, 0)) ∧ ∀ k (hk : k < L.length), cur[k]? = some (encStr L[k].1)))
    (fun _ u14 _ => L.length - (intOf u14).toNat)
  case atStart => exact ⟨0, Nat.zero_le _, rfl, hJ [] W _ none h0 ⟨HB.out.os, HB.out.tape, HB.out.output, HB.out.size, fun i hi _ => HB.out.block i hi⟩ (fun r e => by cases e), .of_below (HB.out.mono hn0), HNR.out⟩
  case round =>
    obtain ⟨k, hkL, rfl, hJs, hbl, hnr⟩ := hrel
    have HJS := Keep.keep hJs; have HBL := Keep.keep hbl; have HNR2 := Keep.keep hnr
    clear hJs hbl hnr HB HNR HSO
    by_cases hk : k < L.length
    · have hd : decide ((k : Int) < (L.length : Int)) = true := decide_eq_true (by omega)
      obtain ⟨g, cur, rfl, hg, hcs⟩ : ∃ g cur, av = some ⟨g, 0, none⟩ ∧ wr.heap[g]? = some (Obj.cells cur 9 (0, 0)) ∧ ∀ k (hk : k < L.length), cur[k]? = some (encStr L[k].1) := by
        rcases HNR2.out with h | h
        · rw [h] at hk; simp at hk
        · exact h
      have HG := Keep.keep hg; have HCS := Keep.keep hcs
      have hnm : wr.cell? ⟨g, k, none⟩ = some (encStr L[k].1) := by simp [World.cell?, hg, hcs k hk]
      have hTI := HON.out wr HBL.out
      have hTc := hTI.row.cell (i := 0) rfl
      have hBc := HBT.out wr HBL.out
      have hlk : SM.look L L[k].1 = some L[k].2 := (hTI.srt.look).2 (List.getElem_mem hk)
      have hsm := hTI.sm _ (List.getElem_mem hk)
      have hl1 := hTI.map.look1 Tryz.underlying9 Tryz.underlying84 (zeroN wr) (p := L[k].1) (by have := hsm.p; unfold maxLen; omega)
      rw [look_entries, hlk] at hl1
      simp only [Option.map_some, Option.getD_some] at hl1
      have HTK : Keep (L.take (k + 1) = L.take k ++ [L[k]]) := ⟨List.take_succ_eq_append_getElem hk⟩
      have htl : (L.take k).length < L.length := by rw [List.length_take]; omega
      obtain ⟨fn, tmps, assign, body, hy, hR⟩ := hY _ L[k] wr (List.getElem_mem hk) HJS.out htl
      unfold encM mbC strV at hy
      unfold ndC strV at hl1
      have HR := Keep.keep hR
      clear hR hlk hsm hTI htl hg hcs
      generalize L[k] = x at *
      unfold encStr at hnm
      gi_wp2
      refine HR.out.mono ?_
      rintro e W3 (⟨rfl, hJ3, hk3⟩ | ⟨rfl, hJx3⟩)
      · rw [← HTK.out] at hJ3
        have HJ3 := Keep.keep hJ3
        have HB3 : Keep (Chg M n₀ W W3) := ⟨HBL.out.trans hk3.1⟩
        have HN3 : Keep (L = [] ∨ ∃ g2 cur, some (Addr.mk g 0 none) = some ⟨g2, 0, none⟩ ∧ W3.heap[g2]? = some (Obj.cells cur 9 (0, 0)) ∧ ∀ k (hk : k < L.length), cur[k]? = some (encStr L[k].1)) := ⟨.inr ⟨g, cur, rfl, hk3.2 g cur HG.out, HCS.out⟩⟩
        clear hJ3 hk3
        gi_wp2
        go_roundw
        case rel => exact ⟨k + 1, by omega, by simp, HJ3.out, HB3.out, HN3.out⟩
        case measure => simp [intOf]; omega
      · rw [← HTK.out] at hJx3
        have HJ3 := Keep.keep hJx3
        clear hJx3
        gi_wp2
        refine bodyPost_ret (results_none rfl _ _ _) rfl ?_
        exact ⟨⟨_, rfl⟩, .inr ⟨_, ⟨k + 1, by omega, rfl⟩, HJ3.out⟩⟩
    · have hd : decide ((k : Int) < (L.length : Int)) = false := decide_eq_false (by omega)
      have hkl : k = L.length := by omega
      have HF : Keep (J L wr) := ⟨by have h := HJS.out; rw [hkl, List.take_length] at h; exact h⟩
      gi_wp2
      go_end0
      exact ⟨⟨_, rfl⟩, .inl ⟨L, rfl, HF.out⟩⟩
/-- tree.Each hands back a value that stops -/
theorem each_stops (M : Nat → Prop) (n : Nat) (hn : 6 ≤ n) (Bt n₀ T mb : Nat) (Bk : Nat → Prop) (f : Tx → Value × Value) (L : List Mb) (hL : L.length ≤ 1000000) (w : World) (hBt : w.cell? ⟨Bt, 0, none⟩ = some (.pointer (some ⟨T, 0, none⟩))) (hBt0 : Bt < n₀ ∧ ¬ M Bt) (hT : TreeIn w T mb Bk f L) (hlt : T < n₀ ∧ mb < n₀ ∧ ∀ b, Bk b → b < n₀) (hM : ¬ M T ∧ ¬ M mb ∧ ∀ b, Bk b → ¬ M b) (hn0 : n₀ ≤ w.heap.size) :
    SeqStopsK Fence.wide n Tryz.prog 142 #[.pointer (some ⟨Bt, 0, none⟩)] (fun x : {x : Mb // x ∈ L} => encM f x.1) (KE M n₀) (fun ys => ys.map (·.1) = L) (fun pre => ∃ k, k ≤ L.length ∧ pre.map (·.1) = L.take k) L.length w := fun lo J Jx W hW hJ _ hY h0 => by
  have hlt' : ∀ b, b < n₀ → W.heap[b]? = w.heap[b]? := fun b hb => hW.block b (Nat.lt_of_lt_of_le hb hn0)
  refine (each1_in M n hn lo Bt n₀ T mb Bk f L hL (fun pre W => ∃ q : List {x : Mb // x ∈ L}, q.map (·.1) = pre ∧ J q W) (fun pre W => ∃ q : List {x : Mb // x ∈ L}, q.map (·.1) = pre ∧ Jx q W) ?_ W ?_ (by rw [cell_loc (hlt' Bt hBt0.1)]; exact hBt) hBt0 (hT.loc (fun b hb' => hlt' b (by rcases hb' with h | h | h; omega; omega; exact hlt.2.2 b h))) hlt hM (Nat.le_trans hn0 hW.size) ⟨[], rfl, h0⟩).mono ?_
  · rintro pre x W1 hx ⟨q, rfl, hq⟩ hl
    obtain ⟨fn, tmps, assign, body, hy, hR⟩ := hY q ⟨x, hx⟩ W1 hq (by simpa using hl)
    refine ⟨fn, tmps, assign, body, hy, hR.mono ?_⟩
    rintro e W2 (⟨h1, h2, h3⟩ | ⟨h1, h2⟩)
    · exact .inl ⟨h1, ⟨_, by simp, h2⟩, h3⟩
    · exact .inr ⟨h1, _, by simp, h2⟩
  · intro q W1 W2 row hq h1 h2
    obtain ⟨q', e, hq'⟩ := hq
    exact ⟨q', e, hJ _ _ _ _ hq' h1 h2⟩
  · rintro e W2 ⟨hv, ⟨ys, rfl, q, e, hq⟩ | ⟨pre, ⟨k, hk, rfl⟩, q, e, hq⟩⟩
    · exact ⟨hv, .inl ⟨q, e, hq⟩⟩
    · exact ⟨hv, .inr ⟨q, ⟨k, hk, e⟩, hq⟩⟩
set_option maxHeartbeats 400000 in
set_option maxRecDepth 100000 in
/-- tree.Each -/
theorem each_any (a : Option Addr) (w : World) : Calls Tryz.prog 120 #[.pointer a] w fun e w' => e = .returned (.func (.func 142) #[] #[.pointer (some ⟨w.heap.size, 0, none⟩)]) ∧ w' = w.alloc (.cells #[.pointer a] 22) := by
  go_enter Tryz.func120, Tryz.ntmps120
  go_wp2_with fail
  go_ret
  exact ⟨rfl, rfl⟩
end Go.Proofs.YtplafpokgpolkaaGreatDoor
/- A REGION THAT DRAWS ITS ORDER, in the body of a range over a function: what is shown of its orders without a fence holds within the wide fence. -/
namespace Go.Proofs.YtplafpokgpolkaaGreatDoor
open Go.RowKit
def noDefer (ops : Array Oper) : Bool := ops.all fun o => match o.op with | .defer _ => false | _ => true
theorem noDefer_at {ops : Array Oper} (h : noDefer ops = true) {i : Nat} {o : Oper} (hi : ops[i]? = some o) {r : Nat} (ρ : Operand → Value) : Oper.semAt (some r) ρ o = execOp ρ o := by
  refine Oper.semAt_eq _ _ _ (fun c => ?_)
  obtain ⟨hlt, rfl⟩ := Array.getElem?_eq_some_iff.1 hi
  intro e
  have := (Array.all_eq_true.1 h) i hlt
  rw [e] at this
  cases this
theorem uponIn_of {r n : Nat} {P : Program} {o : Oper} {a : Act} {next : Act → World → Prop} {Q : Exit → Act → World → Prop} {x : Result Next} (h : o.upon P a next Q x) : o.uponIn (Fence.wide.inRound r) n P a next Q x := by
  cases x with
  | ok x w' =>
    cases x with
    | enter f args => exact ⟨(fun h => by cases h), (CallsIn.inRound r (callsIn_wide.2 h))⟩
    | row row args => exact ⟨(fun h => by cases h), fun c cs _ => let ⟨v, w', q, s⟩ := h c cs; ⟨v, w', q, stepsIn_wide.2 s⟩⟩
    | _ => first | exact h | exact h.elim
  | halt x w' => cases x <;> first | exact h | exact h.elim
theorem wpOpIn_of {r n : Nat} {P : Program} {ops : Array Oper} {Q : Exit → Act → World → Prop} {K : Act → World → Prop} {i : Nat} {a : Act} {w : World} (hd : noDefer ops = true) (hq : ¬ LetsOut Q) (h : wpOp P ops Q i K a w) : wpOpIn (Fence.wide.inRound r) n P ops Q i K a w := by
  unfold wpOp at h
  unfold wpOpIn
  cases hi : ops[i]? with
  | none => rw [hi] at h; exact h
  | some o =>
    rw [hi] at h
    simp only at h ⊢
    split
    · rename_i hw
      rw [if_pos hw] at h
      refine ⟨fun _ _ => trivial, ?_⟩
      rw [Fence.inRound_round, noDefer_at hd hi]
      exact uponIn_of (h.resolve_right (fun h => hq h.2))
    · rename_i hw
      rw [if_neg hw] at h
      exact ⟨fun _ _ => trivial, h⟩
theorem wpAnyIn_of {r n : Nat} {P : Program} {md : Region.Mode} {ops : Array Oper} {Q : Exit → Act → World → Prop} (hd : noDefer ops = true) (hq : ¬ LetsOut Q) : ∀ (f : Nat) (listed : Array Bool) (a : Act) (w : World), wpAny P md ops Q f listed a w → wpAnyIn (Fence.wide.inRound r) n P md ops Q f listed a w
  | 0, _, _, _, h => h
  | f + 1, _, _, _, h => ⟨h.1, fun i hi => wpOpIn_mono (fun a w h2 => wpAnyIn_of hd hq f _ a w h2) (wpOpIn_of hd hq (h.2 i hi))⟩
theorem wpIn_region_wide {r n id : Nat} {P : Program} {ops : Array Oper} {Q : Exit → Act → World → Prop} {a : Act} {w : World} (hm : P.follows .mixedOrders = true) (hd : noDefer ops = true) (hq : ¬ LetsOut Q) (h : wpAny P .any ops Q ops.size (Array.replicate ops.size false) a w.drew) : (Code.region id ops true).wpIn (Fence.wide.inRound r) n P Q a w :=
  wpIn_region_any hm (wpAnyIn_of hd hq _ _ _ _ h)
theorem any_spcT {P : Program} {l : List Oper} {Q : Exit → Act → World → Prop} {a : Act} {w : World} (n : Nat) (D : List Nat) (C : World → Prop) (T : Nat → Value → World → Prop) (St : World → World → Prop)
    (hD : (l.take n).map (·.dst) = D.map some) (hnd : D.Nodup) (hds : ∀ d ∈ D, d < a.tmps.size) (hio : inOrderB l.toArray = true) (hn : n < l.length) (hsk : Region.sinkB .any l.toArray n = true) (hch : Region.chainB .any l.toArray n = true)
    (hsq : Region.seqB .any l.toArray (l.length - n) n (headDone n l.length) = true) (h0 : C w.drew)
    (hst : ∀ i v w w', T i v w → C w → St w w' → T i v w')
    (hs : ∀ i, i < n → ∀ a1 w1, Fr a D a1 → C w1 → (∀ j, j < n → Region.waitsFor .any l.toArray i j = true → T j (slot a1 (D.getD j 0)) w1) →
      wpOp P l.toArray Q i (fun a2 w2 => ∃ v, a2 = a1.put (some (D.getD i 0)) v ∧ C w2 ∧ St w1 w2 ∧ T i v w2) a1 w1)
    (he : ∀ a1 w1, a1 = D.foldl (fun b d => b.put (some d) (slot a1 d)) a → C w1 → (∀ j, j < n → T j (slot a1 (D.getD j 0)) w1) → wpList P l.toArray Q (l.drop n) a1 w1) : wpAny P .any l.toArray Q l.toArray.size (Array.replicate l.toArray.size false) a w.drew := by
  have hlen : D.length = n := by have := congrArg List.length hD; simp at this; omega
  have hmem : ∀ i, i < n → D.getD i 0 ∈ D := fun i hi => by
    rw [List.getD_eq_getElem?_getD, List.getElem?_eq_getElem (by omega)]
    exact List.getElem_mem _
  have hinj : ∀ i j, i < n → j < n → D.getD i 0 = D.getD j 0 → i = j := fun i j hi hj h => by
    rw [List.getD_eq_getElem?_getD, List.getD_eq_getElem?_getD, List.getElem?_eq_getElem (by omega), List.getElem?_eq_getElem (by omega)] at h
    exact (List.getElem_inj hnd).1 h
  have hsz : l.toArray.size = l.length := by simp
  have key : ∀ (f : Nat) (done : Array Bool) (a1 : Act) (w1 : World), HeadInv .any l.toArray n done → Fr a D a1 → C w1 → (∀ j, j < n → done.getD j false = true → T j (slot a1 (D.getD j 0)) w1) →
      (List.range n).countP (fun j => !done.getD j false) = f → wpAny P .any l.toArray Q (f + (l.length - n)) done a1 w1 := by
    intro f
    induction f with
    | zero =>
      intro done a1 w1 inv hF hC hT hc
      have hall : ∀ j, j < n → done.getD j false = true := fun j hj => by
        have := List.countP_eq_zero.1 hc j (List.mem_range.2 hj)
        simpa using this
      have hdn : done = headDone n l.length := by
        have hs1 : done.size = l.length := by rw [inv.size, hsz]
        refine Array.ext (by simp [headDone, hs1]; omega) (fun j h1 h2 => ?_)
        have hj2 : j < l.length := by omega
        by_cases hj : j < n
        · have := hall j hj
          rw [Array.getD_eq_getD_getElem?, Array.getElem?_eq_getElem h1] at this
          simp only [Option.getD_some] at this
          rw [this]
          simp [headDone, hj]
        · have := inv.tail j (by omega) (by omega)
          rw [Array.getD_eq_getD_getElem?, Array.getElem?_eq_getElem h1] at this
          simp only [Option.getD_some] at this
          rw [this]
          simp [headDone, List.getElem_append, hj]
      have hw := he a1 w1 hF.eq hC (fun j hj => hT j hj (hall j hj))
      have hdl : (l.drop n).length = l.length - n := by simp
      have := wpAny_of_seq (md := .any) (ops := l.toArray) (Q' := Q) (l.drop n) n done a1 w1 (fun j => by simp [List.getElem?_drop]) (by rw [hdl, hdn]; exact hsq) hw
      rw [hdl] at this
      rwa [Nat.zero_add]
    | succ f ih =>
      intro done a1 w1 inv hF hC hT hc
      obtain ⟨j0, hj0, hu0⟩ : ∃ j0, j0 < n ∧ done.getD j0 false = false := by
        have : 0 < (List.range n).countP (fun j => !done.getD j false) := by omega
        obtain ⟨j, hj, hp⟩ := List.countP_pos_iff.1 this
        exact ⟨j, List.mem_range.1 hj, by simpa using hp⟩
      have e : f + 1 + (l.length - n) = (f + (l.length - n)) + 1 := by omega
      rw [e]
      refine ⟨fun hr => ?_, fun i hi => ?_⟩
      · have := all_done hio inv.size hr j0 (by rw [hsz]; omega)
        rw [hu0] at this; cases this
      · have hin : i < n := Nat.lt_of_not_le fun hle => tail_waits hsk hch (by rw [hsz]; exact hn) inv _ j0 rfl hj0 (getD_in (by rw [inv.size, hsz]; omega) hu0) i hle hi
        obtain ⟨hun, oi, hoi, hall⟩ := mem_ready.1 hi
        refine wpOp_mono ?_ (hs i hin a1 w1 hF hC (fun j hjn hj => ?_))
        · rintro a2 w2 ⟨v, rfl, hC2, hb, hTi⟩
          refine ih _ _ _ (inv.set hi hin) (hF.put _ (hmem i hin) v) hC2 (fun j hj hd => ?_) ?_
          · by_cases e : i = j
            · subst e
              rw [slot_put_same _ _ _ (by rw [hF.size]; exact hds _ (hmem i hin))]
              exact hTi
            · have hd' := (getD_set_iff hd).resolve_left e
              rw [slot_put_ne _ _ _ _ (fun e2 => e (hinj i j hin hj e2))]
              exact hst j _ _ _ (hT j hj hd') hC hb
          · have hisz : i < done.size := by rw [inv.size, hsz]; omega
            have := cnt_set n i hin (fun j => !done.getD j false) (fun j => !(done.setIfInBounds i true).getD j false) (by
              have := getD_both hun
              simp [this]) (by simp [Array.getD_eq_getD_getElem?, hisz]) (fun j hj => by
              have : i ≠ j := fun e => hj e.symm
              simp [Array.getD_eq_getD_getElem?, Array.getElem?_setIfInBounds_ne this])
            omega
        · obtain ⟨ed, he1, he2, he3⟩ := waits_of hoi hj
          have hdn := hall ed he1 he2
          rw [he3] at hdn
          exact hT j hjn hdn
  have inv : HeadInv .any l.toArray n (Array.replicate l.toArray.size false) := by
    refine ⟨by simp, fun j oj _ hl => ?_, fun t _ ht => getD_in (by simpa using ht) (getD_replicate_false _ _)⟩
    rw [getD_replicate_false] at hl; cases hl
  have hcn : (List.range n).countP (fun j => !(Array.replicate l.toArray.size false).getD j false) = n := by
    rw [List.countP_eq_length.2 (fun j _ => by rw [getD_replicate_false]; rfl), List.length_range]
  have := key n _ a w.drew inv (Fr.refl a D) h0 (fun j hj hd => by rw [getD_replicate_false] at hd; cases hd) hcn
  rw [show n + (l.length - n) = l.toArray.size by rw [hsz]; omega] at this
  exact this
end Go.Proofs.YtplafpokgpolkaaGreatDoor
/- tree.Under. -/
namespace Go.Proofs.YtplafpokgpolkaaGreatDoor
open Go.RowKit Go.Shelf
attribute [local go_sem] Oper.semAt_some
theorem slMb : SlK Tryz.prog 35 32 (.agg (mbC ([], nd0) nilV nilV)) 9 112 := SlK.mk' Tryz.underlying35 (by kernel_rfl) rfl (by decide)
theorem RdV.kept {N : Nat → Prop} {w w' : World} {row : Option Nat} {k n : Nat} {v : Value} {vs : List Value} (h : RdV w N k v n vs) (hg : w.grownBy w' row) (hr : ∀ r, row = some r → ∃ o : Obj, w.heap[r]? = some o ∧ o.isCells = false) : RdV w' N k v n vs :=
  ⟨h.len, h.shape, fun b off m cap e j u hj => cell_kept (h.cell b off m cap e j u hj) hg hr⟩
theorem Reads.kept {N : Nat → Prop} {w w' : World} {row : Option Nat} {v : Value} {l : List UInt8} (h : Reads w N v l) (hg : w.grownBy w' row) (hr : ∀ r, row = some r → ∃ o : Obj, w.heap[r]? = some o ∧ o.isCells = false) : Reads w' N v l :=
  ⟨h.shape, fun b off n cap e j hj => cell_kept (h.cell b off n cap e j hj) hg hr⟩
theorem NdR.kept {N : Nat → Prop} {w w' : World} {row : Option Nat} {n : Nd} {av dv : Value} (h : NdR w N n av dv) (hg : w.grownBy w' row) (hr : ∀ r, row = some r → ∃ o : Obj, w.heap[r]? = some o ∧ o.isCells = false) : NdR w' N n av dv := ⟨h.at_.kept hg hr, h.dt.kept hg hr⟩
theorem owns_kept {w w' : World} {row : Option Nat} {base k n : Nat} {e : TypeId} {v : Value} {vs : List Value} (h : w.ownsRow base e k v n vs) (hg : w.grownBy w' row) (hr : ∀ r, row = some r → ∃ o : Obj, w.heap[r]? = some o ∧ o.isCells = false) : w'.ownsRow base e k v n vs := by
  obtain ⟨h0, ho⟩ := h
  refine ⟨h0, ho.imp id ?_⟩
  rintro ⟨g, cap, cur, rfl, hbb, hh, rest⟩
  exact ⟨g, cap, cur, rfl, hbb, (grownBy_keeps_cells hg hr hh rfl).trans hh, rest⟩
theorem NdO.kept {N : Nat → Prop} {w w' : World} {row : Option Nat} {n : Nd} {av dv : Value} (h : NdO w N n av dv) (hg : w.grownBy w' row) (hr : ∀ r, row = some r → ∃ o : Obj, w.heap[r]? = some o ∧ o.isCells = false) : NdO w' N n av dv :=
  ⟨h.r.kept hg hr, fun b off m cap e => by
    obtain ⟨h1, c, h2⟩ := h.ta b off m cap e
    exact ⟨h1, c, (grownBy_keeps_cells hg hr h2 rfl).trans h2⟩, fun b off m cap e => by
    obtain ⟨h1, c, h2⟩ := h.td b off m cap e
    exact ⟨h1, c, (grownBy_keeps_cells hg hr h2 rfl).trans h2⟩⟩
theorem NdO.loc {w w' : World} {N : Nat → Prop} {n : Nd} {av dv : Value} (h : NdO w N n av dv) (hb : ∀ b, N b → w'.heap[b]? = w.heap[b]?) : NdO w' N n av dv :=
  ⟨h.r.loc hb, fun b off m cap e => by
    obtain ⟨h1, c, h2⟩ := h.ta b off m cap e
    exact ⟨h1, c, (hb b h1).trans h2⟩, fun b off m cap e => by
    obtain ⟨h1, c, h2⟩ := h.td b off m cap e
    exact ⟨h1, c, (hb b h1).trans h2⟩⟩
def hitU (p : Tx) (x : Mb) : Bool := x.1 == p || underP p x.1
def underL (p : Tx) (L : List Mb) : List Mb := L.filter (hitU p)
/-- what the loop keeps: the box of l -/
theorem ownsRow_base {w : World} {base base' k n : Nat} {e : TypeId} {v : Value} {vs : List Value} (h : w.ownsRow base e k v n vs) (hb : base' ≤ base) : w.ownsRow base' e k v n vs := by
  obtain ⟨hl, h⟩ := h
  refine ⟨hl, ?_⟩
  rcases h with h | ⟨g, cap, cur, h1, h2, h3⟩
  · exact .inl h
  · exact .inr ⟨g, cap, cur, h1, Nat.le_trans hb h2, h3⟩
/-- a row of Members that is the call's own: its nodes lie elsewhere -/
structure OwnMbs (B : Nat) (w : World) (v : Value) (l : List Mv) : Prop where
  own : w.ownsRow B 32 9 v l.length (mcells l)
  nd : ∀ x ∈ l, NdO w (fun b => B ≤ b ∧ b < w.heap.size ∧ v.ownBlock ≠ some b) x.1.2 x.2.1 x.2.2
theorem OwnMbs.mbs {B : Nat} {w : World} {v : Value} {l : List Mv} (h : OwnMbs B w v l) : Mbs w (Fresh B w) (Fresh B w) v l :=
  ⟨(ownsV_reads h.own).mono (fun _ hb => ⟨hb.1, hb.2.1⟩), fun x hx => (h.nd x hx).r.mono (fun _ hb => ⟨hb.1, hb.2.1⟩)⟩
structure UI (p : Tx) (b0 : Nat) (w : World) (pre : List Mb) (W : World) (v : Value) (l : List Mv) : Prop where
  box : Boxed W (b0 + 1) 35 v
  own : W.ownsRow (b0 + 3) 32 9 v l.length (mcells l)
  nd : ∀ x ∈ l, NdO W (fun b => b0 + 3 ≤ b ∧ b < W.heap.size ∧ v.ownBlock ≠ some b) x.1.2 x.2.1 x.2.2
  is : l.map (·.1) = underL p pre
  pb : Boxed W b0 9 (.string ⟨p.toArray⟩)
  bel : Below b0 w W
  sz : b0 + 3 ≤ W.heap.size
theorem UI.own_ (p : Tx) (b0 B : Nat) (w : World) (hw : b0 ≤ w.heap.size) (hB : b0 ≤ B) : OwnFrom B (fun pre W => ∃ v l, UI p b0 w pre W v l) := by
  rintro pre W W' row ⟨v, l, h⟩ hg hr
  have hr' : ∀ r, row = some r → ∃ o : Obj, W.heap[r]? = some o ∧ o.isCells = false := fun r e => (hr r e).2
  exact ⟨v, l, (Own.from (boxed_own (b0 + 1) 35 (fun _ : Unit => v)) B) () W W' row h.box hg hr, owns_kept h.own hg hr', fun x hx => ((h.nd x hx).kept hg hr').mono (fun b hb => ⟨hb.1, Nat.lt_of_lt_of_le hb.2.1 hg.size, hb.2.2⟩), h.is,
    (Own.from (boxed_own b0 9 (fun _ : Unit => .string ⟨p.toArray⟩)) B) () W W' row h.pb hg hr, (ownFrom_below (β := Unit) hw hB) () W W' row h.bel hg hr, Nat.le_trans h.sz hg.size⟩
theorem UI.ownL (p : Tx) (b0 B : Nat) (w : World) (hw : b0 ≤ w.heap.size) (hB : b0 ≤ B) (L : List Mb) : OwnFrom B (fun (pre : List {x : Mb // x ∈ L}) W => ∃ v l, UI p b0 w (pre.map (·.1)) W v l) :=
  fun pre W W' row h hg hr => UI.own_ p b0 B w hw hB (pre.map (·.1)) W W' row h hg hr
theorem run_buildMb {ρ : Operand → Value} {d : Option Tmp} {x y : Operand} {t : TypeId} {pos : String} {af : Array Edge} {g : Option (Nat × Bool)} {w : World} {m : Mb} {av dv : Value} (h1 : ρ x = .string ⟨m.1.toArray⟩) (h2 : ρ y = .agg (ndC m.2 av dv)) :
    (execOp ρ (⟨d, .build 32 #[(0, x), (1, y)], t, pos, af, g⟩ : Oper)).run Tryz.prog w = .ok (.value (.agg (mbC m av dv))) w := by
  simp [execOp, h1, h2, buildM]
/-- what is said of the operations of `l = append(l, Member{..})` -/
def unT (x : Mb) (s Bx : Nat) (v av dv : Value) : Nat → Value → World → Prop
  | 0, u, _ => u = v
  | 1, u, _ => u = .pointer (some ⟨Bx, 0, none⟩)
  | 2, u, _ => u = .string ⟨x.1.toArray⟩
  | 3, u, _ => u = .pointer (some ⟨Bx, 1, none⟩)
  | 4, u, _ => u = .agg (ndC x.2 av dv)
  | 5, u, w => ∃ a d, u = .agg (ndC x.2 a d) ∧ NdO w (Fresh s w) x.2 a d
  | 6, u, w => ∃ a d, u = .agg (mbC x a d) ∧ NdO w (Fresh s w) x.2 a d
  | 7, u, w => ∃ a d bl, u = .slice (some ⟨bl, 0, none⟩) 1 1 ∧ RdV w (fun b => b = bl) 9 u 1 (mbC x a d).toList ∧ NdO w (Fresh s w) x.2 a d ∧ bl < w.heap.size
  | _, _, _ => True
theorem unT_stays {x : Mb} {s Bx : Nat} {v av dv : Value} (k : Nat) (u : Value) (w w' : World) (h : unT x s Bx v av dv k u w) (hb : Below w.heap.size w w') : unT x s Bx v av dv k u w' := by
  have hN : ∀ a d, NdO w (Fresh s w) x.2 a d → NdO w' (Fresh s w') x.2 a d := fun a d h => (h.below hb (fun b hb' => hb'.2)).mono (Fresh.mono (Nat.le_refl _) hb.size)
  match k with
  | 0 => exact h
  | 1 => exact h
  | 2 => exact h
  | 3 => exact h
  | 4 => exact h
  | 5 => obtain ⟨a, d, e, h⟩ := h; exact ⟨a, d, e, hN _ _ h⟩
  | 6 => obtain ⟨a, d, e, h⟩ := h; exact ⟨a, d, e, hN _ _ h⟩
  | 7 => obtain ⟨a, d, bl, e, h1, h2, h3⟩ := h; exact ⟨a, d, bl, e, h1.below hb (fun b e => e ▸ h3), hN _ _ h2, Nat.lt_of_lt_of_le h3 hb.size⟩
  | _ + 8 => trivial
theorem under_step {p : Tx} {b0 B : Nat} {w W w2 w3 : World} {pre pre' : List Mb} {v : Value} {l : List Mv} {x : Mb} {av dv : Value} {g cap : Nat} (hU : UI p b0 w pre W v l) (hC : Below W.heap.size W w2)
    (ho : w3.ownsRow (b0 + 3) 32 9 (.slice (some ⟨g, 0, none⟩) (l.length + 1) cap) (l.length + 1) (mcells l ++ (mbC x av dv).toList)) (hg : w2.grownBy w3 v.ownBlock)
    (hov : (Value.slice (some ⟨g, 0, none⟩) (l.length + 1) cap).ownBlock = v.ownBlock ∨ (Value.slice (some ⟨g, 0, none⟩) (l.length + 1) cap).ownBlock = some w2.heap.size) (hn : NdO w2 (Fresh W.heap.size w2) x.2 av dv) (hH : underL p pre' = underL p pre ++ [x]) :
    KeepsFrom B W (w3.setCell ⟨b0 + 1, 0, none⟩ (.slice (some ⟨g, 0, none⟩) (l.length + 1) cap)) ∧ KE (fun b => b = b0 + 1) (b0 + 3) W (w3.setCell ⟨b0 + 1, 0, none⟩ (.slice (some ⟨g, 0, none⟩) (l.length + 1) cap)) ∧ ∃ v' l', UI p b0 w pre' (w3.setCell ⟨b0 + 1, 0, none⟩ (.slice (some ⟨g, 0, none⟩) (l.length + 1) cap)) v' l' := by
  have hob := World.ownsRow.lt hU.own
  have hob3 := World.ownsRow.lt ho
  have hgo : (Value.slice (some ⟨g, 0, none⟩) (l.length + 1) cap).ownBlock = some g := rfl
  rw [hgo] at hov
  have hg3 := (hob3 g rfl).1
  have hsz := hU.sz
  have hs2 := hC.size
  have hs3 := hg.size
  have hcell : ∀ j, v.ownBlock = some j → ∃ cur, W.heap[j]? = some (.cells cur 32 (0, 0)) := by
    rcases hU.own.2 with ⟨rfl, _⟩ | ⟨g, cap, cur, rfl, _, hh, _⟩
    · intro j e; cases e
    · intro j e; injection e with e; subst e; exact ⟨cur, hh⟩
  have h3 : ∀ b, b < w2.heap.size → v.ownBlock ≠ some b → w3.heap[b]? = w2.heap[b]? := fun b h1 h2 => hg.block b h1 (fun e => h2 e.symm)
  generalize hv' : Value.slice (some ⟨g, 0, none⟩) (l.length + 1) cap = v' at *
  have h4 : ∀ b, b < w3.heap.size → b ≠ b0 + 1 → (w3.setCell ⟨b0 + 1, 0, none⟩ v').heap[b]? = w3.heap[b]? := fun b h1 h2 => (grownBy_setCell' w3 (b0 + 1) v').block b h1 (fun e => h2 (by injection e))
  have hs4 := (grownBy_setCell' w3 (b0 + 1) v').size
  have hall : ∀ b, b < W.heap.size → v.ownBlock ≠ some b → b ≠ b0 + 1 → (w3.setCell ⟨b0 + 1, 0, none⟩ v').heap[b]? = W.heap[b]? := fun b h1 h2 h5 => by
    rw [h4 b (by omega) h5, h3 b (by omega) h2, hC.block b h1]
  have hKE : Chg (fun b => b = b0 + 1) (b0 + 3) W (w3.setCell ⟨b0 + 1, 0, none⟩ v') :=
    Chg.setCell (M := fun b => b = b0 + 1) (((Chg.of_below (hC.mono hsz)).trans (Chg.grown (.refl _ _ _) hg (by omega) (fun k e => .inl (hob k e).1)))) (p := ⟨b0 + 1, 0, none⟩) (.inr rfl) _
  have hbox3 : Boxed w3 (b0 + 1) 35 v := by
    unfold Boxed
    rw [h3 _ (by omega) (fun e => by have := (hob _ e).1; omega), hC.block _ hU.box.lt]
    exact hU.box
  refine ⟨?_, ⟨hKE, fun b c hb => ?_⟩, v', l ++ [(x, av, dv)], hbox3.set _, ?_, ?_, ?_, ?_, ?_, by omega⟩
  · have k1 : KeepsOthers W w2 := ⟨hs2, fun k o hk _ => (hC.block k (Array.getElem?_eq_some_iff.1 hk).1).trans hk⟩
    have k2 : KeepsOthers w2 w3 := KeepsOthers.of_grownBy hg (fun j o e ho' => by
      obtain ⟨cur, hc⟩ := hcell j e
      rw [hC.block j (hob j e).2, hc] at ho'
      injection ho' with ho'
      subst ho'; rfl)
    exact ((k1.trans k2).trans (KeepsOthers.setCell _ _ _)).from _
  · have hlt := (Array.getElem?_eq_some_iff.1 hb).1
    refine (hall b hlt (fun e => ?_) (fun e => ?_)).trans hb
    · obtain ⟨cur, hc⟩ := hcell b e
      rw [hc] at hb
      injection hb with hb
      injection hb with _ hb
      cases hb
    · subst e
      have := hU.box
      unfold Boxed at this
      rw [this] at hb
      injection hb with hb
      injection hb with _ hb
      cases hb
  · rw [List.length_append, mcells_append]
    have : mcells [(x, av, dv)] = (mbC x av dv).toList := by rw [mcells_cons]; exact List.append_nil _
    rw [this]
    exact ownsRow_loc _ _ (fun b hb => h4 b (hob3 b hb).2 (by have := (hob3 b hb).1; omega)) ho
  · intro y hy
    have hv2 : v'.ownBlock = some g := by rw [← hv']; rfl
    rcases List.mem_append.1 hy with hy | hy
    · refine ((hU.nd y hy).loc (fun b hb => hall b hb.2.1 hb.2.2 (by omega))).mono (fun b hb => ⟨hb.1, by omega, ?_⟩)
      rw [hv2]
      rcases hov with h | h
      · rw [h]; exact hb.2.2
      · injection h with h; intro e; injection e with e; omega
    · obtain rfl : y = (x, av, dv) := by simpa using hy
      refine (hn.loc (fun b hb => ?_)).mono (fun b hb => ⟨by have := hb.1; omega, by have := hb.2; omega, ?_⟩)
      · have h1 := hb.1
        have h2 := hb.2
        rw [h4 b (by omega) (by omega), h3 b h2 (fun e => by have := (hob _ e).2; omega)]
      · have h1 := hb.1
        have h2 := hb.2
        rw [hv2]
        rcases hov with h | h
        · rw [h]; intro e; have := (hob _ e).2; omega
        · injection h with h; intro e; injection e with e; omega
  · rw [List.map_append, hU.is, hH]; rfl
  · have := hU.pb
    unfold Boxed at this ⊢
    rw [hall b0 (by omega) (fun e => by have := (hob _ e).1; omega) (by omega)]
    exact this
  · exact hU.bel.trans ((hKE.lower (by omega)).below (fun k hk e => by omega))
/-- the frame of the body -/
def uFr (T b0 Bx : Nat) (p : Tx) (x : Mb) (av dv : Value) : Act := { tmps := #[.pointer (some ⟨T, 0, none⟩), .string ⟨p.toArray⟩, undef, .pointer (some ⟨b0, 0, none⟩), .slice none 0 0, .pointer (some ⟨b0 + 1, 0, none⟩), .pointer (some ⟨Bx, 0, none⟩), .pointer (some ⟨T, 0, none⟩), .func (.func 142) #[] #[.pointer (some ⟨b0 + 1 + 1, 0, none⟩)], .agg (mbC x av dv), undef, undef, undef, undef, undef, undef, undef, undef, undef, undef, undef, undef, undef, undef, undef, undef, undef, undef, undef, undef], defers := [] }
set_option maxHeartbeats 4000000 in
set_option maxRecDepth 100000 in
theorem under_own_in (n : Nat) (hn : 12 ≤ n) (T mb : Nat) (Bk : Nat → Prop) (f : Tx → Value × Value) (L : List Mb) (p : Tx) (w : World) (hL : L.length ≤ 100000) (hp : p.length ≤ 400000) (hT : TreeIn w T mb Bk f L) (hlt : T < w.heap.size ∧ mb < w.heap.size ∧ ∀ b, Bk b → b < w.heap.size) :
    CallsIn Fence.wide n Tryz.prog 81 #[.pointer (some ⟨T, 0, none⟩), .string ⟨p.toArray⟩] w fun e w' => ∃ v l, e = .returned v ∧ l.map (·.1) = underL p L ∧ OwnMbs w.heap.size w' v l ∧ Below w.heap.size w w' := by
  have hn1 : 1 ≤ n := by omega
  have hn2 : 1 ≤ n - 1 := by omega
  have hn3 : 1 ≤ n - 1 - 1 := by omega
  have hro : Fence.wide.round = none := rfl
  have hf0 : Fence.wide.fn 81 := trivial
  have hf1 : Fence.wide.fn 120 := trivial
  have hf2 : Fence.wide.fn 45 := trivial
  have hf3 : Fence.wide.fn 58 := trivial
  refine callsIn_of_wp_marks Tryz.func81 rfl hf0 ?_ hro
  simp only [Tryz.ntmps81, List.size_toArray, List.length_cons, List.length_nil, Nat.reduceAdd, Nat.reduceSub, Array.replicate_succ, Array.replicate_zero, List.push_toArray, List.append_toArray, List.nil_append, List.cons_append]
  gi_wp2_with (gi_at_call 120; refine (callsIn_wide.2 (each_any _ _)).mono ?_; rintro e w' ⟨rfl, rfl⟩)
  obtain ⟨b0, hb0⟩ : ∃ b0, w.heap.size = b0 := ⟨_, rfl⟩
  have bP := ((Boxed.new w 9 (.string ⟨p.toArray⟩)).alloc (.cells #[.slice none 0 0] 35)).alloc (.cells #[.pointer (some ⟨T, 0, none⟩)] 22)
  have bL := (Boxed.new (w.alloc (.cells #[.string ⟨p.toArray⟩] 9)) 35 (.slice none 0 0)).alloc (.cells #[.pointer (some ⟨T, 0, none⟩)] 22)
  have bT := Boxed.new ((w.alloc (.cells #[.string ⟨p.toArray⟩] 9)).alloc (.cells #[.slice none 0 0] 35)) 22 (.pointer (some ⟨T, 0, none⟩))
  simp only [World.size_alloc] at bL bT
  have hB0 : Below w.heap.size w (((w.alloc (.cells #[.string ⟨p.toArray⟩] 9)).alloc (.cells #[.slice none 0 0] 35)).alloc (.cells #[.pointer (some ⟨T, 0, none⟩)] 22)) :=
    (((Below.refl _ w).alloc (Nat.le_refl _) _).alloc (by simp) _).alloc (by simp; omega) _
  have hsz : (((w.alloc (.cells #[.string ⟨p.toArray⟩] 9)).alloc (.cells #[.slice none 0 0] 35)).alloc (.cells #[.pointer (some ⟨T, 0, none⟩)] 22)).heap.size = w.heap.size + 3 := by simp
  obtain ⟨W0, hW0⟩ : ∃ W0, (((w.alloc (.cells #[.string ⟨p.toArray⟩] 9)).alloc (.cells #[.slice none 0 0] 35)).alloc (.cells #[.pointer (some ⟨T, 0, none⟩)] 22)) = W0 := ⟨_, rfl⟩
  rw [hW0] at bP bL bT hB0 hsz ⊢
  clear hW0
  have hwb : b0 ≤ w.heap.size := by omega
  rw [hb0] at bP bL bT hB0 hsz hlt ⊢
  have hlt0 := hlt
  have hT0 : TreeIn W0 T mb Bk f L := hT.loc (fun b hb => hB0.block b (by rcases hb with rfl | rfl | h; exact hlt.1; exact hlt.2.1; exact hlt.2.2 _ h))
  have UI0 : ∃ v l, UI p b0 w [] W0 v l := ⟨.slice none 0 0, [], bL, World.ownsRow_nil _ _ _ _, fun x hx => by simp at hx, rfl, bP, hB0, by omega⟩
  refine wpIn_rangeFunc_ownH hro hn1 (gf := 142) (lb := #[.pointer (some ⟨b0 + 1 + 1, 0, none⟩)]) rfl trivial (enters_of Tryz.func142 (by kernel_rfl) rfl)
    (each_stops (fun b => b = b0 + 1) (n - 1) (by omega) (b0 + 1 + 1) (b0 + 3) T mb Bk f L (by omega) W0 bT.cell (by omega) hT0 ⟨by omega, by omega, fun b hb => by have := hlt.2.2 b hb; omega⟩ ⟨by omega, by omega, fun b hb => by have := hlt.2.2 b hb; omega⟩ (by omega)) KE.trans (KE.b (by omega)) (Below.refl _ _) (fun _ => rfl)
    (fun pre W => ∃ v l, UI p b0 w (pre.map (·.1)) W v l) (fun _ _ _ => False) (UI.ownL p b0 _ w hwb (by omega) L) (fun _ => ownFrom_pure _ (fun _ => False)) UI0
    (fun x a' W => ∃ Bx, (Row W Bx 32 (mbC x.1 (f x.1.1).1 (f x.1.1).2) ∧ b0 + 3 ≤ Bx) ∧ a' = uFr T b0 Bx p x.1 (f x.1.1).1 (f x.1.1).2)
    (fun x a' _ X Y row hs hg hr => by obtain ⟨Bx, ⟨e2, e3⟩, e4⟩ := hs; exact ⟨Bx, ⟨(grownBy_keeps_cells hg (fun r e => (hr r e).2) e2 rfl).trans e2, e3⟩, e4⟩)
    ?assign ?body ?done ?stop
  case assign =>
    rintro lo pre ⟨x, hxL⟩ W K hI hK
    obtain ⟨aa, la, ca, ad, ld, cd, hav, hdv⟩ := (hT.nd x hxL).shape
    simp only [hav, hdv, uFr] at hK ⊢
    unfold encM mbC strV
    simp only [hav, hdv]
    obtain ⟨xp, ⟨kind, mode, uid, gid, time, attrs, data, link⟩⟩ := x
    gi_wp2
    have hb3 : b0 + 3 ≤ W.heap.size := by obtain ⟨v, l, h⟩ := hI; exact h.sz
    exact hK _ _ ((KeepsOthers.alloc _ _).from _) (KE.of_below ((Below.refl _ _).alloc (Nat.le_refl _) _) hb3) ((UI.ownL p b0 b0 w hwb (Nat.le_refl _) L).alloc _ hI) ⟨W.heap.size, ⟨Row.new W 32 _, hb3⟩, rfl⟩
  case body =>
    rintro lo pre ⟨x, hxL⟩ a' W hl0 ⟨r, hr1⟩ ⟨v, l, hU⟩ ⟨Bx, ⟨hx, hx3⟩, rfl⟩ hlt
    have hnd := hT.nd x hxL
    have hsm := hT.sm x hxL
    obtain ⟨aa, la, ca, ad, ld, cd, hav, hdv⟩ := hnd.shape
    dsimp only at hx ⊢
    rw [hav, hdv] at hx hnd ⊢
    have HU := Keep.keep hU; have HX := Keep.keep hx; have HN := Keep.keep hnd; have HS := Keep.keep hsm
    have cX : W.cell? ⟨Bx, 0, none⟩ = some (.string ⟨x.1.toArray⟩) := hx.cell (i := 0) rfl
    have cP := hU.pb.cell
    clear hnd hsm hU hx
    unfold uFr
    have HI : Keep (∀ b, ((x.1 == p) || underP p x.1) = b → underL p ((pre ++ [(⟨x, hxL⟩ : {x : Mb // x ∈ L})]).map (fun y => y.1)) = underL p (pre.map (fun y => y.1)) ++ if b then [x] else []) := ⟨fun b hb => by
      rw [List.map_append]
      unfold underL
      rw [List.filter_append, List.map_cons, List.map_nil, List.filter_cons]
      show _ ++ (if ((x.1 == p) || underP p x.1) = true then _ else _) = _
      rw [hb]
      cases b <;> rfl⟩
    have HUN := fun wx => under_any p x.1 (by omega) wx
    have hlen : l.length < L.length := by
      have h1 := congrArg List.length HU.out.is
      have h2 : (underL p (pre.map (fun y => y.1))).length ≤ pre.length := by have := List.length_filter_le (hitU p) (pre.map (fun y => y.1)); simpa [underL] using this
      rw [List.length_map] at h1
      omega
    cases he : (x.1 == p)
    cases hu : underP p x.1
    · rw [he, hu] at HI
      simp only [hu] at HUN
      gi_wp2_with (gi_at_call 45; refine (CallsIn.inRound lo (callsIn_wide.2 (HUN _))).mono ?_; rintro e w' ⟨rfl, rfl⟩)
      refine ⟨KeepsFrom.refl _ _, KE.refl _ _ _, v, l, HU.out.box, HU.out.own, HU.out.nd, ?_, HU.out.pb, HU.out.bel, HU.out.sz⟩
      rw [HI.out false rfl, HU.out.is]
      simp
    focus
      rw [he, hu] at HI
      simp only [hu] at HUN
      gi_wp2_with (gi_at_call 45; refine (CallsIn.inRound lo (callsIn_wide.2 (HUN _))).mono ?_; rintro e w' ⟨rfl, rfl⟩)
      have HH := Keep.keep (HI.out true rfl)
      clear HI HUN hu he
    rotate_left
    focus
      rw [he, Bool.true_or] at HI
      gi_wp2_with fail
      have HH := Keep.keep (HI.out true rfl)
      clear HI HUN he
    all_goals
      refine wpIn_region_wide (by kernel_rfl) (by kernel_rfl) ?_ ?_
      · rintro ⟨a, w, h⟩
        exact h
      refine any_spcT 8 [20, 21, 22, 23, 24, 25, 26, 27] (Below W.heap.size W) (unT x W.heap.size Bx v (.slice aa la ca) (.slice ad ld cd)) (fun w w' => Below w.heap.size w w') rfl (by decide) (by show ∀ d ∈ _, d < 30; decide) (by kernel_rfl) (by decide) (by kernel_rfl) (by kernel_rfl) (by kernel_rfl) (Below.refl _ _).drew (fun i v w w' h _ hb => unT_stays i v w w' h hb) ?_ ?_
      · intro k hk a1 w2 hF hC hT
        have b5 : a1.eval (.tmp 5) = .pointer (some ⟨b0 + 1, 0, none⟩) := (hF.same 5 (by decide)).trans rfl
        have b6 : a1.eval (.tmp 6) = .pointer (some ⟨Bx, 0, none⟩) := (hF.same 6 (by decide)).trans rfl
        have hkr : Below w2.heap.size w2 w2 := Below.refl _ _
        have hBx : Bx < W.heap.size := HX.out.lt
        have RX : Row w2 Bx 32 (mbC x (.slice aa la ca) (.slice ad ld cd)) := by unfold Row; rw [hC.block Bx hBx]; exact HX.out
        rcases (by omega : k = 0 ∨ k = 1 ∨ k = 2 ∨ k = 3 ∨ k = 4 ∨ k = 5 ∨ k = 6 ∨ k = 7) with rfl | rfl | rfl | rfl | rfl | rfl | rfl | rfl
        · have hc : w2.cell? ⟨b0 + 1, 0, none⟩ = some v := (hC.cell (p := ⟨b0 + 1, 0, none⟩) HU.out.box.lt).trans HU.out.box.cell
          exact spcS_val (d := 20) rfl (wanted_none rfl) (run_loadCell (run_isAgg_plain Tryz.underlying35 rfl) hc b5) hC hkr rfl
        · exact spcS_val (d := 21) rfl (wanted_none rfl) (run_fieldAddr (m := 0) Tryz.underlying32 rfl (by kernel_rfl) b6) hC hkr rfl
        · have hx : a1.eval (.tmp 21) = .pointer (some ⟨Bx, 0, none⟩) := hT 1 (by decide) (by kernel_rfl)
          exact spcS_val (d := 22) rfl (wanted_none rfl) (run_loadCell (run_isAgg_plain Tryz.underlying9 rfl) (RX.cell (i := 0) rfl) hx) hC hkr rfl
        · exact spcS_val (d := 23) rfl (wanted_none rfl) (run_fieldAddr (m := 7) Tryz.underlying32 rfl (by kernel_rfl) b6) hC hkr rfl
        · have hx : a1.eval (.tmp 23) = .pointer (some ⟨Bx, 1, none⟩) := hT 3 (by decide) (by kernel_rfl)
          exact spcS_val (d := 24) rfl (wanted_none rfl) (run_loadNd RX hx) hC hkr rfl
        · have hx : a1.eval (.tmp 24) = .agg (ndC x.2 (.slice aa la ca) (.slice ad ld cd)) := hT 4 (by decide) (by kernel_rfl)
          refine spcS_call (d := 25) (vs := #[.agg (ndC x.2 (.slice aa la ca) (.slice ad ld cd))]) rfl (wanted_none rfl) (Go.Proofs.enters_of Tryz.func58 (by kernel_rfl) rfl) (by simp [hx]) ?_
          have hlw : w.heap.size ≤ w2.heap.size := by have := HU.out.sz; have := hC.size; omega
          have hNw : NdR w2 (· < w2.heap.size) x.2 (.slice aa la ca) (.slice ad ld cd) := ((HN.out.below (hb0 ▸ HU.out.bel) (fun b hb => hlt0.2.2 b hb)).below hC (fun b hb => by have := hlt0.2.2 b hb; have := HU.out.sz; omega)).mono (fun b hb => by have := hlt0.2.2 b hb; omega)
          refine (clone_own x.2 _ _ w2 hNw HS.out.a (by have := HS.out.d; omega)).mono ?_
          rintro e wz ⟨av', dv', rfl, hv', hb⟩
          exact ⟨_, rfl, hC.trans (hb.mono hC.size), hb, av', dv', rfl, hv'.mono (fun b hb' => hb'.mono hC.size (Nat.le_refl _))⟩
        · have hx : a1.eval (.tmp 22) = .string ⟨x.1.toArray⟩ := hT 2 (by decide) (by kernel_rfl)
          obtain ⟨av', dv', h5, hv'⟩ := hT 5 (by decide) (by kernel_rfl)
          exact spcS_val (d := 26) rfl (wanted_none rfl) (run_buildMb hx h5) hC hkr ⟨av', dv', rfl, hv'⟩
        · obtain ⟨av', dv', h6, hv'⟩ := hT 6 (by decide) (by kernel_rfl)
          have h6' : a1.eval (.tmp 26) = .agg (mbC x av' dv') := h6
          have hal : Below w2.heap.size w2 (w2.alloc (.cells (a1.eval (.tmp 26)).cells 32)) := (Below.refl _ _).alloc (Nat.le_refl _) _
          refine spcS_val (d := 27) rfl (wanted_none rfl) (run_build1 slMb (by decide) (by rw [h6']; rfl)) (hC.trans (hal.mono hC.size)) hal ?_
          rw [h6']
          refine ⟨av', dv', w2.heap.size, rfl, ?_, ?_, by simp⟩
          · exact RdV.new 32 (mbC x av' dv').toList 9 1 w2.heap.size rfl rfl (by unfold maxLen; omega) rfl
          · exact (hv'.below ((Below.refl _ w2).alloc (Nat.le_refl _) _) (fun b hb => hb.2)).mono (Fresh.mono (Nat.le_refl _) (by simp))
      · intro a1 w2 ha hC hT
        have t0 : slot a1 20 = v := hT 0 (by decide)
        obtain ⟨av', dv', bl, t7, hrd, hndx, hbl⟩ : ∃ a d bl, slot a1 27 = .slice (some ⟨bl, 0, none⟩) 1 1 ∧ RdV w2 (fun b => b = bl) 9 (slot a1 27) 1 (mbC x a d).toList ∧ NdO w2 (Fresh W.heap.size w2) x.2 a d ∧ bl < w2.heap.size := hT 7 (by decide)
        rw [t7] at hrd
        simp only [List.foldl_cons, List.foldl_nil, t0, t7] at ha
        generalize slot a1 21 = x1 at *
        generalize slot a1 22 = x2 at *
        generalize slot a1 23 = x3 at *
        generalize slot a1 24 = x4 at *
        generalize slot a1 25 = x5 at *
        generalize slot a1 26 = x6 at *
        clear hT t0 t7
        subst ha
        simp only [List.drop_succ_cons, List.drop_zero]
        simp only [Act.put, List.setIfInBounds_toArray, List.set_cons_succ, List.set_cons_zero]
        have hUo := HU.out
        have hob := World.ownsRow.lt hUo.own
        have hown2 : w2.ownsRow (b0 + 3) 32 9 v l.length (mcells l) := ownsRow_loc _ _ (fun b hb => hC.block b (hob b hb).2) hUo.own
        have hone : ∀ u ∈ (mbC x av' dv').toList, u.oneCell' = true := by
          obtain ⟨aa', la', ca', ad', ld', cd', rfl, rfl⟩ := hndx.shape
          simp [mbC, strV, Value.oneCell']
        refine arm_appendV slMb hown2 hrd hone (by unfold maxLen; omega) (by omega) (by have := hUo.sz; have := hC.size; omega) rfl rfl ?_
        intro v' w3 ho hg hov _
        obtain ⟨g, cap, hv'⟩ : ∃ g cap, v' = .slice (some ⟨g, 0, none⟩) (l.length + 1) cap := by
          rcases ho.2 with ⟨_, h⟩ | ⟨g, cap, cur, h, _⟩
          · omega
          · exact ⟨g, cap, h⟩
        subst hv'
        have hsame : ∀ b, b < w2.heap.size → v.ownBlock ≠ some b → w3.heap[b]? = w2.heap[b]? := fun b h1 h2 => hg.block b h1 (fun e => h2 e.symm)
        have hb1 : b0 + 1 < w2.heap.size := by have := hUo.sz; have := hC.size; omega
        have hbox3 : Boxed w3 (b0 + 1) 35 v := by
          unfold Boxed
          rw [hsame _ hb1 (fun e => by have := (hob _ e).1; omega), hC.block _ hUo.box.lt]
          exact hUo.box
        have cB := hbox3.cell
        have fB := hbox3.frozen
        have HO := Keep.keep ho; have HG := Keep.keep hg; have HOV := Keep.keep hov; have HNX := Keep.keep hndx; have HOB := Keep.keep hob; have HSM := Keep.keep hsame
        clear ho hg hov hndx hob hsame hUo hown2 hone hrd
        go_wp2_with fail
        exact under_step HU.out hC HO.out HG.out HOV.out HNX.out HH.out
  case done =>
    rintro D ys W hD hys ⟨v, l, hU⟩ hK
    have cB := hU.box.cell
    have fB := hU.box.frozen
    obtain ⟨av, cap, hv⟩ : ∃ av cap, v = .slice av l.length cap := by
      rcases hU.own.2 with ⟨h, h0⟩ | ⟨g, cap, cur, h, _⟩
      · exact ⟨none, 0, by rw [h, h0]⟩
      · exact ⟨_, cap, h⟩
    have HU := Keep.keep hU
    clear hU
    subst hv
    gi_wp2
    refine ⟨by simp, .inl ⟨_, _, rfl, run_takeDeferred hK, ?_⟩⟩
    have hg := grownBy_putObj' W D (.deferred none)
    have hr : ∀ r, some D = some r → ∃ o : Obj, W.heap[r]? = some o ∧ o.isCells = false := fun r e => by cases e; exact ⟨_, hK, rfl⟩
    have hsw := hg.size
    refine ⟨.slice av l.length cap, ?_, _, l, rfl, ?_, ⟨?_, ?_⟩, ?_⟩
    · simp [results, Tryz.f81, go_sem]
    · rw [HU.out.is, hys]
    · exact ownsRow_base (owns_kept HU.out.own hg hr) (by omega)
    · exact fun x hx => ((HU.out.nd x hx).kept hg hr).mono (fun b hb => ⟨by have := hb.1; omega, by have := hb.2.1; omega, hb.2.2⟩)
    · rw [hb0]
      exact HU.out.bel.trans (belowK_b (w := w) (by omega) W D _ _ (by omega) hK rfl rfl)
  case stop =>
    rintro D c pre W hD hpre hF hK
    exact hF.elim
theorem under_in (n : Nat) (hn : 12 ≤ n) (T mb : Nat) (Bk : Nat → Prop) (f : Tx → Value × Value) (L : List Mb) (p : Tx) (w : World) (hL : L.length ≤ 100000) (hp : p.length ≤ 400000) (hT : TreeIn w T mb Bk f L) (hlt : T < w.heap.size ∧ mb < w.heap.size ∧ ∀ b, Bk b → b < w.heap.size) :
    CallsIn Fence.wide n Tryz.prog 81 #[.pointer (some ⟨T, 0, none⟩), .string ⟨p.toArray⟩] w fun e w' => ∃ v l, e = .returned v ∧ l.map (·.1) = underL p L ∧ Mbs w' (Fresh w.heap.size w') (Fresh w.heap.size w') v l ∧ Below w.heap.size w w' :=
  (under_own_in n hn T mb Bk f L p w hL hp hT hlt).mono (fun _ _ ⟨v, l, he, hl, ho, hb⟩ => ⟨v, l, he, hl, ho.mbs, hb⟩)
/-- tree.Under, and the row is the call's own -/
theorem under_own (T mb : Nat) (Bk : Nat → Prop) (f : Tx → Value × Value) (L : List Mb) (p : Tx) (w : World) (hL : L.length ≤ 100000) (hp : p.length ≤ 400000) (hT : TreeIn w T mb Bk f L) (hlt : T < w.heap.size ∧ mb < w.heap.size ∧ ∀ b, Bk b → b < w.heap.size) :
    Calls Tryz.prog 81 #[.pointer (some ⟨T, 0, none⟩), .string ⟨p.toArray⟩] w fun e w' => ∃ v l, e = .returned v ∧ l.map (·.1) = underL p L ∧ OwnMbs w.heap.size w' v l ∧ Below w.heap.size w w' :=
  callsIn_wide.1 (under_own_in 12 (Nat.le_refl _) T mb Bk f L p w hL hp hT hlt)
/-- tree.Under -/
theorem under_tree (T mb : Nat) (Bk : Nat → Prop) (f : Tx → Value × Value) (L : List Mb) (p : Tx) (w : World) (hL : L.length ≤ 100000) (hp : p.length ≤ 400000) (hT : TreeIn w T mb Bk f L) (hlt : T < w.heap.size ∧ mb < w.heap.size ∧ ∀ b, Bk b → b < w.heap.size) :
    Calls Tryz.prog 81 #[.pointer (some ⟨T, 0, none⟩), .string ⟨p.toArray⟩] w fun e w' => ∃ v l, e = .returned v ∧ l.map (·.1) = underL p L ∧ Mbs w' (Fresh w.heap.size w') (Fresh w.heap.size w') v l ∧ Below w.heap.size w w' :=
  callsIn_wide.1 (under_in 12 (Nat.le_refl _) T mb Bk f L p w hL hp hT hlt)
end Go.Proofs.YtplafpokgpolkaaGreatDoor
/- PARTS OF SLICES OF MEMBERS. -/
namespace Go.Proofs.YtplafpokgpolkaaGreatDoor
open Go.RowKit
theorem slice_mto (a : Option Addr) (n cap i : Nat) (k : IntKind) (hi : i ≤ cap) (w : World) : (Instr.slice 35 (.slice a n cap) none (some (.int k (i : Int))) none).run Tryz.prog w = .ok (.slice a i cap) w := by
  have he : Tryz.prog.elem 35 = 32 := by simp [Program.elem, Tryz.underlying35]
  have hs : ∀ w, (sizeOf 32).run Tryz.prog w = .ok 9 w := fun w => by kernel_rfl
  rw [run_slice_h w 35 a n cap (by rw [he]; exact Tryz.underlying35) k (i : Int) (by omega) (by omega), he, hs]
  have ha : a.map (·.add 0) = a := by
    cases a <;> simp [Addr.add]
  simp [Result.andThen, sliced, ha]
set_option maxRecDepth 100000 in
theorem mcells_take (l : List Mv) (i : Nat) : mcells (l.take i) = (mcells l).take (i * 9) := by
  induction l generalizing i with
  | nil => simp [mcells]
  | cons x l ih =>
    cases i with
    | zero => simp [mcells]
    | succ i =>
      rw [List.take_succ_cons, mcells_cons, mcells_cons, ih, show (i + 1) * 9 = (mcell x).toList.length + i * 9 by rw [mcell_len]; omega, List.take_append, List.take_of_length_le (l := (mcell x).toList) (by omega), Nat.add_sub_cancel_left]
set_option maxRecDepth 100000 in
theorem mcells_drop (l : List Mv) (i : Nat) : mcells (l.drop i) = (mcells l).drop (i * 9) := by
  induction l generalizing i with
  | nil => simp [mcells]
  | cons x l ih =>
    cases i with
    | zero => simp [mcells]
    | succ i =>
      rw [List.drop_succ_cons, mcells_cons, ih, show (i + 1) * 9 = (mcell x).toList.length + i * 9 by rw [mcell_len]; omega, List.drop_append, List.drop_of_length_le (l := (mcell x).toList) (by omega), List.nil_append, Nat.add_sub_cancel_left]
theorem Mbs.take {w : World} {N N' : Nat → Prop} {a : Option Addr} {n cap : Nat} {l : List Mv} (h : Mbs w N N' (.slice a n cap) l) (i : Nat) (hi : i ≤ l.length) : Mbs w N N' (.slice a i cap) (l.take i) := by
  obtain ⟨⟨hl, ⟨a0, cap0, he0, g1, g2, g3⟩, hc⟩, hn⟩ := h
  injection he0 with e1 e2 e3
  subst e1 e2 e3
  have hl' : (l.take i).length = i := by rw [List.length_take]; omega
  refine ⟨⟨mcells_length _, ⟨a, cap, by rw [hl'], by omega, g2, g3⟩, fun b off m c he1 j u hj => ?_⟩, fun x hx => hn x (List.mem_of_mem_take hx)⟩
  injection he1 with e1 e2 e3
  subst e1 e3
  refine hc b off _ _ rfl j u ?_
  rw [mcells_take] at hj
  have hlt := (List.getElem?_eq_some_iff.1 hj).1
  rw [List.getElem?_take_of_lt (by simp at hlt; omega)] at hj
  exact hj
set_option maxRecDepth 100000 in
theorem slice_mfrom (a : Option Addr) (n cap i : Nat) (k : IntKind) (hi : i ≤ n) (hn : n ≤ cap) :
    ∃ a', (∀ w, (Instr.slice 35 (.slice a n cap) (some (.int k (i : Int))) none none).run Tryz.prog w = .ok (.slice a' (n - i) (cap - i)) w) ∧
      (∀ w N N' (l : List Mv), Mbs w N N' (.slice a n cap) l → Mbs w N N' (.slice a' (n - i) (cap - i)) (l.drop i)) := by
  have he : Tryz.prog.elem 35 = 32 := by simp [Program.elem, Tryz.underlying35]
  have hs : ∀ w, (sizeOf 32).run Tryz.prog w = .ok 9 w := fun w => by kernel_rfl
  refine ⟨if cap = i then a else a.map (·.add (i * 9)), fun w => ?_, fun w N N' l hr => ?_⟩
  · rw [run_slice_l w 35 a n cap (by rw [he]; exact Tryz.underlying35) k (i : Int) (by omega) (by omega), he, hs]
    simp [Result.andThen, sliced]
  · obtain ⟨⟨hl, ⟨a0, cap0, he0, g1, g2, g3⟩, hc⟩, hn'⟩ := hr
    injection he0 with e1 e2 e3
    subst e1 e2 e3
    refine ⟨⟨mcells_length _, ⟨_, _, by rw [List.length_drop], by rw [List.length_drop]; omega, by omega, ?_⟩, fun b off m c he1 j u hj => ?_⟩, fun x hx => hn' x (List.mem_of_mem_drop hx)⟩
    · rcases g3 with h0 | ⟨b, off, rfl, hN⟩
      · exact .inl (by omega)
      · refine .inr ?_
        by_cases hci : cap = i
        · rw [if_pos hci]; exact ⟨b, off, rfl, hN⟩
        · rw [if_neg hci]; exact ⟨b, off + i * 9, by simp [Addr.add_mid], hN⟩
    · injection he1 with e1 e2 e3
      rw [mcells_drop] at hj
      have hlt := (List.getElem?_eq_some_iff.1 hj).1
      rw [List.length_drop, mcells_length] at hlt
      rw [if_neg (by omega)] at e1
      rcases g3 with h0 | ⟨b', off', rfl, hN⟩
      · omega
      · simp only [Option.map_some, Addr.add_mid, Option.some.injEq] at e1
        injection e1 with e1 e4 _
        subst e1 e4
        rw [Nat.add_assoc]
        refine hc b' off' _ _ rfl _ u ?_
        rw [List.getElem?_drop] at hj
        exact hj
theorem mcells_one {l : List Mv} (h : ∀ x ∈ l, NdS x) : ∀ u ∈ mcells l, u.oneCell' = true := by
  intro u hu
  simp only [mcells, List.mem_flatMap] at hu
  obtain ⟨x, hx, hu⟩ := hu
  obtain ⟨aa, la, ca, ad, ld, cd, h1, h2⟩ := h x hx
  obtain ⟨⟨xp, xn⟩, xv, xd⟩ := x
  dsimp only at h1 h2
  subst h1 h2
  simp [mcell, mbC, strV] at hu
  rcases hu with rfl | rfl | rfl | rfl | rfl | rfl | rfl | rfl | rfl <;> rfl
theorem Mbs.one {w : World} {N N' : Nat → Prop} {v : Value} {l : List Mv} (h : Mbs w N N' v l) : ∀ u ∈ mcells l, u.oneCell' = true := mcells_one (fun x hx => (h.nd x hx).shape)
end Go.Proofs.YtplafpokgpolkaaGreatDoor
