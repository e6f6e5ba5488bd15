/- PARTS OF ONE PROOF, set in one file: TreeLists, Nest, Ok, NodeOpen, TreeLaid. Each part tells its own conditions. -/
import Derived.Deep.Slices
import Derived.Deep.SlicePairs
import Derived.Lib.LaidU8
import Derived.LaidHandle
import Derived.LaidSub
import Derived.PinnedBridge
import Derived.Deep.DeepWitnessRowRef
import Derived.Test.YtphgmkhbhboklaaDoorP1
import Derived.Test.YtphgmkhbhboklaaDoorP2
import Derived.Test.YtphgmkhbhboklaaDoorP3
import Derived.Test.YtphgmkhbhboklaaDoorP4
import Derived.Test.YtphgmkhbhboklaaDoorP6
import Derived.Test.YtphgmkhbhboklaaDoorP7
import Derived.Test.YtphgmkhbhboklaaDoorP8
import Derived.Test.YtphgmkhbhboklaaDoorP9
/- TreeLists: lists, and what is under. -/
namespace Go.Proofs.YtphgmkhbhboklaaDoor
open Go.RowKit
attribute [local go_sem] Oper.semAt_some
theorem ownsOne {w : World} {e : TypeId} {vs : List Value} {k : Nat} (b : Nat) (hb : b = w.heap.size) (hl : vs.length = 1 * k) : (w.alloc (.cells vs.toArray e)).ownsRow b e k (.slice (some ⟨b, 0, none⟩) 1 1) 1 vs := by
  subst hb
  refine ⟨hl, .inr ⟨_, 1, vs.toArray, rfl, Nat.le_refl _, Row.new w e _, Nat.le_refl _, by unfold maxLen; omega, by simp; omega, ?_⟩⟩
  simp [← hl]
theorem KE.setCell {M : Nat → Prop} {n₀ : Nat} {W : World} {b : Nat} {ty : TypeId} {c : Array Value} (hM : M b) (hr : Row W b ty c) (hne : ty ≠ 9) (v : Value) : KE M n₀ W (W.setCell ⟨b, 0, none⟩ v) :=
  ⟨Chg.setCell (.refl _ _ _) (.inr hM) _, fun k c' hk => by
    by_cases e : k = b
    · subst e
      have hr : W.heap[k]? = some (.cells c ty (0, 0)) := hr
      rw [hr] at hk
      injection hk with hk
      injection hk with _ hk
      exact (hne hk).elim
    · rw [(grownBy_setCell' W b v).block k (Array.getElem?_eq_some_iff.1 hk).1 (fun e' => e (by cases e'; rfl))]
      exact hk⟩
set_option pp.maxSteps 1000000 in
set_option pp.deepTerms true in
set_option maxHeartbeats 4000000 in
set_option maxRecDepth 100000 in
theorem lists_any (B : Nat) (v : Value) (l : List Av) (far : Nat) (hfar : far < 256) (w : World) (hT : Tabs B w) (hr : ActsR w (· < w.heap.size) (· < w.heap.size) v l) (hs : ∀ x ∈ l, Kb x.2.1) :
    Calls Tryd.prog 3 #[v, .int .u8 (far : Int)] w fun e w' => e = .returned (.bool true) ∧ Below w.heap.size w w' := by
  obtain ⟨a0, cap0, hv, -⟩ := hr.rd.shape
  have HT := Keep.keep hT; have HR := Keep.keep hr; have HS := Keep.keep hs
  obtain ⟨L, hL⟩ : ∃ L, grownL (l.map fun x => (x.1, x.2.1)) = L := ⟨_, rfl⟩
  have HW : Keep (WellL L) := ⟨hL ▸ grown_well _⟩
  have hlen : L.length ≤ 40 := hL ▸ grown_len _
  have HGL := Keep.keep hL
  clear hT hr hs hL
  subst hv
  refine callsIn_wide.1 (callsIn_of_wp_marks (n := 12) Tryd.func3 rfl trivial ?_ rfl)
  simp only [Tryd.ntmps3, List.size_toArray, List.length_cons, List.length_nil, Nat.reduceAdd, Nat.reduceSub, Array.replicate_succ, Array.replicate_zero, List.push_toArray, List.append_toArray, List.nil_append, List.cons_append]
  refine wpIn_wide.2 ?_
  go_upto_region 1 with fail
  refine wp_world (R := fun w1 => Hp NoM w w1 [rowA w.heap.size 5 #[.int .u8 (far : Int)], rowA (w.heap.size + 1) 4 #[.bool false]]) ?_ ?_
  · exact ((Hp.begin NoM w).newRow _ _).newRow' _ _ _ _ (by simp) rfl
  intro w1 H1
  obtain ⟨b0, hb0⟩ : ∃ b0, w.heap.size = b0 := ⟨_, rfl⟩
  have hb1 := H1.out.below
  have hs1 := (H1.out.row 1 rfl).lt
  have HG1 := Keep.keep (grown_any B _ l w1 (HT.out.on (hb1.mono HT.out.b)) ⟨(HR.out.rd.below hb1 (fun b hb => hb)).mono (fun b hb => Nat.lt_of_lt_of_le hb hb1.size), fun x hx => ((HR.out.nd x hx).below hb1 (fun b hb => hb)).mono (fun b hb => Nat.lt_of_lt_of_le hb hb1.size)⟩ HS.out)
  rw [HGL.out] at HG1
  clear hb1
  go_wp2_with fail
  refine HG1.out.mono ?_
  rintro e w2 ⟨T, mb, Bk, f, rfl, hti, ⟨hTw, hmw, hBk⟩, hb2⟩
  have H2 := Keep.keep (H1.out.call hb2)
  have HTI := Keep.keep hti
  have HBK := Keep.keep hBk
  have hs2 := hb2.size
  have HAL := Keep.keep (all_tree T mb Bk f L w2 (by omega) hti ⟨hti.row.lt, hti.map.lt, fun b hb => (hBk b hb).2⟩)
  clear hti hBk hb2 H1 HG1 HR
  go_wp2_with fail
  refine HAL.out.mono ?_
  rintro e w3 ⟨v6, l6, rfl, hl6, hm6, hb3⟩
  have HL6 := Keep.keep hl6
  have hn6 : l6.length = L.length := by rw [← hl6, List.length_map]
  have HM6 := Keep.keep hm6
  have H3 := Keep.keep (H2.out.call hb3)
  have HTX : Keep (∀ wx, Below w3.heap.size w3 wx → TreeIn wx T mb Bk f L) := ⟨fun wx hb => HTI.out.loc (fun b hb' => by
    have hlt : b < w2.heap.size := by
      rcases hb' with rfl | rfl | h
      · exact HTI.out.row.lt
      · exact HTI.out.map.lt
      · exact (HBK.out b h).2
    have := hb3.size
    rw [hb.block b (by omega), hb3.block b hlt])⟩
  have hlt3 : T < w3.heap.size ∧ mb < w3.heap.size ∧ ∀ b, Bk b → b < w3.heap.size := by
    have := hb3.size
    refine ⟨?_, ?_, fun b hb => ?_⟩
    · have := HTI.out.row.lt; omega
    · have := HTI.out.map.lt; omega
    · have := (HBK.out b hb).2; omega
  have HLT := Keep.keep hlt3
  obtain ⟨a6, cap6, hv6, -⟩ := hm6.rd.shape
  clear hl6 hm6 hb3 HAL H2 HTI hlt3
  rw [hn6] at hv6
  subst hv6
  have hbn : ∀ w, (Instr.build 32 #[(0, .int .i64 1)]).run Tryd.prog w = .ok (.agg #[.int .i64 1, .int .u32 0, .int .u32 0, .int .u32 0, .int .i64 0, .slice none 0 0, .slice none 0 0, .string ⟨#[]⟩]) w := fun w => by kernel_rfl
  have hbm : ∀ w, (Instr.build 34 #[(1, .agg #[.int .i64 1, .int .u32 0, .int .u32 0, .int .u32 0, .int .i64 0, .slice none 0 0, .slice none 0 0, .string ⟨#[]⟩])]).run Tryd.prog w = .ok (.agg #[.string ⟨#[]⟩, .int .i64 1, .int .u32 0, .int .u32 0, .int .u32 0, .int .i64 0, .slice none 0 0, .slice none 0 0, .string ⟨#[]⟩]) w := fun w => by kernel_rfl
  have hmk : ∀ w, (Instr.makeMap 27 none).run Tryd.prog w = .ok (.map (some w.heap.size)) (w.alloc (.map #[] 0)) := fun w => by kernel_rfl
  go_upto_region 6 with fail
  refine wp_world (R := fun w4 => Hp NoM w3 w4 [rowA w3.heap.size 25 #[.slice a6 L.length cap6], msA 9 (w3.heap.size + 1) []]) ?_ ?_
  · have := ((Hp.begin NoM w3).newRow 25 #[.slice a6 L.length cap6]).newMap 9
    simpa using this
  intro w4 H4
  obtain ⟨b3, hb3⟩ : ∃ b3, w3.heap.size = b3 := ⟨_, rfl⟩
  have cV6 : w4.cell? ⟨w3.heap.size, 0, none⟩ = some (.slice a6 L.length cap6) := (H4.out.row 0 rfl).cell (i := 0) rfl
  have hs4 := H4.out.get 1 rfl
  have hs4 : b3 + 1 < w4.heap.size := by have := MapS.lt hs4; omega
  have hs4' : b3 < w4.heap.size := by omega
  rw [hb3] at cV6 ⊢
  go_wp2_with (with_reducible refine arm_stop ?_)
  refine Stopped.out ?_
  have hm4 := (HM6.out.below (H4.out.below) (fun b hb => hb.2) (fun b hb => hb.2)).below ((Below.refl w4.heap.size w4).alloc (Nat.le_refl _) (.cells (mcells [(rootM, nilV, nilV)]).toArray 34)) (fun b hb => by have := hb.2; have := H4.out.size; omega) (fun b hb => by have := hb.2; have := H4.out.size; omega)
  have hrd4 := hm4.rd
  rw [hn6] at hrd4
  refine arm_appendV slMb (base := w4.heap.size) (n := 1) (m := L.length) (ownsOne w4.heap.size rfl rfl) hrd4 ?_ (by unfold maxLen; omega) (by omega) (by simp) rfl rfl ?_
  · intro u hu
    obtain ⟨x, hx, hu⟩ := List.mem_flatMap.1 hu
    have hnd := HM6.out.nd x hx
    obtain ⟨aa, la, ca, ad, ld, cd, e1, e2⟩ := hnd.shape
    obtain ⟨⟨xp, xn⟩, av, dv⟩ := x
    dsimp only at e1 e2
    subst e1 e2
    simp only [mcell, mbC, List.mem_cons, List.not_mem_nil, or_false] at hu
    rcases hu with rfl | rfl | rfl | rfl | rfl | rfl | rfl | rfl | rfl <;> rfl
  intro vD w5 ho hg hov _
  have hH5 : Hp NoM w3 w5 ([rowA w3.heap.size 25 #[.slice a6 L.length cap6], msA 9 (w3.heap.size + 1) []] ++ [slA w4.heap.size 34 9 vD (1 + L.length) (mcells ((rootM, nilV, nilV) :: l6))]) := by
    refine H4.out.push _ ?_ ho (fun b hb => World.ownsRow.lt ho b hb)
    exact Chg.grown (M := NoM) (.of_below ((Below.refl _ _).alloc (Nat.le_refl _) _)) hg (by simp) (fun k e => .inl (by cases e; exact Nat.le_refl _))
  have H5 := Keep.keep hH5
  obtain ⟨gD, cD, rfl⟩ : ∃ gD cD, vD = .slice (some ⟨gD, 0, none⟩) (1 + L.length) cD := by
    rcases ho.2 with ⟨_, h⟩ | ⟨g, cap, cur, h, _⟩
    · omega
    · exact ⟨g, cap, h⟩
  have HND : Keep (∀ wx, Below w3.heap.size w3 wx → ∀ x ∈ (((rootM, nilV, nilV) : Mv) :: l6), NdR wx (· < w3.heap.size) x.1.2 x.2.1 x.2.2) := ⟨fun wx hb x hx => by
    rcases List.mem_cons.1 hx with rfl | hx
    · exact ndR_nil rfl rfl
    · exact ((HM6.out.nd x hx).below hb (fun b hb => hb.2)).mono (fun b hb => hb.2)⟩
  have HDM : Keep ((((rootM, nilV, nilV) : Mv) :: l6).map (·.1) = rootM :: L) := ⟨by rw [List.map_cons, HL6.out]⟩
  have hDl : (((rootM, nilV, nilV) : Mv) :: l6).length = 1 + L.length := by simp; omega
  have HPL : Keep (∀ x ∈ rootM :: L, x.1.length ≤ 400000) := ⟨fun x hx => by
    rcases List.mem_cons.1 hx with rfl | hx
    · simp [rootM]
    · exact ((HTX.out w3 (Below.refl _ _)).sm x hx).p⟩
  generalize (((rootM, nilV, nilV) : Mv) :: l6) = DM at *
  clear ho hg hov hH5 hm4 hrd4 H4 cV6 hs4 hs4' hbn hbm hmk
  simp only [Act.put, List.setIfInBounds_toArray, List.set_cons_succ, List.set_cons_zero]
  go_wp2_with fail
  go_loopg [34] (1 + L.length) (fun g u34 wx => ∃ (k : Nat) (q : Tx → Bool), k + g = 1 + L.length ∧ u34 = .int .i64 (k : Int) ∧ Listed L (rootM :: L) k [] 0 q ∧ Hp NoM w3 wx [rowA w3.heap.size 25 #[.slice a6 L.length cap6], msA 9 (w3.heap.size + 1) (ones L q), slA w4.heap.size 34 9 (.slice (some ⟨gD, 0, none⟩) (1 + L.length) cD) (1 + L.length) (mcells DM)])
  case atStart => exact ⟨0, fun _ => false, by omega, rfl, Listed.start _ _ _, by rw [ones_none]; exact H5.out⟩
  case round =>
    obtain ⟨k, q, hkg, rfl, hq, HP⟩ := hrel
    have HQ := Keep.keep hq; have HH := Keep.keep HP
    clear hq HP H5
    cases gk with
    | zero =>
      have hk : k = 1 + L.length := by omega
      subst hk
      have cV6 : wr.cell? ⟨w3.heap.size, 0, none⟩ = some (.slice a6 L.length cap6) := (HH.out.row 0 rfl).cell (i := 0) rfl
      rw [hb3] at cV6
      have HALL : Keep (∀ x ∈ L, q x.1 = true) := ⟨Listed.all HW.out (cur := []) (by rw [List.length_cons, Nat.add_comm L.length 1]; exact HQ.out)⟩
      have H40 : Keep (Hp NoM w3 wr [rowA w3.heap.size 25 #[.slice a6 L.length cap6], msA 9 (w3.heap.size + 1) (ones L q)]) := ⟨HH.out.init⟩
      go_wp2_with fail
      go_loopg [121] L.length (fun g u121 wx => ∃ k : Nat, k + g = L.length ∧ u121 = .int .i64 (k : Int) ∧ Hp NoM w3 wx [rowA w3.heap.size 25 #[.slice a6 L.length cap6], msA 9 (w3.heap.size + 1) (ones L q)])
      case atStart => exact ⟨0, by omega, rfl, H40.out⟩
      case round =>
        obtain ⟨k, hkg, rfl, HP⟩ := hrel
        have HK := Keep.keep HP
        clear HP H40 HH cV6
        cases gk with
        | zero =>
          obtain rfl : k = L.length := by omega
          go_wp2_with fail
          refine (each_any _ _).mono ?_
          rintro e w' ⟨rfl, rfl⟩
          have hfn : ∀ (w : World), (binOp .eql 40 (.func (.func 21) #[] #[.pointer (some ⟨wr.heap.size, 0, none⟩)]) .nilFunc).run Tryd.prog w = .ok (.bool false) w := fun w => by kernel_rfl
          go_upto_region 39 with fail
          clear hfn
          refine wp_world (R := fun w6 => Hp NoM w3 w6 [rowA w3.heap.size 25 #[.slice a6 L.length cap6], msA 9 (w3.heap.size + 1) (ones L q), rowA wr.heap.size 23 #[.pointer (some ⟨T, 0, none⟩)]]) (HK.out.newRow _ _) ?_
          intro w6 H6
          obtain ⟨nE, hnE⟩ : ∃ nE, wr.heap.size = nE := ⟨_, rfl⟩
          rw [hnE] at H6 ⊢
          clear HK
          go_wp2_with fail
          have hH7 := H6.out.newRow 3 #[.int .i64 0]
          obtain ⟨bk, hbk⟩ : ∃ bk, w6.heap.size = bk := ⟨_, rfl⟩
          have hbs := H6.out.new 2 rfl (b := nE) rfl
          have hs63 := H6.out.size
          have hmp6 := MapS.lt (show MapS w6 9 (w3.heap.size + 1) (ones L q) from H6.out.get 1 rfl)
          obtain ⟨w7, hw7⟩ : ∃ w7, w6.alloc (.cells #[.int .i64 0] 3) = w7 := ⟨_, rfl⟩
          have hsz7 : w7.heap.size = bk + 1 := by rw [← hw7, ← hbk]; simp
          rw [hw7, hbk] at hH7
          rw [hw7, hbk]
          have H7 := Keep.keep hH7
          clear hw7 hH7 H6
          have hbk0 : b0 < bk ∧ b0 + 1 < bk := by
            have h0 := (H3.out.row 1 rfl).lt
            rw [hb0] at h0
            omega
          have HR4 : Keep (∀ wx, Below w3.heap.size w3 wx → Row wx (b0 + 1) 4 #[.bool false]) := ⟨fun wx hb => by
            have h0 := H3.out.row 1 rfl
            rw [hb0] at h0
            exact h0.below hb h0.lt⟩
          have HRF : Keep (∀ wx, Below w3.heap.size w3 wx → wx.cell? ⟨b0, 0, none⟩ = some (.int .u8 (far : Int))) := ⟨fun wx hb => by
            have h0 := H3.out.row 0 rfl
            rw [hb0] at h0
            exact (h0.below hb h0.lt).cell (i := 0) rfl⟩
          have hbl : ∀ (n : Int), ∀ A ∈ [rowA w3.heap.size 25 #[.slice a6 L.length cap6], msA 9 (w3.heap.size + 1) (ones L q), rowA nE 23 #[.pointer (some ⟨T, 0, none⟩)], rowA bk 3 #[.int .i64 n]], ∀ b, A.blk b → b < bk + 1 := by
            intro n A hA b hb
            simp only [List.mem_cons, List.not_mem_nil, or_false] at hA
            rcases hA with rfl | rfl | rfl | rfl
            · have hb : b = w3.heap.size := hb
              omega
            · have hb : b = w3.heap.size + 1 := hb
              omega
            · have hb : b = nE := hb
              omega
            · have hb : b = bk := hb
              omega
          refine rangeFunc_row (n := 12) (v := 20) (cs := fun x : {x : Mb // x ∈ L} => mbC x.1 (f x.1.1).1 (f x.1.1).2) (by decide) rfl (enters_of Tryd.func21 (by kernel_rfl) rfl) 34
            (each_stops (fun b => b = bk) 11 (by decide) nE (bk + 1) T mb Bk f L (by omega) w7 ((H7.out.row 2 rfl).cell (i := 0) rfl) ⟨by omega, by omega⟩ (HTX.out w7 H7.out.below) ⟨by have := HLT.out.1; omega, by have := HLT.out.2.1; omega, fun b hb => by have := HLT.out.2.2 b hb; omega⟩ ⟨by have := HLT.out.1; omega, by have := HLT.out.2.1; omega, fun b hb => by have := HLT.out.2.2 b hb; omega⟩ (by omega))
            KE.trans (KE.b (by omega))
            (fun pre W => Hp NoM w3 W [rowA w3.heap.size 25 #[.slice a6 L.length cap6], msA 9 (w3.heap.size + 1) (ones L q), rowA nE 23 #[.pointer (some ⟨T, 0, none⟩)], rowA bk 3 #[.int .i64 (pre.length : Int)]] ∧ pre.map (fun x => x.1.1) = (L.map (·.1)).take pre.length)
            (fun c pre W => (c = .exit 6 → Hp NoM w3 W [rowA w3.heap.size 25 #[.slice a6 L.length cap6], msA 9 (w3.heap.size + 1) (ones L q), rowA nE 23 #[.pointer (some ⟨T, 0, none⟩)], rowA bk 3 #[.int .i64 (pre.length : Int)]] ∧ pre.length = far) ∧ (c = .exit 6 ∨ c = .ret ∧ pre.map (fun x => x.1.1) ≠ (L.map (·.1)).take pre.length))
            ?hI ?hIx ⟨H7.out, rfl⟩ ?assign ?body ?done ?stop
          case hI =>
            exact fun s X Y row h hg hr => ⟨h.1.grownBy hg (fun r e => ⟨by have := (hr r e).1; omega, fun A hA hb => by have := hbl _ A hA r hb; have := (hr r e).1; omega⟩), h.2⟩
          case hIx =>
            exact fun c s X Y row h hg hr => ⟨fun e => ⟨(h.1 e).1.grownBy hg (fun r e => ⟨by have := (hr r e).1; omega, fun A hA hb => by have := hbl _ A hA r hb; have := (hr r e).1; omega⟩), (h.1 e).2⟩, h.2⟩
          case assign =>
            rintro lo pre ⟨x, hxL⟩ W K hI hK
            obtain ⟨aa, la, ca, ad, ld, cd, hav, hdv⟩ := ((HTX.out w7 H7.out.below).nd x hxL).shape
            simp only [hav, hdv, mbC, strV, List.setIfInBounds_toArray, List.set_cons_succ, List.set_cons_zero] at hK ⊢
            obtain ⟨xp, ⟨kind, mode, uid, gid, time, attrs, data, link⟩⟩ := x
            have hWs := (hI.1.row 3 rfl).lt
            gi_wp2
            exact hK _ _ ((KeepsOthers.alloc _ _).from _) (KE.of_below ((Below.refl _ _).alloc (Nat.le_refl _) _) (by omega)) ⟨hI.1.alloc _, hI.2⟩ ⟨W.heap.size, ⟨Row.new W 34 _, by omega⟩, rfl⟩
          case body =>
            rintro lo pre ⟨x, hxL⟩ W Bx hl0 ⟨r, hr1⟩ ⟨hHp, hpre⟩ hx hx3 hlt
            have HI := Keep.keep hHp; have HX := Keep.keep hx; have HPRE := Keep.keep hpre
            have hlt6 : pre.length < l6.length := by omega
            have hrx := HM6.out.below hHp.below (fun b hb => hb.2) (fun b hb => hb.2)
            obtain ⟨b6, off6, rfl⟩ : ∃ b6 off6, a6 = some ⟨b6, off6, none⟩ := by
              obtain ⟨b, off, cap, h, -⟩ := hrx.rd.has (by omega)
              injection h with h
              exact ⟨b, off, h⟩
            obtain ⟨yp, hyp⟩ : ∃ yp, l6[pre.length].1.1 = yp := ⟨_, rfl⟩
            have hcell : W.cell? ⟨b6, off6 + pre.length * 9, none⟩ = some (.string ⟨yp.toArray⟩) := hrx.cell hlt6 0 (by decide) (by rw [← hyp]; rfl)
            have HNX : Keep ((pre ++ [(⟨x, hxL⟩ : {x : Mb // x ∈ L})]).map (fun x => x.1.1) = (L.map (·.1)).take (pre ++ [(⟨x, hxL⟩ : {x : Mb // x ∈ L})]).length ↔ x.1 = yp) := ⟨by
              have hl : pre.length < (L.map (·.1)).length := by rw [List.length_map]; exact hlt
              rw [List.length_append, List.length_singleton, List.take_succ_eq_append_getElem hl, ← hpre, List.map_append, List.map_cons, List.map_nil]
              have : (L.map (·.1))[pre.length] = yp := by
                simp only [← HL6.out, List.getElem_map]
                exact hyp
              rw [this]
              constructor
              · intro h; simpa using h
              · intro h; rw [h]⟩
            have hwq : ¬ False := fun h => h
            have cK : W.cell? ⟨bk, 0, none⟩ = some (.int .i64 (pre.length : Int)) := (hHp.row 3 rfl).cell (i := 0) rfl
            have cV6 : W.cell? ⟨w3.heap.size, 0, none⟩ = some (.slice (some ⟨b6, off6, none⟩) L.length cap6) := (hHp.row 0 rfl).cell (i := 0) rfl
            rw [hb3] at cV6
            have cF := HRF.out W hHp.below
            have h4r := HR4.out W hHp.below
            have c4 : W.cell? ⟨b0 + 1, 0, none⟩ = some (.bool false) := h4r.cell (i := 0) rfl
            have f4 : W.frozen? ⟨b0 + 1, 0, none⟩ = false := h4r.frozen 0
            have fK : W.frozen? ⟨bk, 0, none⟩ = false := (hHp.row 3 rfl).frozen 0
            obtain ⟨xp, ⟨kind, mode, uid, gid, time, attrs, data, link⟩⟩ := x
            have cX : W.cell? ⟨Bx, 0, none⟩ = some (.string ⟨xp.toArray⟩) := hx.cell (i := 0) rfl
            clear hrx hHp hpre hx hyp h4r
            simp only [List.setIfInBounds_toArray, List.set_cons_succ, List.set_cons_zero]
            have hge : decide (L.length ≤ pre.length) = false := decide_eq_false (by omega)
            have hbk1 := hbk0.1
            have hbn0 : b0 ≠ bk := by omega
            by_cases hxy : xp = yp
            · have HP1 := Keep.keep (HNX.out.2 hxy)
              have HPL1 : Keep ((pre ++ [(⟨(xp, ⟨kind, mode, uid, gid, time, attrs, data, link⟩), hxL⟩ : {x : Mb // x ∈ L})]).length = pre.length + 1) := ⟨by simp⟩
              subst hxy
              have e1 : (xp == xp) = true := beq_self_eq_true _
              gi_wp2_with fail
              refine wpIn_region_quiet_wide (by kernel_rfl) (by kernel_rfl) ?_ (by kernel_rfl) ?_
              · rintro ⟨a, w, h⟩; exact h
              (repeat (go_big_quiet_step (fail)))
              (refine wpQuiet_nil ?_); (intro _ hwq); (obtain ⟨nq, hwq⟩ := hwq); (subst hwq)
              have HKF : Keep (KeepsFrom w7.heap.size W (W.drewN nq)) := ⟨⟨Nat.le_refl _, fun k o _ h _ => h⟩⟩
              have HNW : Keep (Hp NoM w3 ((W.drewN nq).setCell ⟨bk, 0, none⟩ (.int .i64 ((pre.length : Int) + 1))) [rowA w3.heap.size 25 #[.slice (some ⟨b6, off6, none⟩) L.length cap6], msA 9 (w3.heap.size + 1) (ones L q), rowA nE 23 #[.pointer (some ⟨T, 0, none⟩)], rowA bk 3 #[.int .i64 ((pre ++ [(⟨(xp, ⟨kind, mode, uid, gid, time, attrs, data, link⟩), hxL⟩ : {x : Mb // x ∈ L})]).length : Int)]]) := ⟨by
                rw [HPL1.out]
                exact (HI.out.drewN nq).setCell 3 rfl 0 _ rfl⟩
              have HKE : Keep (KE (fun b => b = bk) (bk + 1) W ((W.drewN nq).setCell ⟨bk, 0, none⟩ (.int .i64 ((pre.length : Int) + 1)))) := ⟨by
                have hr3 := HI.out.row 3 rfl
                have hlt3 := hr3.lt
                exact (KE.of_below (below_drewN' (Below.refl _ W) nq) (by omega)).trans (KE.setCell (M := fun b => b = bk) rfl (hr3.drewN nq) (by decide) _)⟩
              gi_wp2_with fail
              · rename_i hf
                have hf : pre.length + 1 = far := by simp at hf; omega
                exact ⟨HKF.out.trans ((KeepsOthers.setCell _ _ _).from _), ⟨fun _ => ⟨HNW.out, by rw [HPL1.out]; exact hf⟩, .inl rfl⟩⟩
              · exact ⟨HKF.out.trans ((KeepsOthers.setCell _ _ _).from _), HKE.out, HNW.out, HP1.out⟩
            · have HP1 := Keep.keep (fun h => hxy (HNX.out.1 h))
              have e1 : (xp == yp) = false := by simpa using hxy
              clear hxy
              gi_wp2_with fail
              refine wpIn_region_quiet_wide (by kernel_rfl) (by kernel_rfl) ?_ (by kernel_rfl) ?_
              · rintro ⟨a, w, h⟩; exact h
              (repeat (go_big_quiet_step (fail)))
              (refine wpQuiet_nil ?_); (intro _ hwq); (obtain ⟨nq, hwq⟩ := hwq); (subst hwq)
              have HKF : Keep (KeepsFrom w7.heap.size W (W.drewN nq)) := ⟨⟨Nat.le_refl _, fun k o _ h _ => h⟩⟩
              gi_wp2_with fail
              exact ⟨HKF.out.trans ((KeepsOthers.setCell _ _ _).from _), ⟨fun h => (by cases h), .inr ⟨rfl, HP1.out⟩⟩⟩
          case done =>
            rintro D ys W hD hys ⟨hHp, hpre⟩ hK
            have hyl : ys.length = L.length := by have h := congrArg List.length hys; simpa using h
            rw [hyl] at hHp
            have cK : W.cell? ⟨bk, 0, none⟩ = some (.int .i64 (L.length : Int)) := (hHp.row 3 rfl).cell (i := 0) rfl
            have cV6 : W.cell? ⟨w3.heap.size, 0, none⟩ = some (.slice a6 L.length cap6) := (hHp.row 0 rfl).cell (i := 0) rfl
            rw [hb3] at cV6
            have h4r := HR4.out W hHp.below
            have hB4 : Below w.heap.size w W := H3.out.below.trans (hHp.below.mono H3.out.size)
            have HTL := Keep.keep (tells_any B W (HT.out.on (hB4.mono HT.out.b)))
            have H4R := Keep.keep h4r; have HB4 := Keep.keep hB4
            have hmap : MapS W 9 (w3.heap.size + 1) (ones L q) := hHp.get 1 rfl
            rw [hb3] at hmap
            have hlm := hmap.len Tryd.underlying27 3
            rw [ones_all HALL.out] at hlm
            clear hHp h4r hB4 hmap
            go_wp2_with fail
            refine HTL.out.mono ?_
            rintro e w9 ⟨rfl, hb9⟩
            have HR9 := Keep.keep (H4R.out.below hb9 H4R.out.lt)
            have c9 := HR9.out.cell (i := 0) rfl
            have f9 := HR9.out.frozen 0
            have hDlt := (Array.getElem?_eq_some_iff.1 hK).1
            have hK9 := (hb9.block D hDlt).trans hK
            have HB9 := Keep.keep (HB4.out.trans (hb9.mono HB4.out.size))
            clear hb9 hK
            go_wp2_with fail
            have hK' := (KeepsOthers.setCell w9 ⟨b0 + 1, 0, none⟩ (.bool true)).same D _ hK9 rfl
            refine ⟨by simp, .inl ⟨_, _, rfl, run_takeDeferred hK', ?_⟩⟩
            have hr5 : Row (w9.setCell ⟨b0 + 1, 0, none⟩ (.bool true)) (b0 + 1) 4 #[.bool true] := HR9.out.set 0 (.bool true)
            have hc5 := cell_kept (hr5.cell (i := 0) rfl) (grownBy_putObj' _ D (.deferred none)) (fun r e => by cases e; exact ⟨_, hK', rfl⟩)
            refine ⟨.bool true, ?_, rfl, (HB9.out.setCell (p := ⟨b0 + 1, 0, none⟩) (by show w.heap.size ≤ b0 + 1; omega) _).trans (belowK_b (w := w) (Nat.le_refl _) _ D _ _ (by omega) hK' rfl rfl)⟩
            simp [results, Tryd.f3, go_sem, hc5]
          case stop =>
            rintro D c pre W hD ⟨kk, hkk, hpk⟩ ⟨hx1, hx2⟩ hK
            rcases hx2 with rfl | ⟨rfl, hne⟩
            · obtain ⟨hHp, hpf⟩ := hx1 rfl
              rw [hpf] at hHp
              have cK : W.cell? ⟨bk, 0, none⟩ = some (.int .i64 (far : Int)) := (hHp.row 3 rfl).cell (i := 0) rfl
              have cV6 : W.cell? ⟨w3.heap.size, 0, none⟩ = some (.slice a6 L.length cap6) := (hHp.row 0 rfl).cell (i := 0) rfl
              rw [hb3] at cV6
              have h4r := HR4.out W hHp.below
              have cF := HRF.out W hHp.below
              have hB4 : Below w.heap.size w W := H3.out.below.trans (hHp.below.mono H3.out.size)
              have HTL := Keep.keep (tells_any B W (HT.out.on (hB4.mono HT.out.b)))
              have H4R := Keep.keep h4r; have HB4 := Keep.keep hB4
              have hmap : MapS W 9 (w3.heap.size + 1) (ones L q) := hHp.get 1 rfl
              rw [hb3] at hmap
              have hlm := hmap.len Tryd.underlying27 3
              rw [ones_all HALL.out] at hlm
              clear hHp h4r hB4 hmap
              clear hx1
              by_cases hfl : far = L.length
              · have hfb : ((far : Int) == (L.length : Int)) = true := by rw [hfl]; exact beq_self_eq_true _
                clear hfl
                go_wp2_with fail
                refine HTL.out.mono ?_
                rintro e w9 ⟨rfl, hb9⟩
                have HR9 := Keep.keep (H4R.out.below hb9 H4R.out.lt)
                have c9 := HR9.out.cell (i := 0) rfl
                have f9 := HR9.out.frozen 0
                have hDlt := (Array.getElem?_eq_some_iff.1 hK).1
                have hK9 := (hb9.block D hDlt).trans hK
                have HB9 := Keep.keep (HB4.out.trans (hb9.mono HB4.out.size))
                clear hb9 hK
                go_wp2_with fail
                have hK' := (KeepsOthers.setCell w9 ⟨b0 + 1, 0, none⟩ (.bool true)).same D _ hK9 rfl
                refine ⟨by simp, .inl ⟨_, _, rfl, run_takeDeferred hK', ?_⟩⟩
                have hr5 : Row (w9.setCell ⟨b0 + 1, 0, none⟩ (.bool true)) (b0 + 1) 4 #[.bool true] := HR9.out.set 0 (.bool true)
                have hc5 := cell_kept (hr5.cell (i := 0) rfl) (grownBy_putObj' _ D (.deferred none)) (fun r e => by cases e; exact ⟨_, hK', rfl⟩)
                refine ⟨.bool true, ?_, rfl, (HB9.out.setCell (p := ⟨b0 + 1, 0, none⟩) (by show w.heap.size ≤ b0 + 1; omega) _).trans (belowK_b (w := w) (Nat.le_refl _) _ D _ _ (by omega) hK' rfl rfl)⟩
                simp [results, Tryd.f3, go_sem, hc5]
              · have hfb : ((far : Int) == (L.length : Int)) = false := by simp; omega
                clear hfl
                go_wp2_with fail
                refine HTL.out.mono ?_
                rintro e w9 ⟨rfl, hb9⟩
                have HR9 := Keep.keep (H4R.out.below hb9 H4R.out.lt)
                have c9 := HR9.out.cell (i := 0) rfl
                have f9 := HR9.out.frozen 0
                have hDlt := (Array.getElem?_eq_some_iff.1 hK).1
                have hK9 := (hb9.block D hDlt).trans hK
                have HB9 := Keep.keep (HB4.out.trans (hb9.mono HB4.out.size))
                clear hb9 hK
                go_wp2_with fail
                have hK' := (KeepsOthers.setCell w9 ⟨b0 + 1, 0, none⟩ (.bool true)).same D _ hK9 rfl
                refine ⟨by simp, .inl ⟨_, _, rfl, run_takeDeferred hK', ?_⟩⟩
                have hr5 : Row (w9.setCell ⟨b0 + 1, 0, none⟩ (.bool true)) (b0 + 1) 4 #[.bool true] := HR9.out.set 0 (.bool true)
                have hc5 := cell_kept (hr5.cell (i := 0) rfl) (grownBy_putObj' _ D (.deferred none)) (fun r e => by cases e; exact ⟨_, hK', rfl⟩)
                refine ⟨.bool true, ?_, rfl, (HB9.out.setCell (p := ⟨b0 + 1, 0, none⟩) (by show w.heap.size ≤ b0 + 1; omega) _).trans (belowK_b (w := w) (Nat.le_refl _) _ D _ _ (by omega) hK' rfl rfl)⟩
                simp [results, Tryd.f3, go_sem, hc5]
            · exfalso
              refine hne ?_
              have h1 := congrArg (List.map (fun x : Mb => x.1)) hpk
              have h2 := congrArg List.length hpk
              rw [List.length_map, List.length_take] at h2
              rw [List.map_map, List.map_take] at h1
              rw [show pre.length = kk by omega]
              exact h1
        | succ g =>
          have hk : k < L.length := by omega
          have hk6 : k < l6.length := by omega
          have hd4 : decide ((k : Int) < (L.length : Int)) = true := decide_eq_true (by omega)
          have hrx := HM6.out.below HK.out.below (fun b hb => hb.2) (fun b hb => hb.2)
          obtain ⟨b6, off6, rfl⟩ : ∃ b6 off6, a6 = some ⟨b6, off6, none⟩ := by
            obtain ⟨b, off, cap, h, -⟩ := hrx.rd.has (by omega)
            injection h with h
            exact ⟨b, off, h⟩
          have hld := hrx.load hk6
          have hkm : l6[k].1 ∈ L := by
            rw [← HL6.out]
            exact List.mem_map.2 ⟨_, List.getElem_mem hk6, rfl⟩
          have hndx := hrx.nd _ (List.getElem_mem hk6)
          have hlo := look_ones HW.out.s q hkm
          rw [if_pos (HALL.out _ hkm)] at hlo
          have hpl := HPL.out _ (List.mem_cons_of_mem _ hkm)
          clear hrx hkm
          generalize l6[k] = x at *
          obtain ⟨⟨xp, ⟨kind, mode, uid, gid, time, attrs, data, link⟩⟩, av, dv⟩ := x
          obtain ⟨aa, la, ca, ad, ld, cd, e1, e2⟩ := hndx.shape
          dsimp only at hndx e1 e2 hlo hpl
          subst e1 e2
          unfold mcell mbC strV at hld
          dsimp only at hld
          clear hndx
          go_upto_region 33 with ((with_reducible refine arm_loadM hld ?_ ?_); (focus rfl); simp only [Act.put, List.setIfInBounds_toArray, List.set_cons_succ, List.set_cons_zero])
          refine wp_world (R := fun w6 => Hp NoM w3 w6 [rowA w3.heap.size 25 #[.slice (some ⟨b6, off6, none⟩) L.length cap6], msA 9 (w3.heap.size + 1) (ones L q), rowA wr.heap.size 34 #[.string ⟨xp.toArray⟩, .int .i64 kind, .int .u32 mode, .int .u32 uid, .int .u32 gid, .int .i64 time, .slice aa la ca, .slice ad ld cd, .string ⟨link.toArray⟩]]) (HK.out.newRow _ _) ?_
          intro w6 H6
          have cX := (H6.out.row 2 rfl).cell (i := 0) rfl
          have hmap : MapS w6 9 (w3.heap.size + 1) (ones L q) := H6.out.get 1 rfl
          rw [hb3] at hmap
          have hlk := hmap.look1 Tryd.underlying9 Tryd.underlying27 (z := .int .i64 0) (by kernel_rfl) (p := xp) (by unfold maxLen; omega)
          rw [hlo] at hlk
          clear hmap hld hlo
          go_wp2_with fail
          go_roundg g
          case measure => omega
          case rel => exact ⟨k + 1, by omega, by simp, H6.out.init⟩
    | succ g =>
      have hk : k < 1 + L.length := by omega
      have hkD : k < DM.length := by omega
      have hd1 : decide ((k : Int) < 1 + (L.length : Int)) = true := decide_eq_true (by omega)
      have hrx : Mbs wr (fun b => b < wr.heap.size) (· < w3.heap.size) (.slice (some ⟨gD, 0, none⟩) (1 + L.length) cD) DM := ⟨by have := ownsV_reads (HH.out.sl 2 rfl); rw [← hDl] at this ⊢; exact this.mono (fun b hb => hb.2.1), HND.out wr HH.out.below⟩
      have hld := hrx.load hkD
      have hndx := hrx.nd _ (List.getElem_mem hkD)
      have hDk : (rootM :: L)[k]'(by rw [List.length_cons]; omega) = DM[k].1 := by simp only [← HDM.out, List.getElem_map]
      have HDK := Keep.keep hDk
      clear hrx hDk
      generalize DM[k] = x at *
      obtain ⟨⟨xp, ⟨kind, mode, uid, gid, time, attrs, data, link⟩⟩, av, dv⟩ := x
      obtain ⟨aa, la, ca, ad, ld, cd, e1, e2⟩ := hndx.shape
      dsimp only at hndx e1 e2
      subst e1 e2
      unfold mcell mbC strV at hld
      dsimp only at hld HDK
      rw [Nat.zero_add] at hld
      clear hndx
      go_upto_region 9 with ((with_reducible refine arm_loadM hld ?_ ?_); (focus rfl); simp only [Act.put, List.setIfInBounds_toArray, List.set_cons_succ, List.set_cons_zero])
      refine wp_world (R := fun w6 => Hp NoM w3 w6 [rowA w3.heap.size 25 #[.slice a6 L.length cap6], msA 9 (w3.heap.size + 1) (ones L q), slA w4.heap.size 34 9 (.slice (some ⟨gD, 0, none⟩) (1 + L.length) cD) (1 + L.length) (mcells DM), rowA wr.heap.size 34 #[.string ⟨xp.toArray⟩, .int .i64 kind, .int .u32 mode, .int .u32 uid, .int .u32 gid, .int .i64 time, .slice aa la ca, .slice ad ld cd, .string ⟨link.toArray⟩]]) (HH.out.newRow _ _) ?_
      intro w6 H6
      obtain ⟨n9, hn9⟩ : ∃ n9, wr.heap.size = n9 := ⟨_, rfl⟩
      have cX : w6.cell? ⟨wr.heap.size, 0, none⟩ = some (.string ⟨xp.toArray⟩) := (H6.out.row 3 rfl).cell (i := 0) rfl
      rw [hn9] at cX H6 ⊢
      have hkL : k < (rootM :: L).length := by rw [List.length_cons]; omega
      have hxl : xp.length ≤ 400000 := by
        have := HPL.out _ (List.getElem_mem hkL)
        rw [HDK.out] at this; exact this
      have hT6 := HTX.out w6 H6.out.below
      have hlt6 : T < w6.heap.size ∧ mb < w6.heap.size ∧ ∀ b, Bk b → b < w6.heap.size := by
        have := H6.out.size
        have := HLT.out
        exact ⟨by omega, by omega, fun b hb => by have := HLT.out.2.2 b hb; omega⟩
      have HLI := Keep.keep (list_tree T mb Bk f L w6 hT6 hlt6.2.2 xp (by omega) (by omega))
      clear hT6 hlt6 hld HH
      go_wp2_with fail
      refine HLI.out.mono ?_
      rintro e w7 ⟨⟨v10, rfl, ho10⟩, hb7⟩
      have H7 := Keep.keep (H6.out.push (slA w6.heap.size 9 1 v10 (listT L xp).1.length ((listT L xp).1.map encStr)) (.of_below hb7) ho10 (fun b hb => World.ownsRow.lt ho10 b hb))
      have cX7 : w7.cell? ⟨n9, 0, none⟩ = some (.string ⟨xp.toArray⟩) := (H7.out.row 3 rfl).cell (i := 0) rfl
      have cK7 : w7.cell? ⟨n9, 1, none⟩ = some (.int .i64 kind) := (H7.out.row 3 rfl).cell (i := 1) rfl
      obtain ⟨a10, c10, rfl, -⟩ := (ownsV_reads ho10).shape
      clear ho10 hb7 cX HLI H6
      have HUN : Keep (∀ wx, Below w3.heap.size w3 wx → ∀ p : Tx, p.length ≤ 400000 → Calls Tryd.prog 7 #[.pointer (some ⟨T, 0, none⟩), .string ⟨p.toArray⟩] wx fun e w' => ∃ a l cap, e = .returned (.slice a (manyU L p) cap) ∧ Below wx.heap.size wx w') := ⟨fun wx hb p hp => by
        have := hb.size
        have h3 := HLT.out
        refine (under_tree T mb Bk f L p wx (by omega) hp (HTX.out wx hb) ⟨by omega, by omega, fun b hb => by have := h3.2.2 b hb; omega⟩).mono ?_
        rintro e w' ⟨v, l, rfl, hl, hm, hb'⟩
        obtain ⟨a, cap, rfl, -⟩ := hm.rd.shape
        have hn : l.length = manyU L p := by rw [← List.length_map (f := fun x : Mv => x.1), hl]; rfl
        rw [hn]
        exact ⟨a, l, cap, rfl, hb'⟩⟩
      by_cases hk1 : kind = 1
      · subst hk1
        have hlist := list_at HW.out hkL (by rw [HDK.out])
        have hmany := many_at HW.out hkL (by rw [HDK.out])
        rw [HDK.out] at hlist hmany
        have HLST := Keep.keep hlist; have HMNY := Keep.keep hmany
        clear hlist hmany
        dsimp only at HLST HMNY
        have HNL : Keep ((listT L xp).1.length = (kids xp L).length) := ⟨by rw [HLST.out]; simp⟩
        rw [HLST.out] at H7 ⊢
        dsimp only at H7 ⊢
        rw [List.length_map] at H7 ⊢
        have hkl : (kids xp L).length ≤ 40 := Nat.le_trans (List.length_filter_le _ _) hlen
        have HQ1 := Keep.keep (HQ.out.cur xp)
        go_wp2_with fail
        go_loopg [12, 66] (kids xp L).length (fun gj u12 u66 wx => ∃ (j : Nat) (q1 : Tx → Bool), j + gj = (kids xp L).length ∧ u66 = .int .i64 (j : Int) ∧ u12 = .int .i64 (manyK L xp j : Int) ∧ Listed L (rootM :: L) k xp j q1 ∧ Hp NoM w3 wx [rowA w3.heap.size 25 #[.slice a6 L.length cap6], msA 9 (w3.heap.size + 1) (ones L q1), slA w4.heap.size 34 9 (.slice (some ⟨gD, 0, none⟩) (1 + L.length) cD) (1 + L.length) (mcells DM), rowA n9 34 #[.string ⟨xp.toArray⟩, .int .i64 1, .int .u32 mode, .int .u32 uid, .int .u32 gid, .int .i64 time, .slice aa la ca, .slice ad ld cd, .string ⟨link.toArray⟩], slA w6.heap.size 9 1 (.slice a10 (kids xp L).length c10) (kids xp L).length (((kids xp L).map fun x => baseP x.1).map encStr)])
        case atStart => exact ⟨0, q, by omega, rfl, rfl, HQ1.out, H7.out⟩
        case round =>
          obtain ⟨j, q1, hjg, rfl, rfl, hq1, HP⟩ := hrel
          have HQJ := Keep.keep hq1; have HJ := Keep.keep HP
          clear hq1 HP H7 HQ1 cX7 cK7
          have cX : wr.cell? ⟨n9, 0, none⟩ = some (.string ⟨xp.toArray⟩) := (HJ.out.row 3 rfl).cell (i := 0) rfl
          cases gk with
          | zero =>
            have hj : j = (kids xp L).length := by omega
            subst hj
            have HDR := Keep.keep (Listed.dir' hkL HDK.out rfl HQJ.out [])
            have hmk := manyK_le L xp hlen (kids xp L).length
            have HU := Keep.keep (HUN.out wr HJ.out.below xp (by omega))
            rw [HMNY.out] at HU
            generalize manyK L xp (kids xp L).length = mk at *
            go_upto_if 104 with fail
            by_cases hx0 : xp = []
            · have he : (!xp.isEmpty) = false := by rw [hx0]; rfl
              rw [if_pos hx0] at HU
              have HE := Keep.keep hx0
              clear hx0
              simp only [he]
              clear he
              go_wp2_with fail
              refine HU.out.mono ?_
              rintro e w9 ⟨a9, l9, c9, rfl, hb9⟩
              have H9 := Keep.keep (HJ.out.call hb9)
              clear hb9
              go_wp2_with fail
              go_roundg g
              case measure => omega
              case rel => exact ⟨k + 1, q1, by omega, by simp, HDR.out, H9.out.init.init⟩
            · have he : (!xp.isEmpty) = true := by simpa using hx0
              rw [if_neg hx0] at HU
              have HE := Keep.keep hx0
              clear hx0
              simp only [he]
              clear he
              go_wp2_with fail
              refine HU.out.mono ?_
              rintro e w9 ⟨a9, l9, c9, rfl, hb9⟩
              have H9 := Keep.keep (HJ.out.call hb9)
              clear hb9
              go_wp2_with fail
              go_roundg g
              case measure => omega
              case rel => exact ⟨k + 1, q1, by omega, by simp, HDR.out, H9.out.init.init⟩
          | succ gj =>
            have hj : j < (kids xp L).length := by omega
            have hd2 : decide ((j : Int) < ((kids xp L).length : Int)) = true := decide_eq_true (by omega)
            have hfr := Listed.fresh' HW.out hkL HDK.out HQJ.out hj
            have HQS := Keep.keep (HQJ.out.name hj)
            have hcm := List.getElem_mem hj
            have hcj := kids_join HW.out hcm
            have hcL := (mem_kids.1 hcm).1
            have HPUT := Keep.keep (ones_put HW.out.s q1 hcL)
            have hlk0 := look_ones HW.out.s q1 hcL
            dsimp only at hfr HQS
            rw [hfr, if_neg (by decide)] at hlk0
            have hml := manyK_succ L xp j hj
            have hmu := manyU_le L (kids xp L)[j].1
            have hmk := manyK_le L xp hlen j
            obtain ⟨g10, rfl⟩ : ∃ g10, a10 = some ⟨g10, 0, none⟩ := by
              rcases (HJ.out.sl 4 rfl).2 with ⟨_, h⟩ | ⟨g, cap, cur, h, _⟩
              · omega
              · injection h with h; exact ⟨g, h⟩
            have hcell : ∀ i, (hi : i < (kids xp L).length) → wr.cell? ⟨g10, i, none⟩ = some (.string ⟨(baseP (kids xp L)[i].1).toArray⟩) := fun i hi => by
              have := (ownsV_reads (HJ.out.sl 4 rfl)).cell g10 0 _ _ rfl i (.string ⟨(baseP (kids xp L)[i].1).toArray⟩) (by simp [hi, encStr])
              rwa [Nat.zero_add] at this
            have hcl := hcell j hj
            have hxc : (kids xp L)[j].1.length ≤ 400000 := HPL.out _ (List.mem_cons_of_mem _ hcL)
            have hnr := List.pairwise_iff_getElem.1 (names_rise HW.out xp)
            have HPR : Keep (∀ i, i + 1 = j → ∃ b : Tx, wr.cell? ⟨g10, i, none⟩ = some (.string ⟨b.toArray⟩) ∧ Op.bytesLess b (baseP (kids xp L)[j].1) = true) := ⟨fun i hi => by
              refine ⟨_, hcell i (by omega), ?_⟩
              have := hnr i j (by simp; omega) (by simp; omega) (by omega)
              simp only [List.getElem_map] at this
              rw [less_lt]
              exact decide_eq_true this⟩
            clear hcell hnr hcm hcL
            generalize (kids xp L)[j] = c at *
            have HCJ := Keep.keep hcj
            have HJM := HJ.out.get 1 rfl
            have hmap : MapS wr 9 (w3.heap.size + 1) (ones L q1) := HJM
            have hlk := fun wx (h : MapS wx 9 (b3 + 1) (ones L q1)) => h.look1 Tryd.underlying9 Tryd.underlying27 (z := .int .i64 0) (w := wx) (by kernel_rfl) (p := c.1) (by unfold maxLen; omega)
            rw [hlk0] at hlk
            rw [hb3] at hmap
            have HLK := Keep.keep (hlk wr hmap)
            have HMAP := Keep.keep hmap
            clear hlk hmap HJM hcj hlk0 hfr
            go_upto_if 74 with fail
            go_cut [15] from 74 to 79 (fun u15 wc => u15 = .string ⟨c.1.toArray⟩ ∧ wc = wr)
            case first =>
              by_cases hx0 : xp = []
              · have he : (!xp.isEmpty) = false := by rw [hx0]; rfl
                have hcj : baseP c.1 = c.1 := by have := HCJ.out; rw [if_pos hx0] at this; exact this.symm
                have HE := Keep.keep hcj
                clear hx0 hcj
                simp only [he]
                clear he
                go_wp2_with fail
                go_meet
                case rel => exact ⟨by rw [HE.out], rfl⟩
              · have he : (!xp.isEmpty) = true := by simpa using hx0
                have hbl : (baseP c.1).length ≤ 400000 := by
                  unfold baseP
                  rw [List.length_drop]; omega
                have HE := Keep.keep hx0
                clear hx0
                simp only [he]
                clear he
                go_wp2_with fail
                go_meet
                case rel =>
                  refine ⟨?_, rfl⟩
                  have h := HCJ.out
                  rw [if_neg HE.out] at h
                  have hh : ({ data := c.1.toArray } : ByteArray) = ⟨(xp ++ 47 :: baseP c.1).toArray⟩ := by rw [← h]
                  rw [hh]
                  congr 1
                  apply ByteArray.ext
                  simp
            case rest =>
              obtain ⟨rfl, rfl⟩ := hcut
              have hol : (ones L q1).length ≤ 40 := by
                unfold ones
                rw [List.length_map]
                exact Nat.le_trans (List.length_filter_le _ _) hlen
              by_cases h0 : 0 < j
              focus
                obtain ⟨i, hi⟩ : ∃ i, i + 1 = j := ⟨j - 1, by omega⟩
                obtain ⟨b, hcb, hlb⟩ := HPR.out i hi
                have hcb' : wc.cell? ⟨g10, j - 1, none⟩ = some (.string ⟨b.toArray⟩) := by rw [← hi]; exact hcb
                clear hi hcb
                go_upto_region 22 with fail
                clear h0 hcb' hlb
              rotate_left
              focus
                go_upto_region 22 with fail
                clear h0
              all_goals
                have hlk := HLK.out
                go_wp2_with (first | (with_reducible refine arm_sRange ?_) | (with_reducible refine arm_sNext ?_) | (with_reducible refine arm_sDel ?_) | (with_reducible refine arm_sPut ?_) | (with_reducible refine arm_sIns ?_))
                refine StM.out ?_
                refine arm_putS (u := .int .i64 1) Tryd.underlying9 Tryd.underlying27 HMAP.out (p := c.1) (by unfold maxLen; omega) (by unfold maxLen; omega) rfl rfl rfl ?_
                intro w8 hm8 hc8
                have H8 := Keep.keep (HJ.out.upd 1 rfl (msA 9 (w3.heap.size + 1) (ones L fun p => q1 p || p == c.1)) (hc8.mono (Nat.le_refl _) (fun k hk => by rw [hb3]; exact hk)) (by rw [HPUT.out] at hm8; rw [hb3]; exact hm8) (fun b h => .inl h))
                simp only [List.set_cons_succ, List.set_cons_zero] at H8
                have HU8 := Keep.keep (HUN.out w8 H8.out.below c.1 hxc)
                clear hm8 hc8 hlk
                simp only [Act.put]
                go_wp2_with fail
                refine HU8.out.mono ?_
                rintro e w9 ⟨a9, l9, c9, rfl, hb9⟩
                have H9 := Keep.keep (H8.out.call hb9)
                clear hb9
                go_wp2_with fail
                go_roundg gj
                case measure => omega
                case rel => exact ⟨j + 1, _, by omega, by simp, by rw [hml]; simp, HQS.out, H9.out⟩
      · have hleaf := leaf_at HW.out hkL (by rw [HDK.out]; exact hk1)
        rw [HDK.out] at hleaf
        have hne : (kind == 1) = false := by simpa using hk1
        have HLF := Keep.keep hleaf
        have HSK := Keep.keep (HQ.out.skip hkL (by rw [HDK.out]; exact hk1))
        clear hleaf
        have HU7 := Keep.keep (HUN.out w7 H7.out.below xp (by omega))
        rw [HLF.out.1] at HU7
        rw [HLF.out.2] at H7 ⊢
        go_wp2_with fail
        refine HU7.out.mono ?_
        rintro e w8 ⟨a8, l8, c8, rfl, hb8⟩
        have H8 := Keep.keep (H7.out.call hb8)
        clear hb8 cX7 cK7
        go_wp2_with fail
        go_roundg g
        case measure => omega
        case rel => exact ⟨k + 1, q, by omega, by simp, HSK.out, (H8.out.init).init⟩
end Go.Proofs.YtphgmkhbhboklaaDoor
/- ARGUMENTS WITH SLICES WITHIN SLICES, OPENED: what lies deeper has no word of its own on its blocks; its cells tell them. -/
namespace Go.Proofs.YtphgmkhbhboklaaDoor
open Go.ChangeShapes Go.WideShapes Go.ChangeAt Go.RowKit
theorem cell_spot {w : World} {a : Addr} {v : Value} (h : w.cell? a = some v) : a.spot = none ∧ a.block < w.heap.size := by
  unfold World.cell? at h
  split at h
  · rename_i c e fr hb
    split at h
    · cases h
    · rename_i hs
      exact ⟨by simpa using hs, (Array.getElem?_eq_some_iff.1 hb).1⟩
  · cases h
/-- a []byte that lies anywhere within an argument -/
theorem reads_of_trod {P : Program} {H : Type} {enc : TypeId × Value → H} {t e : TypeId} {held : Bool} {fuel : Nat} (ht : P.underlying t = some (.slice e)) (he : P.underlying e = some (.int .u8)) (hc : P.cellsOf e = 1) {W : World} {v : Value} {x : DataW H × List MemPlace}
    (hf : DataW.trod enc P W 0 (fun _ => true) held fuel t [v] = some x) : ∃ l, Reads W (fun b => b < W.heap.size) v l := by
  rcases open_ints ht he hc hf with ⟨hcs, hx⟩ | ⟨⟨b, off, sp⟩, len, cap, zs, hcs, _, hl, hm, hz, hx, hcell, hwz⟩
  · injection hcs with hcs _
    subst hcs
    exact ⟨[], Reads.ofNil⟩
  · injection hcs with hcs _
    subst hcs
    simp only [if_true] at hz
    have hsp : cap = 0 ∨ (sp = none ∧ b < W.heap.size) := by
      rcases Nat.eq_zero_or_pos cap with h | h
      · exact .inl h
      · have := cell_spot (hcell 0 (by omega))
        exact .inr this
    refine ⟨(zs.take len).map fun x => UInt8.ofNat x.toNat, ⟨some ⟨b, off, sp⟩, cap, ?_, ?_, hm, ?_⟩, fun b' off' n' c' he' j hj => ?_⟩
    · congr 1; simp; omega
    · simp; omega
    · rcases hsp with h | ⟨rfl, h⟩
      · exact .inl h
      · exact .inr ⟨b, off, rfl, h⟩
    · injection he' with e1 _ _; injection e1 with e1; injection e1 with e1 e2 e3; subst e1 e2 e3
      have hj' : j < len := by simp at hj; omega
      have hjz : j < zs.length := by omega
      have hc := hcell j hjz
      rw [Addr.add_mid] at hc
      rw [hc]
      have hw := hwz _ (List.getElem_mem hjz)
      have hm1 : IntKind.u8.min = 0 := rfl
      have hm2 : IntKind.u8.max = 255 := rfl
      simp only [Lit.wf, Bool.and_eq_true, decide_eq_true_eq, hm1, hm2] at hw
      simp only [List.getElem_map, List.getElem_take, List.getD_eq_getElem?_getD, List.getElem?_eq_getElem hjz, Option.getD_some, UInt8.toNat_ofNat']
      congr 2
      omega
end Go.Proofs.YtphgmkhbhboklaaDoor
/- ARGUMENTS THAT ARE WHOLE NUMBERS, OPENED. -/
namespace Go.Proofs.YtphgmkhbhboklaaDoor
open Go.ChangeShapes Go.WideShapes Go.ChangeAt Go.RowKit
/-- an argument that is an int64 (or an int) -/
theorem okI64 {P : Program} {w : World} {r : Reach} {base : Nat} {t : TypeId} {v : Value} (ht : P.underlying t = some (.int .i64)) (h : Value.okWide P w r base t v) : ∃ n : Int, v = .int .i64 n ∧ -9223372036854775808 ≤ n ∧ n ≤ 9223372036854775807 := by
  simp only [Value.okWide, ht, Cell.okWide] at h
  have hm1 : IntKind.i64.min = -9223372036854775808 := rfl
  have hm2 : IntKind.i64.max = 9223372036854775807 := rfl
  cases v <;> simp only [Cell.ok, ht] at h
  rename_i k x
  obtain ⟨rfl, h1, h2⟩ := h
  rw [hm1] at h1; rw [hm2] at h2
  exact ⟨x, rfl, h1, h2⟩
theorem okU16 {P : Program} {w : World} {r : Reach} {base : Nat} {t : TypeId} {v : Value} (ht : P.underlying t = some (.int .u16)) (h : Value.okWide P w r base t v) : ∃ n : Nat, v = .int .u16 (n : Int) ∧ n < 65536 := by
  simp only [Value.okWide, ht, Cell.okWide] at h
  have hm1 : IntKind.u16.min = 0 := rfl
  have hm2 : IntKind.u16.max = 65535 := rfl
  cases v <;> simp only [Cell.ok, ht] at h
  rename_i k x
  obtain ⟨rfl, h1, h2⟩ := h
  rw [hm1] at h1; rw [hm2] at h2
  exact ⟨x.toNat, by congr 1; omega, by omega⟩
theorem okU8 {P : Program} {w : World} {r : Reach} {base : Nat} {t : TypeId} {v : Value} (ht : P.underlying t = some (.int .u8)) (h : Value.okWide P w r base t v) : ∃ n : Nat, v = .int .u8 (n : Int) ∧ n < 256 := by
  simp only [Value.okWide, ht, Cell.okWide] at h
  have hm1 : IntKind.u8.min = 0 := rfl
  have hm2 : IntKind.u8.max = 255 := rfl
  cases v <;> simp only [Cell.ok, ht] at h
  rename_i k x
  obtain ⟨rfl, h1, h2⟩ := h
  rw [hm1] at h1; rw [hm2] at h2
  exact ⟨x.toNat, by congr 1; omega, by omega⟩
end Go.Proofs.YtphgmkhbhboklaaDoor
/- ARGUMENTS THAT ARE SLICES OF MEMBERS, OR OF ACTS, OPENED. -/
namespace Go.Proofs.YtphgmkhbhboklaaDoor
open Go.ChangeShapes Go.WideShapes Go.ChangeAt Go.RowKit
section
variable {H : Type} {enc : TypeId × Value → H} {W : World} {fuel : Nat} {x : DataW H × List MemPlace}
theorem str_of_trod {v : Value} (h : DataW.trod enc Tryd.prog W 0 (fun _ => true) true fuel 9 [v] = some x) : ∃ l : Tx, v = strV l ∧ l.length ≤ maxLen := by
  obtain ⟨⟨⟨l⟩⟩, e, _, hm⟩ := DataW.trod_string Tryd.underlying9 h
  injection e with e _
  exact ⟨l, e, hm⟩
theorem attrs_of_trod {v : Value} (hf : DataW.trod enc Tryd.prog W 0 (fun _ => true) true fuel 29 [v] = some x) : ∃ l : List R2, RdV W (· < W.heap.size) 2 v l.length (rcells l) := by
  rcases Deep.open_slice_pairs Tryd.underlying29 Tryd.underlying75 (by kernel_rfl) rfl rfl (by kernel_rfl) (by kernel_rfl) hf with ⟨hcs, _⟩ | ⟨⟨b, off, sp⟩, len, cap, m, n, V0, V1, D0, D1, P0, P1, hcs, _, hl, hm, hmm, _, hx⟩
  · injection hcs with hcs _
    subst hcs
    exact ⟨[], RdV.ofNil⟩
  · injection hcs with hcs _
    subst hcs
    simp only [if_true] at hmm
    have hsp : cap = 0 ∨ (sp = none ∧ b < W.heap.size) := by
      rcases Nat.eq_zero_or_pos cap with h | h
      · exact .inl h
      · exact .inr (cell_spot (hx 0 (by omega)).1)
    have key : ∀ i, i < m → ∃ q : R2, V0 i = strV q.1 ∧ V1 i = strV q.2 := fun i hi => by
      obtain ⟨_, _, t0, t1⟩ := hx i hi
      obtain ⟨l0, e0, _⟩ := str_of_trod t0
      obtain ⟨l1, e1, _⟩ := str_of_trod t1
      exact ⟨(l0, l1), e0, e1⟩
    obtain ⟨q, hq⟩ := Deep.choose_lt (α := R2) key
    have hll : ((List.range len).map q).length = len := by simp
    refine ⟨(List.range len).map q, rcells_length _, ⟨_, cap, by rw [hll], by omega, hm, ?_⟩, ?_⟩
    · rcases hsp with h | ⟨rfl, h⟩
      · exact .inl h
      · exact .inr ⟨b, off, rfl, h⟩
    · intro b' off' m' c' he j u hu
      injection he with e1 _ _; injection e1 with e1; injection e1 with e1 e2 e3; subst e1 e2 e3
      have hj := (List.getElem?_eq_some_iff.1 hu).1
      rw [rcells_length, hll] at hj
      obtain ⟨i, hi⟩ : ∃ i, i = j / 2 := ⟨_, rfl⟩
      have hil : i < len := by omega
      have hrg := rcells_get ((List.range len).map q) i (by rw [hll]; exact hil)
      have hqi : ((List.range len).map q)[i]'(by rw [hll]; exact hil) = q i := by simp
      rw [hqi] at hrg
      obtain ⟨k0, k1, _, _⟩ := hx i (by omega)
      obtain ⟨s0, s1⟩ := hq i (by omega)
      rw [Addr.add_mid] at k0 k1
      rcases (by omega : j = i * 2 ∨ j = i * 2 + 1) with rfl | rfl
      · rw [hrg.1] at hu; injection hu with hu
        rw [k0, s0, hu]
      · rw [hrg.2] at hu; injection hu with hu
        rw [← Nat.add_assoc, ← hu, ← s1]
        rw [← Nat.add_assoc] at k1
        exact k1
theorem cOne : Tryd.prog.cellsOf 3 = 1 ∧ Tryd.prog.cellsOf 28 = 1 ∧ Tryd.prog.cellsOf 2 = 1 ∧ Tryd.prog.cellsOf 29 = 1 ∧ Tryd.prog.cellsOf 30 = 1 ∧ Tryd.prog.cellsOf 9 = 1 ∧ Tryd.prog.cellsOf 4 = 1 ∧ Tryd.prog.cellsOf 32 = 8 ∧ Tryd.prog.cellsOf 34 = 9 ∧ Tryd.prog.cellsOf 48 = 10 := ⟨by kernel_rfl, by kernel_rfl, by kernel_rfl, by kernel_rfl, by kernel_rfl, by kernel_rfl, by kernel_rfl, by kernel_rfl, by kernel_rfl, by kernel_rfl⟩
set_option maxRecDepth 100000 in
theorem node_of_trod {cs : List Value} (hf : DataW.trod enc Tryd.prog W 0 (fun _ => true) true fuel 32 cs = some x) :
    ∃ n av dv, cs = (ndC n av dv).toList ∧ NdR W (· < W.heap.size) n av dv ∧ -9223372036854775808 ≤ n.kind ∧ n.kind ≤ 9223372036854775807 := by
  obtain ⟨xs, k, -, -, hlen, hxs, hg⟩ := DataW.trod_struct Tryd.underlying32 hf
  obtain ⟨c1, c2, c3, c4, c5, c6, c7, c8, -, -⟩ := cOne
  rw [c8] at hlen
  obtain ⟨v0, v1, v2, v3, v4, v5, v6, v7, rfl⟩ : ∃ v0 v1 v2 v3 v4 v5 v6 v7, cs = [v0, v1, v2, v3, v4, v5, v6, v7] := by
    match cs, hlen with
    | [v0, v1, v2, v3, v4, v5, v6, v7], _ => exact ⟨v0, v1, v2, v3, v4, v5, v6, v7, rfl⟩
  obtain ⟨y0, y1, y2, y3, y4, y5, y6, y7, rfl⟩ : ∃ y0 y1 y2 y3 y4 y5 y6 y7, xs = [y0, y1, y2, y3, y4, y5, y6, y7] := by
    match xs, hxs with
    | [v0, v1, v2, v3, v4, v5, v6, v7], _ => exact ⟨v0, v1, v2, v3, v4, v5, v6, v7, rfl⟩
  have g0 := hg 0 _ rfl
  have g1 := hg 1 _ rfl
  have g2 := hg 2 _ rfl
  have g3 := hg 3 _ rfl
  have g4 := hg 4 _ rfl
  have g5 := hg 5 _ rfl
  have g6 := hg 6 _ rfl
  have g7 := hg 7 _ rfl
  simp only [List.getElem?_cons_zero, List.getElem?_cons_succ] at g0 g1 g2 g3 g4 g5 g6 g7
  obtain ⟨n0, h0, _, w0⟩ := DataW.trod_int Tryd.underlying3 g0
  obtain ⟨n1, h1, _, _⟩ := DataW.trod_int Tryd.underlying28 g1
  obtain ⟨n2, h2, _, _⟩ := DataW.trod_int Tryd.underlying28 g2
  obtain ⟨n3, h3, _, _⟩ := DataW.trod_int Tryd.underlying28 g3
  obtain ⟨n4, h4, _, _⟩ := DataW.trod_int Tryd.underlying2 g4
  obtain ⟨l5, h5⟩ := attrs_of_trod g5
  obtain ⟨l6, h6⟩ := reads_of_trod Tryd.underlying30 Tryd.underlying5 (by kernel_rfl) g6
  obtain ⟨l7, h7, _⟩ := str_of_trod g7
  injection h0 with h0 _; injection h1 with h1 _; injection h2 with h2 _; injection h3 with h3 _; injection h4 with h4 _
  subst h0 h1 h2 h3 h4 h7
  have hm1 : IntKind.i64.min = -9223372036854775808 := rfl
  have hm2 : IntKind.i64.max = 9223372036854775807 := rfl
  simp only [Lit.wf, Bool.and_eq_true, decide_eq_true_eq, hm1, hm2] at w0
  exact ⟨⟨n0, n1, n2, n3, n4, l5, l6, l7⟩, v5, v6, rfl, ⟨h5, h6⟩, by exact w0⟩
set_option maxRecDepth 100000 in
theorem mb_of_trod {cs : List Value} (hf : DataW.trod enc Tryd.prog W 0 (fun _ => true) true fuel 34 cs = some x) :
    ∃ y : Mv, cs = (mcell y).toList ∧ NdR W (· < W.heap.size) y.1.2 y.2.1 y.2.2 ∧ Kb y.1 := by
  obtain ⟨xs, k, -, -, hlen, hxs, hg⟩ := DataW.trod_struct Tryd.underlying34 hf
  obtain ⟨c1, c2, c3, c4, c5, c6, c7, c8, c9, -⟩ := cOne
  rw [c9] at hlen
  obtain ⟨v0, v1, v2, v3, v4, v5, v6, v7, v8, rfl⟩ : ∃ v0 v1 v2 v3 v4 v5 v6 v7 v8, cs = [v0, v1, v2, v3, v4, v5, v6, v7, v8] := by
    match cs, hlen with
    | [v0, v1, v2, v3, v4, v5, v6, v7, v8], _ => exact ⟨v0, v1, v2, v3, v4, v5, v6, v7, v8, rfl⟩
  obtain ⟨y0, y1, rfl⟩ : ∃ y0 y1, xs = [y0, y1] := by
    match xs, hxs with
    | [v0, v1], _ => exact ⟨v0, v1, rfl⟩
  have g0 := hg 0 _ rfl
  have g1 := hg 1 _ rfl
  simp only [List.getElem_toArray, List.getElem_cons_succ, List.getElem_cons_zero, c6, c8, List.drop_succ_cons, List.drop_zero, List.take_succ_cons, List.take_zero, List.getElem?_cons_zero, List.getElem?_cons_succ] at g0 g1
  obtain ⟨l0, h0, _⟩ := str_of_trod g0
  obtain ⟨n, av, dv, h1, h2, h3⟩ := node_of_trod g1
  subst h0
  refine ⟨((l0, n), av, dv), ?_, h2, h3⟩
  rw [h1]; rfl
set_option maxRecDepth 100000 in
theorem act_of_trod {cs : List Value} (hf : DataW.trod enc Tryd.prog W 0 (fun _ => true) true fuel 48 cs = some x) :
    ∃ y : Av, cs = acell y ∧ NdR W (· < W.heap.size) y.2.1.2 y.2.2.1 y.2.2.2 ∧ Kb y.2.1 := by
  obtain ⟨xs, k, -, -, hlen, hxs, hg⟩ := DataW.trod_struct Tryd.underlying48 hf
  obtain ⟨c1, c2, c3, c4, c5, c6, c7, c8, c9, c10⟩ := cOne
  rw [c10] at hlen
  obtain ⟨v0, v1, v2, v3, v4, v5, v6, v7, v8, v9, rfl⟩ : ∃ v0 v1 v2 v3 v4 v5 v6 v7 v8 v9, cs = [v0, v1, v2, v3, v4, v5, v6, v7, v8, v9] := by
    match cs, hlen with
    | [v0, v1, v2, v3, v4, v5, v6, v7, v8, v9], _ => exact ⟨v0, v1, v2, v3, v4, v5, v6, v7, v8, v9, rfl⟩
  obtain ⟨y0, y1, rfl⟩ : ∃ y0 y1, xs = [y0, y1] := by
    match xs, hxs with
    | [v0, v1], _ => exact ⟨v0, v1, rfl⟩
  have g0 := hg 0 _ rfl
  have g1 := hg 1 _ rfl
  simp only [List.getElem_toArray, List.getElem_cons_succ, List.getElem_cons_zero, c7, c9, List.drop_succ_cons, List.drop_zero, List.take_succ_cons, List.take_zero, List.getElem?_cons_zero, List.getElem?_cons_succ] at g0 g1
  obtain ⟨b0, h0, _⟩ := DataW.trod_bool Tryd.underlying4 g0
  obtain ⟨y, h1, h2, h3⟩ := mb_of_trod g1
  injection h0 with h0 _
  subst h0
  refine ⟨(b0, y), ?_, h2, h3⟩
  rw [h1]; rfl
set_option maxRecDepth 100000 in
/-- a slice of rows of k cells -/
theorem slice_of_trod {α : Type} [Inhabited α] {t e : TypeId} {k : Nat} (ht : Tryd.prog.underlying t = some (.slice e)) (hk : Tryd.prog.cellsOf e = k) (hk0 : 0 < k) (cl : α → List Value) (hcl : ∀ a, (cl a).length = k) (p : α → Prop) (cells : List α → List Value) (hlen : ∀ l, (cells l).length = l.length * k)
    (hcells : ∀ (l : List α) (j i : Nat) (h : j < l.length), i < k → (cells l)[j * k + i]? = (cl l[j])[i]?)
    (hel : ∀ (n : Nat) (cs : List Value) (y : DataW H × List MemPlace), DataW.trod enc Tryd.prog W 0 (fun _ => true) true n e cs = some y → ∃ a, cs = cl a ∧ p a)
    {v : Value} (hf : DataW.trod enc Tryd.prog W 0 (fun _ => true) true fuel t [v] = some x) : ∃ l : List α, RdV W (· < W.heap.size) k v l.length (cells l) ∧ ∀ a ∈ l, p a := by
  rcases Deep.open_slice ht hf with ⟨hcs, _⟩ | ⟨⟨b, off, sp⟩, len, cap, m, n, D, Pl, hcs, _, hl, hm, hmm, _, hx⟩
  · injection hcs with hcs _
    subst hcs
    refine ⟨[], ⟨by simp [hlen], ⟨_, _, rfl, Nat.zero_le _, Nat.zero_le _, .inl rfl⟩, fun _ _ _ _ e j u hu => by cases e⟩, fun a ha => (List.not_mem_nil ha).elim⟩
  · injection hcs with hcs _
    subst hcs
    simp only [if_true] at hmm
    rw [hk] at hx
    have key : ∀ i, i < m → ∃ a, (∀ j u, (cl a)[j]? = some u → W.cell? ((⟨b, off, sp⟩ : Addr).add (i * k + j)) = some u) ∧ p a := fun i hi => by
      obtain ⟨cs', h1, h2⟩ := hx i hi
      obtain ⟨_, hl', hcell⟩ := World.cells?_some h1
      obtain ⟨a, rfl, hp⟩ := hel _ _ _ h2
      refine ⟨a, fun j u hj => ?_, hp⟩
      have hjl := (List.getElem?_eq_some_iff.1 hj).1
      rw [hcl] at hjl
      have := hcell j hjl
      rw [Deep.add_add] at this
      rw [this]; exact hj
    obtain ⟨q, hq⟩ := Deep.choose_lt (α := α) key
    have hsp : cap = 0 ∨ (sp = none ∧ b < W.heap.size) := by
      rcases Nat.eq_zero_or_pos cap with h | h
      · exact .inl h
      · have h0 := (hq 0 (by omega)).1 0 ((cl (q 0))[0]'(by rw [hcl]; exact hk0)) (List.getElem?_eq_getElem _)
        rw [Nat.zero_mul, Nat.add_zero] at h0
        exact .inr (cell_spot h0)
    have hll : ((List.range len).map q).length = len := by simp
    refine ⟨(List.range len).map q, ⟨hlen _, ⟨_, cap, by rw [hll], by omega, hm, ?_⟩, ?_⟩, fun a ha => ?_⟩
    · rcases hsp with h | ⟨rfl, h⟩
      · exact .inl h
      · exact .inr ⟨b, off, rfl, h⟩
    · intro b' off' m' c' he j u hu
      injection he with e1 _ _; injection e1 with e1; injection e1 with e1 e2 e3; subst e1 e2 e3
      have hj := (List.getElem?_eq_some_iff.1 hu).1
      rw [hlen, hll] at hj
      have hil : j / k < len := Nat.div_lt_of_lt_mul (by rw [Nat.mul_comm]; exact hj)
      have hjk : j / k * k + j % k = j := Nat.div_add_mod' j k
      have hrg := hcells ((List.range len).map q) (j / k) (j % k) (by rw [hll]; exact hil) (Nat.mod_lt _ hk0)
      rw [hjk, hu] at hrg
      have hqi : ((List.range len).map q)[j / k]'(by rw [hll]; exact hil) = q (j / k) := by simp
      rw [hqi] at hrg
      have := (hq (j / k) (by omega)).1 (j % k) u hrg.symm
      rw [hjk, Addr.add_mid] at this
      exact this
    · obtain ⟨i, hi, rfl⟩ := List.mem_map.1 ha
      exact (hq i (by have := List.mem_range.1 hi; omega)).2
instance : Inhabited Nd := ⟨⟨0, 0, 0, 0, 0, [], [], []⟩⟩
set_option maxRecDepth 100000 in
/-- AN ARGUMENT OF TYPE []Act, OPENED -/
theorem opened_acts {r : Reach} {base : Nat} {v : Value} {d : DataW H} {ps : List MemPlace} (hok : Value.okWide Tryd.prog W r base 22 v) (h0 : DataW.Trod enc Tryd.prog W 0 (fun _ => true) true 22 v d ps) :
    ∃ l : List Av, ActsR W (· < W.heap.size) (· < W.heap.size) v l ∧ ∀ a ∈ l, Kb a.2.1 := by
  obtain ⟨fuel, hf⟩ := h0
  replace hf : DataW.trod enc Tryd.prog W 0 (fun _ => true) true fuel 22 [v] = some (d, ps) := by
    rcases okSlice Tryd.underlying22 hok with rfl | ⟨b, off, len, cap, rfl, -, -, -⟩ <;> exact hf
  obtain ⟨l, h1, h2⟩ := slice_of_trod (α := Av) (k := 10) Tryd.underlying22 (by kernel_rfl) (by decide) acell acell_len (fun y => NdR W (· < W.heap.size) y.2.1.2 y.2.2.1 y.2.2.2 ∧ Kb y.2.1) acells acells_length acells_get (fun n cs y h => act_of_trod h) hf
  exact ⟨l, ⟨h1, fun a ha => (h2 a ha).1⟩, fun a ha => (h2 a ha).2⟩
set_option maxRecDepth 100000 in
/-- AN ARGUMENT OF TYPE []Member, OPENED -/
theorem opened_mbs {r : Reach} {base : Nat} {v : Value} {d : DataW H} {ps : List MemPlace} (hok : Value.okWide Tryd.prog W r base 25 v) (h0 : DataW.Trod enc Tryd.prog W 0 (fun _ => true) true 25 v d ps) :
    ∃ l : List Mv, Mbs W (· < W.heap.size) (· < W.heap.size) v l ∧ ∀ a ∈ l, Kb a.1 := by
  obtain ⟨fuel, hf⟩ := h0
  replace hf : DataW.trod enc Tryd.prog W 0 (fun _ => true) true fuel 25 [v] = some (d, ps) := by
    rcases okSlice Tryd.underlying25 hok with rfl | ⟨b, off, len, cap, rfl, -, -, -⟩ <;> exact hf
  obtain ⟨l, h1, h2⟩ := slice_of_trod (α := Mv) (k := 9) Tryd.underlying25 (by kernel_rfl) (by decide) (fun y => (mcell y).toList) mcell_len (fun y => NdR W (· < W.heap.size) y.1.2 y.2.1 y.2.2 ∧ Kb y.1) mcells mcells_length (fun l j i h hi => by rw [mcells_get l j i h hi]; simp) (fun n cs y h => mb_of_trod h) hf
  exact ⟨l, ⟨h1, fun a ha => (h2 a ha).1⟩, fun a ha => (h2 a ha).2⟩
end
end Go.Proofs.YtphgmkhbhboklaaDoor
/- WHAT THE ROWS' LISTED VARIABLES AND THE WORLD'S SHAPE GIVE; and a world that holds the listed variables. -/
namespace Go.Proofs.YtphgmkhbhboklaaDoor
open Go.ChangeShapes Go.WideShapes Go.ChangeAt Go.RowKit
theorem mx_of_shape {W : World} (h : W.ShapedOpen Tryd.prog) : Mx W.heap.size W := by
  obtain ⟨m, hm⟩ : ∃ m, W.cell? ⟨2, 0, none⟩ = some (.int .i64 m) := Go.Proofs.cell_of_shapedOpen_int (zero := #[.int .i64 0]) (t := 3) h (of_decide_eq_true (by kernel_rfl)) (by kernel_rfl) rfl (by kernel_rfl) (by kernel_rfl) Tryd.underlying3
  exact ⟨World.block_lt_of_cell? W _ hm, m, hm⟩
/-- what the laws of the trees ask of the world -/
theorem tabs_of {W : World} {l : List (String × DataW Unit)} (hL : laidMetH Tryd.prog l W) (hsh : W.ShapedOpen Tryd.prog) (hc : ("portolan/path.classes", Rows.laid_portolan_path_classes) ∈ l) (ht : ("portolan/tar.types", Rows.laid_portolan_tar_types) ∈ l) : Tabs W.heap.size W :=
  ⟨Nat.le_refl _, mx_of_shape hsh, cls_of_laid hL hc, typ_of_laid (laidMetH_iff.1 hL).1 (List.mem_filter.2 ⟨ht, rfl⟩)⟩
/-- A WORLD FOR THE WITNESS -/
def layRow (c : Array Value) : Obj → Obj
  | .cells _ t frozen => .cells c t frozen
  | o => o
def classesMap : Obj := .map #[⟨.int .i64 1, .func (.func 118) #[] #[], 0⟩, ⟨.int .i64 2, .func (.func 119) #[] #[], 1⟩, ⟨.int .i64 3, .func (.func 120) #[] #[], 2⟩] 3
def typesMap : Obj := .map #[⟨.int .i64 1, .int .u8 53, 0⟩, ⟨.int .i64 2, .int .u8 48, 1⟩, ⟨.int .i64 3, .int .u8 50, 2⟩, ⟨.int .i64 4, .int .u8 54, 3⟩] 4
noncomputable def lowM : Nat := (World.holding Tryd.prog default ⟨#[], #[], []⟩).heap.size
noncomputable def laidWorld (os : Os) : World :=
  let w0 := World.holding Tryd.prog os ⟨#[classesMap, typesMap], #[], []⟩
  let h2 := Array.modify w0.heap 4 (layRow ((List.range 16).flatMap fun i => [Value.int .u8 (Lib.accLo i), Value.int .u8 (Lib.accHi i)]).toArray)
  let h3 := Array.modify h2 3 (layRow (Lib.firstTab.map fun z => Value.int .u8 z).toArray)
  let h4 := Array.modify h3 0 (layRow #[.map (some lowM)])
  let h5 := Array.modify h4 1 (layRow #[.map (some (lowM + 1))])
  { w0 with heap := h5 }
end Go.Proofs.YtphgmkhbhboklaaDoor
