/- PARTS OF ONE PROOF, set in one file: ChangeLocal, Nest, Ok, NodeOpen, TreeLaid. Each part tells its own conditions. -/
import Derived.Deep.Slices
import Derived.Deep.SlicePairs
import Derived.Lib.LaidU8
import Derived.LaidHandle
import Derived.LaidSub
import Derived.PinnedBridge
import Derived.Deep.DeepWitnessRowRef
import Derived.Test.YtplafpokgpolkaaGreatDoorX3
/- portolanlaw19.ChangeLocal. -/
namespace Go.Proofs.YtplafpokgpolkaaGreatDoor
open Go.RowKit
theorem SaysB.is {P : Prop} {e : Ending} (h : SaysB P e) (hp : P) : e = .returned (.bool true) := h.det ⟨fun _ => hp, fun _ => rfl⟩
theorem buildB (w : World) : (Instr.build 30 #[(0, .int .i64 2)]).run Tryz.prog w = .ok (.agg #[.int .i64 2, .int .u32 0, .int .u32 0, .int .u32 0, .int .i64 0, .slice none 0 0, .slice none 0 0, .string ⟨#[]⟩]) w := by kernel_rfl
theorem buildW (p : Tx) (w : World) : (Instr.build 32 #[(0, .string ⟨p.toArray⟩), (1, .agg #[.int .i64 2, .int .u32 0, .int .u32 0, .int .u32 0, .int .i64 0, .slice none 0 0, .slice none 0 0, .string ⟨#[]⟩])]).run Tryz.prog w = .ok (.agg #[.string ⟨p.toArray⟩, .int .i64 2, .int .u32 0, .int .u32 0, .int .u32 0, .int .i64 0, .slice none 0 0, .slice none 0 0, .string ⟨#[]⟩]) w := by kernel_rfl
theorem copy_tr {w : World} {T : Nat} {A : List Mb} (h : TrL w T A) (hA : A.length ≤ 100000) :
    Calls Tryz.prog 31 #[.pointer (some ⟨T, 0, none⟩)] w fun e w' => ∃ T2 m2 Bk2 f2, e = .returned (.pointer (some ⟨T2, 0, none⟩)) ∧ TreeIn w' T2 m2 Bk2 f2 A ∧ (w.heap.size ≤ m2 ∧ ∀ b, Bk2 b → b < w'.heap.size) ∧ Below w.heap.size w w' := by
  obtain ⟨mb, Bk, f, h1, h2⟩ := h
  refine (copy_tree T mb Bk f A w h1 h2 hA).mono ?_
  rintro e w' ⟨T2, m2, Bk2, f2, rfl, g1, g2, g3⟩
  exact ⟨T2, m2, Bk2, f2, rfl, g1, ⟨g2.2.1, fun b hb => (g2.2.2 b hb).2⟩, g3⟩
theorem list_tr {w : World} {T : Nat} {A : List Mb} (h : TrL w T A) (hA : A.length ≤ 100000) (p : Tx) (hp : p.length ≤ 1000000) {ns : List Tx} (hl : listT A p = (ns, 0)) :
    Calls Tryz.prog 54 #[.pointer (some ⟨T, 0, none⟩), .string ⟨p.toArray⟩] w fun e w' => ∃ v, e = .returned (.tuple #[v, .int .i64 0]) ∧ OwnS w' w.heap.size v ns ∧ Below w.heap.size w w' := by
  obtain ⟨mb, Bk, f, h1, h2⟩ := h
  have h := list_tree T mb Bk f A w h1 h2 p hp hA
  rw [hl] at h
  refine h.mono ?_
  rintro e w' ⟨⟨v, rfl, ho⟩, hb⟩
  exact ⟨v, rfl, ho, hb⟩
theorem may_len {p : Tx} (h : mayP p = true) : p.length ≤ 4080 := by
  unfold mayP at h
  simp only [Bool.and_eq_true, decide_eq_true_eq] at h
  exact h.1.1
theorem base_len (p : Tx) : (baseP p).length ≤ p.length := by
  rcases path_cases p with ⟨_, hb, _⟩ | ⟨d, b, hx, _, _, hb, _⟩
  · rw [hb]; exact Nat.le_refl _
  · rw [hb, hx]; simp; omega
theorem wh_ne {p : Tx} (hp : mayP p = true) (h0 : p ≠ []) : whM p = (whiteoutP p, bareN) ∧ mkM p = (opaqueP p, bareN) := by
  have h1 := (class_whiteout hp h0).1
  have hp0 : whiteoutP p ≠ [] := by
    intro e; rw [e] at h1; have h4 := kn_c4; rw [h1] at h4; cases h4
  have h2 := class_opaque hp
  have hp1 : opaqueP p ≠ [] := by
    intro e; rw [e] at h2; have h4 := kn_c4; rw [h2] at h4; cases h4
  exact ⟨by unfold whM signM; rw [if_neg hp0], by unfold mkM signM; rw [if_neg hp1]⟩
set_option maxHeartbeats 16000000 in
set_option maxRecDepth 100000 in
theorem local_any (B : Nat) (v1 v2 : Value) (l1 l2 : List Mv) (c : Nat) (hc : c < 256) (w : World) (hT : Tabs B w) (hr1 : Mbs w (· < w.heap.size) (· < w.heap.size) v1 l1) (hk1 : ∀ a ∈ l1, Kb a.1) (hr2 : Mbs w (· < w.heap.size) (· < w.heap.size) v2 l2) (hk2 : ∀ a ∈ l2, Kb a.1) :
    Calls Tryz.prog 7 #[v1, v2, .int .u8 (c : Int)] w fun e w' => e = .returned (.bool true) ∧ Below w.heap.size w w' := by
  obtain ⟨a1, c1, hv1, -, -, -⟩ := hr1.rd.shape
  obtain ⟨a2, c2, hv2, -, -, -⟩ := hr2.rd.shape
  have HT := Keep.keep hT
  have HM2 : Keep (MbL w v2 l2) := ⟨hr2⟩
  have HTREE := Keep.keep (tree_tr B hT (show MbL w v1 l1 from hr1) hk1)
  obtain ⟨A, hA⟩ : ∃ A, tree19 (l1.map (·.1)) = A := ⟨_, rfl⟩
  have HA : Keep (WellL A ∧ A.length ≤ 280) := ⟨by rw [← hA]; exact tree19_well _, by rw [← hA]; exact tree19_len _⟩
  obtain ⟨G, hG⟩ : ∃ G, grown19 (l2.map (·.1)) = G := ⟨_, rfl⟩
  have HG : Keep (G.length ≤ 280 ∧ ∀ x ∈ G, Sm x) := ⟨by rw [← hG]; exact grown19_len _, by rw [← hG]; exact grown19_sm (fun x hx => by obtain ⟨y, hy, rfl⟩ := List.mem_map.1 hx; exact hk2 y hy)⟩
  rw [hA] at HTREE
  have HGE := Keep.keep hG
  clear hT hr1 hk1 hr2 hk2 hA hG
  subst hv1 hv2
  go_enter Tryz.func7, Tryz.ntmps7
  go_wp2_with fail
  refine HTREE.out.mono ?_
  rintro e w1 ⟨T1, rfl, ht1, hb1⟩
  have HTR := Keep.keep ht1
  have HW1 := Keep.keep hb1
  have HM2' := Keep.keep (HM2.out.on hb1)
  clear ht1 hb1 HTREE HM2
  go_wp2_with fail
  refine (grown_tr HM2'.out).mono ?_
  rw [HGE.out]
  rintro e w2 ⟨v8, l8, rfl, hl8, hm8, hb2⟩
  have HL8 : Keep (l8.map (·.1) = G ∧ l8.length ≤ 280 ∧ ∀ x ∈ l8, Sm x.1) := ⟨hl8, by have := HG.out.1; rw [← hl8, List.length_map] at this; exact this, sm_mapX (by rw [hl8]; exact HG.out.2)⟩
  have HM8 := Keep.keep hm8
  have HW2 := Keep.keep (HW1.out.trans (hb2.mono HW1.out.size))
  have HTR2 := Keep.keep (HTR.out.on hb2)
  obtain ⟨a8, c8, hv8, -⟩ := hm8.rd.shape
  obtain ⟨n8, hn8⟩ : ∃ n, l8.length = n := ⟨_, rfl⟩
  rw [hn8] at hv8
  clear hl8 hm8 hb2 HTR HM2' hn8
  subst hv8
  go_wp2_with fail
  refine (applyE_tr B (HT.out.on (HW2.out.mono HT.out.b)) HTR2.out (by have := HA.out.2; omega) HM8.out HL8.out.2.2 (by have := HL8.out.2.1; omega)).mono ?_
  rintro e w3 ⟨pv, cd, r, hap, rfl, hnew, hb3⟩
  have HAP : Keep (applyC A G = (cd, r)) := ⟨by rw [← HL8.out.1]; exact hap⟩
  have HNEW := Keep.keep hnew
  have HW3 := Keep.keep (HW2.out.trans (hb3.mono HW2.out.size))
  have HTR3 := Keep.keep (HTR2.out.on hb3)
  have HM83 := Keep.keep (HM8.out.on hb3)
  clear hap hnew hb3 HTR2 HM8
  by_cases hcd : cd = 0
  focus
    obtain ⟨U, hU, HAPU, HSU⟩ : ∃ U, r = some U ∧ Keep (applyC A G = (0, some U)) ∧ Keep (SM.Srt U) := by
      obtain ⟨U, h1, h2, h3⟩ := apply_zero HAP.out hcd
      exact ⟨U, h1, ⟨h2⟩, ⟨h3⟩⟩
    have hnew := HNEW.out
    rw [hU] at hnew
    obtain ⟨UT, hpv, hut⟩ := TrL.ofNew hnew
    have HUT := Keep.keep hut
    subst hcd hpv
    clear hnew hut hU HAP HNEW
    go_wp2_with fail
    refine (all_tr HTR3.out (by have := HA.out.2; omega)).mono ?_
    rintro e w4 ⟨v42, l42, rfl, hl42, hr42, hb4⟩
    have HL42 : Keep (l42.map (·.1) = A) := ⟨hl42⟩
    have HR42 := Keep.keep hr42
    have HTR4 := Keep.keep (HTR3.out.on hb4)
    have HUT4 := Keep.keep (HUT.out.on hb4)
    have HM84 := Keep.keep (HM83.out.on hb4)
    have HW4 := Keep.keep (HW3.out.trans (hb4.mono HW3.out.size))
    obtain ⟨a42, c42, hv42, -⟩ := (ownsV_reads hr42.own).shape
    obtain ⟨n42, hn42⟩ : ∃ n, l42.length = n := ⟨_, rfl⟩
    have HN42 := Keep.keep hn42
    have hn280 : n42 ≤ 280 := by have := HA.out.2; rw [← hl42, List.length_map] at this; omega
    rw [hn42] at hv42
    clear hl42 hr42 hb4 HTR3 HUT HM83 hn42
    subst hv42
    go_wp2_with fail
    go_loopg [44] n42 (fun g u44 wx => ∃ k : Nat, k + g = n42 ∧ u44 = .int .i64 (k : Int) ∧ Below w4.heap.size w4 wx)
    focus
      exact ⟨0, by omega, rfl, Below.refl _ _⟩
    obtain ⟨k, hkg, rfl, hbk⟩ := hrel
    have HBK := Keep.keep hbk
    clear hbk
    cases gk
    rotate_left
    focus
      rename_i g hnext
      have hk : k < n42 := by omega
      have hkl : k < l42.length := by have := HN42.out; omega
      have hd : decide ((k : Int) < (n42 : Int)) = true := decide_eq_true (by omega)
      have HRX := Keep.keep (HR42.out.below HBK.out)
      obtain ⟨g2, rfl⟩ : ∃ g2, a42 = some ⟨g2, 0, none⟩ := by
        rcases HRX.out.own.2 with ⟨h1, h2⟩ | ⟨g', cap', cur, h1, -⟩
        · omega
        · injection h1 with h1; exact ⟨g', h1⟩
      have hown := HRX.out.own
      rw [HN42.out] at hown
      have hld := own_loadAt hown (HN42.out.symm) (List.getElem?_eq_getElem hkl)
      have HXA : Keep (l42[k].1 ∈ A) := ⟨by rw [← HL42.out]; exact List.mem_map.2 ⟨_, List.getElem_mem hkl, rfl⟩⟩
      have HND := Keep.keep (HRX.out.nd l42[k] (List.getElem_mem hkl))
      clear hown
      generalize l42[k] = x at *
      obtain ⟨⟨xp, ⟨kind, mode, uid, gid, time, attrs, data, link⟩⟩, av, dv⟩ := x
      obtain ⟨aa, la, ca, ad, ld, cd, e1, e2⟩ := HND.out.shape
      dsimp only at e1 e2 HXA
      subst e1 e2
      have HXP : Keep (mayP xp = true ∧ xp ≠ []) := ⟨HA.out.1.path HXA.out⟩
      have hxl : xp.length ≤ 4080 := may_len HXP.out.1
      have HMC : Keep (mcell ((xp, ⟨kind, mode, uid, gid, time, attrs, data, link⟩), .slice aa la ca, .slice ad ld cd) = #[.string ⟨xp.toArray⟩, .int .i64 kind, .int .u32 mode, .int .u32 uid, .int .u32 gid, .int .i64 time, .slice aa la ca, .slice ad ld cd, .string ⟨link.toArray⟩]) := ⟨rfl⟩
      rw [HMC.out] at hld
      have HSZ : Keep ((#[.string ⟨xp.toArray⟩, .int .i64 kind, .int .u32 mode, .int .u32 uid, .int .u32 gid, .int .i64 time, .slice aa la ca, .slice ad ld cd, .string ⟨link.toArray⟩] : Array Value).size = 9) := ⟨rfl⟩
      go_upto_region 7 with ((with_reducible refine arm_loadM hld ?_ ?_); (focus rfl); simp only [Act.put, List.setIfInBounds_toArray, List.set_cons_succ, List.set_cons_zero])
      refine wp_world (R := fun wq => Hp NoM wr wq [rowA wr.heap.size 32 #[.string ⟨xp.toArray⟩, .int .i64 kind, .int .u32 mode, .int .u32 uid, .int .u32 gid, .int .i64 time, .slice aa la ca, .slice ad ld cd, .string ⟨link.toArray⟩]]) ((Hp.begin NoM wr).newRow _ _) ?_
      intro w5 H5
      obtain ⟨b12, hb12⟩ : ∃ b, wr.heap.size = b := ⟨_, rfl⟩
      have HB5 := Keep.keep (HBK.out.trans (H5.out.below.mono HBK.out.size))
      have HND5 : Keep (NdL w5 ⟨kind, mode, uid, gid, time, attrs, data, link⟩ (.slice aa la ca) (.slice ad ld cd)) := ⟨(HND.out.below H5.out.below (fun _ hb => hb.2.1)).mono (fun b hb => Nat.lt_of_lt_of_le hb.2.1 H5.out.below.size)⟩
      rw [hb12] at H5 ⊢
      have HR12 := Keep.keep (H5.out.row 0 rfl)
      clear hld hb12 H5 HND
      have HCF := Keep.keep (cfuncM 47 #[.pointer (some ⟨b12, 0, none⟩)] (fun m => hitT (tgt m) xp) _ l8 w5 ent_loc1 (fun wx hb x hx => by
        have hm := (HM84.out.on HB5.out).nd x hx
        exact loc1_any x (HL8.out.2.2 x hx) hm.shape B b12 xp (by omega) wx (HT.out.on ((HW4.out.trans (HB5.out.mono HW4.out.size)).trans (hb.mono (HW4.out.trans (HB5.out.mono HW4.out.size)).size) |>.mono HT.out.b)) ((HR12.out.below hb HR12.out.lt).cell (i := 0) rfl)) (HM84.out.on HB5.out))
      obtain ⟨hit, hhit⟩ : ∃ r, (l8.any fun x => hitT (tgt x.1) xp) = r := ⟨_, rfl⟩
      have HHIT := Keep.keep hhit
      rw [hhit] at HCF
      clear hhit
      go_wp2_with fail
      refine HCF.out.mono ?_
      rintro e w6 ⟨rfl, hb6⟩
      have HB6 := Keep.keep (HB5.out.trans (hb6.mono HB5.out.size))
      have HR126 := Keep.keep (HR12.out.below hb6 HR12.out.lt)
      have HND6 := Keep.keep (HND5.out.on hb6)
      clear hb6 HCF HR12 HND5 HB5
      have c120 := HR126.out.cell (i := 0) rfl
      obtain ⟨⟨nd2, is⟩, hgt⟩ : ∃ r, getT U xp = r := ⟨_, rfl⟩
      obtain ⟨kind2, mode2, uid2, gid2, time2, attrs2, data2, link2⟩ := nd2
      have HGT := Keep.keep (get_trF (HUT4.out.on HB6.out) xp (by omega) hgt)
      have HGE2 := Keep.keep hgt
      clear hgt
      go_wp2_with fail
      refine HGT.out.mono ?_
      rintro e w7 ⟨aa2, la2, ca2, ad2, ld2, cd2, rfl, hn7, hb7⟩
      have HB7 := Keep.keep (HB6.out.trans (hb7.mono HB6.out.size))
      have HR127 := Keep.keep (HR126.out.below hb7 HR126.out.lt)
      have HND7 := Keep.keep (HND6.out.on hb7)
      have HN7 : Keep (NdL w7 ⟨kind2, mode2, uid2, gid2, time2, attrs2, data2, link2⟩ (.slice aa2 la2 ca2) (.slice ad2 ld2 cd2)) := ⟨hn7.mono (fun _ hb => hb.2)⟩
      clear hn7 hb7 HGT HR126 HND6 HB6 c120
      go_upto_region 9 with fail
      refine wp_world (R := fun wq => Hp NoM w7 wq [rowA w7.heap.size 30 #[.int .i64 kind2, .int .u32 mode2, .int .u32 uid2, .int .u32 gid2, .int .i64 time2, .slice aa2 la2 ca2, .slice ad2 ld2 cd2, .string ⟨link2.toArray⟩]]) ((Hp.begin NoM w7).newRow _ _) ?_
      intro w8 H8
      obtain ⟨b14, hb14⟩ : ∃ b, w7.heap.size = b := ⟨_, rfl⟩
      have HB8 := Keep.keep (HB7.out.trans (H8.out.below.mono HB7.out.size))
      have HR128 := Keep.keep (HR127.out.below H8.out.below HR127.out.lt)
      have HND8 := Keep.keep (HND7.out.on H8.out.below)
      have HN8 := Keep.keep (HN7.out.on H8.out.below)
      rw [hb14] at H8 ⊢
      have HR14 := Keep.keep (H8.out.row 0 rfl)
      have HS14 : Keep ((#[.int .i64 kind2, .int .u32 mode2, .int .u32 uid2, .int .u32 gid2, .int .i64 time2, .slice aa2 la2 ca2, .slice ad2 ld2 cd2, .string ⟨link2.toArray⟩] : Array Value).size = 8) := ⟨rfl⟩
      clear hb14 H8 HR127 HND7 HN7 HB7
      cases hit with
      | true =>
        go_wp2_with fail
        go_roundg g
        case measure => omega
        case rel => exact ⟨k + 1, by omega, by simp, HB8.out⟩
      | false =>
        have hin : ((xp, ⟨kind, mode, uid, gid, time, attrs, data, link⟩) : Mb) ∈ U := local_same HAPU.out HXA.out HXP.out.2 (fun cc hcc => by
          rw [← HL8.out.1] at hcc
          obtain ⟨y, hy, rfl⟩ := List.mem_map.1 hcc
          have := HHIT.out
          rw [List.any_eq_false] at this
          simpa using this y hy)
        have hgx := getT_of HSU.out hin HXP.out.2
        rw [HGE2.out] at hgx
        injection hgx with hn1 hn2
        injection hn1 with q1 q2 q3 q4 q5 q6 q7 q8
        subst hn2 q1 q2 q3 q4 q5 q6 q7 q8
        have hbl := buildNM xp kind2 mode2 uid2 gid2 time2 aa2 la2 ca2 ad2 ld2 cd2 link2
        have c120 := HR128.out.cell (i := 0) rfl
        have HSM := Keep.keep (same_tar ((xp, ⟨kind2, mode2, uid2, gid2, time2, attrs2, data2, link2⟩) : Mb) ((xp, ⟨kind2, mode2, uid2, gid2, time2, attrs2, data2, link2⟩) : Mb) _ _ _ _ w8 HND8.out HN8.out)
        clear hin HGE2
        go_wp2_with (first | ((with_reducible refine arm_loadRowG ?_ HR128.out aggM HSZ.out ?_ ?_); (focus rfl); (focus rfl); simp only [Act.put, List.setIfInBounds_toArray, List.set_cons_succ, List.set_cons_zero]) | ((with_reducible refine arm_loadRowG ?_ HR14.out aggN HS14.out ?_ ?_); (focus rfl); (focus rfl); simp only [Act.put, List.setIfInBounds_toArray, List.set_cons_succ, List.set_cons_zero]))
        refine HSM.out.mono ?_
        rintro e w9 ⟨he, hb9⟩
        obtain rfl := he.is (by first | trivial | rfl)
        have HB9 := Keep.keep (HB8.out.trans (hb9.mono HB8.out.size))
        clear he hb9 HSM hbl c120
        go_wp2_with fail
        go_roundg g
        case measure => omega
        case rel => exact ⟨k + 1, by omega, by simp, HB9.out⟩
    obtain rfl : k = n42 := by omega
    have HTX := Keep.keep (HTR4.out.on HBK.out)
    have HWX := Keep.keep (HW4.out.trans (HBK.out.mono HW4.out.size))
    clear HTR4 HUT4 HM84 HR42 HW4 HBK HL42 HN42 HAPU HSU
    go_upto_region 12 with fail
    refine wp_world (R := fun wq => TrL wq T1 A ∧ Below w.heap.size w wq) ⟨HTX.out, HWX.out⟩ ?_
    intro wz HZ
    clear HTX HWX
  rotate_left
  focus
    have hcb : (cd == 0) = false := by rw [beq_eq_false_iff_ne]; exact hcd
    clear hcd
    go_upto_region 12 with fail
    refine wp_world (R := fun wq => TrL wq T1 A ∧ Below w.heap.size w wq) ⟨HTR3.out, HW3.out⟩ ?_
    intro wz HZ
    clear HTR3 HM83 HW3 HAP HNEW hcb
  all_goals
    have HTZ := Keep.keep HZ.out.1
    have HWZ := Keep.keep HZ.out.2
    clear HZ
    go_wp2_with fail
    refine (all_tr HTZ.out (by have := HA.out.2; omega)).mono ?_
    rintro e y1 ⟨v16, l16, rfl, hl16, hr16, hb⟩
    have HL16 : Keep (l16.map (·.1) = A) := ⟨hl16⟩
    have HR16 := Keep.keep hr16
    have HTA := Keep.keep (HTZ.out.on hb)
    have HY1 := Keep.keep (HWZ.out.trans (hb.mono HWZ.out.size))
    obtain ⟨a16, c16, hv16, -⟩ := (ownsV_reads hr16.own).shape
    obtain ⟨n16, hn16⟩ : ∃ n, l16.length = n := ⟨_, rfl⟩
    have HN16 := Keep.keep hn16
    rw [hn16] at hv16
    clear hl16 hr16 hb HTZ HWZ hn16
    subst hv16
    by_cases hn0 : n16 = 0
    focus
      have hnb : ((n16 : Int) == 0) = true := by rw [hn0]; rfl
      go_wp2_with fail
      refine (wakes19_any B y1 (HT.out.on (HY1.out.mono HT.out.b))).mono ?_
      rintro e y2 ⟨rfl, hb⟩
      have HY2 := Keep.keep (HY1.out.trans (hb.mono HY1.out.size))
      clear hb
      go_wp2_with fail
      go_ret
      exact ⟨rfl, HY2.out⟩
    have hnb : ((n16 : Int) == 0) = false := by rw [beq_eq_false_iff_ne]; omega
    obtain ⟨i, hi⟩ : ∃ i, c % n16 = i := ⟨_, rfl⟩
    have hil : i < n16 := by rw [← hi]; exact Nat.mod_lt _ (by omega)
    have hmod : (c : Int) % (n16 : Int) = (i : Int) := by rw [← hi]; rfl
    have hkl : i < l16.length := by have := HN16.out; omega
    obtain ⟨g2, rfl⟩ : ∃ g2, a16 = some ⟨g2, 0, none⟩ := by
      rcases HR16.out.own.2 with ⟨h1, h2⟩ | ⟨g', cap', cur, h1, -⟩
      · have := HN16.out; omega
      · injection h1 with h1; exact ⟨g', h1⟩
    have hown := HR16.out.own
    rw [HN16.out] at hown
    have hld := own_loadAt hown (HN16.out.symm) (List.getElem?_eq_getElem hkl)
    have HXA : Keep (l16[i].1 ∈ A) := ⟨by rw [← HL16.out]; exact List.mem_map.2 ⟨_, List.getElem_mem hkl, rfl⟩⟩
    have hsh := (HR16.out.nd l16[i] (List.getElem_mem hkl)).shape
    clear hown hi
    generalize l16[i] = x at *
    obtain ⟨⟨p, ⟨kind, mode, uid, gid, time, attrs, data, link⟩⟩, av, dv⟩ := x
    obtain ⟨aa, la, ca, ad, ld, cd3, e1, e2⟩ := hsh
    dsimp only at e1 e2 HXA
    subst e1 e2
    have HXP : Keep (mayP p = true ∧ p ≠ []) := ⟨HA.out.1.path HXA.out⟩
    have hpl : p.length ≤ 4080 := may_len HXP.out.1
    have HWM := Keep.keep (wh_ne HXP.out.1 HXP.out.2)
    have hwl : (whiteoutP p).length ≤ 20000 := by have := whiteoutP_len p; omega
    have hol : (opaqueP p).length ≤ 20000 := by have := opaqueP_len p; omega
    have HMC : Keep (mcell ((p, ⟨kind, mode, uid, gid, time, attrs, data, link⟩), .slice aa la ca, .slice ad ld cd3) = #[.string ⟨p.toArray⟩, .int .i64 kind, .int .u32 mode, .int .u32 uid, .int .u32 gid, .int .i64 time, .slice aa la ca, .slice ad ld cd3, .string ⟨link.toArray⟩]) := ⟨rfl⟩
    rw [HMC.out] at hld
    have HLW := Keep.keep (local_white HA.out.1 (by have := HA.out.2; omega) HXA.out)
    have HSA := Keep.keep HTA.out.sm
    go_upto_region 16 with ((with_reducible refine arm_loadM hld ?_ ?_); (focus rfl); simp only [Act.put, List.setIfInBounds_toArray, List.set_cons_succ, List.set_cons_zero])
    try rw [hmod]
    refine wp_world (R := fun wq => Hp NoM y1 wq [rowA y1.heap.size 32 #[.string ⟨p.toArray⟩, .int .i64 kind, .int .u32 mode, .int .u32 uid, .int .u32 gid, .int .i64 time, .slice aa la ca, .slice ad ld cd3, .string ⟨link.toArray⟩]]) ((Hp.begin NoM y1).newRow _ _) ?_
    intro y2 H2
    obtain ⟨b17, hb17⟩ : ∃ b, y1.heap.size = b := ⟨_, rfl⟩
    have HY2 := Keep.keep (HY1.out.trans (H2.out.below.mono HY1.out.size))
    have HTA2 := Keep.keep (HTA.out.on H2.out.below)
    rw [hb17] at H2 ⊢
    have HR17 := Keep.keep (H2.out.row 0 rfl)
    clear hld hb17 H2 HR16 HTA HY1 hmod
    have c17 := HR17.out.cell (i := 0) rfl
    go_wp2_with fail
    refine (white_any p (by omega) B y2 (Nat.le_trans HT.out.b HY2.out.size) (HT.out.m.on (HY2.out.mono HT.out.b))).mono ?_
    rintro e y3 ⟨rfl, hb⟩
    have HY3 := Keep.keep (HY2.out.trans (hb.mono HY2.out.size))
    have HTA3 := Keep.keep (HTA2.out.on hb)
    have HR173 := Keep.keep (HR17.out.below hb HR17.out.lt)
    clear hb HTA2 HR17 c17 HY2
    have hbb := buildB
    have hbw := buildW (whiteoutP p)
    have HWL : Keep ((whiteoutP p).length ≤ 20000) := ⟨hwl⟩
    obtain ⟨wp, hwp⟩ : ∃ q, whiteoutP p = q := ⟨_, rfl⟩
    have HWP := Keep.keep hwp
    rw [hwp] at hbw ⊢
    clear hwp hwl
    go_upto_region 17 with fail
    refine wp_world (R := fun wq => Hp NoM y3 wq [rowA y3.heap.size 32 #[.string ⟨wp.toArray⟩, .int .i64 2, .int .u32 0, .int .u32 0, .int .u32 0, .int .i64 0, .slice none 0 0, .slice none 0 0, .string ⟨#[]⟩]]) ((Hp.begin NoM y3).newRow _ _) ?_
    intro y4 H4
    obtain ⟨b18, hb18⟩ : ∃ b, y3.heap.size = b := ⟨_, rfl⟩
    have HY4 := Keep.keep (HY3.out.trans (H4.out.below.mono HY3.out.size))
    have HTA4 := Keep.keep (HTA3.out.on H4.out.below)
    have HR174 := Keep.keep (HR173.out.below H4.out.below HR173.out.lt)
    rw [hb18] at H4 ⊢
    have HR18 := Keep.keep (H4.out.row 0 rfl)
    have HS18 : Keep ((#[.string ⟨wp.toArray⟩, .int .i64 2, .int .u32 0, .int .u32 0, .int .u32 0, .int .i64 0, .slice none 0 0, .slice none 0 0, .string ⟨#[]⟩] : Array Value).size = 9) := ⟨rfl⟩
    clear hb18 H4 HTA3 HR173 HY3 hbw
    go_wp2_with ((with_reducible refine arm_loadRow HR18.out aggM HS18.out ?_ ?_); (focus rfl); simp only [Act.put, List.setIfInBounds_toArray, List.set_cons_succ, List.set_cons_zero])
    refine (above19_any HTA4.out wp (by rw [← HWP.out]; have := HWL.out; omega)).mono ?_
    rintro e y5 ⟨v97, l97, rfl, hl97, hr97, hb⟩
    have HM97 : Keep (MbL y5 v97 l97) := ⟨MbL.ofRow hr97⟩
    have HL97 : Keep (l97.map (·.1) = aboveS A (whM p) ∧ (∀ x ∈ l97, Sm x.1) ∧ l97.length ≤ 100000) := ⟨by rw [hl97, HWM.out.1, ← HWP.out]; rfl, sm_mapX (by rw [hl97]; exact sm_above HSA.out wp (by rw [← HWP.out]; have := HWL.out; omega)), by
      have := congrArg List.length hl97
      rw [List.length_map, List.length_append, List.length_map] at this
      have h2 := above_count wp
      have h3 := HWL.out
      rw [HWP.out] at h3
      simp at this
      omega⟩
    have HY5 := Keep.keep (HY4.out.trans (hb.mono HY4.out.size))
    have HTA5 := Keep.keep (HTA4.out.on hb)
    have HR175 := Keep.keep (HR174.out.below hb HR174.out.lt)
    obtain ⟨a97, c97, hv97, -⟩ := (ownsV_reads hr97.own).shape
    obtain ⟨n97, hn97⟩ : ∃ n, l97.length = n := ⟨_, rfl⟩
    rw [hn97] at hv97
    clear hl97 hr97 hb HTA4 HR174 HY4 HR18 hn97
    subst hv97
    go_wp2_with fail
    refine (apply_tr B (HT.out.on (HY5.out.mono HT.out.b)) HTA5.out (by have := HA.out.2; omega) HM97.out HL97.out.2.1 HL97.out.2.2 (by rw [HL97.out.1]; exact HLW.out)).mono ?_
    rintro e y6 ⟨V1, rfl, hv, -, hb⟩
    have HV := Keep.keep hv
    have HY6 := Keep.keep (HY5.out.trans (hb.mono HY5.out.size))
    have HTA6 := Keep.keep (HTA5.out.on hb)
    have HR176 := Keep.keep (HR175.out.below hb HR175.out.lt)
    clear hv hb HTA5 HR175 HY5 HM97 HL97
    go_wp2_with fail
    refine (copy_tr HTA6.out (by have := HA.out.2; omega)).mono ?_
    rintro e y7 ⟨T2, m2, Bk2, f2, rfl, hti, hfr, hb⟩
    have HTI := Keep.keep hti
    have HFR := Keep.keep hfr
    have HB7 := Keep.keep hb
    have c17 := (HR176.out.below hb HR176.out.lt).cell (i := 0) rfl
    clear hti hfr hb
    go_wp2_with fail
    refine (remove_tree T2 m2 Bk2 f2 A y7 HTI.out HFR.out.2 p (by omega)).mono ?_
    rintro e y8 ⟨rfl, hti, hch⟩
    have HB8 : Keep (Below y6.heap.size y6 y8) := ⟨HB7.out.trans ((hch.lower HB7.out.size).below (fun j hj e => by have := HFR.out.1; omega))⟩
    have HTW : Keep (TrL y8 T2 (removeT A p).2) := ⟨m2, Bk2, f2, hti, fun b hb => Nat.lt_of_lt_of_le (HFR.out.2 b hb) hch.size⟩
    clear hti hch HTI HB7 c17 HFR
    have HV8 := Keep.keep (HV.out.on HB8.out)
    have HTA8 := Keep.keep (HTA6.out.on HB8.out)
    have HR178 := Keep.keep (HR176.out.below HB8.out HR176.out.lt)
    have HY8 := Keep.keep (HY6.out.trans (HB8.out.mono HY6.out.size))
    clear HV HTA6 HR176 HY6 HB8
    go_wp2_with fail
    refine (same_tr HV8.out HTW.out (Nat.le_trans (remove_len A p) (by have := HA.out.2; omega)) rfl).mono ?_
    rintro e y9 ⟨rfl, hb⟩
    have HTA9 := Keep.keep (HTA8.out.on hb)
    have HR179 := Keep.keep (HR178.out.below hb HR178.out.lt)
    have HY9 := Keep.keep (HY8.out.trans (hb.mono HY8.out.size))
    clear hb HV8 HTW HTA8 HR178 HY8
    have c171 := HR179.out.cell (i := 1) rfl
    by_cases hkd : kind = 1
    rotate_left
    focus
      have hkb : (kind == 1) = false := by rw [beq_eq_false_iff_ne]; exact hkd
      go_wp2_with fail
      refine (wakes19_any B y9 (HT.out.on (HY9.out.mono HT.out.b))).mono ?_
      rintro e y10 ⟨rfl, hb⟩
      have HY10 := Keep.keep (HY9.out.trans (hb.mono HY9.out.size))
      clear hb
      go_wp2_with fail
      go_ret
      exact ⟨rfl, HY10.out⟩
    subst hkd
    have HLM := Keep.keep (local_mark HA.out.1 (by have := HA.out.2; omega) HXA.out rfl)
    have hgt : getT A p = (⟨1, mode, uid, gid, time, attrs, data, link⟩, true) := getT_of HA.out.1.s HXA.out HXP.out.2
    obtain ⟨ns, hns⟩ : ∃ ns, ns = (namesT p A).mergeSort (fun x y => decide (x ≤ y)) := ⟨_, rfl⟩
    have HLT : Keep (listT A p = (ns, 0)) := ⟨by unfold listT; rw [hgt, if_neg (by simp), if_neg (by simp), hns]⟩
    have HNP : Keep (ns.Perm (namesT p A)) := ⟨by rw [hns]; exact List.mergeSort_perm _ _⟩
    have HNL : Keep (ns.length ≤ 280 ∧ ∀ q ∈ ns, q.length ≤ 4080) := ⟨by
      rw [HNP.out.length_eq]
      unfold namesT
      rw [List.length_map]
      exact Nat.le_trans (List.length_filter_le _ _) HA.out.2, fun q hq => by
      have hq := HNP.out.mem_iff.1 hq
      unfold namesT at hq
      obtain ⟨y, hy, rfl⟩ := List.mem_map.1 hq
      have hy := (List.mem_filter.1 hy).1
      exact Nat.le_trans (base_len _) (may_len (HA.out.1.path hy).1)⟩
    have HRK : Keep ((ns.map fun b => joinP [p, b]).foldl (fun K c => (removeT K c).2) A = A.filter fun x => !underP p x.1) := ⟨remove_kids_perm HA.out.1 p (names_kids HA.out.1 HXP.out.2 HNP.out)⟩
    clear hgt hns
    have c170 := HR179.out.cell (i := 0) rfl
    go_wp2_with fail
    refine (opaq_any p (by omega) B y9 (Nat.le_trans HT.out.b HY9.out.size) (HT.out.m.on (HY9.out.mono HT.out.b))).mono ?_
    rintro e z3 ⟨rfl, hb⟩
    have HZ3 := Keep.keep (HY9.out.trans (hb.mono HY9.out.size))
    have HTA3 := Keep.keep (HTA9.out.on hb)
    have HR173 := Keep.keep (HR179.out.below hb HR179.out.lt)
    clear hb HTA9 HR179 c170 c171 HY9
    have hbw := buildW (opaqueP p)
    have HOL : Keep ((opaqueP p).length ≤ 20000) := ⟨hol⟩
    obtain ⟨op, hop⟩ : ∃ q, opaqueP p = q := ⟨_, rfl⟩
    have HOP := Keep.keep hop
    rw [hop] at hbw ⊢
    clear hop hol
    go_upto_region 25 with fail
    refine wp_world (R := fun wq => Hp NoM z3 wq [rowA z3.heap.size 32 #[.string ⟨op.toArray⟩, .int .i64 2, .int .u32 0, .int .u32 0, .int .u32 0, .int .i64 0, .slice none 0 0, .slice none 0 0, .string ⟨#[]⟩]]) ((Hp.begin NoM z3).newRow _ _) ?_
    intro z4 H4
    obtain ⟨b22, hb22⟩ : ∃ b, z3.heap.size = b := ⟨_, rfl⟩
    have HZ4 := Keep.keep (HZ3.out.trans (H4.out.below.mono HZ3.out.size))
    have HTA4 := Keep.keep (HTA3.out.on H4.out.below)
    have HR174 := Keep.keep (HR173.out.below H4.out.below HR173.out.lt)
    rw [hb22] at H4 ⊢
    have HR22 := Keep.keep (H4.out.row 0 rfl)
    have HS22 : Keep ((#[.string ⟨op.toArray⟩, .int .i64 2, .int .u32 0, .int .u32 0, .int .u32 0, .int .i64 0, .slice none 0 0, .slice none 0 0, .string ⟨#[]⟩] : Array Value).size = 9) := ⟨rfl⟩
    clear hb22 H4 HTA3 HR173 HZ3 hbw hbb
    go_wp2_with ((with_reducible refine arm_loadRow HR22.out aggM HS22.out ?_ ?_); (focus rfl); simp only [Act.put, List.setIfInBounds_toArray, List.set_cons_succ, List.set_cons_zero])
    refine (above19_any HTA4.out op (by rw [← HOP.out]; have := HOL.out; omega)).mono ?_
    rintro e z5 ⟨v97, l97, rfl, hl97, hr97, hb⟩
    have HM97 : Keep (MbL z5 v97 l97) := ⟨MbL.ofRow hr97⟩
    have HL97 : Keep (l97.map (·.1) = aboveS A (mkM p) ∧ (∀ x ∈ l97, Sm x.1) ∧ l97.length ≤ 100000) := ⟨by rw [hl97, HWM.out.2, ← HOP.out]; rfl, sm_mapX (by rw [hl97]; exact sm_above HSA.out op (by rw [← HOP.out]; have := HOL.out; omega)), by
      have := congrArg List.length hl97
      rw [List.length_map, List.length_append, List.length_map] at this
      have h2 := above_count op
      have h3 := HOL.out
      rw [HOP.out] at h3
      simp at this
      omega⟩
    have HZ5 := Keep.keep (HZ4.out.trans (hb.mono HZ4.out.size))
    have HTA5 := Keep.keep (HTA4.out.on hb)
    have HR175 := Keep.keep (HR174.out.below hb HR174.out.lt)
    obtain ⟨a97, c97, hv97, -⟩ := (ownsV_reads hr97.own).shape
    obtain ⟨n97, hn97⟩ : ∃ n, l97.length = n := ⟨_, rfl⟩
    rw [hn97] at hv97
    clear hl97 hr97 hb HTA4 HR174 HZ4 HR22 hn97
    subst hv97
    go_wp2_with fail
    refine (apply_tr B (HT.out.on (HZ5.out.mono HT.out.b)) HTA5.out (by have := HA.out.2; omega) HM97.out HL97.out.2.1 HL97.out.2.2 (by rw [HL97.out.1]; exact HLM.out)).mono ?_
    rintro e z6 ⟨W1, rfl, hv, -, hb⟩
    have HV := Keep.keep hv
    have HZ6 := Keep.keep (HZ5.out.trans (hb.mono HZ5.out.size))
    have HTA6 := Keep.keep (HTA5.out.on hb)
    have HR176 := Keep.keep (HR175.out.below hb HR175.out.lt)
    clear hv hb HTA5 HR175 HZ5 HM97 HL97
    go_wp2_with fail
    refine (copy_tr HTA6.out (by have := HA.out.2; omega)).mono ?_
    rintro e z7 ⟨T3, m3, Bk3, f3, rfl, hti, hfr, hb⟩
    have HTI := Keep.keep hti
    have HFR := Keep.keep hfr
    have HB7 := Keep.keep hb
    have HM3 : Keep (m3 < z7.heap.size) := ⟨hti.map.lt⟩
    have HTA7 := Keep.keep (HTA6.out.on hb)
    have c17 := (HR176.out.below hb HR176.out.lt).cell (i := 0) rfl
    clear hti hfr hb
    go_wp2_with fail
    refine (list_tr HTA7.out (by have := HA.out.2; omega) p (by omega) HLT.out).mono ?_
    rintro e z8 ⟨v25, rfl, ho25, hb⟩
    have HB8 := Keep.keep (HB7.out.trans (hb.mono HB7.out.size))
    have HTI8 : Keep (TreeIn z8 T3 m3 Bk3 f3 A) := ⟨HTI.out.loc (fun b hb' => hb.block b (by
      rcases hb' with rfl | rfl | h
      · exact HTI.out.row.lt
      · exact HTI.out.map.lt
      · exact HFR.out.2 b h))⟩
    have HBK8 : Keep (∀ b, Bk3 b → b < z8.heap.size) := ⟨fun b h => Nat.lt_of_lt_of_le (HFR.out.2 b h) hb.size⟩
    have HO25 := Keep.keep ho25
    obtain ⟨a25, c25, hv25, -⟩ := (ownsV_reads ho25).shape
    obtain ⟨n25, hn25⟩ : ∃ n, ns.length = n := ⟨_, rfl⟩
    have HN25 := Keep.keep hn25
    have hn25b : n25 ≤ 280 := by have := HNL.out.1; omega
    unfold OwnS at HO25
    rw [hn25] at hv25 HO25
    clear ho25 hb HTI HB7 HTA7 c17 hn25
    subst hv25
    go_wp2_with fail
    go_loopg [144] n25 (fun g u144 wx => ∃ (k : Nat) (Bk : Nat → Prop) (f : Tx → Value × Value), k + g = n25 ∧ u144 = .int .i64 (k : Int) ∧ TreeIn wx T3 m3 Bk f (((ns.map fun b => joinP [p, b]).take k).foldl (fun K c => (removeT K c).2) A) ∧ (∀ b, Bk b → b < wx.heap.size) ∧ wx.ownsRow z7.heap.size 9 1 (.slice a25 n25 c25) n25 (ns.map strV) ∧ Below z6.heap.size z6 wx)
    focus
      exact ⟨0, Bk3, f3, by omega, rfl, HTI8.out, HBK8.out, HO25.out, HB8.out⟩
    clear HTI8 HBK8 HO25 HB8
    obtain ⟨k, Bk4, f4, hkg, rfl, hti, hbk, hown, hb⟩ := hrel
    have HTI := Keep.keep hti; have HBK := Keep.keep hbk; have HO := Keep.keep hown; have HB := Keep.keep hb
    clear hti hbk hown hb
    cases gk
    rotate_left
    focus
      rename_i g hnext
      have hk : k < n25 := by omega
      have hkQ : k < ns.length := by have := HN25.out; omega
      have hd : decide ((k : Int) < (n25 : Int)) = true := decide_eq_true (by omega)
      obtain ⟨g4, rfl⟩ : ∃ g4, a25 = some ⟨g4, 0, none⟩ := by
        rcases HO.out.2 with ⟨h1, h2⟩ | ⟨g', cap', cur, h1, -⟩
        · omega
        · injection h1 with h1; exact ⟨g', h1⟩
      have hc4 := (ownsV_reads HO.out).cell g4 0 _ _ rfl k (strV ns[k]) (by simp [hkQ])
      rw [Nat.zero_add] at hc4
      have HTQ : Keep (((ns.map fun b => joinP [p, b]).take (k + 1)).foldl (fun K c => (removeT K c).2) A = (removeT (((ns.map fun b => joinP [p, b]).take k).foldl (fun K c => (removeT K c).2) A) (joinP [p, ns[k]])).2) := ⟨by
        rw [List.take_succ_eq_append_getElem (by simpa using hkQ), List.foldl_append]; simp⟩
      have hql := HNL.out.2 _ (List.getElem_mem hkQ)
      generalize ns[k] = qp at *
      unfold strV at hc4
      have c17 := (HR176.out.below HB.out HR176.out.lt).cell (i := 0) rfl
      go_wp2_with fail
      refine calls_at (R := fun wq => Below wr.heap.size wr wq ∧ RdS wq (· < wq.heap.size) (.slice (some ⟨wr.heap.size, 0, none⟩) 2 2) [p, qp]) ⟨(Below.refl _ _).alloc (Nat.le_refl _) _, RdV.new 9 (([p, qp] : List Tx).map strV) 1 2 _ rfl rfl (by unfold maxLen; omega) (by simp)⟩ ?_
      intro z9 Hq
      have hjl := joinP_two_len p qp
      refine (join_any _ [p, qp] z9 Hq.out.2 (by simp) (by omega)).mono ?_
      rintro e z10 ⟨rfl, hb10⟩
      have hbx := Hq.out.1.trans (hb10.mono Hq.out.1.size)
      have HTIX : Keep (TreeIn z10 T3 m3 Bk4 f4 (((ns.map fun b => joinP [p, b]).take k).foldl (fun K c => (removeT K c).2) A)) := ⟨HTI.out.loc (fun b hb' => hbx.block b (by
        rcases hb' with rfl | rfl | h
        · exact HTI.out.row.lt
        · exact HTI.out.map.lt
        · exact HBK.out b h))⟩
      have HBKX : Keep (∀ b, Bk4 b → b < z10.heap.size) := ⟨fun b h => Nat.lt_of_lt_of_le (HBK.out b h) hbx.size⟩
      have HOX := Keep.keep (ownsRow_loc _ _ (fun b hb => hbx.block b (ownsV_lt HO.out b hb).2) HO.out)
      have HBX := Keep.keep (HB.out.trans (hbx.mono HB.out.size))
      clear hb10 hbx Hq hc4 c17 HTI HBK HO HB
      go_wp2_with fail
      refine (remove_tree T3 m3 Bk4 f4 _ z10 HTIX.out HBKX.out (joinP [p, qp]) (by omega)).mono ?_
      rintro e z11 ⟨rfl, hti, hch⟩
      rw [← HTQ.out] at hti
      have HTI := Keep.keep hti
      have HBK : Keep (∀ b, Bk4 b → b < z11.heap.size) := ⟨fun b h => Nat.lt_of_lt_of_le (HBKX.out b h) hch.size⟩
      have HO : Keep (z11.ownsRow z7.heap.size 9 1 (.slice (some ⟨g4, 0, none⟩) n25 c25) n25 (ns.map strV)) := ⟨ownsRow_loc _ _ (fun b hb => hch.block b (ownsV_lt HOX.out b hb).2 (fun e => by have h1 := (ownsV_lt HOX.out b hb).1; have h2 := HM3.out; omega)) HOX.out⟩
      have HB : Keep (Below z6.heap.size z6 z11) := ⟨HBX.out.trans ((hch.lower HBX.out.size).below (fun j hj e => by have := HFR.out.1; omega))⟩
      clear hti hch HTIX HBKX HOX HBX HTQ
      go_wp2_with fail
      go_roundg g
      case measure => omega
      case rel => exact ⟨k + 1, Bk4, f4, by omega, by simp, HTI.out, HBK.out, HO.out, HB.out⟩
    obtain rfl : k = n25 := by omega
    have HTF : Keep (TrL wr T3 (A.filter fun x => !underP p x.1)) := ⟨m3, Bk4, f4, by
      have h := HTI.out
      rw [List.take_of_length_le (by rw [List.length_map, HN25.out]; exact Nat.le_refl _), HRK.out] at h
      exact h, HBK.out⟩
    have HVX := Keep.keep (HV.out.on HB.out)
    have HZX := Keep.keep (HZ6.out.trans (HB.out.mono HZ6.out.size))
    clear HTI HBK HO HB HV HZ6 HTA6 HR176
    go_wp2_with fail
    refine (same_tr HVX.out HTF.out (Nat.le_trans (List.length_filter_le _ _) (by have := HA.out.2; omega)) rfl).mono ?_
    rintro e x1 ⟨rfl, hb⟩
    have HX1 := Keep.keep (HZX.out.trans (hb.mono HZX.out.size))
    clear hb HVX HTF HZX
    go_wp2_with fail
    refine (wakes19_any B x1 (HT.out.on (HX1.out.mono HT.out.b))).mono ?_
    rintro e x2 ⟨rfl, hb⟩
    have HX2 := Keep.keep (HX1.out.trans (hb.mono HX1.out.size))
    clear hb
    go_wp2_with fail
    go_ret
    exact ⟨rfl, HX2.out⟩
end Go.Proofs.YtplafpokgpolkaaGreatDoor
/- ARGUMENTS WITH SLICES WITHIN SLICES, OPENED: what lies deeper has no word of its own on its blocks; its cells tell them. -/
namespace Go.Proofs.YtplafpokgpolkaaGreatDoor
open Go.ChangeShapes Go.WideShapes Go.ChangeAt Go.RowKit
theorem cell_spot {w : World} {a : Addr} {v : Value} (h : w.cell? a = some v) : a.spot = none ∧ a.block < w.heap.size := by
  unfold World.cell? at h
  split at h
  · rename_i c e fr hb
    split at h
    · cases h
    · rename_i hs
      exact ⟨by simpa using hs, (Array.getElem?_eq_some_iff.1 hb).1⟩
  · cases h
/-- a []byte that lies anywhere within an argument -/
theorem reads_of_trod {P : Program} {H : Type} {enc : TypeId × Value → H} {t e : TypeId} {held : Bool} {fuel : Nat} (ht : P.underlying t = some (.slice e)) (he : P.underlying e = some (.int .u8)) (hc : P.cellsOf e = 1) {W : World} {v : Value} {x : DataW H × List MemPlace}
    (hf : DataW.trod enc P W 0 (fun _ => true) held fuel t [v] = some x) : ∃ l, Reads W (fun b => b < W.heap.size) v l := by
  rcases open_ints ht he hc hf with ⟨hcs, hx⟩ | ⟨⟨b, off, sp⟩, len, cap, zs, hcs, _, hl, hm, hz, hx, hcell, hwz⟩
  · injection hcs with hcs _
    subst hcs
    exact ⟨[], Reads.ofNil⟩
  · injection hcs with hcs _
    subst hcs
    simp only [if_true] at hz
    have hsp : cap = 0 ∨ (sp = none ∧ b < W.heap.size) := by
      rcases Nat.eq_zero_or_pos cap with h | h
      · exact .inl h
      · have := cell_spot (hcell 0 (by omega))
        exact .inr this
    refine ⟨(zs.take len).map fun x => UInt8.ofNat x.toNat, ⟨some ⟨b, off, sp⟩, cap, ?_, ?_, hm, ?_⟩, fun b' off' n' c' he' j hj => ?_⟩
    · congr 1; simp; omega
    · simp; omega
    · rcases hsp with h | ⟨rfl, h⟩
      · exact .inl h
      · exact .inr ⟨b, off, rfl, h⟩
    · injection he' with e1 _ _; injection e1 with e1; injection e1 with e1 e2 e3; subst e1 e2 e3
      have hj' : j < len := by simp at hj; omega
      have hjz : j < zs.length := by omega
      have hc := hcell j hjz
      rw [Addr.add_mid] at hc
      rw [hc]
      have hw := hwz _ (List.getElem_mem hjz)
      have hm1 : IntKind.u8.min = 0 := rfl
      have hm2 : IntKind.u8.max = 255 := rfl
      simp only [Lit.wf, Bool.and_eq_true, decide_eq_true_eq, hm1, hm2] at hw
      simp only [List.getElem_map, List.getElem_take, List.getD_eq_getElem?_getD, List.getElem?_eq_getElem hjz, Option.getD_some, UInt8.toNat_ofNat']
      congr 2
      omega
end Go.Proofs.YtplafpokgpolkaaGreatDoor
/- ARGUMENTS THAT ARE WHOLE NUMBERS, OPENED. -/
namespace Go.Proofs.YtplafpokgpolkaaGreatDoor
open Go.ChangeShapes Go.WideShapes Go.ChangeAt Go.RowKit
theorem okU8 {P : Program} {w : World} {r : Reach} {base : Nat} {t : TypeId} {v : Value} (ht : P.underlying t = some (.int .u8)) (h : Value.okWide P w r base t v) : ∃ n : Nat, v = .int .u8 (n : Int) ∧ n < 256 := by
  simp only [Value.okWide, ht, Cell.okWide] at h
  have hm1 : IntKind.u8.min = 0 := rfl
  have hm2 : IntKind.u8.max = 255 := rfl
  cases v <;> simp only [Cell.ok, ht] at h
  rename_i k x
  obtain ⟨rfl, h1, h2⟩ := h
  rw [hm1] at h1; rw [hm2] at h2
  exact ⟨x.toNat, by congr 1; omega, by omega⟩
end Go.Proofs.YtplafpokgpolkaaGreatDoor
/- ARGUMENTS THAT ARE SLICES OF MEMBERS, OR OF ACTS, OPENED. -/
namespace Go.Proofs.YtplafpokgpolkaaGreatDoor
open Go.ChangeShapes Go.WideShapes Go.ChangeAt Go.RowKit
section
variable {H : Type} {enc : TypeId × Value → H} {W : World} {fuel : Nat} {x : DataW H × List MemPlace}
theorem str_of_trod {v : Value} (h : DataW.trod enc Tryz.prog W 0 (fun _ => true) true fuel 9 [v] = some x) : ∃ l : Tx, v = strV l ∧ l.length ≤ maxLen := by
  obtain ⟨⟨⟨l⟩⟩, e, _, hm⟩ := DataW.trod_string Tryz.underlying9 h
  injection e with e _
  exact ⟨l, e, hm⟩
theorem attrs_of_trod {v : Value} (hf : DataW.trod enc Tryz.prog W 0 (fun _ => true) true fuel 27 [v] = some x) : ∃ l : List R2, RdV W (· < W.heap.size) 2 v l.length (rcells l) := by
  rcases Deep.open_slice_pairs Tryz.underlying27 Tryz.underlying97 (by kernel_rfl) rfl rfl (by kernel_rfl) (by kernel_rfl) hf with ⟨hcs, _⟩ | ⟨⟨b, off, sp⟩, len, cap, m, n, V0, V1, D0, D1, P0, P1, hcs, _, hl, hm, hmm, _, hx⟩
  · injection hcs with hcs _
    subst hcs
    exact ⟨[], RdV.ofNil⟩
  · injection hcs with hcs _
    subst hcs
    simp only [if_true] at hmm
    have hsp : cap = 0 ∨ (sp = none ∧ b < W.heap.size) := by
      rcases Nat.eq_zero_or_pos cap with h | h
      · exact .inl h
      · exact .inr (cell_spot (hx 0 (by omega)).1)
    have key : ∀ i, i < m → ∃ q : R2, V0 i = strV q.1 ∧ V1 i = strV q.2 := fun i hi => by
      obtain ⟨_, _, t0, t1⟩ := hx i hi
      obtain ⟨l0, e0, _⟩ := str_of_trod t0
      obtain ⟨l1, e1, _⟩ := str_of_trod t1
      exact ⟨(l0, l1), e0, e1⟩
    obtain ⟨q, hq⟩ := Deep.choose_lt (α := R2) key
    have hll : ((List.range len).map q).length = len := by simp
    refine ⟨(List.range len).map q, rcells_length _, ⟨_, cap, by rw [hll], by omega, hm, ?_⟩, ?_⟩
    · rcases hsp with h | ⟨rfl, h⟩
      · exact .inl h
      · exact .inr ⟨b, off, rfl, h⟩
    · intro b' off' m' c' he j u hu
      injection he with e1 _ _; injection e1 with e1; injection e1 with e1 e2 e3; subst e1 e2 e3
      have hj := (List.getElem?_eq_some_iff.1 hu).1
      rw [rcells_length, hll] at hj
      obtain ⟨i, hi⟩ : ∃ i, i = j / 2 := ⟨_, rfl⟩
      have hil : i < len := by omega
      have hrg := rcells_get ((List.range len).map q) i (by rw [hll]; exact hil)
      have hqi : ((List.range len).map q)[i]'(by rw [hll]; exact hil) = q i := by simp
      rw [hqi] at hrg
      obtain ⟨k0, k1, _, _⟩ := hx i (by omega)
      obtain ⟨s0, s1⟩ := hq i (by omega)
      rw [Addr.add_mid] at k0 k1
      rcases (by omega : j = i * 2 ∨ j = i * 2 + 1) with rfl | rfl
      · rw [hrg.1] at hu; injection hu with hu
        rw [k0, s0, hu]
      · rw [hrg.2] at hu; injection hu with hu
        rw [← Nat.add_assoc, ← hu, ← s1]
        rw [← Nat.add_assoc] at k1
        exact k1
theorem cOne : Tryz.prog.cellsOf 3 = 1 ∧ Tryz.prog.cellsOf 26 = 1 ∧ Tryz.prog.cellsOf 2 = 1 ∧ Tryz.prog.cellsOf 27 = 1 ∧ Tryz.prog.cellsOf 28 = 1 ∧ Tryz.prog.cellsOf 9 = 1 ∧ Tryz.prog.cellsOf 4 = 1 ∧ Tryz.prog.cellsOf 30 = 8 ∧ Tryz.prog.cellsOf 32 = 9 := ⟨by kernel_rfl, by kernel_rfl, by kernel_rfl, by kernel_rfl, by kernel_rfl, by kernel_rfl, by kernel_rfl, by kernel_rfl, by kernel_rfl⟩
set_option maxRecDepth 100000 in
theorem node_of_trod {cs : List Value} (hf : DataW.trod enc Tryz.prog W 0 (fun _ => true) true fuel 30 cs = some x) :
    ∃ n av dv, cs = (ndC n av dv).toList ∧ NdR W (· < W.heap.size) n av dv ∧ -9223372036854775808 ≤ n.kind ∧ n.kind ≤ 9223372036854775807 := by
  obtain ⟨xs, k, -, -, hlen, hxs, hg⟩ := DataW.trod_struct Tryz.underlying30 hf
  obtain ⟨c1, c2, c3, c4, c5, c6, c7, c8, -⟩ := cOne
  rw [c8] at hlen
  obtain ⟨v0, v1, v2, v3, v4, v5, v6, v7, rfl⟩ : ∃ v0 v1 v2 v3 v4 v5 v6 v7, cs = [v0, v1, v2, v3, v4, v5, v6, v7] := by
    match cs, hlen with
    | [v0, v1, v2, v3, v4, v5, v6, v7], _ => exact ⟨v0, v1, v2, v3, v4, v5, v6, v7, rfl⟩
  obtain ⟨y0, y1, y2, y3, y4, y5, y6, y7, rfl⟩ : ∃ y0 y1 y2 y3 y4 y5 y6 y7, xs = [y0, y1, y2, y3, y4, y5, y6, y7] := by
    match xs, hxs with
    | [v0, v1, v2, v3, v4, v5, v6, v7], _ => exact ⟨v0, v1, v2, v3, v4, v5, v6, v7, rfl⟩
  have g0 := hg 0 _ rfl
  have g1 := hg 1 _ rfl
  have g2 := hg 2 _ rfl
  have g3 := hg 3 _ rfl
  have g4 := hg 4 _ rfl
  have g5 := hg 5 _ rfl
  have g6 := hg 6 _ rfl
  have g7 := hg 7 _ rfl
  simp only [List.getElem?_cons_zero, List.getElem?_cons_succ] at g0 g1 g2 g3 g4 g5 g6 g7
  obtain ⟨n0, h0, _, w0⟩ := DataW.trod_int Tryz.underlying3 g0
  obtain ⟨n1, h1, _, _⟩ := DataW.trod_int Tryz.underlying26 g1
  obtain ⟨n2, h2, _, _⟩ := DataW.trod_int Tryz.underlying26 g2
  obtain ⟨n3, h3, _, _⟩ := DataW.trod_int Tryz.underlying26 g3
  obtain ⟨n4, h4, _, _⟩ := DataW.trod_int Tryz.underlying2 g4
  obtain ⟨l5, h5⟩ := attrs_of_trod g5
  obtain ⟨l6, h6⟩ := reads_of_trod Tryz.underlying28 Tryz.underlying5 (by kernel_rfl) g6
  obtain ⟨l7, h7, _⟩ := str_of_trod g7
  injection h0 with h0 _; injection h1 with h1 _; injection h2 with h2 _; injection h3 with h3 _; injection h4 with h4 _
  subst h0 h1 h2 h3 h4 h7
  have hm1 : IntKind.i64.min = -9223372036854775808 := rfl
  have hm2 : IntKind.i64.max = 9223372036854775807 := rfl
  simp only [Lit.wf, Bool.and_eq_true, decide_eq_true_eq, hm1, hm2] at w0
  exact ⟨⟨n0, n1, n2, n3, n4, l5, l6, l7⟩, v5, v6, rfl, ⟨h5, h6⟩, by exact w0⟩
set_option maxRecDepth 100000 in
theorem mb_of_trod {cs : List Value} (hf : DataW.trod enc Tryz.prog W 0 (fun _ => true) true fuel 32 cs = some x) :
    ∃ y : Mv, cs = (mcell y).toList ∧ NdR W (· < W.heap.size) y.1.2 y.2.1 y.2.2 ∧ Kb y.1 := by
  obtain ⟨xs, k, -, -, hlen, hxs, hg⟩ := DataW.trod_struct Tryz.underlying32 hf
  obtain ⟨c1, c2, c3, c4, c5, c6, c7, c8, c9⟩ := cOne
  rw [c9] at hlen
  obtain ⟨v0, v1, v2, v3, v4, v5, v6, v7, v8, rfl⟩ : ∃ v0 v1 v2 v3 v4 v5 v6 v7 v8, cs = [v0, v1, v2, v3, v4, v5, v6, v7, v8] := by
    match cs, hlen with
    | [v0, v1, v2, v3, v4, v5, v6, v7, v8], _ => exact ⟨v0, v1, v2, v3, v4, v5, v6, v7, v8, rfl⟩
  obtain ⟨y0, y1, rfl⟩ : ∃ y0 y1, xs = [y0, y1] := by
    match xs, hxs with
    | [v0, v1], _ => exact ⟨v0, v1, rfl⟩
  have g0 := hg 0 _ rfl
  have g1 := hg 1 _ rfl
  simp only [List.getElem_toArray, List.getElem_cons_succ, List.getElem_cons_zero, c6, c8, List.drop_succ_cons, List.drop_zero, List.take_succ_cons, List.take_zero, List.getElem?_cons_zero, List.getElem?_cons_succ] at g0 g1
  obtain ⟨l0, h0, _⟩ := str_of_trod g0
  obtain ⟨n, av, dv, h1, h2, h3⟩ := node_of_trod g1
  subst h0
  refine ⟨((l0, n), av, dv), ?_, h2, h3⟩
  rw [h1]; rfl
set_option maxRecDepth 100000 in
/-- a slice of rows of k cells -/
theorem slice_of_trod {α : Type} [Inhabited α] {t e : TypeId} {k : Nat} (ht : Tryz.prog.underlying t = some (.slice e)) (hk : Tryz.prog.cellsOf e = k) (hk0 : 0 < k) (cl : α → List Value) (hcl : ∀ a, (cl a).length = k) (p : α → Prop) (cells : List α → List Value) (hlen : ∀ l, (cells l).length = l.length * k)
    (hcells : ∀ (l : List α) (j i : Nat) (h : j < l.length), i < k → (cells l)[j * k + i]? = (cl l[j])[i]?)
    (hel : ∀ (n : Nat) (cs : List Value) (y : DataW H × List MemPlace), DataW.trod enc Tryz.prog W 0 (fun _ => true) true n e cs = some y → ∃ a, cs = cl a ∧ p a)
    {v : Value} (hf : DataW.trod enc Tryz.prog W 0 (fun _ => true) true fuel t [v] = some x) : ∃ l : List α, RdV W (· < W.heap.size) k v l.length (cells l) ∧ ∀ a ∈ l, p a := by
  rcases Deep.open_slice ht hf with ⟨hcs, _⟩ | ⟨⟨b, off, sp⟩, len, cap, m, n, D, Pl, hcs, _, hl, hm, hmm, _, hx⟩
  · injection hcs with hcs _
    subst hcs
    refine ⟨[], ⟨by simp [hlen], ⟨_, _, rfl, Nat.zero_le _, Nat.zero_le _, .inl rfl⟩, fun _ _ _ _ e j u hu => by cases e⟩, fun a ha => (List.not_mem_nil ha).elim⟩
  · injection hcs with hcs _
    subst hcs
    simp only [if_true] at hmm
    rw [hk] at hx
    have key : ∀ i, i < m → ∃ a, (∀ j u, (cl a)[j]? = some u → W.cell? ((⟨b, off, sp⟩ : Addr).add (i * k + j)) = some u) ∧ p a := fun i hi => by
      obtain ⟨cs', h1, h2⟩ := hx i hi
      obtain ⟨_, hl', hcell⟩ := World.cells?_some h1
      obtain ⟨a, rfl, hp⟩ := hel _ _ _ h2
      refine ⟨a, fun j u hj => ?_, hp⟩
      have hjl := (List.getElem?_eq_some_iff.1 hj).1
      rw [hcl] at hjl
      have := hcell j hjl
      rw [Deep.add_add] at this
      rw [this]; exact hj
    obtain ⟨q, hq⟩ := Deep.choose_lt (α := α) key
    have hsp : cap = 0 ∨ (sp = none ∧ b < W.heap.size) := by
      rcases Nat.eq_zero_or_pos cap with h | h
      · exact .inl h
      · have h0 := (hq 0 (by omega)).1 0 ((cl (q 0))[0]'(by rw [hcl]; exact hk0)) (List.getElem?_eq_getElem _)
        rw [Nat.zero_mul, Nat.add_zero] at h0
        exact .inr (cell_spot h0)
    have hll : ((List.range len).map q).length = len := by simp
    refine ⟨(List.range len).map q, ⟨hlen _, ⟨_, cap, by rw [hll], by omega, hm, ?_⟩, ?_⟩, fun a ha => ?_⟩
    · rcases hsp with h | ⟨rfl, h⟩
      · exact .inl h
      · exact .inr ⟨b, off, rfl, h⟩
    · intro b' off' m' c' he j u hu
      injection he with e1 _ _; injection e1 with e1; injection e1 with e1 e2 e3; subst e1 e2 e3
      have hj := (List.getElem?_eq_some_iff.1 hu).1
      rw [hlen, hll] at hj
      have hil : j / k < len := Nat.div_lt_of_lt_mul (by rw [Nat.mul_comm]; exact hj)
      have hjk : j / k * k + j % k = j := Nat.div_add_mod' j k
      have hrg := hcells ((List.range len).map q) (j / k) (j % k) (by rw [hll]; exact hil) (Nat.mod_lt _ hk0)
      rw [hjk, hu] at hrg
      have hqi : ((List.range len).map q)[j / k]'(by rw [hll]; exact hil) = q (j / k) := by simp
      rw [hqi] at hrg
      have := (hq (j / k) (by omega)).1 (j % k) u hrg.symm
      rw [hjk, Addr.add_mid] at this
      exact this
    · obtain ⟨i, hi, rfl⟩ := List.mem_map.1 ha
      exact (hq i (by have := List.mem_range.1 hi; omega)).2
instance : Inhabited Nd := ⟨⟨0, 0, 0, 0, 0, [], [], []⟩⟩
set_option maxRecDepth 100000 in
/-- AN ARGUMENT OF TYPE []Member, OPENED -/
theorem opened_mbs {r : Reach} {base : Nat} {v : Value} {d : DataW H} {ps : List MemPlace} (hok : Value.okWide Tryz.prog W r base 35 v) (h0 : DataW.Trod enc Tryz.prog W 0 (fun _ => true) true 35 v d ps) :
    ∃ l : List Mv, Mbs W (· < W.heap.size) (· < W.heap.size) v l ∧ ∀ a ∈ l, Kb a.1 := by
  obtain ⟨fuel, hf⟩ := h0
  replace hf : DataW.trod enc Tryz.prog W 0 (fun _ => true) true fuel 35 [v] = some (d, ps) := by
    rcases okSlice Tryz.underlying35 hok with rfl | ⟨b, off, len, cap, rfl, -, -, -⟩ <;> exact hf
  obtain ⟨l, h1, h2⟩ := slice_of_trod (α := Mv) (k := 9) Tryz.underlying35 (by kernel_rfl) (by decide) (fun y => (mcell y).toList) mcell_len (fun y => NdR W (· < W.heap.size) y.1.2 y.2.1 y.2.2 ∧ Kb y.1) mcells mcells_length (fun l j i h hi => by rw [mcells_get l j i h hi]; simp) (fun n cs y h => mb_of_trod h) hf
  exact ⟨l, ⟨h1, fun a ha => (h2 a ha).1⟩, fun a ha => (h2 a ha).2⟩
end
end Go.Proofs.YtplafpokgpolkaaGreatDoor
/- WHAT THE ROWS' LISTED VARIABLES AND THE WORLD'S SHAPE GIVE; and a world that holds the listed variables. -/
namespace Go.Proofs.YtplafpokgpolkaaGreatDoor
open Go.ChangeShapes Go.WideShapes Go.ChangeAt Go.RowKit
theorem mx_of_shape {W : World} (h : W.ShapedOpen Tryz.prog) : Mx W.heap.size W := by
  obtain ⟨m, hm⟩ : ∃ m, W.cell? ⟨2, 0, none⟩ = some (.int .i64 m) := Go.Proofs.cell_of_shapedOpen_int (zero := #[.int .i64 0]) (t := 3) h (of_decide_eq_true (by kernel_rfl)) (by kernel_rfl) rfl (by kernel_rfl) (by kernel_rfl) Tryz.underlying3
  exact ⟨World.block_lt_of_cell? W _ hm, m, hm⟩
/-- what the laws of the trees ask of the world -/
theorem tabs_of {W : World} {l : List (String × DataW Unit)} (hL : laidMetH Tryz.prog l W) (hsh : W.ShapedOpen Tryz.prog) (hc : ("portolan/path.classes", Rows.laid_portolan_path_classes) ∈ l) (ht : ("portolan/tar.types", Rows.laid_portolan_tar_types) ∈ l) : Tabs W.heap.size W :=
  ⟨Nat.le_refl _, mx_of_shape hsh, cls_of_laid hL hc, typ_of_laid (laidMetH_iff.1 hL).1 (List.mem_filter.2 ⟨ht, rfl⟩)⟩
/-- A WORLD FOR THE WITNESS -/
def layRow (c : Array Value) : Obj → Obj
  | .cells _ t frozen => .cells c t frozen
  | o => o
def classesMap : Obj := .map #[⟨.int .i64 1, .func (.func 215) #[] #[], 0⟩, ⟨.int .i64 2, .func (.func 216) #[] #[], 1⟩, ⟨.int .i64 3, .func (.func 217) #[] #[], 2⟩] 3
def typesMap : Obj := .map #[⟨.int .i64 1, .int .u8 53, 0⟩, ⟨.int .i64 2, .int .u8 48, 1⟩, ⟨.int .i64 3, .int .u8 50, 2⟩, ⟨.int .i64 4, .int .u8 54, 3⟩] 4
noncomputable def lowM : Nat := (World.holding Tryz.prog default ⟨#[], #[], []⟩).heap.size
noncomputable def laidWorld (os : Os) : World :=
  let w0 := World.holding Tryz.prog os ⟨#[classesMap, typesMap], #[], []⟩
  let h2 := Array.modify w0.heap 4 (layRow ((List.range 16).flatMap fun i => [Value.int .u8 (Lib.accLo i), Value.int .u8 (Lib.accHi i)]).toArray)
  let h3 := Array.modify h2 3 (layRow (Lib.firstTab.map fun z => Value.int .u8 z).toArray)
  let h4 := Array.modify h3 0 (layRow #[.map (some lowM)])
  let h5 := Array.modify h4 1 (layRow #[.map (some (lowM + 1))])
  { w0 with heap := h5 }
end Go.Proofs.YtplafpokgpolkaaGreatDoor
