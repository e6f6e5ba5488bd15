/- PARTS OF ONE PROOF, set in one file: ChPlain, ChApply, DifferChain, Nest, Ok, NodeOpen, TreeLaid, OpenS. Each part tells its own conditions. -/
import Derived.Deep.Slices
import Derived.Deep.SlicePairs
import Derived.Lib.LaidU8
import Derived.LaidHandle
import Derived.LaidSub
import Derived.PinnedBridge
import Derived.Deep.DeepWitnessRowRef
import Derived.SliceStrings
import Derived.Test.YtmnknmpfkjhgbaaGreatDoorP1
import Derived.Test.YtmnknmpfkjhgbaaGreatDoorP2
import Derived.Test.YtmnknmpfkjhgbaaGreatDoorP3
import Derived.Test.YtmnknmpfkjhgbaaGreatDoorP4
import Derived.Test.YtmnknmpfkjhgbaaGreatDoorP6
import Derived.Test.YtmnknmpfkjhgbaaGreatDoorP7
import Derived.Test.YtmnknmpfkjhgbaaGreatDoorP8
import Derived.Test.YtmnknmpfkjhgbaaGreatDoorP9
import Derived.Test.YtmnknmpfkjhgbaaGreatDoorP11
import Derived.Test.YtmnknmpfkjhgbaaGreatDoorP13
import Derived.Test.YtmnknmpfkjhgbaaGreatDoorP15
/- change.of, Plain. -/
namespace Go.Proofs.YtmnknmpfkjhgbaaGreatDoor
open Go.RowKit
theorem buildE (b1 b2 b3 : Nat) (w : World) : (Instr.build 84 #[(0, .map (some b1)), (1, .map (some b2)), (2, .map (some b3))]).run Tryz.prog w = .ok (.agg #[.map (some b1), .map (some b2), .map (some b3)]) w := by kernel_rfl
theorem tgt_len (p : Tx) : (classP p).2.length ≤ p.length := by
  rcases told p with ⟨hc, _⟩ | ⟨hc, _, _⟩ | ⟨t, hc, _, _, hl⟩ | ⟨t, hc, _, _, hl⟩ | ⟨hc, _, _⟩
  · rw [hc]; simp
  · rw [hc]; exact Nat.le_refl _
  · rw [hc]; exact hl
  · rw [hc]; exact hl
  · rw [hc]; simp
set_option maxHeartbeats 4000000 in
set_option maxRecDepth 100000 in
theorem of_any (v : Value) (l : List Mv) (B : Nat) (w : World) (hT : Tabs B w) (hr : Mbs w (· < w.heap.size) (· < w.heap.size) v l) (hs : ∀ x ∈ l, Sm x.1) (hl : l.length ≤ 1000000) :
    Calls Tryz.prog 47 #[v] w fun e w' => ∃ b1 b2 b3, e = .returned (.agg #[.map (some b1), .map (some b2), .map (some b3)]) ∧ EffIn w' b1 b2 b3 (l.map (·.1)) ∧ (w.heap.size ≤ b1 ∧ w.heap.size ≤ b2 ∧ w.heap.size ≤ b3) ∧ Below w.heap.size w w' := by
  obtain ⟨a, cap, hv, hcap, hmx, h3⟩ := hr.rd.shape
  have HR := Keep.keep hr; have H3 := Keep.keep h3; have HT := Keep.keep hT; have HS := Keep.keep hs
  unfold maxLen at hmx
  clear hr h3 hT hs
  subst hv
  have hmm := @run_makeMap Tryz.prog
  have hbe := buildE
  obtain ⟨S, hS⟩ : ∃ S, l.map (·.1) = S := ⟨_, rfl⟩
  have HSL : Keep (S.length = l.length) := ⟨by rw [← hS, List.length_map]⟩
  have HSS := Keep.keep hS
  rw [hS]
  clear hS
  go_enter Tryz.func47, Tryz.ntmps47
  go_upto_region 2 with fail
  obtain ⟨b0, hb0⟩ : ∃ b0, w.heap.size = b0 := ⟨_, rfl⟩
  refine wp_world (R := fun w1 => Hp NoM w w1 [rowA b0 84 #[.map none, .map none, .map none], msA 9 (b0 + 1) [], msA 9 (b0 + 2) [], msA 9 (b0 + 3) [], rowA (b0 + 4) 84 #[.map (some (b0 + 1)), .map (some (b0 + 2)), .map (some (b0 + 3))]]) ?_ ?_
  · have h1 := ((((Hp.begin NoM w).newRow 84 #[.map none, .map none, .map none]).newMap 9).newMap 9).newMap 9
    have h2 := h1.newRow 84 #[.map (some (b0 + 1)), .map (some (b0 + 2)), .map (some (b0 + 3))]
    simpa [hb0, Nat.add_assoc] using h2
  intro w1 H1
  clear hmm hbe
  go_wp2_with fail
  go_loopg [14] l.length (fun g u14 wx => ∃ (k : Nat) (M1 M2 M3 : List (Tx × Value)), k + g = l.length ∧ u14 = .int .i64 (k : Int) ∧ M1.length ≤ k ∧ M2.length ≤ k ∧ M3.length ≤ k ∧ MapIs (.bool false) M1 (gonV (S.take k)) ∧ MapIs (.bool false) M2 (mrkV (S.take k)) ∧ MapIs (.int .i64 0) M3 (ovrV (S.take k)) ∧
    Hp NoM w wx [rowA b0 84 #[.map none, .map none, .map none], msA 9 (b0 + 1) M1, msA 9 (b0 + 2) M2, msA 9 (b0 + 3) M3, rowA (b0 + 4) 84 #[.map (some (b0 + 1)), .map (some (b0 + 2)), .map (some (b0 + 3))]])
  case atStart => exact ⟨0, [], [], [], by omega, rfl, Nat.le_refl _, Nat.le_refl _, Nat.le_refl _, fun q => rfl, fun q => rfl, fun q => rfl, H1.out⟩
  case round =>
    obtain ⟨k, M1, M2, M3, hkg, rfl, hl1, hl2, hl3, hg, hm, ho, hH⟩ := hrel
    have HG := Keep.keep hg; have HM := Keep.keep hm; have HO := Keep.keep ho; have HH := Keep.keep hH
    clear hg hm ho hH H1
    cases gk with
    | zero =>
      obtain rfl : k = l.length := by omega
      have HTK : Keep (S.take l.length = S) := ⟨by rw [← HSL.out, List.take_length]⟩
      rw [HTK.out] at HG HM HO
      have HRA := Keep.keep (HH.out.row 4 rfl)
      have HRB := Keep.keep (HH.out.row 0 rfl)
      have HSA : Keep ((#[.map (some (b0 + 1)), .map (some (b0 + 2)), .map (some (b0 + 3))] : Array Value).size = 3) := ⟨rfl⟩
      have HSB : Keep ((#[.map none, .map none, .map none] : Array Value).size = 3) := ⟨rfl⟩
      have HON : Keep ((#[.map (some (b0 + 1)), .map (some (b0 + 2)), .map (some (b0 + 3))] : Array Value).all (·.oneCell') = true) := ⟨by simp [Value.oneCell']⟩
      go_wp2_with (first | ((with_reducible refine arm_loadRow HRA.out aggE HSA.out ?_ ?_); (focus rfl); simp only [Act.put, List.setIfInBounds_toArray, List.set_cons_succ, List.set_cons_zero]) | ((with_reducible refine arm_storeRow HRB.out aggE HSB.out HSA.out HON.out ?_ ?_ ?_); (focus rfl); (focus rfl); simp only [Act.put]))
      have hoth : ∀ b, b ≠ b0 → (wr.setRow b0 #[.map (some (b0 + 1)), .map (some (b0 + 2)), .map (some (b0 + 3))]).heap[b]? = wr.heap[b]? := fun b hb => Go.setRow_other wr b0 b _ hb
      refine bodyPost_ret (results_row (p := 2) (ty := 84) rfl (HRB.out.setRow _) aggE HSA.out rfl) rfl ⟨b0 + 1, b0 + 2, b0 + 3, rfl, ⟨⟨M1, MapS.loc (HH.out.get 1 rfl) (hoth _ (by omega)), HG.out⟩, ⟨M2, MapS.loc (HH.out.get 2 rfl) (hoth _ (by omega)), HM.out⟩, ⟨M3, MapS.loc (HH.out.get 3 rfl) (hoth _ (by omega)), HO.out⟩⟩, by omega, ?_⟩
      exact ((Chg.of_below (M := NoM) HH.out.below).setRow (.inl (by omega)) _).below (fun _ _ h => h)
    | succ g =>
      have hk : k < l.length := by omega
      obtain ⟨b, off, rfl, hbl⟩ : ∃ b off, a = some ⟨b, off, none⟩ ∧ b < w.heap.size := by
        rcases H3.out with h | ⟨b, off, h, hb⟩
        · omega
        · exact ⟨b, off, h, hb⟩
      have hrx := HR.out.below HH.out.below (fun b hb => hb) (fun b hb => hb)
      have hld := hrx.load hk
      have hkS : k < S.length := by rw [HSL.out]; exact hk
      have hSk : S[k] = l[k].1 := by simp [← HSS.out]
      have HTK : Keep (S.take (k + 1) = S.take k ++ [l[k].1]) := ⟨by rw [List.take_succ_eq_append_getElem hkS, hSk]⟩
      have hsx := HS.out l[k] (List.getElem_mem hk)
      have hnd := HR.out.nd l[k] (List.getElem_mem hk)
      clear hrx hSk hkS
      generalize l[k] = x at *
      obtain ⟨⟨xp, ⟨kind, mode, uid, gid, time, attrs, data, link⟩⟩, av, dv⟩ := x
      obtain ⟨aa, la, ca, ad, ld, cd, e1, e2⟩ := hnd.shape
      dsimp only at e1 e2 hsx HTK
      have hxp := hsx.p
      dsimp only at hxp
      subst e1 e2
      unfold mcell mbC strV at hld
      dsimp only at hld
      have htl := tgt_len xp
      have HGS := Keep.keep (fun t => goneE_snoc (S.take k) (xp, ⟨kind, mode, uid, gid, time, attrs, data, link⟩) t)
      have HMS := Keep.keep (fun t => markE_snoc (S.take k) (xp, ⟨kind, mode, uid, gid, time, attrs, data, link⟩) t)
      have HOS := Keep.keep (fun t => overE_snoc (S.take k) (xp, ⟨kind, mode, uid, gid, time, attrs, data, link⟩) t)
      rw [← HTK.out] at HGS HMS HOS
      have HCL := Keep.keep (fun wx (hb : Below w.heap.size w wx) => class_any xp (by omega) B wx (Nat.le_trans HT.out.b hb.size) (HT.out.m.on (hb.mono HT.out.b)) (HT.out.c.on (hb.mono HT.out.b)))
      have hcls : cls (xp, ⟨kind, mode, uid, gid, time, attrs, data, link⟩) = (classP xp).1 := rfl
      have htgt : tgt (xp, ⟨kind, mode, uid, gid, time, attrs, data, link⟩) = (classP xp).2 := rfl
      rw [hcls, htgt] at HGS HMS HOS
      obtain ⟨⟨cl, tg⟩, hcp⟩ : ∃ c, classP xp = c := ⟨_, rfl⟩
      rw [hcp] at HCL htl HGS HMS HOS
      dsimp only at HCL htl HGS HMS HOS
      clear hnd hsx hcls htgt hcp HTK
      go_wp2_with ((with_reducible refine arm_loadM hld ?_ ?_); (focus rfl); simp only [Act.put, List.setIfInBounds_toArray, List.set_cons_succ, List.set_cons_zero])
      refine calls_at (R := fun wq => Hp NoM w wq ([rowA b0 84 #[.map none, .map none, .map none], msA 9 (b0 + 1) M1, msA 9 (b0 + 2) M2, msA 9 (b0 + 3) M3, rowA (b0 + 4) 84 #[.map (some (b0 + 1)), .map (some (b0 + 2)), .map (some (b0 + 3))]] ++ [rowA wr.heap.size 41 #[.string ⟨xp.toArray⟩, .int .i64 kind, .int .u32 mode, .int .u32 uid, .int .u32 gid, .int .i64 time, .slice aa la ca, .slice ad ld cd, .string ⟨link.toArray⟩]])) (HH.out.newRow _ _) ?_
      intro w2 H2
      refine (HCL.out w2 H2.out.below).mono ?_
      rintro e w3 ⟨rfl, hb3⟩
      have H3' := Keep.keep (H2.out.call hb3)
      obtain ⟨b5, hb5⟩ : ∃ b5, wr.heap.size = b5 := ⟨_, rfl⟩
      rw [hb5] at H3' ⊢
      have c0 := (H3'.out.row 4 rfl).cell (i := 0) rfl
      have c1 := (H3'.out.row 4 rfl).cell (i := 1) rfl
      have c2 := (H3'.out.row 4 rfl).cell (i := 2) rfl
      have k1 := (H3'.out.row 5 rfl).cell (i := 1) rfl
      have hm1 : MapS w3 9 (b0 + 1) M1 := H3'.out.get 1 rfl
      have hm2 : MapS w3 9 (b0 + 2) M2 := H3'.out.get 2 rfl
      have hm3 : MapS w3 9 (b0 + 3) M3 := H3'.out.get 3 rfl
      have HM1 := Keep.keep hm1; have HM2 := Keep.keep hm2; have HM3 := Keep.keep hm3
      have htl2 : tg.length ≤ maxLen := by unfold maxLen; omega
      clear hb3 H2 HCL HH hm1 hm2 hm3 hld
      by_cases z2 : cl = 2
      · have h2 : (cl == 2) = true := by rw [z2]; rfl
        go_wp2_with (first | (with_reducible refine arm_sRange ?_) | (with_reducible refine arm_sNext ?_) | (with_reducible refine arm_sDel ?_) | (with_reducible refine arm_sPut ?_) | (with_reducible refine arm_sIns ?_))
        refine StM.out ?_
        refine arm_putS Tryz.underlying9 Tryz.underlying82 HM1.out (p := tg) htl2 (by unfold maxLen; omega) rfl rfl rfl ?_
        intro w4 hm4 hc4
        have H5 := Keep.keep (H3'.out.upd 1 rfl (msA 9 (b0 + 1) (SM.put M1 (tg, .bool true))) hc4 hm4 (fun b hb => .inl hb))
        have HL : Keep ((SM.put M1 (tg, .bool true)).length ≤ k + 1) := ⟨by rw [HM1.out.s.length_put]; split <;> omega⟩
        have HG5 := Keep.keep (HG.out.put (f' := gonV (S.take (k + 1))) (v := .bool true) (p := tg) HM1.out.s (fun q => by
          unfold gonV; rw [HGS.out q, z2]; by_cases e : q = tg
          · subst e; simp
          · have e2 : ¬ tg = q := fun h => e h.symm
            rw [if_neg e]; simp [e2]))
        have HM5 := Keep.keep (HM.out.same (f' := mrkV (S.take (k + 1))) (fun q => by unfold mrkV; rw [HMS.out q, z2]; simp))
        have HO5 := Keep.keep (HO.out.same (f' := ovrV (S.take (k + 1))) (fun q => by unfold ovrV; rw [HOS.out q, z2]; simp))
        clear hm4 hc4 H3' HM1 HM2 HM3 HGS HMS HOS HG HM HO
        simp only [Act.put]
        go_wp2_with fail
        go_roundg g
        case measure => omega
        case rel => exact ⟨k + 1, SM.put M1 (tg, .bool true), M2, M3, by omega, by simp, HL.out, by omega, by omega, HG5.out, HM5.out, HO5.out, H5.out.init⟩
      · have h2 : (cl == 2) = false := by simpa using z2
        by_cases z3 : cl = 3
        · have h3 : (cl == 3) = true := by rw [z3]; rfl
          go_wp2_with (first | (with_reducible refine arm_sRange ?_) | (with_reducible refine arm_sNext ?_) | (with_reducible refine arm_sDel ?_) | (with_reducible refine arm_sPut ?_) | (with_reducible refine arm_sIns ?_))
          refine StM.out ?_
          refine arm_putS Tryz.underlying9 Tryz.underlying82 HM2.out (p := tg) htl2 (by unfold maxLen; omega) rfl rfl rfl ?_
          intro w4 hm4 hc4
          have H5 := Keep.keep (H3'.out.upd 2 rfl (msA 9 (b0 + 2) (SM.put M2 (tg, .bool true))) hc4 hm4 (fun b hb => .inl hb))
          have HL : Keep ((SM.put M2 (tg, .bool true)).length ≤ k + 1) := ⟨by rw [HM2.out.s.length_put]; split <;> omega⟩
          have HG5 := Keep.keep (HG.out.same (f' := gonV (S.take (k + 1))) (fun q => by unfold gonV; rw [HGS.out q, z3]; simp))
          have HM5 := Keep.keep (HM.out.put (f' := mrkV (S.take (k + 1))) (v := .bool true) (p := tg) HM2.out.s (fun q => by
            unfold mrkV; rw [HMS.out q, z3]; by_cases e : q = tg
            · subst e; simp
            · have e2 : ¬ tg = q := fun h => e h.symm
              rw [if_neg e]; simp [e2]))
          have HO5 := Keep.keep (HO.out.same (f' := ovrV (S.take (k + 1))) (fun q => by unfold ovrV; rw [HOS.out q, z3]; simp))
          clear hm4 hc4 H3' HM1 HM2 HM3 HGS HMS HOS HG HM HO
          simp only [Act.put]
          go_wp2_with fail
          go_roundg g
          case measure => omega
          case rel => exact ⟨k + 1, M1, SM.put M2 (tg, .bool true), M3, by omega, by simp, by omega, HL.out, by omega, HG5.out, HM5.out, HO5.out, H5.out.init⟩
        · have h3 : (cl == 3) = false := by simpa using z3
          have HG5 := Keep.keep (HG.out.same (f' := gonV (S.take (k + 1))) (fun q => by unfold gonV; rw [HGS.out q]; simp [z2]))
          have HM5 := Keep.keep (HM.out.same (f' := mrkV (S.take (k + 1))) (fun q => by unfold mrkV; rw [HMS.out q]; simp [z3]))
          by_cases z1 : cl = 1
          · have h1 : (cl == 1) = true := by rw [z1]; rfl
            have hlk := HM3.out.look1 Tryz.underlying9 Tryz.underlying73 (zeroI w3) (p := tg) htl2
            rw [HO.out tg] at hlk
            unfold ovrV at hlk
            by_cases zk : kind = 1
            · have h4 : (kind == 1) = true := by rw [zk]; rfl
              go_wp2_with (first | (with_reducible refine arm_sRange ?_) | (with_reducible refine arm_sNext ?_) | (with_reducible refine arm_sDel ?_) | (with_reducible refine arm_sPut ?_) | (with_reducible refine arm_sIns ?_))
              refine StM.out ?_
              refine arm_putS Tryz.underlying9 Tryz.underlying73 HM3.out (p := tg) (u := .int .i64 (max (overE (S.take k) tg) 1)) htl2 (by unfold maxLen; omega) rfl rfl rfl ?_
              intro w4 hm4 hc4
              have H5 := Keep.keep (H3'.out.upd 3 rfl (msA 9 (b0 + 3) (SM.put M3 (tg, .int .i64 (max (overE (S.take k) tg) 1)))) hc4 hm4 (fun b hb => .inl hb))
              have HL : Keep ((SM.put M3 (tg, .int .i64 (max (overE (S.take k) tg) 1))).length ≤ k + 1) := ⟨by rw [HM3.out.s.length_put]; split <;> omega⟩
              have HO5 := Keep.keep (HO.out.put (f' := ovrV (S.take (k + 1))) (v := .int .i64 (max (overE (S.take k) tg) 1)) (p := tg) HM3.out.s (fun q => by
                unfold ovrV; rw [HOS.out q, z1, zk]; by_cases e : q = tg
                · subst e; simp
                · have e2 : ¬ tg = q := fun h => e h.symm
                  rw [if_neg e]; simp [e2]))
              clear hm4 hc4 H3' HM1 HM2 HM3 HGS HMS HOS HG HM HO hlk
              simp only [Act.put]
              go_wp2_with fail
              go_roundg g
              case measure => omega
              case rel => exact ⟨k + 1, M1, M2, _, by omega, by simp, by omega, by omega, HL.out, HG5.out, HM5.out, HO5.out, H5.out.init⟩
            · have h4 : (kind == 1) = false := by simpa using zk
              go_wp2_with (first | (with_reducible refine arm_sRange ?_) | (with_reducible refine arm_sNext ?_) | (with_reducible refine arm_sDel ?_) | (with_reducible refine arm_sPut ?_) | (with_reducible refine arm_sIns ?_))
              refine StM.out ?_
              refine arm_putS Tryz.underlying9 Tryz.underlying73 HM3.out (p := tg) (u := .int .i64 2) htl2 (by unfold maxLen; omega) rfl rfl rfl ?_
              intro w4 hm4 hc4
              have H5 := Keep.keep (H3'.out.upd 3 rfl (msA 9 (b0 + 3) (SM.put M3 (tg, .int .i64 2))) hc4 hm4 (fun b hb => .inl hb))
              have HL : Keep ((SM.put M3 (tg, .int .i64 2)).length ≤ k + 1) := ⟨by rw [HM3.out.s.length_put]; split <;> omega⟩
              have HO5 := Keep.keep (HO.out.put (f' := ovrV (S.take (k + 1))) (v := .int .i64 2) (p := tg) HM3.out.s (fun q => by
                unfold ovrV; rw [HOS.out q, z1]; by_cases e : q = tg
                · subst e; simp [zk]
                · have e2 : ¬ tg = q := fun h => e h.symm
                  rw [if_neg e]; simp [e2]))
              clear hm4 hc4 H3' HM1 HM2 HM3 HGS HMS HOS HG HM HO hlk
              simp only [Act.put]
              go_wp2_with fail
              go_roundg g
              case measure => omega
              case rel => exact ⟨k + 1, M1, M2, _, by omega, by simp, by omega, by omega, HL.out, HG5.out, HM5.out, HO5.out, H5.out.init⟩
          · have h1 : (cl == 1) = false := by simpa using z1
            have HO5 := Keep.keep (HO.out.same (f' := ovrV (S.take (k + 1))) (fun q => by unfold ovrV; rw [HOS.out q]; simp [z1]))
            clear HM1 HM2 HM3 HGS HMS HOS HG HM HO
            go_wp2_with fail
            go_roundg g
            case measure => omega
            case rel => exact ⟨k + 1, M1, M2, M3, by omega, by simp, by omega, by omega, by omega, HG5.out, HM5.out, HO5.out, H3'.out.init⟩
end Go.Proofs.YtmnknmpfkjhgbaaGreatDoor
/- change.Plain, keeps, Apply. -/
namespace Go.Proofs.YtmnknmpfkjhgbaaGreatDoor
open Go.RowKit
def isPl (x : Mv) : Bool := decide (cls x.1 = 1)
theorem plain_map (l : List Mv) : (l.filter isPl).map (·.1) = plainC (l.map (·.1)) := by
  unfold plainC isPl
  rw [List.filter_map]; rfl
set_option maxHeartbeats 4000000 in
set_option maxRecDepth 100000 in
theorem plain_any (v : Value) (l : List Mv) (B : Nat) (w : World) (hT : Tabs B w) (K : Nat → Prop) (hK : ∀ b, K b → b < w.heap.size) (hr : Mbs w (· < w.heap.size) K v l) (hs : ∀ x ∈ l, Sm x.1) (hl : l.length ≤ 1000000) :
    Calls Tryz.prog 49 #[v] w fun e w' => ∃ v', e = .returned v' ∧ RowM w.heap.size K w' v' (l.filter isPl) ∧ Below w.heap.size w w' := by
  obtain ⟨a, cap, hv, hcap, hmx, h3⟩ := hr.rd.shape
  have HR := Keep.keep hr; have H3 := Keep.keep h3; have HT := Keep.keep hT; have HS := Keep.keep hs; have HKK := Keep.keep hK
  unfold maxLen at hmx
  clear hr h3 hT hs hK
  subst hv
  go_enter Tryz.func49, Tryz.ntmps49
  go_wp2_with fail
  go_loopg [3, 10] l.length (fun g u3 u10 wx => ∃ (k : Nat), k + g = l.length ∧ u10 = .int .i64 (k : Int) ∧ RowM w.heap.size K wx u3 ((l.take k).filter isPl) ∧ Below w.heap.size w wx)
  case atStart => exact ⟨0, by omega, rfl, RowM.nil _ _ _, Below.refl _ _⟩
  case round =>
    obtain ⟨k, hkg, rfl, hrow, hb⟩ := hrel
    have HRW := Keep.keep hrow; have HB := Keep.keep hb
    obtain ⟨a3, c3, hv3, -⟩ := (ownsV_reads hrow.own).shape
    clear hrow hb
    subst hv3
    cases gk with
    | zero =>
      obtain rfl : k = l.length := by omega
      have HTK : Keep (l.take l.length = l) := ⟨List.take_length⟩
      rw [HTK.out] at HRW ⊢
      go_wp2_with fail
      go_ret
      exact ⟨_, rfl, HRW.out, HB.out⟩
    | succ g =>
      have hk : k < l.length := by omega
      obtain ⟨b, off, rfl, hbl⟩ : ∃ b off, a = some ⟨b, off, none⟩ ∧ b < w.heap.size := by
        rcases H3.out with h | ⟨b, off, h, hb⟩
        · omega
        · exact ⟨b, off, h, hb⟩
      have hrx := HR.out.below HB.out (fun b hb => hb) HKK.out
      have hld := hrx.load hk
      have HTK : Keep ((l.take (k + 1)).filter isPl = (l.take k).filter isPl ++ (if isPl l[k] = true then [l[k]] else [])) := ⟨by
        rw [List.take_succ_eq_append_getElem hk, List.filter_append]
        cases h : isPl l[k] <;> simp [h]⟩
      have hsx := HS.out l[k] (List.getElem_mem hk)
      have HND := Keep.keep (HR.out.nd l[k] (List.getElem_mem hk))
      have hlen : ((l.take k).filter isPl).length ≤ k := Nat.le_trans (List.length_filter_le _ _) (by rw [List.length_take]; omega)
      clear hrx
      generalize l[k] = x at *
      generalize (l.take k).filter isPl = acc at *
      obtain ⟨⟨xp, ⟨kind, mode, uid, gid, time, attrs, data, link⟩⟩, av, dv⟩ := x
      obtain ⟨aa, la, ca, ad, ld, cd, e1, e2⟩ := HND.out.shape
      dsimp only at e1 e2 hsx HTK
      have hxp := hsx.p
      dsimp only at hxp
      subst e1 e2
      have HMC : Keep (mcell ((xp, ⟨kind, mode, uid, gid, time, attrs, data, link⟩), .slice aa la ca, .slice ad ld cd) = #[.string ⟨xp.toArray⟩, .int .i64 kind, .int .u32 mode, .int .u32 uid, .int .u32 gid, .int .i64 time, .slice aa la ca, .slice ad ld cd, .string ⟨link.toArray⟩]) := ⟨rfl⟩
      rw [HMC.out] at hld
      have HCL := Keep.keep (fun wx (hb : Below w.heap.size w wx) => class_any xp (by omega) B wx (Nat.le_trans HT.out.b hb.size) (HT.out.m.on (hb.mono HT.out.b)) (HT.out.c.on (hb.mono HT.out.b)))
      have HPL : Keep (isPl ((xp, ⟨kind, mode, uid, gid, time, attrs, data, link⟩), .slice aa la ca, .slice ad ld cd) = ((classP xp).1 == 1)) := ⟨rfl⟩
      obtain ⟨⟨cl, tg⟩, hcp⟩ : ∃ c, classP xp = c := ⟨_, rfl⟩
      rw [hcp] at HCL HPL
      dsimp only at HCL HPL
      clear hsx hcp
      go_wp2_with ((with_reducible refine arm_loadM hld ?_ ?_); (focus rfl); simp only [Act.put, List.setIfInBounds_toArray, List.set_cons_succ, List.set_cons_zero])
      refine calls_at (R := fun wq => Hp NoM wr wq [rowA wr.heap.size 41 #[.string ⟨xp.toArray⟩, .int .i64 kind, .int .u32 mode, .int .u32 uid, .int .u32 gid, .int .i64 time, .slice aa la ca, .slice ad ld cd, .string ⟨link.toArray⟩]]) ((Hp.begin NoM wr).newRow _ _) ?_
      intro w2 H2
      have hbw2 := HB.out.trans (H2.out.below.mono HB.out.size)
      refine (HCL.out w2 hbw2).mono ?_
      rintro e w3 ⟨rfl, hb3⟩
      have H3' := Keep.keep (H2.out.call hb3)
      have HB3 := Keep.keep (HB.out.trans (H3'.out.below.mono HB.out.size))
      have HRW3 := Keep.keep (HRW.out.below H3'.out.below)
      obtain ⟨b5, hb5⟩ : ∃ b5, wr.heap.size = b5 := ⟨_, rfl⟩
      have HB5 := Keep.keep hb5
      rw [hb5] at H3' ⊢
      have HMR := Keep.keep (H3'.out.row 0 rfl)
      have HSZ : Keep ((#[.string ⟨xp.toArray⟩, .int .i64 kind, .int .u32 mode, .int .u32 uid, .int .u32 gid, .int .i64 time, .slice aa la ca, .slice ad ld cd, .string ⟨link.toArray⟩] : Array Value).size = 9) := ⟨rfl⟩
      have hsw3 := HB3.out.size
      clear hb3 H2 HCL hbw2 hld HRW
      cases hz : (cl == 1) with
      | false =>
        rw [hz] at HPL
        rw [HPL.out, if_neg (by decide), List.append_nil] at HTK
        go_wp2_with fail
        go_roundg g
        case measure => omega
        case rel => exact ⟨k + 1, by omega, by simp, by rw [HTK.out]; exact HRW3.out, HB3.out⟩
      | true =>
        rw [hz] at HPL
        rw [HPL.out, if_pos rfl] at HTK
        go_wp2_with (first | ((with_reducible refine arm_loadRow HMR.out aggM HSZ.out ?_ ?_); (focus rfl); simp only [Act.put, List.setIfInBounds_toArray, List.set_cons_succ, List.set_cons_zero]) | (with_reducible refine arm_stop ?_))
        refine Stopped.out ?_
        have hal : Below w3.heap.size w3 (w3.alloc (.cells #[.string ⟨xp.toArray⟩, .int .i64 kind, .int .u32 mode, .int .u32 uid, .int .u32 gid, .int .i64 time, .slice aa la ca, .slice ad ld cd, .string ⟨link.toArray⟩] 41)) := (Below.refl _ _).alloc (Nat.le_refl _) _
        have HAL := Keep.keep hal
        have hrA := HRW3.out.below hal
        have hm : Mbs (w3.alloc (.cells #[.string ⟨xp.toArray⟩, .int .i64 kind, .int .u32 mode, .int .u32 uid, .int .u32 gid, .int .i64 time, .slice aa la ca, .slice ad ld cd, .string ⟨link.toArray⟩] 41)) (fun _ => True) K (.slice (some ⟨w3.heap.size, 0, none⟩) 1 1) [((xp, ⟨kind, mode, uid, gid, time, attrs, data, link⟩), .slice aa la ca, .slice ad ld cd)] :=
          ⟨RdV.new (N := fun _ => True) 41 [.string ⟨xp.toArray⟩, .int .i64 kind, .int .u32 mode, .int .u32 uid, .int .u32 gid, .int .i64 time, .slice aa la ca, .slice ad ld cd, .string ⟨link.toArray⟩] 9 1 _ rfl rfl (by unfold maxLen; omega) trivial, fun y hy => by
            obtain rfl : y = ((xp, ⟨kind, mode, uid, gid, time, attrs, data, link⟩), .slice aa la ca, .slice ad ld cd) := by simpa using hy
            exact ((HND.out.below HB3.out HKK.out).below (hal.mono HB3.out.size) HKK.out)⟩
        refine arm_appM (B := w.heap.size) hrA (Nat.le_trans hsw3 hal.size) hm (fun b hb => ⟨.inl hb, by have := HKK.out b hb; have := hal.size; omega, fun e => by have := (hrA.lt e).1; have := HKK.out b hb; omega⟩) (by simp; omega) rfl rfl ?_
        intro v4 w4 hr4 hg4 hov4 hsh4
        obtain ⟨a4, c4, rfl⟩ := hsh4
        have HR4 := Keep.keep hr4
        have HB4 : Keep (Below w.heap.size w w4) := ⟨(HB3.out.trans (hal.mono HB3.out.size)).trans (hrA.chg (Nat.le_trans hsw3 hal.size) hg4)⟩
        clear hr4 hg4 hov4 hm hrA hal HRW3 HAL
        simp only [Act.put, List.setIfInBounds_toArray, List.set_cons_succ, List.set_cons_zero]
        go_wp2_with fail
        go_roundg g
        case measure => omega
        case rel => exact ⟨k + 1, by omega, by simp, by rw [HTK.out]; exact HR4.out, HB4.out⟩
theorem ent_keeps1 : ∀ args w, (callFunc 93 args).run Tryz.prog w = .ok (.enter 93 args) w := enters_of Tryz.func93 (by kernel_rfl) rfl
theorem ent_stays : ∀ args w, (callFunc 48 args).run Tryz.prog w = .ok (.enter 48 args) w := enters_of Tryz.func48 (by kernel_rfl) rfl
set_option maxHeartbeats 1000000 in
set_option maxRecDepth 100000 in
theorem keeps1_any (x : Mv) (hs : Sm x.1) (hsh : NdS x) (b1 b2 b3 bf : Nat) (S : List Mb) (w : World) (h : EffIn w b1 b2 b3 S) (hc : w.cell? ⟨bf, 0, none⟩ = some (.func (.func 48) #[.agg #[.map (some b1), .map (some b2), .map (some b3)]] #[])) :
    Calls Tryz.prog 93 #[.agg (mcell x), .pointer (some ⟨bf, 0, none⟩)] w fun e w' => e = .returned (.bool (!staysC S x.1.1)) ∧ Below w.heap.size w w' := by
  obtain ⟨⟨xp, ⟨kind, mode, uid, gid, time, attrs, data, link⟩⟩, av, dv⟩ := x
  obtain ⟨aa, la, ca, ad, ld, cd, e1, e2⟩ := hsh
  dsimp only at e1 e2
  have hxp := hs.p
  dsimp only at hxp ⊢
  subst e1 e2
  have HMC : Keep (mcell ((xp, ⟨kind, mode, uid, gid, time, attrs, data, link⟩), .slice aa la ca, .slice ad ld cd) = #[.string ⟨xp.toArray⟩, .int .i64 kind, .int .u32 mode, .int .u32 uid, .int .u32 gid, .int .i64 time, .slice aa la ca, .slice ad ld cd, .string ⟨link.toArray⟩]) := ⟨rfl⟩
  rw [HMC.out]
  have hlt : bf < w.heap.size := World.block_lt_of_cell? w _ hc
  have HS : Keep (∀ wx, Below w.heap.size w wx → Calls Tryz.prog 48 #[.agg #[.map (some b1), .map (some b2), .map (some b3)], .string ⟨xp.toArray⟩] wx fun e w' => e = .returned (.bool (staysC S xp)) ∧ Below wx.heap.size wx w') := ⟨fun wx hb => stays_any b1 b2 b3 S xp (by omega) wx (h.below hb)⟩
  generalize staysC S xp = st at *
  have hent := ent_stays
  have HC : Keep (∀ wx, Below w.heap.size w wx → wx.cell? ⟨bf, 0, none⟩ = some (.func (.func 48) #[.agg #[.map (some b1), .map (some b2), .map (some b3)]] #[])) := ⟨fun wx hb => by rw [hb.cell (p := ⟨bf, 0, none⟩) hlt]; exact hc⟩
  clear h hc hs
  go_enter Tryz.func93, Tryz.ntmps93
  go_upto_region 1 with fail
  refine wp_world (R := fun w1 => Hp NoM w w1 [rowA w.heap.size 41 #[.string ⟨xp.toArray⟩, .int .i64 kind, .int .u32 mode, .int .u32 uid, .int .u32 gid, .int .i64 time, .slice aa la ca, .slice ad ld cd, .string ⟨link.toArray⟩]]) ((Hp.begin NoM w).newRow _ _) ?_
  intro w1 H1
  have hc := HC.out w1 H1.out.below
  have c0 := (H1.out.row 0 rfl).cell (i := 0) rfl
  go_wp2_with fail
  refine (HS.out w1 H1.out.below).mono ?_
  rintro e w2 ⟨rfl, hb2⟩
  have H2 := Keep.keep (H1.out.call hb2).below
  clear hb2
  go_wp2_with fail
  go_ret
  exact ⟨rfl, H2.out⟩
set_option maxHeartbeats 1000000 in
set_option maxRecDepth 100000 in
theorem keeps_any (v : Value) (l : List Mv) (base : Nat) (K : Nat → Prop) (b1 b2 b3 : Nat) (S : List Mb) (w : World) (hB : base ≤ w.heap.size) (hl : l.length ≤ 1000000) (hs : ∀ x ∈ l, Sm x.1) (h : RowM base K w v l) (hE : EffIn w b1 b2 b3 S) (hne : ∀ b, v.ownBlock = some b → b ≠ b1 ∧ b ≠ b2 ∧ b ≠ b3) :
    Calls Tryz.prog 46 #[v, .func (.func 48) #[.agg #[.map (some b1), .map (some b2), .map (some b3)]] #[]] w fun e w' => ∃ v', e = .returned v' ∧ RowM base K w' v' (l.filter fun x => staysC S x.1.1) ∧ v'.ownBlock = v.ownBlock ∧ Chg (fun b => v.ownBlock = some b) w.heap.size w w' := by
  have HH := Keep.keep h; have HE := Keep.keep hE
  have HLT := Keep.keep (fun b e => (h.lt (b := b) e).2)
  have HNS := Keep.keep (fun x hx => (h.nd x hx).shape)
  have hf2 : (fun x : Mv => !!staysC S x.1.1) = fun x => staysC S x.1.1 := by funext x; simp
  have HD : Keep (∀ w1 bf, Below w.heap.size w w1 → bf = w.heap.size → w1.cell? ⟨bf, 0, none⟩ = some (.func (.func 48) #[.agg #[.map (some b1), .map (some b2), .map (some b3)]] #[]) →
      Calls Tryz.prog 92 #[v, .func (.func 93) #[] #[.pointer (some ⟨bf, 0, none⟩)]] w1 fun e w' => ∃ v', e = .returned v' ∧ RowM base K w' v' (l.filter fun x => staysC S x.1.1) ∧ v'.ownBlock = v.ownBlock ∧ Chg (fun b => v.ownBlock = some b) w1.heap.size w1 w') := ⟨fun w1 bf hb hbf hc => by
    have := dfuncM 93 #[.pointer (some ⟨bf, 0, none⟩)] (fun m => !staysC S m.1) v l base K w1 ent_keeps1 (Nat.le_trans hB hb.size) (by omega) (fun wx hch x hx => by
      have hEx : EffIn wx b1 b2 b3 S := (hE.below hb).loc (fun b hb' => hch.block b (by
        have := (hE.below hb).lt
        rcases hb' with rfl | rfl | rfl <;> omega) (fun e => by
        have := hne b e
        rcases hb' with rfl | rfl | rfl <;> simp at this))
      have hcx : wx.cell? ⟨bf, 0, none⟩ = some (.func (.func 48) #[.agg #[.map (some b1), .map (some b2), .map (some b3)]] #[]) := by
        rw [hch.cell (p := ⟨bf, 0, none⟩) (World.block_lt_of_cell? w1 _ hc) (fun e => by have := HLT.out bf e; omega)]; exact hc
      have := keeps1_any x (hs x hx) (HNS.out x hx) b1 b2 b3 bf S wx hEx hcx
      simpa using this) (h.below hb)
    rw [hf2] at this
    exact this⟩
  obtain ⟨a, cap, hv, -⟩ := (ownsV_reads h.own).shape
  clear h hE hs hf2
  subst hv
  go_enter Tryz.func46, Tryz.ntmps46
  go_wp2_with fail
  refine calls_at (R := fun w1 => Below w.heap.size w w1 ∧ w1.cell? ⟨w.heap.size, 0, none⟩ = some (.func (.func 48) #[.agg #[.map (some b1), .map (some b2), .map (some b3)]] #[])) ⟨(Below.refl _ _).alloc (Nat.le_refl _) _, (Row.new w _ _).cell (i := 0) rfl⟩ ?_
  intro w1 H1
  refine (HD.out w1 _ H1.out.1 rfl H1.out.2).mono ?_
  rintro e w2 ⟨v2, rfl, hr2, ho2, hc2⟩
  have HR2 := Keep.keep hr2; have HO2 := Keep.keep ho2
  have HC2 : Keep (Chg (fun b => (Value.slice a l.length cap).ownBlock = some b) w.heap.size w w2) := ⟨(Chg.of_below H1.out.1).trans (hc2.lower H1.out.1.size)⟩
  obtain ⟨a2, c2, hv2, -⟩ := (ownsV_reads hr2.own).shape
  clear hr2 ho2 hc2
  subst hv2
  go_wp2_with fail
  go_ret
  exact ⟨_, rfl, HR2.out, HO2.out, HC2.out⟩
set_option maxHeartbeats 4000000 in
set_option maxRecDepth 100000 in
theorem apply_any (T mb : Nat) (Bk : Nat → Prop) (f : Tx → Value × Value) (A : List Mb) (v : Value) (l : List Mv) (B : Nat) (w : World) (hT : Tabs B w) (hTr : TreeIn w T mb Bk f A) (hBk : ∀ b, Bk b → b < w.heap.size) (hA : A.length ≤ 100000) (hr : Mbs w (· < w.heap.size) (· < w.heap.size) v l) (hs : ∀ x ∈ l, Sm x.1) (hl : l.length ≤ 100000) :
    Calls Tryz.prog 11 #[.pointer (some ⟨T, 0, none⟩), v] w fun e w' => (∃ pv, e = .returned (.tuple #[pv, .int .i64 (applyC A (l.map (·.1))).1]) ∧ NewIs w w' pv (applyC A (l.map (·.1))).2) ∧ Below w.heap.size w w' := by
  obtain ⟨a, cap, hv, hcap, hmx, h3⟩ := hr.rd.shape
  have HR := Keep.keep hr; have HT := Keep.keep hT; have HS := Keep.keep hs; have HBK := Keep.keep hBk; have HTR := Keep.keep hTr
  have HON : Keep (∀ wx, Below w.heap.size w wx → TreeIn wx T mb Bk f A) := ⟨fun wx hb => hTr.loc (fun b hb' => hb.block b (by
    rcases hb' with rfl | rfl | h
    · exact hTr.row.lt
    · exact hTr.map.lt
    · exact hBk b h))⟩
  have HMB : Keep (∀ wx, Below w.heap.size w wx → Mbs wx (· < wx.heap.size) (· < wx.heap.size) v l) := ⟨fun wx hb => (hr.below hb (fun b hb => hb) (fun b hb => hb)).mono (fun b hb' => Nat.lt_of_lt_of_le hb' hb.size) (fun b hb' => Nat.lt_of_lt_of_le hb' hb.size)⟩
  have HCP := Keep.keep (copy_tree T mb Bk f A w hTr hBk hA)
  have HAP : Keep (applyC A (l.map (·.1)) = if mayC (l.map (·.1)) ≠ 0 then (mayC (l.map (·.1)), none) else newT (A.filter (fun m => staysC (l.map (·.1)) m.1) ++ plainC (l.map (·.1)))) := ⟨rfl⟩
  have HSA := Keep.keep hTr.sm
  have hTlt := hTr.row.lt
  clear hr h3 hT hs hBk hTr
  unfold maxLen at hmx
  subst hv
  generalize hout : applyC A (l.map (·.1)) = out at *
  go_enter Tryz.func11, Tryz.ntmps11
  go_wp2_with fail
  refine HCP.out.mono ?_
  rintro e w1 ⟨T2, m2, Bk2, f2, rfl, -, -, hb1⟩
  have HB1 := Keep.keep hb1
  have HMY := Keep.keep (chmay_any _ l B w1 (HT.out.on (hb1.mono HT.out.b)) (HMB.out w1 hb1) HS.out (by omega))
  generalize mayC (l.map (·.1)) = me at *
  clear hb1 HCP
  go_wp2_with fail
  refine HMY.out.mono ?_
  rintro e w2 ⟨rfl, hb2⟩
  have HB2 := Keep.keep (HB1.out.trans (hb2.mono HB1.out.size))
  clear hb2 HMY
  cases hz : (me != 0) with
  | true =>
    have hz2 : me ≠ 0 := by simpa using hz
    have HX : Keep (out = (me, none)) := ⟨by rw [HAP.out, if_pos hz2]⟩
    go_wp2_with fail
    go_ret2
    exact ⟨⟨.pointer none, by rw [HX.out]; rfl, by rw [HX.out]; rfl⟩, HB2.out⟩
  | false =>
    have hz2 : me = 0 := by simpa using hz
    have HX : Keep (out = newT (A.filter (fun m => staysC (l.map (·.1)) m.1) ++ plainC (l.map (·.1)))) := ⟨by rw [HAP.out, if_neg (by simpa using hz2)]⟩
    have hsz2 := HB2.out.size
    have HAL := Keep.keep (all_own T mb Bk f A w2 hA (HON.out w2 HB2.out) ⟨by omega, by have := (HTR.out.map.lt); omega, fun b hb => by have := HBK.out b hb; omega⟩)
    clear hz
    go_wp2_with fail
    refine HAL.out.mono ?_
    rintro e w3 ⟨v6, l6, rfl, hl6, hm6, hb3⟩
    have HR6 : Keep (RowM w.heap.size (· < w.heap.size) w3 v6 l6) := ⟨(RowM.ofOwn hm6 (· < w.heap.size)).lower hsz2 (fun b hb => hb)⟩
    have HL6 := Keep.keep hl6
    have hn6 : l6.length = A.length := by rw [← hl6, List.length_map]
    have HB3 := Keep.keep (HB2.out.trans (hb3.mono HB2.out.size))
    have hsz3 := HB3.out.size
    obtain ⟨a6, c6, hv6, -⟩ := (ownsV_reads hm6.own).shape
    have HOF := Keep.keep (of_any _ l B w3 (HT.out.on (HB3.out.mono HT.out.b)) (HMB.out w3 HB3.out) HS.out (by omega))
    have HN6 := Keep.keep hn6
    rw [hn6] at hv6
    clear hl6 hm6 hb3 HAL hn6
    subst hv6
    go_wp2_with fail
    refine HOF.out.mono ?_
    rintro e w4 ⟨b1, b2, b3, rfl, hE, hge, hb4⟩
    have HB4 := Keep.keep (HB3.out.trans (hb4.mono HB3.out.size))
    have hsz4 := HB4.out.size
    have HKP := Keep.keep (keeps_any _ l6 w.heap.size (· < w.heap.size) b1 b2 b3 (l.map (·.1)) w4 hsz4 (by rw [HN6.out]; omega) (fun x hx => HSA.out x.1 (by rw [← HL6.out]; exact List.mem_map.2 ⟨x, hx, rfl⟩)) (HR6.out.below hb4) hE (fun b hb => by have := (HR6.out.lt hb).2; omega))
    clear hE hb4 HOF
    go_wp2_with fail
    refine HKP.out.mono ?_
    rintro e w5 ⟨v7, rfl, hr7, ho7, hc5⟩
    have HR7 := Keep.keep hr7
    have HB5 : Keep (Below w.heap.size w w5) := ⟨HB4.out.trans ((hc5.lower hsz4).below (fun k hk e => by have := (HR6.out.lt e).1; omega))⟩
    have hsz5 := HB5.out.size
    obtain ⟨a7, c7, hv7, -⟩ := (ownsV_reads hr7.own).shape
    have HPL := Keep.keep (plain_any _ l B w5 (HT.out.on (HB5.out.mono HT.out.b)) (fun b => b < w.heap.size) (fun b hb => by omega) ((HR.out.below HB5.out (fun b hb => hb) (fun b hb => hb)).mono (fun b hb => Nat.lt_of_lt_of_le hb hsz5) (fun b hb => hb)) HS.out (by omega))
    clear hr7 ho7 hc5 HKP
    obtain ⟨n7, hn7⟩ : ∃ n, (l6.filter fun x => staysC (l.map (·.1)) x.1.1).length = n := ⟨_, rfl⟩
    have HN7 := Keep.keep hn7
    have hn7l : n7 ≤ A.length := by rw [← hn7, ← HN6.out]; exact List.length_filter_le _ _
    rw [hn7] at hv7
    clear hn7
    subst hv7
    go_wp2_with fail
    refine HPL.out.mono ?_
    rintro e w6 ⟨v8, rfl, hr8, hb6⟩
    have HR8 := Keep.keep hr8
    have HR7' := Keep.keep (HR7.out.below hb6)
    have HB6 := Keep.keep (HB5.out.trans (hb6.mono HB5.out.size))
    have hsz6 := HB6.out.size
    have hsz56 := hb6.size
    obtain ⟨a8, c8, hv8, -⟩ := (ownsV_reads hr8.own).shape
    obtain ⟨n8, hn8⟩ : ∃ n, (l.filter isPl).length = n := ⟨_, rfl⟩
    have HN8 := Keep.keep hn8
    have hn8l : n8 ≤ l.length := by rw [← hn8]; exact List.length_filter_le _ _
    rw [hn8] at hv8
    clear hr8 hb6 hn8 HPL
    subst hv8
    go_wp2_with (with_reducible refine arm_stop ?_)
    refine Stopped.out ?_
    refine arm_appM (B := w.heap.size) HR7'.out hsz6 HR8.out.mbs (fun b hb => ⟨?_, hb.2.1, fun e => ?_⟩) (by rw [HN7.out, HN8.out]; omega) rfl rfl ?_
    · rcases hb.1 with h | h
      · exact .inl h
      · exact .inr (by omega)
    · have h1 := (HR7.out.lt e)
      rcases hb.1 with h | h
      · omega
      · omega
    intro v9 w7 hr9 hg9 hov9 hsh9
    have HB7 : Keep (Below w.heap.size w w7) := ⟨HB6.out.trans (HR7'.out.chg hsz6 hg9)⟩
    have HNW := Keep.keep (new_tree v9 _ B w7 (HT.out.on (HB7.out.mono HT.out.b)) (hr9.mbs.mono (fun b hb => hb.2) (fun b hb => hb.2.1)) (fun x hx => by
      rcases List.mem_append.1 hx with hx | hx
      · exact HSA.out x.1 (by rw [← HL6.out]; exact List.mem_map.2 ⟨x, (List.mem_filter.1 hx).1, rfl⟩)
      · exact HS.out x (List.mem_filter.1 hx).1) (by rw [List.length_append, HN7.out, HN8.out]; omega))
    have hmap : ((l6.filter fun x => staysC (l.map (·.1)) x.1.1) ++ l.filter isPl).map (·.1) = A.filter (fun m => staysC (l.map (·.1)) m.1) ++ plainC (l.map (·.1)) := by
      rw [List.map_append, plain_map, ← HL6.out, List.filter_map]; rfl
    rw [hmap, ← HX.out] at HNW
    obtain ⟨a9, c9, hv9⟩ := hsh9
    rw [HN7.out, HN8.out] at hv9
    clear hr9 hg9 hov9 hmap HR7 HR8 HR7'
    subst hv9
    simp only [Act.put, List.setIfInBounds_toArray, List.set_cons_succ, List.set_cons_zero]
    go_wp2_with fail
    refine HNW.out.mono ?_
    rintro e w8 ⟨⟨pv, rfl, hnew⟩, hb8⟩
    have HB8 := Keep.keep (HB7.out.trans (hb8.mono HB7.out.size))
    have HNI : Keep (NewIs w w8 pv out.2) := ⟨by
      have := HB7.out.size
      cases ho : out.2 with
      | none => rw [ho] at hnew; exact hnew
      | some t =>
        rw [ho] at hnew
        obtain ⟨T3, m3, Bk3, f3, e1, h1, h2, h3, h4⟩ := hnew
        exact ⟨T3, m3, Bk3, f3, e1, h1, by omega, by omega, fun b hb => (h4 b hb).mono this (Nat.le_refl _)⟩⟩
    have hpv : ∃ q, pv = .pointer q := by
      cases ho : out.2 with
      | none => rw [ho] at hnew; exact ⟨_, hnew⟩
      | some t =>
        rw [ho] at hnew
        obtain ⟨T3, m3, Bk3, f3, e1, -⟩ := hnew
        exact ⟨_, e1⟩
    obtain ⟨q, hq⟩ := hpv
    clear hnew hb8 HNW
    subst hq
    go_wp2_with fail
    go_ret2
    exact ⟨⟨_, rfl, HNI.out⟩, HB8.out⟩
end Go.Proofs.YtmnknmpfkjhgbaaGreatDoor
/- portolanlaw20.DifferChain: the law's walk. -/
namespace Go.Proofs.YtmnknmpfkjhgbaaGreatDoor
open Go.RowKit
def ActL (w : World) (v : Value) (l : List Av) : Prop := ActsR w (· < w.heap.size) (· < w.heap.size) v l
theorem ActL.on {w w' : World} {v : Value} {l : List Av} (h : ActL w v l) (hb : Below w.heap.size w w') : ActL w' v l :=
  ⟨(h.rd.below hb (fun _ hb => hb)).mono (fun _ h => Nat.lt_of_lt_of_le h hb.size), fun x hx => ((h.nd x hx).below hb (fun _ hb => hb)).mono (fun _ h => Nat.lt_of_lt_of_le h hb.size)⟩
def actT (l : List Av) : List Mb := grownL (l.map fun x => (x.1, x.2.1))
theorem actT_well (l : List Av) : WellL (actT l) := grown_well _
theorem actT_len (l : List Av) : (actT l).length ≤ 40 := grown_len _
theorem grown_tr {w : World} {v : Value} {l : List Av} (B : Nat) (hT : Tabs B w) (hr : ActL w v l) (hs : ∀ x ∈ l, Kb x.2.1) :
    Calls Tryz.prog 8 #[v] w fun e w' => ∃ T, e = .returned (.pointer (some ⟨T, 0, none⟩)) ∧ TrL w' T (actT l) ∧ Below w.heap.size w w' := by
  refine (grown_any B v l w hT hr hs).mono ?_
  rintro e w' ⟨T, mb, Bk, f, he, h1, h2, h3⟩
  exact ⟨T, he, ⟨mb, Bk, f, h1, fun b hb => (h2.2.2 b hb).2⟩, h3⟩
theorem apply_tr {w : World} {T : Nat} {A B : List Mb} {v : Value} {l : List Mv} (n : Nat) (hT : Tabs n w) (hTr : TrL w T A) (hA : A.length ≤ 100000) (hr : MbL w v l) (hs : ∀ x ∈ l, Sm x.1) (hl : l.length ≤ 100000) (ha : applyC A (l.map (·.1)) = (0, some B)) :
    Calls Tryz.prog 11 #[.pointer (some ⟨T, 0, none⟩), v] w fun e w' => ∃ T', e = .returned (.tuple #[.pointer (some ⟨T', 0, none⟩), .int .i64 0]) ∧ TrL w' T' B ∧ Below w.heap.size w w' := by
  obtain ⟨mb, Bk, f, h1, h2⟩ := hTr
  refine (apply_any T mb Bk f A v l n w hT h1 h2 hA hr hs hl).mono ?_
  rintro e w' ⟨⟨pv, he, hn⟩, hb⟩
  rw [ha] at he hn
  obtain ⟨T', mb', Bk', f', rfl, h3, -, -, h4⟩ := hn
  exact ⟨T', he, ⟨mb', Bk', f', h3, fun b hb => (h4 b hb).2⟩, hb⟩
theorem same_tr {w : World} {T T2 : Nat} {A B : List Mb} (h1 : TrL w T A) (h2 : TrL w T2 B) (hA : A.length ≤ 100000) (he : A = B) :
    Calls Tryz.prog 12 #[.pointer (some ⟨T, 0, none⟩), .pointer (some ⟨T2, 0, none⟩)] w fun e w' => e = .returned (.bool true) ∧ Below w.heap.size w w' := by
  obtain ⟨mb, Bk, f, h1, h1'⟩ := h1
  obtain ⟨mb2, Bk2, f2, h2, h2'⟩ := h2
  refine (same_tree T mb Bk f A T2 mb2 Bk2 f2 B w h1 h1' h2 h2' hA).mono ?_
  rintro e w' ⟨⟨r, rfl, hr⟩, hb⟩
  rw [hr.2 he]
  exact ⟨rfl, hb⟩
/-- what Of gives, at hand -/
structure ToldIs (w : World) (A B : List Mb) (v : Value) (l : List Mv) : Prop where
  mb : MbL w v l
  sm : ∀ x ∈ l, Sm x.1
  len : l.length ≤ 100000
  ap : applyC A (l.map (·.1)) = (0, some B)
theorem ToldIs.on {w w' : World} {A B : List Mb} {v : Value} {l : List Mv} (h : ToldIs w A B v l) (hb : Below w.heap.size w w') : ToldIs w' A B v l := ⟨h.mb.on hb, h.sm, h.len, h.ap⟩
theorem Of_told {w : World} {Ta Tb : Nat} {A B : List Mb} (n : Nat) (hT : Tabs n w) (hA : WellL A) (hB : WellL B) (hLA : A.length ≤ 40) (hLB : B.length ≤ 40) (h1 : TrL w Ta A) (h2 : TrL w Tb B) :
    Calls Tryz.prog 9 #[.pointer (some ⟨Ta, 0, none⟩), .pointer (some ⟨Tb, 0, none⟩)] w fun e w' => ∃ a c l, e = .returned (.tuple #[.slice a l.length c, .int .i64 0]) ∧ ToldIs w' A B (.slice a l.length c) l ∧ Below w.heap.size w w' := by
  refine (Of_tr n hT hA hB (by omega) (by omega) h1 h2).mono ?_
  rintro e w' ⟨v, l, rfl, ho, -, hr, hb⟩
  obtain ⟨a, c, hv, -⟩ := (ownsV_reads hr.own).shape
  subst hv
  exact ⟨a, c, l, rfl, ⟨MbL.ofRow hr, fun x hx => ho.sm x.1 (List.mem_map.2 ⟨x, hx, rfl⟩), by have := ho.le; rw [List.length_map] at this; omega, ho.app⟩, hb⟩
set_option maxHeartbeats 4000000 in
set_option maxRecDepth 100000 in
theorem chain_any (B : Nat) (v0 v1 v2 : Value) (l0 l1 l2 : List Av) (w : World) (hT : Tabs B w) (h0 : ActL w v0 l0) (k0 : ∀ x ∈ l0, Kb x.2.1) (h1 : ActL w v1 l1) (k1 : ∀ x ∈ l1, Kb x.2.1) (h2 : ActL w v2 l2) (k2 : ∀ x ∈ l2, Kb x.2.1) :
    Calls Tryz.prog 4 #[v0, v1, v2] w fun e w' => e = .returned (.bool true) ∧ Below w.heap.size w w' := by
  obtain ⟨a0, c0, hv0, -⟩ := h0.rd.shape
  obtain ⟨a1, c1, hv1, -⟩ := h1.rd.shape
  obtain ⟨a2, c2, hv2, -⟩ := h2.rd.shape
  have HT := Keep.keep hT
  have H0 := Keep.keep h0; have K0 := Keep.keep k0
  have H1 := Keep.keep h1; have K1 := Keep.keep k1
  have H2 := Keep.keep h2; have K2 := Keep.keep k2
  have HWA : Keep (WellL (actT l0) ∧ (actT l0).length ≤ 40) := ⟨actT_well _, actT_len _⟩
  have HWB : Keep (WellL (actT l1) ∧ (actT l1).length ≤ 40) := ⟨actT_well _, actT_len _⟩
  have HWC : Keep (WellL (actT l2) ∧ (actT l2).length ≤ 40) := ⟨actT_well _, actT_len _⟩
  have HW0 : Keep (Below w.heap.size w w) := ⟨Below.refl _ _⟩
  clear hT h0 k0 h1 k1 h2 k2
  subst hv0 hv1 hv2
  go_enter Tryz.func4, Tryz.ntmps4
  go_wp2_with fail
  refine (grown_tr B HT.out H0.out K0.out).mono ?_
  rintro e w1 ⟨Ta, rfl, ht, hb⟩
  have HW1 := Keep.keep (HW0.out.trans (hb.mono HW0.out.size))
  have HA1 := Keep.keep ht
  have H1' := Keep.keep (H1.out.on hb)
  have H2' := Keep.keep (H2.out.on hb)
  clear ht hb H1 H2 H0
  go_wp2_with fail
  refine (grown_tr B (HT.out.on (HW1.out.mono HT.out.b)) H1'.out K1.out).mono ?_
  rintro e w2 ⟨Tb, rfl, ht, hb⟩
  have HW2 := Keep.keep (HW1.out.trans (hb.mono HW1.out.size))
  have HA2 := Keep.keep (HA1.out.on hb)
  have HB2 := Keep.keep ht
  have H2 := Keep.keep (H2'.out.on hb)
  clear ht hb H1' H2' HA1
  go_wp2_with fail
  refine (grown_tr B (HT.out.on (HW2.out.mono HT.out.b)) H2.out K2.out).mono ?_
  rintro e w3 ⟨Tc, rfl, ht, hb⟩
  have HW3 := Keep.keep (HW2.out.trans (hb.mono HW2.out.size))
  have HA3 := Keep.keep (HA2.out.on hb)
  have HB3 := Keep.keep (HB2.out.on hb)
  have HC3 := Keep.keep ht
  clear ht hb H2 HA2 HB2
  go_wp2_with fail
  refine (Of_told B (HT.out.on (HW3.out.mono HT.out.b)) HWA.out.1 HWB.out.1 HWA.out.2 HWB.out.2 HA3.out HB3.out).mono ?_
  rintro e w4 ⟨al, cl, ll, rfl, ho, hb⟩
  have HW4 := Keep.keep (HW3.out.trans (hb.mono HW3.out.size))
  have HA4 := Keep.keep (HA3.out.on hb)
  have HB4 := Keep.keep (HB3.out.on hb)
  have HC4 := Keep.keep (HC3.out.on hb)
  have HL4 := Keep.keep ho
  clear ho hb HA3 HB3 HC3
  go_wp2_with fail
  refine (Of_told B (HT.out.on (HW4.out.mono HT.out.b)) HWB.out.1 HWC.out.1 HWB.out.2 HWC.out.2 HB4.out HC4.out).mono ?_
  rintro e w5 ⟨am, cm, lm, rfl, ho, hb⟩
  have HW5 := Keep.keep (HW4.out.trans (hb.mono HW4.out.size))
  have HA5 := Keep.keep (HA4.out.on hb)
  have HC5 := Keep.keep (HC4.out.on hb)
  have HL5 := Keep.keep (HL4.out.on hb)
  have HM5 := Keep.keep ho
  clear ho hb HA4 HB4 HC4 HL4
  go_wp2_with fail
  refine (Of_told B (HT.out.on (HW5.out.mono HT.out.b)) HWA.out.1 HWC.out.1 HWA.out.2 HWC.out.2 HA5.out HC5.out).mono ?_
  rintro e w6 ⟨an, cn, ln, rfl, ho, hb⟩
  have HW6 := Keep.keep (HW5.out.trans (hb.mono HW5.out.size))
  have HA6 := Keep.keep (HA5.out.on hb)
  have HC6 := Keep.keep (HC5.out.on hb)
  have HL6 := Keep.keep (HL5.out.on hb)
  have HM6 := Keep.keep (HM5.out.on hb)
  have HN6 := Keep.keep ho
  clear ho hb HA5 HC5 HL5 HM5
  go_wp2_with fail
  refine (apply_tr B (HT.out.on (HW6.out.mono HT.out.b)) HA6.out (by have := HWA.out.2; omega) HL6.out.mb HL6.out.sm HL6.out.len HL6.out.ap).mono ?_
  rintro e w7 ⟨Tp, rfl, ht, hb⟩
  have HW7 := Keep.keep (HW6.out.trans (hb.mono HW6.out.size))
  have HA7 := Keep.keep (HA6.out.on hb)
  have HC7 := Keep.keep (HC6.out.on hb)
  have HM7 := Keep.keep (HM6.out.on hb)
  have HN7 := Keep.keep (HN6.out.on hb)
  have HP7 := Keep.keep ht
  clear ht hb HA6 HC6 HL6 HM6 HN6
  go_wp2_with fail
  refine (apply_tr B (HT.out.on (HW7.out.mono HT.out.b)) HP7.out (by have := HWB.out.2; omega) HM7.out.mb HM7.out.sm HM7.out.len HM7.out.ap).mono ?_
  rintro e w8 ⟨Tq, rfl, ht, hb⟩
  have HW8 := Keep.keep (HW7.out.trans (hb.mono HW7.out.size))
  have HA8 := Keep.keep (HA7.out.on hb)
  have HC8 := Keep.keep (HC7.out.on hb)
  have HN8 := Keep.keep (HN7.out.on hb)
  have HQ8 := Keep.keep ht
  clear ht hb HA7 HC7 HM7 HN7 HP7
  go_wp2_with fail
  refine (apply_tr B (HT.out.on (HW8.out.mono HT.out.b)) HA8.out (by have := HWA.out.2; omega) HN8.out.mb HN8.out.sm HN8.out.len HN8.out.ap).mono ?_
  rintro e w9 ⟨Tr, rfl, ht, hb⟩
  have HW9 := Keep.keep (HW8.out.trans (hb.mono HW8.out.size))
  have HC9 := Keep.keep (HC8.out.on hb)
  have HQ9 := Keep.keep (HQ8.out.on hb)
  have HR9 := Keep.keep ht
  clear ht hb HA8 HC8 HN8 HQ8
  go_wp2_with fail
  refine (same_tr HQ9.out HC9.out (by have := HWC.out.2; omega) rfl).mono ?_
  rintro e w10 ⟨rfl, hb⟩
  have HW10 := Keep.keep (HW9.out.trans (hb.mono HW9.out.size))
  have HC10 := Keep.keep (HC9.out.on hb)
  have HR10 := Keep.keep (HR9.out.on hb)
  clear hb HC9 HQ9 HR9
  go_wp2_with fail
  refine (same_tr HR10.out HC10.out (by have := HWC.out.2; omega) rfl).mono ?_
  rintro e w11 ⟨rfl, hb⟩
  have HW11 := Keep.keep (HW10.out.trans (hb.mono HW10.out.size))
  clear hb HC10 HR10
  go_wp2_with fail
  refine (dtells_any B _ (HT.out.on (HW11.out.mono HT.out.b))).mono ?_
  rintro e w12 ⟨rfl, hb⟩
  have HW12 := Keep.keep (HW11.out.trans (hb.mono HW11.out.size))
  clear hb
  go_wp2_with fail
  go_ret
  exact ⟨rfl, HW12.out⟩
end Go.Proofs.YtmnknmpfkjhgbaaGreatDoor
/- ARGUMENTS WITH SLICES WITHIN SLICES, OPENED: what lies deeper has no word of its own on its blocks; its cells tell them. -/
namespace Go.Proofs.YtmnknmpfkjhgbaaGreatDoor
open Go.ChangeShapes Go.WideShapes Go.ChangeAt Go.RowKit
theorem cell_spot {w : World} {a : Addr} {v : Value} (h : w.cell? a = some v) : a.spot = none ∧ a.block < w.heap.size := by
  unfold World.cell? at h
  split at h
  · rename_i c e fr hb
    split at h
    · cases h
    · rename_i hs
      exact ⟨by simpa using hs, (Array.getElem?_eq_some_iff.1 hb).1⟩
  · cases h
/-- a []byte that lies anywhere within an argument -/
theorem reads_of_trod {P : Program} {H : Type} {enc : TypeId × Value → H} {t e : TypeId} {held : Bool} {fuel : Nat} (ht : P.underlying t = some (.slice e)) (he : P.underlying e = some (.int .u8)) (hc : P.cellsOf e = 1) {W : World} {v : Value} {x : DataW H × List MemPlace}
    (hf : DataW.trod enc P W 0 (fun _ => true) held fuel t [v] = some x) : ∃ l, Reads W (fun b => b < W.heap.size) v l := by
  rcases open_ints ht he hc hf with ⟨hcs, hx⟩ | ⟨⟨b, off, sp⟩, len, cap, zs, hcs, _, hl, hm, hz, hx, hcell, hwz⟩
  · injection hcs with hcs _
    subst hcs
    exact ⟨[], Reads.ofNil⟩
  · injection hcs with hcs _
    subst hcs
    simp only [if_true] at hz
    have hsp : cap = 0 ∨ (sp = none ∧ b < W.heap.size) := by
      rcases Nat.eq_zero_or_pos cap with h | h
      · exact .inl h
      · have := cell_spot (hcell 0 (by omega))
        exact .inr this
    refine ⟨(zs.take len).map fun x => UInt8.ofNat x.toNat, ⟨some ⟨b, off, sp⟩, cap, ?_, ?_, hm, ?_⟩, fun b' off' n' c' he' j hj => ?_⟩
    · congr 1; simp; omega
    · simp; omega
    · rcases hsp with h | ⟨rfl, h⟩
      · exact .inl h
      · exact .inr ⟨b, off, rfl, h⟩
    · injection he' with e1 _ _; injection e1 with e1; injection e1 with e1 e2 e3; subst e1 e2 e3
      have hj' : j < len := by simp at hj; omega
      have hjz : j < zs.length := by omega
      have hc := hcell j hjz
      rw [Addr.add_mid] at hc
      rw [hc]
      have hw := hwz _ (List.getElem_mem hjz)
      have hm1 : IntKind.u8.min = 0 := rfl
      have hm2 : IntKind.u8.max = 255 := rfl
      simp only [Lit.wf, Bool.and_eq_true, decide_eq_true_eq, hm1, hm2] at hw
      simp only [List.getElem_map, List.getElem_take, List.getD_eq_getElem?_getD, List.getElem?_eq_getElem hjz, Option.getD_some, UInt8.toNat_ofNat']
      congr 2
      omega
end Go.Proofs.YtmnknmpfkjhgbaaGreatDoor
/- ARGUMENTS THAT ARE WHOLE NUMBERS, OPENED. -/
namespace Go.Proofs.YtmnknmpfkjhgbaaGreatDoor
open Go.ChangeShapes Go.WideShapes Go.ChangeAt Go.RowKit
/-- an argument that is an int64 (or an int) -/
theorem okI64 {P : Program} {w : World} {r : Reach} {base : Nat} {t : TypeId} {v : Value} (ht : P.underlying t = some (.int .i64)) (h : Value.okWide P w r base t v) : ∃ n : Int, v = .int .i64 n ∧ -9223372036854775808 ≤ n ∧ n ≤ 9223372036854775807 := by
  simp only [Value.okWide, ht, Cell.okWide] at h
  have hm1 : IntKind.i64.min = -9223372036854775808 := rfl
  have hm2 : IntKind.i64.max = 9223372036854775807 := rfl
  cases v <;> simp only [Cell.ok, ht] at h
  rename_i k x
  obtain ⟨rfl, h1, h2⟩ := h
  rw [hm1] at h1; rw [hm2] at h2
  exact ⟨x, rfl, h1, h2⟩
theorem okU16 {P : Program} {w : World} {r : Reach} {base : Nat} {t : TypeId} {v : Value} (ht : P.underlying t = some (.int .u16)) (h : Value.okWide P w r base t v) : ∃ n : Nat, v = .int .u16 (n : Int) ∧ n < 65536 := by
  simp only [Value.okWide, ht, Cell.okWide] at h
  have hm1 : IntKind.u16.min = 0 := rfl
  have hm2 : IntKind.u16.max = 65535 := rfl
  cases v <;> simp only [Cell.ok, ht] at h
  rename_i k x
  obtain ⟨rfl, h1, h2⟩ := h
  rw [hm1] at h1; rw [hm2] at h2
  exact ⟨x.toNat, by congr 1; omega, by omega⟩
theorem okU8 {P : Program} {w : World} {r : Reach} {base : Nat} {t : TypeId} {v : Value} (ht : P.underlying t = some (.int .u8)) (h : Value.okWide P w r base t v) : ∃ n : Nat, v = .int .u8 (n : Int) ∧ n < 256 := by
  simp only [Value.okWide, ht, Cell.okWide] at h
  have hm1 : IntKind.u8.min = 0 := rfl
  have hm2 : IntKind.u8.max = 255 := rfl
  cases v <;> simp only [Cell.ok, ht] at h
  rename_i k x
  obtain ⟨rfl, h1, h2⟩ := h
  rw [hm1] at h1; rw [hm2] at h2
  exact ⟨x.toNat, by congr 1; omega, by omega⟩
end Go.Proofs.YtmnknmpfkjhgbaaGreatDoor
/- ARGUMENTS THAT ARE SLICES OF MEMBERS, OR OF ACTS, OPENED. -/
namespace Go.Proofs.YtmnknmpfkjhgbaaGreatDoor
open Go.ChangeShapes Go.WideShapes Go.ChangeAt Go.RowKit
section
variable {H : Type} {enc : TypeId × Value → H} {W : World} {fuel : Nat} {x : DataW H × List MemPlace}
theorem str_of_trod {v : Value} (h : DataW.trod enc Tryz.prog W 0 (fun _ => true) true fuel 9 [v] = some x) : ∃ l : Tx, v = strV l ∧ l.length ≤ maxLen := by
  obtain ⟨⟨⟨l⟩⟩, e, _, hm⟩ := DataW.trod_string Tryz.underlying9 h
  injection e with e _
  exact ⟨l, e, hm⟩
theorem attrs_of_trod {v : Value} (hf : DataW.trod enc Tryz.prog W 0 (fun _ => true) true fuel 36 [v] = some x) : ∃ l : List R2, RdV W (· < W.heap.size) 2 v l.length (rcells l) := by
  rcases Deep.open_slice_pairs Tryz.underlying36 Tryz.underlying92 (by kernel_rfl) rfl rfl (by kernel_rfl) (by kernel_rfl) hf with ⟨hcs, _⟩ | ⟨⟨b, off, sp⟩, len, cap, m, n, V0, V1, D0, D1, P0, P1, hcs, _, hl, hm, hmm, _, hx⟩
  · injection hcs with hcs _
    subst hcs
    exact ⟨[], RdV.ofNil⟩
  · injection hcs with hcs _
    subst hcs
    simp only [if_true] at hmm
    have hsp : cap = 0 ∨ (sp = none ∧ b < W.heap.size) := by
      rcases Nat.eq_zero_or_pos cap with h | h
      · exact .inl h
      · exact .inr (cell_spot (hx 0 (by omega)).1)
    have key : ∀ i, i < m → ∃ q : R2, V0 i = strV q.1 ∧ V1 i = strV q.2 := fun i hi => by
      obtain ⟨_, _, t0, t1⟩ := hx i hi
      obtain ⟨l0, e0, _⟩ := str_of_trod t0
      obtain ⟨l1, e1, _⟩ := str_of_trod t1
      exact ⟨(l0, l1), e0, e1⟩
    obtain ⟨q, hq⟩ := Deep.choose_lt (α := R2) key
    have hll : ((List.range len).map q).length = len := by simp
    refine ⟨(List.range len).map q, rcells_length _, ⟨_, cap, by rw [hll], by omega, hm, ?_⟩, ?_⟩
    · rcases hsp with h | ⟨rfl, h⟩
      · exact .inl h
      · exact .inr ⟨b, off, rfl, h⟩
    · intro b' off' m' c' he j u hu
      injection he with e1 _ _; injection e1 with e1; injection e1 with e1 e2 e3; subst e1 e2 e3
      have hj := (List.getElem?_eq_some_iff.1 hu).1
      rw [rcells_length, hll] at hj
      obtain ⟨i, hi⟩ : ∃ i, i = j / 2 := ⟨_, rfl⟩
      have hil : i < len := by omega
      have hrg := rcells_get ((List.range len).map q) i (by rw [hll]; exact hil)
      have hqi : ((List.range len).map q)[i]'(by rw [hll]; exact hil) = q i := by simp
      rw [hqi] at hrg
      obtain ⟨k0, k1, _, _⟩ := hx i (by omega)
      obtain ⟨s0, s1⟩ := hq i (by omega)
      rw [Addr.add_mid] at k0 k1
      rcases (by omega : j = i * 2 ∨ j = i * 2 + 1) with rfl | rfl
      · rw [hrg.1] at hu; injection hu with hu
        rw [k0, s0, hu]
      · rw [hrg.2] at hu; injection hu with hu
        rw [← Nat.add_assoc, ← hu, ← s1]
        rw [← Nat.add_assoc] at k1
        exact k1
theorem cOne : Tryz.prog.cellsOf 3 = 1 ∧ Tryz.prog.cellsOf 35 = 1 ∧ Tryz.prog.cellsOf 2 = 1 ∧ Tryz.prog.cellsOf 36 = 1 ∧ Tryz.prog.cellsOf 37 = 1 ∧ Tryz.prog.cellsOf 9 = 1 ∧ Tryz.prog.cellsOf 4 = 1 ∧ Tryz.prog.cellsOf 39 = 8 ∧ Tryz.prog.cellsOf 41 = 9 ∧ Tryz.prog.cellsOf 70 = 10 := ⟨by kernel_rfl, by kernel_rfl, by kernel_rfl, by kernel_rfl, by kernel_rfl, by kernel_rfl, by kernel_rfl, by kernel_rfl, by kernel_rfl, by kernel_rfl⟩
set_option maxRecDepth 100000 in
theorem node_of_trod {cs : List Value} (hf : DataW.trod enc Tryz.prog W 0 (fun _ => true) true fuel 39 cs = some x) :
    ∃ n av dv, cs = (ndC n av dv).toList ∧ NdR W (· < W.heap.size) n av dv ∧ -9223372036854775808 ≤ n.kind ∧ n.kind ≤ 9223372036854775807 := by
  obtain ⟨xs, k, -, -, hlen, hxs, hg⟩ := DataW.trod_struct Tryz.underlying39 hf
  obtain ⟨c1, c2, c3, c4, c5, c6, c7, c8, -, -⟩ := cOne
  rw [c8] at hlen
  obtain ⟨v0, v1, v2, v3, v4, v5, v6, v7, rfl⟩ : ∃ v0 v1 v2 v3 v4 v5 v6 v7, cs = [v0, v1, v2, v3, v4, v5, v6, v7] := by
    match cs, hlen with
    | [v0, v1, v2, v3, v4, v5, v6, v7], _ => exact ⟨v0, v1, v2, v3, v4, v5, v6, v7, rfl⟩
  obtain ⟨y0, y1, y2, y3, y4, y5, y6, y7, rfl⟩ : ∃ y0 y1 y2 y3 y4 y5 y6 y7, xs = [y0, y1, y2, y3, y4, y5, y6, y7] := by
    match xs, hxs with
    | [v0, v1, v2, v3, v4, v5, v6, v7], _ => exact ⟨v0, v1, v2, v3, v4, v5, v6, v7, rfl⟩
  have g0 := hg 0 _ rfl
  have g1 := hg 1 _ rfl
  have g2 := hg 2 _ rfl
  have g3 := hg 3 _ rfl
  have g4 := hg 4 _ rfl
  have g5 := hg 5 _ rfl
  have g6 := hg 6 _ rfl
  have g7 := hg 7 _ rfl
  simp only [List.getElem?_cons_zero, List.getElem?_cons_succ] at g0 g1 g2 g3 g4 g5 g6 g7
  obtain ⟨n0, h0, _, w0⟩ := DataW.trod_int Tryz.underlying3 g0
  obtain ⟨n1, h1, _, _⟩ := DataW.trod_int Tryz.underlying35 g1
  obtain ⟨n2, h2, _, _⟩ := DataW.trod_int Tryz.underlying35 g2
  obtain ⟨n3, h3, _, _⟩ := DataW.trod_int Tryz.underlying35 g3
  obtain ⟨n4, h4, _, _⟩ := DataW.trod_int Tryz.underlying2 g4
  obtain ⟨l5, h5⟩ := attrs_of_trod g5
  obtain ⟨l6, h6⟩ := reads_of_trod Tryz.underlying37 Tryz.underlying5 (by kernel_rfl) g6
  obtain ⟨l7, h7, _⟩ := str_of_trod g7
  injection h0 with h0 _; injection h1 with h1 _; injection h2 with h2 _; injection h3 with h3 _; injection h4 with h4 _
  subst h0 h1 h2 h3 h4 h7
  have hm1 : IntKind.i64.min = -9223372036854775808 := rfl
  have hm2 : IntKind.i64.max = 9223372036854775807 := rfl
  simp only [Lit.wf, Bool.and_eq_true, decide_eq_true_eq, hm1, hm2] at w0
  exact ⟨⟨n0, n1, n2, n3, n4, l5, l6, l7⟩, v5, v6, rfl, ⟨h5, h6⟩, by exact w0⟩
set_option maxRecDepth 100000 in
theorem mb_of_trod {cs : List Value} (hf : DataW.trod enc Tryz.prog W 0 (fun _ => true) true fuel 41 cs = some x) :
    ∃ y : Mv, cs = (mcell y).toList ∧ NdR W (· < W.heap.size) y.1.2 y.2.1 y.2.2 ∧ Kb y.1 := by
  obtain ⟨xs, k, -, -, hlen, hxs, hg⟩ := DataW.trod_struct Tryz.underlying41 hf
  obtain ⟨c1, c2, c3, c4, c5, c6, c7, c8, c9, -⟩ := cOne
  rw [c9] at hlen
  obtain ⟨v0, v1, v2, v3, v4, v5, v6, v7, v8, rfl⟩ : ∃ v0 v1 v2 v3 v4 v5 v6 v7 v8, cs = [v0, v1, v2, v3, v4, v5, v6, v7, v8] := by
    match cs, hlen with
    | [v0, v1, v2, v3, v4, v5, v6, v7, v8], _ => exact ⟨v0, v1, v2, v3, v4, v5, v6, v7, v8, rfl⟩
  obtain ⟨y0, y1, rfl⟩ : ∃ y0 y1, xs = [y0, y1] := by
    match xs, hxs with
    | [v0, v1], _ => exact ⟨v0, v1, rfl⟩
  have g0 := hg 0 _ rfl
  have g1 := hg 1 _ rfl
  simp only [List.getElem_toArray, List.getElem_cons_succ, List.getElem_cons_zero, c6, c8, List.drop_succ_cons, List.drop_zero, List.take_succ_cons, List.take_zero, List.getElem?_cons_zero, List.getElem?_cons_succ] at g0 g1
  obtain ⟨l0, h0, _⟩ := str_of_trod g0
  obtain ⟨n, av, dv, h1, h2, h3⟩ := node_of_trod g1
  subst h0
  refine ⟨((l0, n), av, dv), ?_, h2, h3⟩
  rw [h1]; rfl
set_option maxRecDepth 100000 in
theorem act_of_trod {cs : List Value} (hf : DataW.trod enc Tryz.prog W 0 (fun _ => true) true fuel 70 cs = some x) :
    ∃ y : Av, cs = acell y ∧ NdR W (· < W.heap.size) y.2.1.2 y.2.2.1 y.2.2.2 ∧ Kb y.2.1 := by
  obtain ⟨xs, k, -, -, hlen, hxs, hg⟩ := DataW.trod_struct Tryz.underlying70 hf
  obtain ⟨c1, c2, c3, c4, c5, c6, c7, c8, c9, c10⟩ := cOne
  rw [c10] at hlen
  obtain ⟨v0, v1, v2, v3, v4, v5, v6, v7, v8, v9, rfl⟩ : ∃ v0 v1 v2 v3 v4 v5 v6 v7 v8 v9, cs = [v0, v1, v2, v3, v4, v5, v6, v7, v8, v9] := by
    match cs, hlen with
    | [v0, v1, v2, v3, v4, v5, v6, v7, v8, v9], _ => exact ⟨v0, v1, v2, v3, v4, v5, v6, v7, v8, v9, rfl⟩
  obtain ⟨y0, y1, rfl⟩ : ∃ y0 y1, xs = [y0, y1] := by
    match xs, hxs with
    | [v0, v1], _ => exact ⟨v0, v1, rfl⟩
  have g0 := hg 0 _ rfl
  have g1 := hg 1 _ rfl
  simp only [List.getElem_toArray, List.getElem_cons_succ, List.getElem_cons_zero, c7, c9, List.drop_succ_cons, List.drop_zero, List.take_succ_cons, List.take_zero, List.getElem?_cons_zero, List.getElem?_cons_succ] at g0 g1
  obtain ⟨b0, h0, _⟩ := DataW.trod_bool Tryz.underlying4 g0
  obtain ⟨y, h1, h2, h3⟩ := mb_of_trod g1
  injection h0 with h0 _
  subst h0
  refine ⟨(b0, y), ?_, h2, h3⟩
  rw [h1]; rfl
set_option maxRecDepth 100000 in
/-- a slice of rows of k cells -/
theorem slice_of_trod {α : Type} [Inhabited α] {t e : TypeId} {k : Nat} (ht : Tryz.prog.underlying t = some (.slice e)) (hk : Tryz.prog.cellsOf e = k) (hk0 : 0 < k) (cl : α → List Value) (hcl : ∀ a, (cl a).length = k) (p : α → Prop) (cells : List α → List Value) (hlen : ∀ l, (cells l).length = l.length * k)
    (hcells : ∀ (l : List α) (j i : Nat) (h : j < l.length), i < k → (cells l)[j * k + i]? = (cl l[j])[i]?)
    (hel : ∀ (n : Nat) (cs : List Value) (y : DataW H × List MemPlace), DataW.trod enc Tryz.prog W 0 (fun _ => true) true n e cs = some y → ∃ a, cs = cl a ∧ p a)
    {v : Value} (hf : DataW.trod enc Tryz.prog W 0 (fun _ => true) true fuel t [v] = some x) : ∃ l : List α, RdV W (· < W.heap.size) k v l.length (cells l) ∧ ∀ a ∈ l, p a := by
  rcases Deep.open_slice ht hf with ⟨hcs, _⟩ | ⟨⟨b, off, sp⟩, len, cap, m, n, D, Pl, hcs, _, hl, hm, hmm, _, hx⟩
  · injection hcs with hcs _
    subst hcs
    refine ⟨[], ⟨by simp [hlen], ⟨_, _, rfl, Nat.zero_le _, Nat.zero_le _, .inl rfl⟩, fun _ _ _ _ e j u hu => by cases e⟩, fun a ha => (List.not_mem_nil ha).elim⟩
  · injection hcs with hcs _
    subst hcs
    simp only [if_true] at hmm
    rw [hk] at hx
    have key : ∀ i, i < m → ∃ a, (∀ j u, (cl a)[j]? = some u → W.cell? ((⟨b, off, sp⟩ : Addr).add (i * k + j)) = some u) ∧ p a := fun i hi => by
      obtain ⟨cs', h1, h2⟩ := hx i hi
      obtain ⟨_, hl', hcell⟩ := World.cells?_some h1
      obtain ⟨a, rfl, hp⟩ := hel _ _ _ h2
      refine ⟨a, fun j u hj => ?_, hp⟩
      have hjl := (List.getElem?_eq_some_iff.1 hj).1
      rw [hcl] at hjl
      have := hcell j hjl
      rw [Deep.add_add] at this
      rw [this]; exact hj
    obtain ⟨q, hq⟩ := Deep.choose_lt (α := α) key
    have hsp : cap = 0 ∨ (sp = none ∧ b < W.heap.size) := by
      rcases Nat.eq_zero_or_pos cap with h | h
      · exact .inl h
      · have h0 := (hq 0 (by omega)).1 0 ((cl (q 0))[0]'(by rw [hcl]; exact hk0)) (List.getElem?_eq_getElem _)
        rw [Nat.zero_mul, Nat.add_zero] at h0
        exact .inr (cell_spot h0)
    have hll : ((List.range len).map q).length = len := by simp
    refine ⟨(List.range len).map q, ⟨hlen _, ⟨_, cap, by rw [hll], by omega, hm, ?_⟩, ?_⟩, fun a ha => ?_⟩
    · rcases hsp with h | ⟨rfl, h⟩
      · exact .inl h
      · exact .inr ⟨b, off, rfl, h⟩
    · intro b' off' m' c' he j u hu
      injection he with e1 _ _; injection e1 with e1; injection e1 with e1 e2 e3; subst e1 e2 e3
      have hj := (List.getElem?_eq_some_iff.1 hu).1
      rw [hlen, hll] at hj
      have hil : j / k < len := Nat.div_lt_of_lt_mul (by rw [Nat.mul_comm]; exact hj)
      have hjk : j / k * k + j % k = j := Nat.div_add_mod' j k
      have hrg := hcells ((List.range len).map q) (j / k) (j % k) (by rw [hll]; exact hil) (Nat.mod_lt _ hk0)
      rw [hjk, hu] at hrg
      have hqi : ((List.range len).map q)[j / k]'(by rw [hll]; exact hil) = q (j / k) := by simp
      rw [hqi] at hrg
      have := (hq (j / k) (by omega)).1 (j % k) u hrg.symm
      rw [hjk, Addr.add_mid] at this
      exact this
    · obtain ⟨i, hi, rfl⟩ := List.mem_map.1 ha
      exact (hq i (by have := List.mem_range.1 hi; omega)).2
instance : Inhabited Nd := ⟨⟨0, 0, 0, 0, 0, [], [], []⟩⟩
set_option maxRecDepth 100000 in
/-- AN ARGUMENT OF TYPE []Act, OPENED -/
theorem opened_acts {r : Reach} {base : Nat} {v : Value} {d : DataW H} {ps : List MemPlace} (hok : Value.okWide Tryz.prog W r base 22 v) (h0 : DataW.Trod enc Tryz.prog W 0 (fun _ => true) true 22 v d ps) :
    ∃ l : List Av, ActsR W (· < W.heap.size) (· < W.heap.size) v l ∧ ∀ a ∈ l, Kb a.2.1 := by
  obtain ⟨fuel, hf⟩ := h0
  replace hf : DataW.trod enc Tryz.prog W 0 (fun _ => true) true fuel 22 [v] = some (d, ps) := by
    rcases okSlice Tryz.underlying22 hok with rfl | ⟨b, off, len, cap, rfl, -, -, -⟩ <;> exact hf
  obtain ⟨l, h1, h2⟩ := slice_of_trod (α := Av) (k := 10) Tryz.underlying22 (by kernel_rfl) (by decide) acell acell_len (fun y => NdR W (· < W.heap.size) y.2.1.2 y.2.2.1 y.2.2.2 ∧ Kb y.2.1) acells acells_length acells_get (fun n cs y h => act_of_trod h) hf
  exact ⟨l, ⟨h1, fun a ha => (h2 a ha).1⟩, fun a ha => (h2 a ha).2⟩
set_option maxRecDepth 100000 in
/-- AN ARGUMENT OF TYPE []Member, OPENED -/
theorem opened_mbs {r : Reach} {base : Nat} {v : Value} {d : DataW H} {ps : List MemPlace} (hok : Value.okWide Tryz.prog W r base 23 v) (h0 : DataW.Trod enc Tryz.prog W 0 (fun _ => true) true 23 v d ps) :
    ∃ l : List Mv, Mbs W (· < W.heap.size) (· < W.heap.size) v l ∧ ∀ a ∈ l, Kb a.1 := by
  obtain ⟨fuel, hf⟩ := h0
  replace hf : DataW.trod enc Tryz.prog W 0 (fun _ => true) true fuel 23 [v] = some (d, ps) := by
    rcases okSlice Tryz.underlying23 hok with rfl | ⟨b, off, len, cap, rfl, -, -, -⟩ <;> exact hf
  obtain ⟨l, h1, h2⟩ := slice_of_trod (α := Mv) (k := 9) Tryz.underlying23 (by kernel_rfl) (by decide) (fun y => (mcell y).toList) mcell_len (fun y => NdR W (· < W.heap.size) y.1.2 y.2.1 y.2.2 ∧ Kb y.1) mcells mcells_length (fun l j i h hi => by rw [mcells_get l j i h hi]; simp) (fun n cs y h => mb_of_trod h) hf
  exact ⟨l, ⟨h1, fun a ha => (h2 a ha).1⟩, fun a ha => (h2 a ha).2⟩
end
end Go.Proofs.YtmnknmpfkjhgbaaGreatDoor
/- WHAT THE ROWS' LISTED VARIABLES AND THE WORLD'S SHAPE GIVE; and a world that holds the listed variables. -/
namespace Go.Proofs.YtmnknmpfkjhgbaaGreatDoor
open Go.ChangeShapes Go.WideShapes Go.ChangeAt Go.RowKit
theorem mx_of_shape {W : World} (h : W.ShapedOpen Tryz.prog) : Mx W.heap.size W := by
  obtain ⟨m, hm⟩ : ∃ m, W.cell? ⟨2, 0, none⟩ = some (.int .i64 m) := Go.Proofs.cell_of_shapedOpen_int (zero := #[.int .i64 0]) (t := 3) h (of_decide_eq_true (by kernel_rfl)) (by kernel_rfl) rfl (by kernel_rfl) (by kernel_rfl) Tryz.underlying3
  exact ⟨World.block_lt_of_cell? W _ hm, m, hm⟩
/-- what the laws of the trees ask of the world -/
theorem tabs_of {W : World} {l : List (String × DataW Unit)} (hL : laidMetH Tryz.prog l W) (hsh : W.ShapedOpen Tryz.prog) (hc : ("portolan/path.classes", Rows.laid_portolan_path_classes) ∈ l) (ht : ("portolan/tar.types", Rows.laid_portolan_tar_types) ∈ l) : Tabs W.heap.size W :=
  ⟨Nat.le_refl _, mx_of_shape hsh, cls_of_laid hL hc, typ_of_laid (laidMetH_iff.1 hL).1 (List.mem_filter.2 ⟨ht, rfl⟩)⟩
/-- A WORLD FOR THE WITNESS -/
def layRow (c : Array Value) : Obj → Obj
  | .cells _ t frozen => .cells c t frozen
  | o => o
def classesMap : Obj := .map #[⟨.int .i64 1, .func (.func 223) #[] #[], 0⟩, ⟨.int .i64 2, .func (.func 224) #[] #[], 1⟩, ⟨.int .i64 3, .func (.func 225) #[] #[], 2⟩] 3
def typesMap : Obj := .map #[⟨.int .i64 1, .int .u8 53, 0⟩, ⟨.int .i64 2, .int .u8 48, 1⟩, ⟨.int .i64 3, .int .u8 50, 2⟩, ⟨.int .i64 4, .int .u8 54, 3⟩] 4
noncomputable def lowM : Nat := (World.holding Tryz.prog default ⟨#[], #[], []⟩).heap.size
noncomputable def laidWorld (os : Os) : World :=
  let w0 := World.holding Tryz.prog os ⟨#[classesMap, typesMap], #[], []⟩
  let h2 := Array.modify w0.heap 4 (layRow ((List.range 16).flatMap fun i => [Value.int .u8 (Lib.accLo i), Value.int .u8 (Lib.accHi i)]).toArray)
  let h3 := Array.modify h2 3 (layRow (Lib.firstTab.map fun z => Value.int .u8 z).toArray)
  let h4 := Array.modify h3 0 (layRow #[.map (some lowM)])
  let h5 := Array.modify h4 1 (layRow #[.map (some (lowM + 1))])
  { w0 with heap := h5 }
end Go.Proofs.YtmnknmpfkjhgbaaGreatDoor
/- AN ARGUMENT THAT IS A SLICE OF TEXTS, OPENED. -/
namespace Go.Proofs.YtmnknmpfkjhgbaaGreatDoor
open Go.ChangeShapes Go.WideShapes Go.ChangeAt Go.RowKit
set_option maxRecDepth 100000 in
theorem opened_strs {H : Type} {enc : TypeId × Value → H} {r : Reach} {base : Nat} {W : World} {v : Value} {d : DataW H} {p : List MemPlace}
    (hok : Value.okWide Tryz.prog W r base 42 v) (h0 : DataW.Trod enc Tryz.prog W 0 (fun _ => true) true 42 v d p) :
    ∃ l : List (List UInt8), RdS W (· < W.heap.size) v l ∧ l.length ≤ 9223372036854775807 ∧ ∀ q ∈ l, q.length ≤ 9223372036854775807 := by
  obtain ⟨fuel, hf⟩ := h0
  rcases okSlice Tryz.underlying42 hok with rfl | ⟨b, off, len, cap, rfl, h1, h2, h3⟩
  · exact ⟨[], RdV.ofNil, Nat.zero_le _, fun q hq => by cases hq⟩
  · rcases open_strings Tryz.underlying42 Tryz.underlying9 (by kernel_rfl) hf with ⟨hcs, _⟩ | ⟨a, len', cap', ss, hcs, _, hl, hm, hsl, _, hcell, hsz⟩
    · cases hcs
    · have hcs : [Value.slice (some ⟨b, off, none⟩) len cap] = [Value.slice (some a) len' cap'] := hcs
      injection hcs with hcs _
      injection hcs with hc1 hc2 hc3
      injection hc1 with hc1
      subst hc1 hc2 hc3
      have hlm : len ≤ ss.length := by rw [hsl]; split <;> omega
      have hll : ((ss.take len).map fun s => s.data.toList).length = len := by simp; omega
      refine ⟨(ss.take len).map fun s => s.data.toList, ⟨by simp, ⟨_, cap, by rw [hll], by omega, h2, .inr ⟨b, off, rfl, h3⟩⟩, ?_⟩, ?_, ?_⟩
      · intro b' off' m' c' he j u hu
        injection he with e1 _ _; injection e1 with e1; injection e1 with e1 e2 _; subst e1 e2
        have hj : j < len := by
          have := (List.getElem?_eq_some_iff.1 hu).1
          rwa [List.length_map, hll] at this
        have h5 := hcell j (by omega)
        rw [Addr.add_mid] at h5
        rw [h5, ← hu]
        simp [List.getD_eq_getElem?_getD, hj, strV, show j < ss.length by omega]
      · rw [hll]; unfold maxLen at h2; omega
      · intro q hq
        simp only [List.mem_map] at hq
        obtain ⟨s, hs, rfl⟩ := hq
        have := hsz s (List.mem_of_mem_take hs)
        unfold maxLen at this
        exact this
end Go.Proofs.YtmnknmpfkjhgbaaGreatDoor
