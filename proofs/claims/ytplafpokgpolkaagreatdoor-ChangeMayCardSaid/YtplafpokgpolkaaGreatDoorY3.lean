/- PARTS OF ONE PROOF, set in one file: Grw, DifMay, DifMayB, DifMayC, Tr19B, ChMay1, NodeSame, ChLoc2, CmSet, Wak19. Each part tells its own conditions. -/
import Derived.Test.YtplafpokgpolkaaGreatDoorY2
/- portolanlaw19.Grown. -/
namespace Go.Proofs.YtplafpokgpolkaaGreatDoor
open Go.RowKit
theorem RowM.weak {B B' : Nat} {K K' : Nat → Prop} {w : World} {v : Value} {l : List Mv} (h : RowM B K w v l) (hB : B' ≤ B) (hK : ∀ b, (K b ∨ B ≤ b) → (K' b ∨ B' ≤ b)) : RowM B' K' w v l :=
  ⟨ownsRow_base h.own hB, fun x hx => (h.nd x hx).mono (fun b e => ⟨hK b e.1, e.2⟩)⟩
theorem own_loc {base k n : Nat} {e : TypeId} {w w' : World} {v : Value} {vs : List Value} {r : Option Nat} (h : w.ownsRow base e k v n vs) (hg : w.grownBy w' r) (hne : ∀ b, v.ownBlock = some b → r ≠ some b) : w'.ownsRow base e k v n vs :=
  ownsRow_loc _ _ (fun b hb => hg.block b (ownsV_lt h b hb).2 (fun e => hne b hb e.symm)) h
set_option maxHeartbeats 8000000 in
set_option maxRecDepth 100000 in
theorem grown19K (v : Value) (l : List Mv) (w : World) (K : Nat → Prop) (hK : ∀ b, K b → b < w.heap.size) (hr : Mbs w (· < w.heap.size) K v l) :
    Calls Tryz.prog 40 #[v] w fun e w' => ∃ v' l', e = .returned v' ∧ l'.map (·.1) = grown19 (l.map (·.1)) ∧ RowM w.heap.size K w' v' l' ∧ Below w.heap.size w w' := by
  have HK := Keep.keep hK
  obtain ⟨a, cap, hv, -, -, -⟩ := hr.rd.shape
  have HF := Keep.keep (few19K v l w K hK hr)
  obtain ⟨S, hS⟩ : ∃ S, few19 (l.map (·.1)) = S := ⟨_, rfl⟩
  have HSF : Keep (few19 S = S ∧ S.length ≤ 14 ∧ (∀ m ∈ S, (aboveP m.1).length ≤ 19) ∧ (∀ m ∈ S, m.1.length ≤ 300) ∧ grown19 (l.map (·.1)) = sortedS (S ++ S.flatMap abvM)) := ⟨by rw [← hS, few19_idem], by rw [← hS]; exact few19_len _, by rw [← hS]; exact fun m hm => few19_abv hm, by
    rw [← hS]; intro m hm; obtain ⟨y, -, rfl⟩ := List.mem_map.1 hm; exact shortS_len _, by unfold grown19; rw [hS]⟩
  rw [hS] at HF
  rw [HSF.out.2.2.2.2]
  clear hr hS hK
  subst hv
  go_enter Tryz.func40, Tryz.ntmps40
  go_wp2_with fail
  refine HF.out.mono ?_
  rintro e w1 ⟨v1, l1, rfl, hS1, hr1, hb1⟩
  have HS1 := Keep.keep hS1
  have HR1 := Keep.keep hr1
  have HB1 := Keep.keep hb1
  have HM1 : Keep (MbL w1 v1 l1) := ⟨MbL.ofRow hr1⟩
  obtain ⟨a1, c1, hv1, -⟩ := HM1.out.rd.shape
  clear hS1 hr1 hb1 HF
  have HF2 := Keep.keep (few19K v1 l1 w1 (· < w1.heap.size) (fun _ h => h) HM1.out)
  rw [HS1.out, HSF.out.1] at HF2
  obtain ⟨n1, hn1⟩ : ∃ n, l1.length = n := ⟨_, rfl⟩
  have HN1 : Keep (l1.length = n1 ∧ n1 ≤ 14) := ⟨hn1, by have := HSF.out.2.1; rw [← HS1.out, List.length_map] at this; omega⟩
  rw [hn1] at hv1
  clear hn1
  subst hv1
  go_wp2_with fail
  refine HF2.out.mono ?_
  rintro e w2 ⟨v2, l2, rfl, hS2, hr2, hb2⟩
  have HS2 := Keep.keep hS2
  have HR2 := Keep.keep (hr2.own)
  have HND2 : Keep (∀ x ∈ l2, NdS x) := ⟨fun x hx => (hr2.nd x hx).shape⟩
  have HB2 := Keep.keep (HB1.out.trans (hb2.mono HB1.out.size))
  have HR1' := Keep.keep (HR1.out.below hb2)
  have HW12 : Keep (w.heap.size ≤ w1.heap.size ∧ w1.heap.size ≤ w2.heap.size) := ⟨HB1.out.size, hb2.size⟩
  have HDJ : Keep (∀ b, v2.ownBlock = some b → (Value.slice a1 n1 c1).ownBlock ≠ some b) := ⟨fun b hb e => by
    have h1 := (hr2.lt hb).1
    have h2 := (HR1.out.lt e).2
    omega⟩
  obtain ⟨a2, c2, hv2, -⟩ := (ownsV_reads hr2.own).shape
  obtain ⟨n2, hn2⟩ : ∃ n, l2.length = n := ⟨_, rfl⟩
  have HN2 : Keep (l2.length = n2 ∧ S.length = n2 ∧ n2 ≤ 14) := ⟨hn2, by rw [← hS2, List.length_map]; exact hn2, by have := HSF.out.2.1; rw [← hS2, List.length_map] at this; omega⟩
  rw [hn2] at hv2 HR2
  have hn2b : n2 ≤ 14 := HN2.out.2.2
  clear hS2 hr2 hb2 HF2 HM1 HR1 hn2
  subst hv2
  go_wp2_with fail
  go_loopg [0, 12] n2 (fun g u0 u12 wx => ∃ (k : Nat) (acc : List Mv), k + g = n2 ∧ u12 = .int .i64 (k : Int) ∧ acc.map (·.1) = S ++ (S.take k).flatMap abvM ∧ acc.length ≤ 14 + k * 19 ∧ RowM w.heap.size K wx u0 acc ∧ wx.ownsRow w1.heap.size 32 9 (.slice a2 n2 c2) n2 (mcells l2) ∧ (∀ b, (Value.slice a2 n2 c2).ownBlock = some b → u0.ownBlock ≠ some b) ∧ Below w.heap.size w wx)
  case atStart => exact ⟨0, l1, by omega, rfl, by simpa using HS1.out, by have := HN1.out; omega, HR1'.out, HR2.out, HDJ.out, HB2.out⟩
  case round =>
    clear HR2 HDJ HB2 HR1'
    obtain ⟨k, acc, hkg, rfl, hmap, hal, hrow, hown, hdj, hbl⟩ := hrel
    have HM := Keep.keep hmap; have HR := Keep.keep hrow; have HO := Keep.keep hown; have HD := Keep.keep hdj; have HB := Keep.keep hbl
    obtain ⟨a0, c0, hu0, -⟩ := (ownsV_reads hrow.own).shape
    obtain ⟨n0, hn0⟩ : ∃ n, acc.length = n := ⟨_, rfl⟩
    have HN0 : Keep (acc.length = n0) := ⟨hn0⟩
    rw [hn0] at hu0 hal
    clear hmap hrow hown hdj hbl hn0
    subst hu0
    cases gk with
    | zero =>
      obtain rfl : k = n2 := by omega
      have HFM : Keep (acc.map (·.1) = S ++ S.flatMap abvM) := ⟨by rw [HM.out, ← HN2.out.2.1, List.take_length]⟩
      go_wp2_with fail
      refine (sorted_any _ acc wr _ (fun _ h => h.2.1) (HR.out.mbs.mono (fun _ hb => hb.2) (fun _ hb => hb)) (by rw [HN0.out]; omega)).mono ?_
      rintro e w5 ⟨v5, rfl, hr5, hb5⟩
      have HR5 := Keep.keep hr5
      have HB5 := Keep.keep hb5
      obtain ⟨a5, c5, hv5, -⟩ := (ownsV_reads hr5.own).shape
      rw [List.length_mergeSort, HN0.out] at hv5
      have HC5 := Keep.keep (compact_mb _ _ v5 _ w5 hb5.size hr5 (by rw [List.length_mergeSort, HN0.out]; omega))
      clear hr5 hb5
      subst hv5
      go_wp2_with fail
      refine HC5.out.mono ?_
      rintro e w6 ⟨v6, rfl, hr6, hb6⟩
      obtain ⟨a6, c6, hv6, -⟩ := (ownsV_reads hr6.own).shape
      have HR6 := Keep.keep hr6
      have HB6 := Keep.keep hb6
      have hcm : (compA (fun x : Mv => x.1.1) (acc.mergeSort (leK (fun x => x.1.1)))).map (·.1) = sortedS (S ++ S.flatMap abvM) := by rw [comp_map, HFM.out]
      have HCM := Keep.keep hcm
      obtain ⟨n6, hn6⟩ : ∃ n, (compA (fun x : Mv => x.1.1) (acc.mergeSort (leK (fun x => x.1.1)))).length = n := ⟨_, rfl⟩
      rw [hn6] at hv6
      clear hr6 hb6 hcm hn6 HC5 HR5
      subst hv6
      go_wp2_with fail
      go_ret
      have hw := HB.out.size
      refine ⟨_, _, rfl, HCM.out, HR6.out.weak hw (fun b hb => by
        rcases hb with hb | hb
        · exact hb.1
        · exact .inr (Nat.le_trans hw hb)), HB.out.trans ((HB5.out.trans HB6.out).mono hw)⟩
    | succ g =>
      have hk : k < n2 := by omega
      have hkl : k < l2.length := by have := HN2.out.1; omega
      have hd : decide ((k : Int) < (n2 : Int)) = true := decide_eq_true (by omega)
      obtain ⟨g2, rfl⟩ : ∃ g2, a2 = some ⟨g2, 0, none⟩ := by
        rcases HO.out.2 with ⟨h1, h2⟩ | ⟨g', cap', cur, h1, -⟩
        · omega
        · injection h1 with h1; exact ⟨g', h1⟩
      have hld := own_loadAt HO.out (HN2.out.1.symm) (List.getElem?_eq_getElem hkl)
      have hkS : k < S.length := by have := HN2.out.2.1; omega
      have hSk : S[k] = l2[k].1 := by simp [← HS2.out]
      have HTK : Keep ((S.take (k + 1)).flatMap abvM = (S.take k).flatMap abvM ++ abvM l2[k].1) := ⟨by
        rw [List.take_succ_eq_append_getElem hkS, List.flatMap_append, hSk]; simp⟩
      have HXP : Keep ((aboveP l2[k].1.1).length ≤ 19 ∧ l2[k].1.1.length ≤ 300) := ⟨by rw [← hSk]; exact HSF.out.2.2.1 _ (List.getElem_mem hkS), by rw [← hSk]; exact HSF.out.2.2.2.1 _ (List.getElem_mem hkS)⟩
      have hsh := HND2.out l2[k] (List.getElem_mem hkl)
      clear hkS hSk
      generalize l2[k] = x at *
      obtain ⟨⟨xp, ⟨kind, mode, uid, gid, time, attrs, data, link⟩⟩, av, dv⟩ := x
      obtain ⟨aa, la, ca, ad, ld, cd, e1, e2⟩ := hsh
      dsimp only at e1 e2 HXP HTK
      subst e1 e2
      have HMC : Keep (mcell ((xp, ⟨kind, mode, uid, gid, time, attrs, data, link⟩), .slice aa la ca, .slice ad ld cd) = #[.string ⟨xp.toArray⟩, .int .i64 kind, .int .u32 mode, .int .u32 uid, .int .u32 gid, .int .i64 time, .slice aa la ca, .slice ad ld cd, .string ⟨link.toArray⟩]) := ⟨rfl⟩
      rw [HMC.out] at hld
      have HAB := Keep.keep (fun wx => above_any xp (by have := HXP.out.2; omega) wx)
      have HAE : Keep (abvM (xp, ⟨kind, mode, uid, gid, time, attrs, data, link⟩) = (aboveP xp).map fun p => (p, dirM 493)) := ⟨rfl⟩
      have HPL : Keep (∀ q ∈ aboveP xp, q.length ≤ 300) := ⟨fun q hq => Nat.le_trans (above_len _ _ hq) HXP.out.2⟩
      rw [HAE.out] at HTK
      have HAL : Keep ((aboveP xp).length ≤ 19) := ⟨HXP.out.1⟩
      clear HAE HXP
      generalize aboveP xp = Q at *
      go_upto_region 5 with ((with_reducible refine arm_loadM hld ?_ ?_); (focus rfl); simp only [Act.put, List.setIfInBounds_toArray, List.set_cons_succ, List.set_cons_zero])
      refine wp_world (R := fun wq => Hp NoM wr wq [rowA wr.heap.size 32 #[.string ⟨xp.toArray⟩, .int .i64 kind, .int .u32 mode, .int .u32 uid, .int .u32 gid, .int .i64 time, .slice aa la ca, .slice ad ld cd, .string ⟨link.toArray⟩]]) ((Hp.begin NoM wr).newRow _ _) ?_
      intro w3 H3
      obtain ⟨b4, hb4⟩ : ∃ b4, wr.heap.size = b4 := ⟨_, rfl⟩
      have HB3 := Keep.keep H3.out.below
      rw [hb4] at H3 ⊢
      have c40 := (H3.out.row 0 rfl).cell (i := 0) rfl
      clear hld hb4 H3
      go_wp2_with fail
      refine (HAB.out w3).mono ?_
      rintro e w4 ⟨v4, rfl, ho4, hb4⟩
      have hb34 := HB3.out.trans (hb4.mono HB3.out.size)
      have HO4 := Keep.keep ho4
      have HR4 := Keep.keep (HR.out.below hb34)
      have HO2 := Keep.keep (ownsRow_loc _ _ (fun b hb => hb34.block b (ownsV_lt HO.out b hb).2) HO.out)
      have HB4 := Keep.keep (HB.out.trans (hb34.mono HB.out.size))
      have HSZ3 : Keep (wr.heap.size ≤ w3.heap.size ∧ w3.heap.size ≤ w4.heap.size) := ⟨HB3.out.size, hb4.size⟩
      have HD4 : Keep (∀ b, v4.ownBlock = some b → (Value.slice a0 n0 c0).ownBlock ≠ some b) := ⟨fun b hb e => by
        have h1 := (ownsV_lt ho4 b hb).1
        have h2 := (HR.out.lt e).2
        have := HSZ3.out.1
        omega⟩
      obtain ⟨a4, c4, hv4, -⟩ := (ownsV_reads ho4).shape
      obtain ⟨n4, hn4⟩ : ∃ n, Q.length = n := ⟨_, rfl⟩
      have HN4 := Keep.keep hn4
      have hn19 : n4 ≤ 19 := by have := HAL.out; omega
      unfold OwnS at HO4
      rw [hn4] at hv4 HO4
      clear ho4 hb4 hb34 hn4 c40 HR HO HB HAB
      subst hv4
      go_wp2_with fail
      go_loopg [0, 20] n4 (fun q u0 u20 wx => ∃ (i : Nat) (ac2 : List Mv), i + q = n4 ∧ u20 = .int .i64 (i : Int) ∧ ac2.map (·.1) = acc.map (·.1) ++ (Q.take i).map (fun p => (p, dirM 493)) ∧ ac2.length = n0 + i ∧ RowM w.heap.size K wx u0 ac2 ∧ wx.ownsRow w1.heap.size 32 9 (.slice (some ⟨g2, 0, none⟩) n2 c2) n2 (mcells l2) ∧ wx.ownsRow w3.heap.size 9 1 (.slice a4 n4 c4) n4 (Q.map strV) ∧ (∀ b, (Value.slice (some ⟨g2, 0, none⟩) n2 c2).ownBlock = some b → u0.ownBlock ≠ some b) ∧ (∀ b, (Value.slice a4 n4 c4).ownBlock = some b → u0.ownBlock ≠ some b) ∧ Below w.heap.size w wx)
      case atStart => exact ⟨0, acc, by omega, rfl, by simp, HN0.out, HR4.out, HO2.out, HO4.out, HD.out, HD4.out, HB4.out⟩
      case round =>
        clear HR4 HO2 HO4 HD HD4 HB4
        obtain ⟨i, ac2, hiq, rfl, hmap, hal2, hrow, hown, hown4, hdj, hdj4, hbl⟩ := hrel
        have HM2 := Keep.keep hmap; have HR := Keep.keep hrow; have HO := Keep.keep hown; have HO4 := Keep.keep hown4; have HD := Keep.keep hdj; have HD4 := Keep.keep hdj4; have HB := Keep.keep hbl
        obtain ⟨a9, c9, hu0, -⟩ := (ownsV_reads hrow.own).shape
        rw [hal2] at hu0
        have HA2 := Keep.keep hal2
        clear hmap hrow hown hown4 hdj hdj4 hbl hal2
        subst hu0
        cases gk with
        | zero =>
          obtain rfl : i = n4 := by omega
          have HQ : Keep (ac2.map (·.1) = S ++ (S.take (k + 1)).flatMap abvM) := ⟨by rw [HM2.out, HM.out, HTK.out, ← HN4.out, List.take_length, List.append_assoc]⟩
          have HAA : Keep (ac2.length ≤ 14 + (k + 1) * 19) := ⟨by rw [HA2.out]; omega⟩
          go_wp2_with fail
          go_roundg g
          case measure => omega
          case rel => exact ⟨k + 1, ac2, by omega, by simp, HQ.out, HAA.out, HR.out, HO.out, HD.out, HB.out⟩
        | succ q =>
          have hi4 : i < n4 := by omega
          have hiQ : i < Q.length := by have := HN4.out; omega
          have hd2 : decide ((i : Int) < (n4 : Int)) = true := decide_eq_true (by omega)
          obtain ⟨g4, rfl⟩ : ∃ g4, a4 = some ⟨g4, 0, none⟩ := by
            rcases HO4.out.2 with ⟨h1, h2⟩ | ⟨g', cap', cur, h1, -⟩
            · omega
            · injection h1 with h1; exact ⟨g', h1⟩
          have hc4 := (ownsV_reads HO4.out).cell g4 0 _ _ rfl i (strV Q[i]) (by simp [hiQ])
          rw [Nat.zero_add] at hc4
          have HTQ : Keep ((Q.take (i + 1)).map (fun p => ((p, dirM 493) : Mb)) = (Q.take i).map (fun p => (p, dirM 493)) ++ [(Q[i], dirM 493)]) := ⟨by
            rw [List.take_succ_eq_append_getElem hiQ, List.map_append]; rfl⟩
          generalize Q[i] = qp at *
          unfold strV at hc4
          go_wp2_with fail
          refine (dir_any qp 493 _).mono ?_
          rintro e w7 ⟨rfl, hb7⟩
          have HR7 := Keep.keep (HR.out.below hb7)
          have HO7 := Keep.keep (ownsRow_loc _ _ (fun b hb => hb7.block b (ownsV_lt HO.out b hb).2) HO.out)
          have HO47 := Keep.keep (ownsRow_loc _ _ (fun b hb => hb7.block b (ownsV_lt HO4.out b hb).2) HO4.out)
          have HB7 := Keep.keep (HB.out.trans (hb7.mono HB.out.size))
          have HSW : Keep (wr.heap.size ≤ w7.heap.size) := ⟨hb7.size⟩
          clear hb7 hc4 HO HO4 HB
          go_wp2_with (with_reducible refine arm_stop ?_)
          refine Stopped.out ?_
          have hal : Below w7.heap.size w7 (w7.alloc (.cells #[.string ⟨qp.toArray⟩, .int .i64 1, .int .u32 493, .int .u32 0, .int .u32 0, .int .i64 0, .slice none 0 0, .slice none 0 0, .string ⟨#[]⟩] 32)) := (Below.refl _ _).alloc (Nat.le_refl _) _
          have hrA := HR7.out.below hal
          have hws := HB7.out.size
          have hwA := hal.size
          have hm : Mbs (w7.alloc (.cells #[.string ⟨qp.toArray⟩, .int .i64 1, .int .u32 493, .int .u32 0, .int .u32 0, .int .i64 0, .slice none 0 0, .slice none 0 0, .string ⟨#[]⟩] 32)) (fun _ => True) NoM (.slice (some ⟨w7.heap.size, 0, none⟩) 1 1) [((qp, dirM 493), nilV, nilV)] :=
            ⟨RdV.new (N := fun _ => True) 32 [.string ⟨qp.toArray⟩, .int .i64 1, .int .u32 493, .int .u32 0, .int .u32 0, .int .i64 0, .slice none 0 0, .slice none 0 0, .string ⟨#[]⟩] 9 1 _ rfl rfl (by unfold maxLen; omega) trivial, fun z hz => by
              obtain rfl : z = ((qp, dirM 493), nilV, nilV) := by simpa using hz
              exact ndR_nil rfl rfl⟩
          refine arm_appM (B := w.heap.size) hrA (by omega) hm (fun b hb => hb.elim) (by rw [HA2.out]; simp; omega) rfl rfl ?_
          intro v8 w8 hr8 hg8 hov8 hsh8
          obtain ⟨a8, c8, hv8⟩ := hsh8
          rw [HA2.out] at hv8
          replace hv8 : v8 = .slice a8 (n0 + i + 1) c8 := hv8
          have hx7 := HR.out.lt (b := 0)
          have HR8 := Keep.keep hr8
          have HO8 : Keep (w8.ownsRow w1.heap.size 32 9 (.slice (some ⟨g2, 0, none⟩) n2 c2) n2 (mcells l2)) := ⟨own_loc (ownsRow_loc _ _ (fun b hb => hal.block b (ownsV_lt HO7.out b hb).2) HO7.out) hg8 (fun b hb => HD.out b hb)⟩
          have HO48 : Keep (w8.ownsRow w3.heap.size 9 1 (.slice (some ⟨g4, 0, none⟩) n4 c4) n4 (Q.map strV)) := ⟨own_loc (ownsRow_loc _ _ (fun b hb => hal.block b (ownsV_lt HO47.out b hb).2) HO47.out) hg8 (fun b hb => HD4.out b hb)⟩
          have HD8 : Keep (∀ b, (Value.slice (some ⟨g2, 0, none⟩) n2 c2).ownBlock = some b → v8.ownBlock ≠ some b) := ⟨fun b hb => by
            rcases hov8 with e | e
            · rw [e]; exact HD.out b hb
            · rw [e]; intro e2; injection e2 with e2; have := (ownsV_lt HO7.out b hb).2; omega⟩
          have HD48 : Keep (∀ b, (Value.slice (some ⟨g4, 0, none⟩) n4 c4).ownBlock = some b → v8.ownBlock ≠ some b) := ⟨fun b hb => by
            rcases hov8 with e | e
            · rw [e]; exact HD4.out b hb
            · rw [e]; intro e2; injection e2 with e2; have := (ownsV_lt HO47.out b hb).2; omega⟩
          have HB8 : Keep (Below w.heap.size w w8) := ⟨(HB7.out.trans (hal.mono hws)).trans (hrA.chg (by omega) hg8)⟩
          clear hr8 hg8 hov8 hm hrA hal hx7 HR7 HO7 HO47 HB7 HD HD4 HR
          rw [hv8] at HR8 HD8 HD48
          subst hv8
          simp only [Act.put, List.setIfInBounds_toArray, List.set_cons_succ, List.set_cons_zero]
          go_wp2_with fail
          go_roundg q
          case measure => omega
          case rel => exact ⟨i + 1, ac2 ++ [((qp, dirM 493), nilV, nilV)], by omega, by simp, by rw [List.map_append, HM2.out, HTQ.out, List.append_assoc]; rfl, by simp [HA2.out]; omega, HR8.out, HO8.out, HO48.out, HD8.out, HD48.out, HB8.out⟩
theorem grown19_any (v : Value) (l : List Mv) (w : World) (hr : Mbs w (· < w.heap.size) (· < w.heap.size) v l) :
    Calls Tryz.prog 40 #[v] w fun e w' => ∃ v' l', e = .returned v' ∧ l'.map (·.1) = grown19 (l.map (·.1)) ∧ RowM w.heap.size (· < w.heap.size) w' v' l' ∧ Below w.heap.size w w' := grown19K v l w _ (fun _ h => h) hr
end Go.Proofs.YtplafpokgpolkaaGreatDoor
/- CHANGESETS, plainly: change.May: the first error; what each change to a changeset brings (ChangeMay). -/
namespace Go.Proofs.YtplafpokgpolkaaGreatDoor
theorem mayFrom_all {S : List Mb} : ∀ (l : List Mb) (k : Nat), S.drop k = l → (mayFrom S k l = 0 ↔ (∀ j, ∀ hj : j < S.length, k ≤ j → errC S j S[j] = 0) ∧ S.length ≤ 4096)
  | [], k, h => by
    have hk : S.length ≤ k := List.drop_eq_nil_iff.1 h
    unfold mayFrom
    constructor
    · intro e
      refine ⟨fun j hj h1 => by omega, ?_⟩
      split at e
      · cases e
      · omega
    · rintro ⟨_, e⟩
      rw [if_neg (by omega)]
  | m :: r, k, h => by
    have hkl : k < S.length := by
      refine Nat.lt_of_not_le fun e => ?_
      rw [List.drop_eq_nil_of_le e] at h; cases h
    rw [List.drop_eq_getElem_cons hkl] at h
    injection h with h1 h2
    have ih := mayFrom_all r (k + 1) h2
    unfold mayFrom
    rw [← h1]
    by_cases he : errC S k S[k] = 0
    · rw [if_neg (by rw [he]; simp), ih]
      constructor
      · rintro ⟨a, b⟩
        refine ⟨fun j hj hk => ?_, b⟩
        rcases Nat.eq_or_lt_of_le hk with e | e
        · subst e; exact he
        · exact a j hj e
      · rintro ⟨a, b⟩
        exact ⟨fun j hj hk => a j hj (by omega), b⟩
    · rw [if_pos he]
      exact ⟨fun e => (he e).elim, fun ⟨a, _⟩ => (he (a k hkl (Nat.le_refl _))).elim⟩
theorem mayC_zero {S : List Mb} : mayC S = 0 ↔ (∀ j, ∀ hj : j < S.length, errC S j S[j] = 0) ∧ S.length ≤ 4096 := by
  unfold mayC
  rw [mayFrom_all S 0 rfl]
  exact ⟨fun ⟨a, b⟩ => ⟨fun j hj => a j hj (Nat.zero_le _), b⟩, fun ⟨a, b⟩ => ⟨fun j hj _ => a j hj, b⟩⟩
/-- the first error -/
theorem mayFrom_first {S : List Mb} {k : Nat} (hk : k < S.length) (he : errC S k S[k] ≠ 0) (hb : ∀ j, ∀ hj : j < S.length, j < k → errC S j S[j] = 0) : ∀ (l : List Mb) (i : Nat), i ≤ k → S.drop i = l → mayFrom S i l = errC S k S[k]
  | [], i, hi, h => by
    have := List.drop_eq_nil_iff.1 h
    omega
  | m :: r, i, hi, h => by
    have hil : i < S.length := by omega
    rw [List.drop_eq_getElem_cons hil] at h
    injection h with h1 h2
    unfold mayFrom
    rw [← h1]
    rcases Nat.eq_or_lt_of_le hi with e | e
    · subst e; rw [if_pos he]
    · rw [if_neg (by rw [hb i hil e]; simp)]
      exact mayFrom_first hk he hb r (i + 1) e h2
theorem mayC_first {S : List Mb} {k : Nat} (hk : k < S.length) (he : errC S k S[k] ≠ 0) (hb : ∀ j, ∀ hj : j < S.length, j < k → errC S j S[j] = 0) : mayC S = errC S k S[k] := mayFrom_first hk he hb S 0 (Nat.zero_le _) rfl
/-- some error of a kind, all errors being of it -/
theorem mayC_only {S : List Mb} (P : Int → Prop) (hp : ∀ j, ∀ hj : j < S.length, errC S j S[j] = 0 ∨ P (errC S j S[j])) (hex : ∃ j, ∃ hj : j < S.length, errC S j S[j] ≠ 0) : P (mayC S) := by
  obtain ⟨j, hj, he⟩ := hex
  have : ∃ k, ∃ hk : k < S.length, errC S k S[k] ≠ 0 ∧ ∀ i, ∀ hi : i < S.length, i < k → errC S i S[i] = 0 := by
    induction j using Nat.strongRecOn with
    | ind j ih =>
      by_cases hb : ∃ i, ∃ hi : i < S.length, i < j ∧ errC S i S[i] ≠ 0
      · obtain ⟨i, hi, hij, h2⟩ := hb
        exact ih i hij hi h2
      · refine ⟨j, hj, he, fun i hi hij => ?_⟩
        refine Classical.byContradiction fun e => hb ⟨i, hi, hij, e⟩
  obtain ⟨k, hk, h1, h2⟩ := this
  rw [mayC_first hk h1 h2]
  exact (hp k hk).resolve_left h1
theorem errC_iff {S : List Mb} {k : Nat} {m : Mb} : errC S k m = 0 ↔ mayT ([97], m.2) = true ∧ notUp S k m = false ∧ (cls m = 1 ∨ cls m = 2 ∨ cls m = 3) ∧ (cls m ≠ 1 → m.2 = bareN) ∧ ∀ q ∈ aboveP m.1, ∃ x ∈ S.take k, x.1 = q ∧ x.2.kind = 1 := by
  have hany : (aboveP m.1).any (fun q => !(S.take k).any (fun x => x.1 == q && decide (x.2.kind = 1))) = false ↔ ∀ q ∈ aboveP m.1, ∃ x ∈ S.take k, x.1 = q ∧ x.2.kind = 1 := by
    rw [List.any_eq_false]
    simp only [Bool.not_eq_true', Bool.not_eq_false, List.any_eq_true, Bool.and_eq_true, beq_iff_eq, decide_eq_true_eq]
  rw [← hany]
  unfold errC
  constructor
  · intro h
    split at h
    · cases h
    · rename_i h1
      split at h
      · cases h
      · rename_i h2
        split at h
        · cases h
        · rename_i h3
          split at h
          · cases h
          · rename_i h4
            simp only [Bool.or_eq_true, not_or, Bool.not_eq_true', Bool.not_eq_false, Bool.not_eq_true] at h1
            refine ⟨h1.1, h1.2, by omega, fun hc => ?_, by simpa using h4⟩
            rw [← bare_iff]
            cases hb : bareB m.2 with
            | true => rfl
            | false => exact (h3 ⟨hc, hb⟩).elim
  · rintro ⟨a, b, c, d, e⟩
    rw [if_neg (by rw [a, b]; decide), if_neg (by omega), if_neg (by
      rintro ⟨e1, e2⟩
      rw [bare_iff.2 (d e1)] at e2; cases e2), if_neg (by rw [e]; decide)]
end Go.Proofs.YtplafpokgpolkaaGreatDoor
/- CHANGESETS, plainly: ChangeMay: a Member less, one twice, two turned, a whiteout with Data. -/
namespace Go.Proofs.YtplafpokgpolkaaGreatDoor
/-- a Member that may be told, alone -/
structure OkM (m : Mb) : Prop where
  t : mayT ([97], m.2) = true
  c : cls m = 1 ∨ cls m = 2 ∨ cls m = 3
  b : cls m ≠ 1 → m.2 = bareN
/-- all above is told -/
def hasUp (L : List Mb) (m : Mb) : Prop := ∀ q ∈ aboveP m.1, ∃ x ∈ L, x.1 = q ∧ x.2.kind = 1
theorem may_ok {S : List Mb} (h : mayC S = 0) : (∀ m ∈ S, OkM m) ∧ (∀ m ∈ S, hasUp S m) ∧ SM.Srt S ∧ S.length ≤ 4096 := by
  obtain ⟨h1, h2⟩ := mayC_zero.1 h
  have hstep : ∀ j (hj : j + 1 < S.length), S[j].1 < S[j + 1].1 := by
    intro j hj
    have := (errC_iff.1 (h1 (j + 1) hj)).2.1
    have : (match S[j]? with | some x => decide (S[j + 1].1 ≤ x.1) | none => false) = false := this
    rw [List.getElem?_eq_getElem (show j < S.length by omega)] at this
    simp only [decide_eq_false_iff_not] at this
    exact List.not_le.1 this
  have hrise : ∀ d i (hi : i + d + 1 < S.length), S[i].1 < S[i + d + 1].1 := by
    intro d
    induction d with
    | zero => intro i hi; exact hstep i hi
    | succ d ih => intro i hi; exact tx_trans (ih i (by omega)) (hstep (i + d + 1) (by omega))
  refine ⟨fun m hm => ?_, fun m hm q hq => ?_, ?_, h2⟩
  · obtain ⟨j, hj, rfl⟩ := List.getElem_of_mem hm
    obtain ⟨a, _, c, d, _⟩ := errC_iff.1 (h1 j hj)
    exact ⟨a, c, d⟩
  · obtain ⟨j, hj, rfl⟩ := List.getElem_of_mem hm
    obtain ⟨x, hx, e⟩ := (errC_iff.1 (h1 j hj)).2.2.2.2 q hq
    exact ⟨x, List.mem_of_mem_take hx, e⟩
  · refine List.pairwise_iff_getElem.2 (fun i j hi hj hij => ?_)
    have := hrise (j - i - 1) i (by omega)
    simp only [show i + (j - i - 1) + 1 = j by omega] at this
    exact this
theorem up_at {L : List Mb} (hs : SM.Srt L) {j : Nat} (hj : j < L.length) {q : Tx} (hq : q ∈ aboveP L[j].1) {x : Mb} (hx : x ∈ L) (h1 : x.1 = q) : x ∈ L.take j := by
  obtain ⟨i, hi, rfl⟩ := List.getElem_of_mem hx
  have hlt : q < L[j].1 := pre_lt (mem_above.1 hq)
  have hij : i < j := by
    refine Nat.lt_of_not_le fun e => ?_
    rcases Nat.eq_or_lt_of_le e with e | e
    · subst e; rw [h1] at hlt; exact tx_irrefl _ hlt
    · have := (List.pairwise_iff_getElem.1 hs) j i hj hi e
      rw [h1] at this
      exact tx_asymm hlt this
  exact List.mem_take_iff_getElem.2 ⟨i, by omega, rfl⟩
theorem notUp_srt {L : List Mb} (hs : SM.Srt L) {j : Nat} (hj : j < L.length) : notUp L j L[j] = false := by
  cases j with
  | zero => rfl
  | succ j =>
    show (match L[j]? with | some x => decide (L[j + 1].1 ≤ x.1) | none => false) = false
    rw [List.getElem?_eq_getElem (show j < L.length by omega)]
    simp only [decide_eq_false_iff_not]
    intro e
    have := (List.pairwise_iff_getElem.1 hs) j (j + 1) (by omega) hj (Nat.lt_succ_self j)
    exact (List.not_lt.2 e) this
/-- with no other error, what is wrong is what stands above -/
theorem errC_up {S : List Mb} {k : Nat} {m : Mb} (hn : notUp S k m = false) (h : OkM m) : errC S k m = 0 ∨ errC S k m = 33 := by
  unfold errC
  rw [if_neg (by rw [h.t, hn]; decide), if_neg (by have := h.c; omega), if_neg (by
    rintro ⟨e1, e2⟩
    rw [bare_iff.2 (h.b e1)] at e2; cases e2)]
  split
  · exact .inr rfl
  · exact .inl rfl
theorem may_srt {L : List Mb} (hs : SM.Srt L) (hok : ∀ m ∈ L, OkM m) (hl : L.length ≤ 4096) : ((∀ m ∈ L, hasUp L m) → mayC L = 0) ∧ (¬ (∀ m ∈ L, hasUp L m) → mayC L = 33) := by
  constructor
  · intro h
    refine mayC_zero.2 ⟨fun j hj => ?_, hl⟩
    have hm := List.getElem_mem hj
    have ho := hok _ hm
    refine errC_iff.2 ⟨ho.t, notUp_srt hs hj, ho.c, ho.b, fun q hq => ?_⟩
    obtain ⟨x, hx, e1, e2⟩ := h _ hm q hq
    exact ⟨x, up_at hs hj hq hx e1, e1, e2⟩
  · intro h
    refine mayC_only (fun e => e = 33) (fun j hj => errC_up (notUp_srt hs hj) (hok _ (List.getElem_mem hj))) ?_
    refine Classical.byContradiction fun hn => h (fun m hm q hq => ?_)
    obtain ⟨j, hj, rfl⟩ := List.getElem_of_mem hm
    have he : errC L j L[j] = 0 := Classical.byContradiction fun e => hn ⟨j, hj, e⟩
    obtain ⟨x, hx, e⟩ := (errC_iff.1 he).2.2.2.2 q hq
    exact ⟨x, List.mem_of_mem_take hx, e⟩
/-- a Member less -/
theorem may_less {S : List Mb} (h : mayC S = 0) {k : Nat} (hk : k < S.length) : mayC (S.eraseIdx k) = if (S.any fun m => underP S[k].1 m.1) = true then 33 else 0 := by
  obtain ⟨h1, h2, h3, h4⟩ := may_ok h
  have hsub : (S.eraseIdx k).Sublist S := List.eraseIdx_sublist ..
  have hs' : SM.Srt (S.eraseIdx k) := List.Pairwise.sublist hsub h3
  have hmem : ∀ x, x ∈ S.eraseIdx k ↔ x ∈ S ∧ x ≠ S[k] := by
    intro x
    rw [List.mem_eraseIdx_iff_getElem]
    constructor
    · rintro ⟨i, hi, hne, rfl⟩
      refine ⟨List.getElem_mem hi, fun e => ?_⟩
      rcases Nat.lt_or_gt_of_ne hne with e2 | e2
      · have := (List.pairwise_iff_getElem.1 h3) i k hi hk e2
        rw [e] at this; exact tx_irrefl _ this
      · have := (List.pairwise_iff_getElem.1 h3) k i hk hi e2
        rw [e] at this; exact tx_irrefl _ this
    · rintro ⟨hx, hne⟩
      obtain ⟨i, hi, rfl⟩ := List.getElem_of_mem hx
      exact ⟨i, hi, fun e => hne (by subst e; rfl), rfl⟩
  have hr := may_srt hs' (fun m hm => h1 m ((hmem m).1 hm).1) (Nat.le_trans hsub.length_le h4)
  have hne : S[k].1 ≠ [] := by
    rcases at_of (h1 _ (List.getElem_mem hk)).c with ⟨_, _, _, e⟩ | ⟨e, _⟩ | ⟨e, _⟩
    · exact e
    · intro e2; unfold cls at e; rw [e2] at e; have h4 := kn_c4; omega
    · intro e2; unfold cls at e; rw [e2] at e; have h4 := kn_c4; omega
  split
  · rename_i hn
    obtain ⟨m, hm, hu⟩ := List.any_eq_true.1 hn
    refine hr.2 (fun hall => ?_)
    have hmk : m ≠ S[k] := fun e => by rw [e, under_self] at hu; cases hu
    obtain ⟨x, hx, e1, _⟩ := hall m ((hmem m).2 ⟨hm, hmk⟩) S[k].1 ((under_above hne).1 hu)
    obtain ⟨hxS, hxk⟩ := (hmem x).1 hx
    have := h3.one (show (S[k].1, x.2) ∈ S by rw [← e1]; exact hxS) (List.getElem_mem hk)
    exact hxk (Prod.ext e1 this)
  · rename_i hn
    refine hr.1 (fun m hm q hq => ?_)
    obtain ⟨hmS, _⟩ := (hmem m).1 hm
    obtain ⟨x, hx, e1, e2⟩ := h2 m hmS q hq
    refine ⟨x, (hmem x).2 ⟨hx, fun e => hn (List.any_eq_true.2 ⟨m, hmS, ?_⟩)⟩, e1, e2⟩
    rw [← e, e1]
    exact (under_above (by rw [← e1, e]; exact hne)).2 hq
end Go.Proofs.YtplafpokgpolkaaGreatDoor
/- CHANGESETS, plainly: ChangeMay: one twice, two turned, a whiteout with Data. -/
namespace Go.Proofs.YtplafpokgpolkaaGreatDoor
theorem errC_take {S T : List Mb} {j : Nat} (h : S.take j = T.take j) (m : Mb) : errC S j m = errC T j m := by
  have hn : notUp S j m = notUp T j m := by
    cases j with
    | zero => rfl
    | succ j =>
      show (match S[j]? with | some x => decide (m.1 ≤ x.1) | none => false) = (match T[j]? with | some x => decide (m.1 ≤ x.1) | none => false)
      have := congrArg (fun l => l[j]?) h
      simp only [List.getElem?_take, Nat.lt_succ_self, if_true] at this
      rw [this]
  unfold errC
  rw [hn, h]
theorem errC_one {S : List Mb} {k : Nat} {m : Mb} (h : notUp S k m = true) : errC S k m = 1 := by unfold errC; rw [if_pos (by rw [h]; simp)]
theorem may_twice {S : List Mb} (h : mayC S = 0) {k : Nat} (hk : k < S.length) : mayC (S.take k ++ S[k] :: S.drop k) = 1 := by
  obtain ⟨h1, _⟩ := mayC_zero.1 h
  have hlen : (S.take k).length = k := by rw [List.length_take]; omega
  have hT : (S.take k ++ S[k] :: S.drop k).length = S.length + 1 := by simp; omega
  have e1 : (S.take k ++ S[k] :: S.drop k)[k]? = some S[k] := by rw [List.getElem?_append_right (by omega), hlen]; simp
  have e2 : (S.take k ++ S[k] :: S.drop k)[k + 1]? = some S[k] := by
    rw [List.getElem?_append_right (by omega), hlen, show k + 1 - k = 1 by omega]
    simp [hk]
  have g2 : (S.take k ++ S[k] :: S.drop k)[k + 1]'(by omega) = S[k] := by
    have := List.getElem?_eq_getElem (l := S.take k ++ S[k] :: S.drop k) (i := k + 1) (by omega)
    rw [e2] at this
    exact (Option.some.inj this).symm
  have hone : errC (S.take k ++ S[k] :: S.drop k) (k + 1) ((S.take k ++ S[k] :: S.drop k)[k + 1]'(by omega)) = 1 := by
    rw [g2]
    refine errC_one ?_
    show (match (S.take k ++ S[k] :: S.drop k)[k]? with | some x => decide (S[k].1 ≤ x.1) | none => false) = true
    rw [e1]
    simp
  rw [mayC_first (k := k + 1) (by omega) (by rw [hone]; decide) (fun j hj hjk => ?_), hone]
  have ht : (S.take k ++ S[k] :: S.drop k).take j = S.take j := by
    rw [List.take_append_of_le_length (by omega), List.take_take, Nat.min_eq_left (by omega)]
  rw [errC_take ht]
  have hj2 : j < S.length := by omega
  have : (S.take k ++ S[k] :: S.drop k)[j] = S[j] := by
    rcases Nat.lt_or_ge j k with e | e
    · rw [List.getElem_append_left (by omega), List.getElem_take]
    · obtain rfl : j = k := by omega
      have := List.getElem?_eq_getElem (l := S.take j ++ S[j] :: S.drop j) (i := j) (by omega)
      rw [e1] at this
      exact (Option.some.inj this).symm
  rw [this]
  exact h1 j hj2
theorem may_wrong {S : List Mb} (h : mayC S = 0) {k : Nat} (hk : k < S.length) (hc : cls S[k] ≠ 1) : mayC (S.set k (S[k].1, { S[k].2 with data := [1] })) = 31 := by
  obtain ⟨h1, _⟩ := mayC_zero.1 h
  obtain ⟨a, b, c, d, _⟩ := errC_iff.1 (h1 k hk)
  have htk : ∀ j, j ≤ k → (S.set k (S[k].1, { S[k].2 with data := [1] })).take j = S.take j := by
    intro j hj
    rw [List.take_set_of_le (by omega)]
  have g : (S.set k (S[k].1, { S[k].2 with data := [1] }))[k]'(by simpa using hk) = (S[k].1, { S[k].2 with data := [1] }) := by simp
  have hone : errC (S.set k (S[k].1, { S[k].2 with data := [1] })) k ((S.set k (S[k].1, { S[k].2 with data := [1] }))[k]'(by simpa using hk)) = 31 := by
    rw [errC_take (htk k (Nat.le_refl _)), g]
    have hcl : cls (S[k].1, ({ S[k].2 with data := [1] } : Nd)) = cls S[k] := rfl
    have hn : notUp S k (S[k].1, { S[k].2 with data := [1] }) = notUp S k S[k] := rfl
    unfold errC
    rw [hn, hcl, b, d hc]
    have q1 : mayT ([97], (⟨2, 0, 0, 0, 0, [], [1], []⟩ : Nd)) = true := by decide
    have q2 : bareB (⟨2, 0, 0, 0, 0, [], [1], []⟩ : Nd) = false := by decide
    have q3 : ({ bareN with data := [1] } : Nd) = ⟨2, 0, 0, 0, 0, [], [1], []⟩ := rfl
    simp only [q3]
    rw [if_neg (by rw [q1]; decide), if_neg (by omega), if_pos ⟨hc, q2⟩]
  rw [mayC_first (k := k) (by simpa using hk) (by rw [hone]; decide) (fun j hj hjk => ?_), hone]
  rw [errC_take (htk j (by omega))]
  have : (S.set k (S[k].1, { S[k].2 with data := [1] }))[j] = S[j]'(by simpa using hj) := by rw [List.getElem_set_ne (by omega)]
  rw [this]
  exact h1 j (by simpa using hj)
theorem may_turned {S : List Mb} (h : mayC S = 0) {k : Nat} (hk : k + 1 < S.length) : mayC ((S.set (k + 1) S[k]).set k S[k + 1]) = 1 ∨ mayC ((S.set (k + 1) S[k]).set k S[k + 1]) = 33 := by
  obtain ⟨h1, _⟩ := mayC_zero.1 h
  obtain ⟨o1, _, o3, _⟩ := may_ok h
  have hlen : ((S.set (k + 1) S[k]).set k S[k + 1]).length = S.length := by simp
  have htk : ∀ j, j ≤ k → ((S.set (k + 1) S[k]).set k S[k + 1]).take j = S.take j := by
    intro j hj
    rw [List.take_set_of_le (by omega), List.take_set_of_le (by omega)]
  have gk : ((S.set (k + 1) S[k]).set k S[k + 1])[k]'(by omega) = S[k + 1] := by simp
  have gk1 : ((S.set (k + 1) S[k]).set k S[k + 1])[k + 1]'(by omega) = S[k] := by
    rw [List.getElem_set_ne (by omega)]; simp
  have hlow : ∀ j, ∀ hj : j < ((S.set (k + 1) S[k]).set k S[k + 1]).length, j < k → errC ((S.set (k + 1) S[k]).set k S[k + 1]) j ((S.set (k + 1) S[k]).set k S[k + 1])[j] = 0 := by
    intro j hj hjk
    rw [errC_take (htk j (by omega))]
    have : ((S.set (k + 1) S[k]).set k S[k + 1])[j] = S[j]'(by omega) := by rw [List.getElem_set_ne (by omega), List.getElem_set_ne (by omega)]
    rw [this]
    exact h1 j (by omega)
  have hnk : notUp S k S[k + 1] = false := by
    cases k with
    | zero => rfl
    | succ i =>
      show (match S[i]? with | some x => decide (S[i + 1 + 1].1 ≤ x.1) | none => false) = false
      rw [List.getElem?_eq_getElem (show i < S.length by omega)]
      simp only [decide_eq_false_iff_not]
      intro e
      have := (List.pairwise_iff_getElem.1 o3) i (i + 1 + 1) (by omega) hk (by omega)
      exact (List.not_lt.2 e) this
  have hek : errC ((S.set (k + 1) S[k]).set k S[k + 1]) k (((S.set (k + 1) S[k]).set k S[k + 1])[k]'(by omega)) = 0 ∨ errC ((S.set (k + 1) S[k]).set k S[k + 1]) k (((S.set (k + 1) S[k]).set k S[k + 1])[k]'(by omega)) = 33 := by
    rw [errC_take (htk k (Nat.le_refl _)), gk]
    exact errC_up hnk (o1 _ (List.getElem_mem hk))
  rcases hek with he | he
  · left
    have hone : errC ((S.set (k + 1) S[k]).set k S[k + 1]) (k + 1) (((S.set (k + 1) S[k]).set k S[k + 1])[k + 1]'(by omega)) = 1 := by
      rw [gk1]
      refine errC_one ?_
      show (match ((S.set (k + 1) S[k]).set k S[k + 1])[k]? with | some x => decide (S[k].1 ≤ x.1) | none => false) = true
      rw [List.getElem?_eq_getElem (show k < ((S.set (k + 1) S[k]).set k S[k + 1]).length by omega), gk]
      simp only [decide_eq_true_eq]
      exact List.le_of_lt ((List.pairwise_iff_getElem.1 o3) k (k + 1) (by omega) hk (Nat.lt_succ_self k))
    rw [mayC_first (k := k + 1) (by omega) (by rw [hone]; decide) (fun j hj hjk => ?_), hone]
    rcases Nat.lt_or_ge j k with e | e
    · exact hlow j hj e
    · obtain rfl : j = k := by omega
      exact he
  · right
    rw [mayC_first (k := k) (by omega) (by rw [he]; decide) hlow, he]
end Go.Proofs.YtplafpokgpolkaaGreatDoor
/- portolanlaw19: calls of the chapter as they are gone on. -/
namespace Go.Proofs.YtplafpokgpolkaaGreatDoor
open Go.RowKit
theorem rd_row {w : World} {b n k : Nat} {e : TypeId} {vs : List Value} (h : Row w b e vs.toArray) (hl : vs.length = n * k) (hn : n ≤ maxLen) : RdV w (fun j => j = b) k (.slice (some ⟨b, 0, none⟩) n n) n vs := by
  refine ⟨hl, ⟨_, n, rfl, Nat.le_refl _, hn, .inr ⟨_, _, rfl, rfl⟩⟩, fun b' off m cap he j u hu => ?_⟩
  injection he with e1 _ _; injection e1 with e1; injection e1 with e1 e2 _; subst e1 e2
  rw [Nat.zero_add]
  exact h.cell (by simpa using hu)
/-- a row of Members that was laid out by hand -/
def SetL (w : World) (b : Nat) (l : List Mv) : Prop := Row w b 32 (mcells l).toArray ∧ ∀ x ∈ l, NdR w (· < b) x.1.2 x.2.1 x.2.2
theorem SetL.on {w w' : World} {b : Nat} {l : List Mv} (h : SetL w b l) (hb : Below w.heap.size w w') : SetL w' b l :=
  ⟨h.1.below hb h.1.lt, fun x hx => (h.2 x hx).below hb (fun _k hk => Nat.lt_trans hk h.1.lt)⟩
theorem SetL.mb {w : World} {b n : Nat} {l : List Mv} (h : SetL w b l) (hn : l.length = n) (hm : n ≤ 1000000) : MbL w (.slice (some ⟨b, 0, none⟩) n n) l := by
  subst hn
  exact ⟨(rd_row h.1 (mcells_length l) (by unfold maxLen; omega)).mono (fun k e => by rw [e]; exact h.1.lt), fun x hx => (h.2 x hx).mono (fun k hk => Nat.lt_trans hk h.1.lt)⟩
theorem SetL.new {w : World} {l : List Mv} (h : ∀ x ∈ l, NdL w x.1.2 x.2.1 x.2.2) {c : Array Value} (hc : c = (mcells l).toArray) : SetL (w.alloc (.cells c 32)) w.heap.size l := by
  subst hc
  exact ⟨Row.new _ _ _, fun x hx => NdR.below (h x hx) ((Below.refl _ _).alloc (Nat.le_refl _) _) (fun _ hb => hb)⟩
theorem setCell_chg (w : World) (b i : Nat) (v : Value) : Chg (fun k => k = b) w.heap.size w (w.setCell ⟨b, i, none⟩ v) := Chg.setCell (M := fun k => k = b) (.refl _ _ _) (.inr rfl) _
theorem SetL.set {w : World} {b i : Nat} {l l2 : List Mv} {v : Value} (h : SetL w b l) (ha : (mcells l).toArray.setIfInBounds i v = (mcells l2).toArray) (hn : ∀ x ∈ l2, ∃ y ∈ l, y.1.2 = x.1.2 ∧ y.2 = x.2) : SetL (w.setCell ⟨b, i, none⟩ v) b l2 := by
  refine ⟨by rw [← ha]; exact h.1.set i v, fun x hx => ?_⟩
  obtain ⟨y, hy, e1, e2⟩ := hn x hx
  rw [← e1, ← e2]
  exact (h.2 y hy).chg (setCell_chg w b i v) (fun k hk => ⟨Nat.lt_trans hk h.1.lt, fun e => by omega⟩)
/-- a tree at hand that does not lie in b -/
def TrX (b : Nat) (w : World) (T : Nat) (t : List Mb) : Prop := ∃ mb Bk f, TreeIn w T mb Bk f t ∧ T ≠ b ∧ mb ≠ b ∧ ∀ k, Bk k → k < w.heap.size ∧ k ≠ b
theorem TrX.tr {b : Nat} {w : World} {T : Nat} {t : List Mb} (h : TrX b w T t) : TrL w T t := by
  obtain ⟨mb, Bk, f, h1, -, -, h2⟩ := h
  exact ⟨mb, Bk, f, h1, fun k hk => (h2 k hk).1⟩
theorem TrX.on {b : Nat} {w w' : World} {T : Nat} {t : List Mb} (h : TrX b w T t) (hb : Below w.heap.size w w') : TrX b w' T t := by
  obtain ⟨mb, Bk, f, h1, h2, h3, h4⟩ := h
  exact ⟨mb, Bk, f, h1.loc (fun b hb' => hb.block b (by
    rcases hb' with rfl | rfl | h
    · exact h1.row.lt
    · exact h1.map.lt
    · exact (h4 b h).1)), h2, h3, fun b hb' => ⟨Nat.lt_of_lt_of_le (h4 b hb').1 hb.size, (h4 b hb').2⟩⟩
theorem TrX.set {b i : Nat} {w : World} {T : Nat} {t : List Mb} {v : Value} (h : TrX b w T t) : TrX b (w.setCell ⟨b, i, none⟩ v) T t := by
  obtain ⟨mb, Bk, f, h1, h2, h3, h4⟩ := h
  have hc := setCell_chg w b i v
  exact ⟨mb, Bk, f, h1.loc (fun k hk => by
    rcases hk with rfl | rfl | h
    · exact hc.block _ h1.row.lt h2
    · exact hc.block _ h1.map.lt h3
    · exact hc.block _ (h4 _ h).1 (h4 _ h).2), h2, h3, fun k hk => ⟨Nat.lt_of_lt_of_le (h4 k hk).1 hc.size, (h4 k hk).2⟩⟩
theorem TrL.x {w : World} {T : Nat} {t : List Mb} (h : TrL w T t) {b : Nat} (hb : w.heap.size ≤ b) : TrX b w T t := by
  obtain ⟨mb, Bk, f, h1, h2⟩ := h
  exact ⟨mb, Bk, f, h1, by have := h1.row.lt; omega, by have := h1.map.lt; omega, fun k hk => ⟨h2 k hk, by have := h2 k hk; omega⟩⟩
theorem TrX.ofNew {w w' : World} {pv : Value} {t : List Mb} (h : NewIs w w' pv (some t)) {b : Nat} (hb : b < w.heap.size) : ∃ T, pv = .pointer (some ⟨T, 0, none⟩) ∧ TrX b w' T t := by
  obtain ⟨T, mb, Bk, f, he, h1, h2, h3, h4⟩ := h
  exact ⟨T, he, mb, Bk, f, h1, by omega, by omega, fun k hk => ⟨(h4 k hk).2, by have := (h4 k hk).1; omega⟩⟩
theorem new_tr {w : World} {v : Value} {l : List Mv} (B : Nat) (hT : Tabs B w) (hr : MbL w v l) (hs : ∀ x ∈ l, Sm x.1) (hl : l.length ≤ 1000000) {t : List Mb} (ht : newT (l.map (·.1)) = (0, some t)) :
    Calls Tryz.prog 8 #[v] w fun e w' => ∃ T, e = .returned (.tuple #[.pointer (some ⟨T, 0, none⟩), .int .i64 0]) ∧ TrL w' T t ∧ Below w.heap.size w w' := by
  have h := new_tree v l B w hT hr hs hl
  rw [ht] at h
  refine h.mono ?_
  rintro e w' ⟨⟨pv, rfl, hn⟩, hb⟩
  obtain ⟨T, rfl, h1⟩ := TrL.ofNew hn
  exact ⟨T, rfl, h1, hb⟩
theorem apply_tr {w : World} {T : Nat} {A : List Mb} {v : Value} {l : List Mv} (B : Nat) (hT : Tabs B w) (h : TrL w T A) (hA : A.length ≤ 100000) (hr : MbL w v l) (hs : ∀ x ∈ l, Sm x.1) (hl : l.length ≤ 100000) {r : List Mb} (hap : applyC A (l.map (·.1)) = (0, some r)) :
    Calls Tryz.prog 12 #[.pointer (some ⟨T, 0, none⟩), v] w fun e w' => ∃ U, e = .returned (.tuple #[.pointer (some ⟨U, 0, none⟩), .int .i64 0]) ∧ TrL w' U r ∧ (∀ b, b < w.heap.size → TrX b w' U r) ∧ Below w.heap.size w w' := by
  obtain ⟨mb, Bk, f, h1, h2⟩ := h
  have h := apply_any T mb Bk f A v l B w hT h1 h2 hA hr hs hl
  rw [hap] at h
  refine h.mono ?_
  rintro e w' ⟨⟨pv, rfl, hn⟩, hb⟩
  obtain ⟨U, rfl, h1⟩ := TrL.ofNew hn
  refine ⟨U, rfl, h1, fun b hb' => ?_, hb⟩
  obtain ⟨U', he, h3⟩ := TrX.ofNew hn hb'
  injection he with he; injection he with he; injection he with he _ _; subst he
  exact h3
theorem get_tr {w : World} {T : Nat} {L : List Mb} (h : TrL w T L) (p : Tx) (hp : p.length ≤ 1000000) {kind mode uid gid time : Int} {attrs : List R2} {data link : Tx} {is : Bool} (hg : getT L p = (⟨kind, mode, uid, gid, time, attrs, data, link⟩, is)) :
    Calls Tryz.prog 48 #[.pointer (some ⟨T, 0, none⟩), .string ⟨p.toArray⟩] w fun e w' => ∃ aa la ca ad ld cd, e = .returned (.tuple #[.agg #[.int .i64 kind, .int .u32 mode, .int .u32 uid, .int .u32 gid, .int .i64 time, .slice aa la ca, .slice ad ld cd, .string ⟨link.toArray⟩], .bool is]) ∧ NdL w' ⟨kind, mode, uid, gid, time, attrs, data, link⟩ (.slice aa la ca) (.slice ad ld cd) ∧ Below w.heap.size w w' := by
  obtain ⟨mb, Bk, f, h1, h2⟩ := h
  have h := get_tree T mb Bk f L w h1 h2 p hp
  rw [hg] at h
  refine h.mono ?_
  rintro e w' ⟨av, dv, rfl, hn, hb⟩
  obtain ⟨aa, la, ca, ad, ld, cd, e1, e2⟩ := hn.shape
  subst e1 e2
  exact ⟨aa, la, ca, ad, ld, cd, rfl, hn.mono (fun _ h => h.2), hb⟩
end Go.Proofs.YtplafpokgpolkaaGreatDoor
/- portolanlaw19.ChangeMay: its question; what it takes out and puts in. -/
namespace Go.Proofs.YtplafpokgpolkaaGreatDoor
open Go.RowKit
theorem ent_cmay1 : ∀ args w, (callFunc 44 args).run Tryz.prog w = .ok (.enter 44 args) w := enters_of Tryz.func44 (by kernel_rfl) rfl
set_option maxHeartbeats 1000000 in
set_option maxRecDepth 100000 in
theorem cmay1_any (x : Mv) (hsh : NdS x) (b5 b6 g n cap k : Nat) (p : Tx) (hp : p.length ≤ 1000000) (w : World) (h5 : w.cell? ⟨b5, 0, none⟩ = some (.slice (some ⟨g, 0, none⟩) n cap)) (h6 : w.cell? ⟨b6, 0, none⟩ = some (.int .i64 (k : Int))) (hk : k < n) (hc : w.cell? ⟨g, k * 9, none⟩ = some (.string ⟨p.toArray⟩)) :
    Calls Tryz.prog 44 #[.agg (mcell x), .pointer (some ⟨b5, 0, none⟩), .pointer (some ⟨b6, 0, none⟩)] w fun e w' => e = .returned (.bool (underP p x.1.1)) ∧ Below w.heap.size w w' := by
  obtain ⟨⟨xp, ⟨kind, mode, uid, gid, time, attrs, data, link⟩⟩, av, dv⟩ := x
  obtain ⟨aa, la, ca, ad, ld, cd, e1, e2⟩ := hsh
  dsimp only at e1 e2 ⊢
  subst e1 e2
  have HMC : Keep (mcell ((xp, ⟨kind, mode, uid, gid, time, attrs, data, link⟩), .slice aa la ca, .slice ad ld cd) = #[.string ⟨xp.toArray⟩, .int .i64 kind, .int .u32 mode, .int .u32 uid, .int .u32 gid, .int .i64 time, .slice aa la ca, .slice ad ld cd, .string ⟨link.toArray⟩]) := ⟨rfl⟩
  rw [HMC.out]
  have hun := fun w => under_any p xp hp w
  generalize underP p xp = r at *
  have HC5 := Keep.keep h5; have HC6 := Keep.keep h6; have HCP := Keep.keep hc
  have hb5 : b5 < w.heap.size := World.block_lt_of_cell? w _ h5
  have hb6 : b6 < w.heap.size := World.block_lt_of_cell? w _ h6
  have hg : g < w.heap.size := World.block_lt_of_cell? w _ hc
  have hkz : (k : Int) < (n : Int) := by omega
  clear h5 h6 hc
  go_enter Tryz.func44, Tryz.ntmps44
  go_upto_region 1 with fail
  refine wp_world (R := fun wq => Hp NoM w wq [rowA w.heap.size 32 #[.string ⟨xp.toArray⟩, .int .i64 kind, .int .u32 mode, .int .u32 uid, .int .u32 gid, .int .i64 time, .slice aa la ca, .slice ad ld cd, .string ⟨link.toArray⟩]]) ((Hp.begin NoM w).newRow _ _) ?_
  intro w2 H2
  have HB := Keep.keep H2.out.below
  have c0 := (H2.out.row 0 rfl).cell (i := 0) rfl
  have c5 : w2.cell? ⟨b5, 0, none⟩ = some (.slice (some ⟨g, 0, none⟩) n cap) := by rw [HB.out.cell (p := ⟨b5, 0, none⟩) hb5]; exact HC5.out
  have c6 : w2.cell? ⟨b6, 0, none⟩ = some (.int .i64 (k : Int)) := by rw [HB.out.cell (p := ⟨b6, 0, none⟩) hb6]; exact HC6.out
  have cp : w2.cell? ⟨g, k * 9, none⟩ = some (.string ⟨p.toArray⟩) := by rw [HB.out.cell (p := ⟨g, k * 9, none⟩) hg]; exact HCP.out
  clear H2
  refine wp_region_quiet_lit (by kernel_rfl) (by kernel_rfl) ?_
  repeat (go_big_quiet_step ((go_at_call 45; exact Calls.quiet_of_same ((hun _).mono (fun e w' h => ⟨h.1, h.2.symm⟩)))))
  refine wpQuiet_nil ?_
  intro _ hwq
  obtain ⟨nq, hwq⟩ := hwq
  subst hwq
  go_wp2_with fail
  go_ret
  exact ⟨rfl, below_drewN' HB.out _⟩
end Go.Proofs.YtplafpokgpolkaaGreatDoor
/- tar.Same: two Members are the same. -/
namespace Go.Proofs.YtplafpokgpolkaaGreatDoor
open Go.RowKit
/-- the box at slot d: a new row -/
def Bx (n d : Nat) (c : Array Value) (s : Nat → Value) (w : World) : Prop := ∃ b, s d = .pointer (some ⟨b, 0, none⟩) ∧ n ≤ b ∧ Row w b 30 c
def Bx8 (n d : Nat) (s : Nat → Value) (w : World) : Prop := ∃ c, Bx n d c s w ∧ c.size = 8
theorem Bx.keep {n d : Nat} {c : Array Value} {s s' : Nat → Value} {w w' : World} (h : Bx n d c s w) (hs : s' d = s d) (hb : ∀ b, s d = .pointer (some ⟨b, 0, none⟩) → w'.heap[b]? = w.heap[b]?) : Bx n d c s' w' := by
  obtain ⟨b, h1, h2, h3⟩ := h
  exact ⟨b, hs.trans h1, h2, (hb b h1).trans h3⟩
theorem Bx8.keep {n d : Nat} {s s' : Nat → Value} {w w' : World} (h : Bx8 n d s w) (hs : s' d = s d) (hb : ∀ b, s d = .pointer (some ⟨b, 0, none⟩) → w'.heap[b]? = w.heap[b]?) : Bx8 n d s' w' := by
  obtain ⟨c, h1, h2⟩ := h
  exact ⟨c, h1.keep hs hb, h2⟩
theorem Bx.lt {n d : Nat} {c : Array Value} {s : Nat → Value} {w : World} (h : Bx n d c s w) {b : Nat} (hb : s d = .pointer (some ⟨b, 0, none⟩)) : b < w.heap.size := by
  obtain ⟨b', h1, _, h3⟩ := h
  rw [h1] at hb; cases hb
  exact Row.lt h3
theorem Bx8.lt {n d : Nat} {s : Nat → Value} {w : World} (h : Bx8 n d s w) {b : Nat} (hb : s d = .pointer (some ⟨b, 0, none⟩)) : b < w.heap.size := by
  obtain ⟨c, h1, _⟩ := h
  exact h1.lt hb
end Go.Proofs.YtplafpokgpolkaaGreatDoor
/- portolanlaw19.ChangeLocal: calls as the law goes on. -/
namespace Go.Proofs.YtplafpokgpolkaaGreatDoor
open Go.RowKit
theorem sm_mapX {l : List Mv} (h : ∀ x ∈ l.map (·.1), Sm x) : ∀ x ∈ l, Sm x.1 := fun x hx => h _ (List.mem_map.2 ⟨x, hx, rfl⟩)
end Go.Proofs.YtplafpokgpolkaaGreatDoor
/- A Member's bytes laid anew in a row of one's own. -/
namespace Go.Proofs.YtplafpokgpolkaaGreatDoor
open Go.RowKit
def setD (x : Mv) (v : Value) : Mv := ((x.1.1, { x.1.2 with data := [1] }), x.2.1, v)
theorem mcells_setD (l : List Mv) (k : Nat) (x : Mv) (v : Value) (hk : l[k]? = some x) : (mcells l).set (k * 9 + 1 + 6) v = mcells (l.set k (setD x v)) := by
  have hkl := (List.getElem?_eq_some_iff.1 hk).1
  refine List.ext_getElem? fun i => ?_
  have hi : i = i / 9 * 9 + i % 9 := by omega
  have hm : i % 9 < 9 := Nat.mod_lt _ (by omega)
  by_cases h : i = k * 9 + 1 + 6
  · have e1 : i / 9 = k := by omega
    have e2 : i % 9 = 7 := by omega
    rw [← h, List.getElem?_set_self (by rw [mcells_length]; omega)]
    conv => rhs; rw [hi, mcells_at _ _ _ hm, e1, e2, List.getElem?_set_self hkl]
    rfl
  · rw [List.getElem?_set_ne (Ne.symm h)]
    conv => lhs; rw [hi, mcells_at _ _ _ hm]
    conv => rhs; rw [hi, mcells_at _ _ _ hm]
    by_cases e1 : i / 9 = k
    · rw [e1, List.getElem?_set_self hkl, hk]
      have e2 : i % 9 ≠ 7 := by omega
      generalize i % 9 = j at hm e2
      show (mcell x).toList[j]? = (mcell (setD x v)).toList[j]?
      rcases (by omega : j = 0 ∨ j = 1 ∨ j = 2 ∨ j = 3 ∨ j = 4 ∨ j = 5 ∨ j = 6 ∨ j = 8) with rfl | rfl | rfl | rfl | rfl | rfl | rfl | rfl <;> rfl
    · rw [List.getElem?_set_ne (Ne.symm e1)]
theorem RowM.setData {B : Nat} {K : Nat → Prop} {w : World} {g n cap k : Nat} {l : List Mv} {x : Mv} (hB : B ≤ w.heap.size) (h : RowM B K w (.slice (some ⟨g, 0, none⟩) n cap) l) (hk : l[k]? = some x) :
    RowM B K ((w.setCell ⟨g, k * 9 + 1 + 6, none⟩ (.slice (some ⟨w.heap.size, 0, none⟩) 1 1)).alloc (.cells #[.int .u8 1] 5)) (.slice (some ⟨g, 0, none⟩) n cap) (l.set k (setD x (.slice (some ⟨w.heap.size, 0, none⟩) 1 1))) ∧
    Below B w ((w.setCell ⟨g, k * 9 + 1 + 6, none⟩ (.slice (some ⟨w.heap.size, 0, none⟩) 1 1)).alloc (.cells #[.int .u8 1] 5)) := by
  have hnl := len_any h
  subst hnl
  obtain ⟨h1, g1⟩ := h.own.stored (k * 9 + 1 + 6) (.slice (some ⟨w.heap.size, 0, none⟩) 1 1)
  rw [mcells_setD l k x _ hk] at h1
  have hgl : B ≤ g ∧ g < w.heap.size := h.lt rfl
  have hs1 : (w.setCell ⟨g, k * 9 + 1 + 6, none⟩ (.slice (some ⟨w.heap.size, 0, none⟩) 1 1)).heap.size = w.heap.size := Array.size_modify ..
  generalize hW1 : w.setCell ⟨g, k * 9 + 1 + 6, none⟩ (.slice (some ⟨w.heap.size, 0, none⟩) 1 1) = W1 at *
  have hal : Below W1.heap.size W1 (W1.alloc (.cells #[.int .u8 1] 5)) := (Below.refl _ _).alloc (Nat.le_refl _) _
  have hsz : W1.heap.size < (W1.alloc (.cells #[.int .u8 1] 5)).heap.size := (Row.new W1 5 #[.int .u8 1]).lt
  have hb : ∀ b, b < w.heap.size → b ≠ g → (W1.alloc (.cells #[.int .u8 1] 5)).heap[b]? = w.heap[b]? := fun b h2 h3 => by
    rw [hal.block b (by omega), g1.block b h2 (fun e => h3 (Option.some.inj e))]
  have hN : ∀ (y : Mv), NdR w (fun b => (K b ∨ B ≤ b) ∧ b < w.heap.size ∧ (Value.slice (some ⟨g, 0, none⟩) l.length cap).ownBlock ≠ some b) y.1.2 y.2.1 y.2.2 →
      NdR (W1.alloc (.cells #[.int .u8 1] 5)) (fun b => (K b ∨ B ≤ b) ∧ b < (W1.alloc (.cells #[.int .u8 1] 5)).heap.size ∧ (Value.slice (some ⟨g, 0, none⟩) l.length cap).ownBlock ≠ some b) y.1.2 y.2.1 y.2.2 := fun y hy =>
    (hy.loc (fun b e => hb b e.2.1 (fun e2 => e.2.2 (by rw [e2]; rfl)))).mono (fun b e => ⟨e.1, by omega, e.2.2⟩)
  refine ⟨⟨?_, fun y hy => ?_⟩, ?_⟩
  · rw [List.length_set]
    exact ownsRow_loc _ _ (fun b e => hal.block b (World.ownsRow.lt h1 b e).2) h1
  · rcases List.mem_or_eq_of_mem_set hy with hy | rfl
    · exact hN y (h.nd y hy)
    · refine ⟨(hN x (h.nd x (List.mem_of_getElem? hk))).at_, ?_⟩
      have hr := Row.new W1 5 #[.int .u8 1]
      rw [hs1] at hr
      exact reads_row1 hr ⟨.inr hB, by omega, fun e => by simp only [Value.ownBlock, Option.some.injEq] at e; omega⟩
  · have e1 : Below B w W1 := (Chg.grown (M := NoM) (.refl _ _ _) g1 hB (fun j e => .inl (by injection e with e; omega))).below (fun _ _ h => h)
    exact e1.trans (hal.mono (by omega))
end Go.Proofs.YtplafpokgpolkaaGreatDoor
/- portolanlaw19.wakes. -/
namespace Go.Proofs.YtplafpokgpolkaaGreatDoor
open Go.RowKit
def wT : List Mb := [([97], dirM 448), ([97, 47, 120], fileD [49]), ([97, 47, 121], fileD [50]), ([98], fileD [51])]
def wS1 : List Mb := [([97], dirM 493), ([97, 47, 46, 119, 104, 46, 120], fileD []), ([97, 47, 122], fileD [52]), ([98], dirM 0), ([98, 47, 99], fileD [53])]
def wS2 : List Mb := [([97], dirM 493), ([97, 47, 46, 119, 104, 46, 46, 119, 104, 46, 46, 111, 112, 113], fileD []), ([97, 47, 122], fileD [52]), ([98], dirM 0), ([98, 47, 99], fileD [53])]
def wU : List Mb := [([97], dirM 493), ([97, 47, 121], fileD [50]), ([97, 47, 122], fileD [52]), ([98], dirM 0), ([98, 47, 99], fileD [53])]
def wV : List Mb := [([97], dirM 493), ([97, 47, 122], fileD [52]), ([98], dirM 0), ([98, 47, 99], fileD [53])]
set_option maxRecDepth 100000 in
theorem wn1 : newT wT = (0, some wT) := by kernel_rfl
set_option maxRecDepth 100000 in
theorem wa1 : applyC wT wS1 = (0, some wU) := by kernel_rfl
set_option maxRecDepth 100000 in
theorem wa2 : applyC wT wS2 = (0, some wV) := by kernel_rfl
set_option maxRecDepth 100000 in
theorem wg1 : getT wU [97] = (⟨1, 493, 0, 0, 0, [], [], []⟩, true) := by kernel_rfl
set_option maxHeartbeats 8000000 in
set_option maxRecDepth 100000 in
theorem wakes19_any (B : Nat) (w : World) (hT : Tabs B w) : Calls Tryz.prog 20 #[] w fun e w' => e = .returned (.bool true) ∧ Below w.heap.size w w' := by
  have HT := Keep.keep hT
  have HW0 : Keep (Below w.heap.size w w) := ⟨Below.refl _ _⟩
  clear hT
  go_enter Tryz.func20, Tryz.ntmps20
  go_wp2_with fail
  refine (dir_any [97] 448 _).mono ?_
  rintro e w1 ⟨rfl, hb⟩
  have HW1 := Keep.keep (HW0.out.trans (hb.mono HW0.out.size))
  clear hb
  go_wp2_with fail
  refine (file_any [97, 47, 120] [49] 1 rfl (by decide) _).mono ?_
  rintro e w2 ⟨a0, c0, rfl, hn, hb⟩
  have HW2 := Keep.keep (HW1.out.trans (hb.mono HW1.out.size))
  have HN0 := Keep.keep hn
  clear hn hb
  go_wp2_with fail
  refine (file_any [97, 47, 121] [50] 1 rfl (by decide) _).mono ?_
  rintro e w3 ⟨a1, c1, rfl, hn, hb⟩
  have HW3 := Keep.keep (HW2.out.trans (hb.mono HW2.out.size))
  have HN0' := Keep.keep (HN0.out.on hb)
  clear HN0
  have HN0 := HN0'
  clear HN0'
  have HN1 := Keep.keep hn
  clear hn hb
  go_wp2_with fail
  refine (file_any [98] [51] 1 rfl (by decide) _).mono ?_
  rintro e w4 ⟨a2, c2, rfl, hn, hb⟩
  have HW4 := Keep.keep (HW3.out.trans (hb.mono HW3.out.size))
  have HN0' := Keep.keep (HN0.out.on hb)
  clear HN0
  have HN0 := HN0'
  clear HN0'
  have HN1' := Keep.keep (HN1.out.on hb)
  clear HN1
  have HN1 := HN1'
  clear HN1'
  have HN2 := Keep.keep hn
  clear hn hb
  go_wp2_with fail
  refine calls_at (R := fun wq => Below w4.heap.size w4 wq ∧ SetL wq w4.heap.size ([(([97], dirM 448), nilV, nilV), (([97, 47, 120], fileD [49]), nilV, .slice a0 1 c0), (([97, 47, 121], fileD [50]), nilV, .slice a1 1 c1), (([98], fileD [51]), nilV, .slice a2 1 c2)] : List Mv)) ⟨(Below.refl _ _).alloc (Nat.le_refl _) _, SetL.new (fun x hx => ?_) rfl⟩ ?_
  · simp only [List.mem_cons, List.not_mem_nil, or_false] at hx
    rcases hx with rfl | rfl | rfl | rfl
    · exact dirL _ _
    · exact HN0.out
    · exact HN1.out
    · exact HN2.out
  intro w5 Hq
  have hbq := Hq.out.1
  have HW5 := Keep.keep (HW4.out.trans (hbq.mono HW4.out.size))
  have HN0' := Keep.keep (HN0.out.on hbq)
  clear HN0
  have HN0 := HN0'
  clear HN0'
  have HN1' := Keep.keep (HN1.out.on hbq)
  clear HN1
  have HN1 := HN1'
  clear HN1'
  have HN2' := Keep.keep (HN2.out.on hbq)
  clear HN2
  have HN2 := HN2'
  clear HN2'
  refine (new_tr B (HT.out.on (HW5.out.mono HT.out.b)) (Hq.out.2.mb (n := 4) rfl (by decide)) (fun x hx => ?_) (by simp) wn1).mono ?_
  · simp only [List.mem_cons, List.not_mem_nil, or_false] at hx
    rcases hx with rfl | rfl | rfl | rfl
    · exact sm_dirM _ _ (by decide)
    · exact sm_fileD _ _ (by decide) (by decide)
    · exact sm_fileD _ _ (by decide) (by decide)
    · exact sm_fileD _ _ (by decide) (by decide)
  rintro e w6 ⟨T1, rfl, ht, hb⟩
  have HW6 := Keep.keep (HW5.out.trans (hb.mono HW5.out.size))
  have HN0' := Keep.keep (HN0.out.on hb)
  clear HN0
  have HN0 := HN0'
  clear HN0'
  have HN1' := Keep.keep (HN1.out.on hb)
  clear HN1
  have HN1 := HN1'
  clear HN1'
  have HN2' := Keep.keep (HN2.out.on hb)
  clear HN2
  have HN2 := HN2'
  clear HN2'
  have HT1 := Keep.keep ht
  clear ht hb hbq Hq
  clear HN0
  clear HN1
  clear HN2
  go_wp2_with fail
  refine (dir_any [97] 493 _).mono ?_
  rintro e w7 ⟨rfl, hb⟩
  have HW7 := Keep.keep (HW6.out.trans (hb.mono HW6.out.size))
  have HT1' := Keep.keep (HT1.out.on hb)
  clear HT1
  have HT1 := HT1'
  clear HT1'
  clear hb
  go_wp2_with fail
  refine (file_any [97, 47, 46, 119, 104, 46, 120] [] 0 rfl (by decide) _).mono ?_
  rintro e w8 ⟨a3, c3, rfl, hn, hb⟩
  have HW8 := Keep.keep (HW7.out.trans (hb.mono HW7.out.size))
  have HT1' := Keep.keep (HT1.out.on hb)
  clear HT1
  have HT1 := HT1'
  clear HT1'
  have HN3 := Keep.keep hn
  clear hn hb
  go_wp2_with fail
  refine (file_any [97, 47, 122] [52] 1 rfl (by decide) _).mono ?_
  rintro e w9 ⟨a4, c4, rfl, hn, hb⟩
  have HW9 := Keep.keep (HW8.out.trans (hb.mono HW8.out.size))
  have HT1' := Keep.keep (HT1.out.on hb)
  clear HT1
  have HT1 := HT1'
  clear HT1'
  have HN3' := Keep.keep (HN3.out.on hb)
  clear HN3
  have HN3 := HN3'
  clear HN3'
  have HN4 := Keep.keep hn
  clear hn hb
  go_wp2_with fail
  refine (dir_any [98] 0 _).mono ?_
  rintro e w10 ⟨rfl, hb⟩
  have HW10 := Keep.keep (HW9.out.trans (hb.mono HW9.out.size))
  have HT1' := Keep.keep (HT1.out.on hb)
  clear HT1
  have HT1 := HT1'
  clear HT1'
  have HN3' := Keep.keep (HN3.out.on hb)
  clear HN3
  have HN3 := HN3'
  clear HN3'
  have HN4' := Keep.keep (HN4.out.on hb)
  clear HN4
  have HN4 := HN4'
  clear HN4'
  clear hb
  go_wp2_with fail
  refine (file_any [98, 47, 99] [53] 1 rfl (by decide) _).mono ?_
  rintro e w11 ⟨a5, c5, rfl, hn, hb⟩
  have HW11 := Keep.keep (HW10.out.trans (hb.mono HW10.out.size))
  have HT1' := Keep.keep (HT1.out.on hb)
  clear HT1
  have HT1 := HT1'
  clear HT1'
  have HN3' := Keep.keep (HN3.out.on hb)
  clear HN3
  have HN3 := HN3'
  clear HN3'
  have HN4' := Keep.keep (HN4.out.on hb)
  clear HN4
  have HN4 := HN4'
  clear HN4'
  have HN5 := Keep.keep hn
  clear hn hb
  go_wp2_with fail
  refine calls_at (R := fun wq => Below w11.heap.size w11 wq ∧ SetL wq w11.heap.size ([(([97], dirM 493), nilV, nilV), (([97, 47, 46, 119, 104, 46, 120], fileD []), nilV, .slice a3 0 c3), (([97, 47, 122], fileD [52]), nilV, .slice a4 1 c4), (([98], dirM 0), nilV, nilV), (([98, 47, 99], fileD [53]), nilV, .slice a5 1 c5)] : List Mv)) ⟨(Below.refl _ _).alloc (Nat.le_refl _) _, SetL.new (fun x hx => ?_) rfl⟩ ?_
  · simp only [List.mem_cons, List.not_mem_nil, or_false] at hx
    rcases hx with rfl | rfl | rfl | rfl | rfl
    · exact dirL _ _
    · exact HN3.out
    · exact HN4.out
    · exact dirL _ _
    · exact HN5.out
  have HX1 := Keep.keep (HT1.out.x (Nat.le_refl _))
  have hbw : w.heap.size ≤ w11.heap.size := HW11.out.size
  obtain ⟨b3, hb3⟩ : ∃ b3, b3 = w11.heap.size := ⟨_, rfl⟩
  have HB3 : Keep (w.heap.size ≤ b3) := ⟨by rw [hb3]; exact hbw⟩
  rw [← hb3] at HX1 ⊢
  clear hbw
  intro w12 Hq
  have hbq := Hq.out.1
  rw [hb3] at hbq
  clear hb3
  clear HN3
  clear HN4
  clear HN5
  clear HT1
  have HW12 := Keep.keep (HW11.out.trans (hbq.mono HW11.out.size))
  have HX1' := Keep.keep (HX1.out.on hbq)
  clear HX1
  have HX1 := HX1'
  clear HX1'
  have HS1 := Keep.keep Hq.out.2
  clear Hq hbq
  refine (apply_tr B (HT.out.on (HW12.out.mono HT.out.b)) HX1.out.tr (by decide) (HS1.out.mb (n := 5) rfl (by decide)) (fun x hx => ?_) (by simp) wa1).mono ?_
  · simp only [List.mem_cons, List.not_mem_nil, or_false] at hx
    rcases hx with rfl | rfl | rfl | rfl | rfl
    · exact sm_dirM _ _ (by decide)
    · exact sm_fileD _ _ (by decide) (by decide)
    · exact sm_fileD _ _ (by decide) (by decide)
    · exact sm_dirM _ _ (by decide)
    · exact sm_fileD _ _ (by decide) (by decide)
  rintro e w13 ⟨U1, rfl, -, hu, hb⟩
  have HU1 := Keep.keep (hu b3 HS1.out.1.lt)
  have HW13 := Keep.keep (HW12.out.trans (hb.mono HW12.out.size))
  have HX1' := Keep.keep (HX1.out.on hb)
  clear HX1
  have HX1 := HX1'
  clear HX1'
  have HS1' := Keep.keep (HS1.out.on hb)
  clear HS1
  have HS1 := HS1'
  clear HS1'
  clear hb hu
  have k9 := HS1.out.1.cell (i := 9) rfl
  have f9 := HS1.out.1.frozen 9
  go_wp2_with fail
  refine calls_at (R := fun wq => Below w.heap.size w wq ∧ SetL wq b3 ([(([97], dirM 493), nilV, nilV), (([97, 47, 46, 119, 104, 46, 46, 119, 104, 46, 46, 111, 112, 113], fileD []), nilV, .slice a3 0 c3), (([97, 47, 122], fileD [52]), nilV, .slice a4 1 c4), (([98], dirM 0), nilV, nilV), (([98, 47, 99], fileD [53]), nilV, .slice a5 1 c5)] : List Mv) ∧ TrX b3 wq T1 wT ∧ TrX b3 wq U1 wU) ⟨?_, HS1.out.set (i := 9) (v := .string ⟨([97, 47, 46, 119, 104, 46, 46, 119, 104, 46, 46, 111, 112, 113] : Tx).toArray⟩) rfl (fun x hx => ?_), HX1.out.set, HU1.out.set⟩ ?_
  · exact ((Chg.of_below (M := NoM) HW13.out).setCell (.inl HB3.out) _).below (fun _ _ h => h)
  · simp only [List.mem_cons, List.not_mem_nil, or_false] at hx
    rcases hx with rfl | rfl | rfl | rfl | rfl
    · exact ⟨(([97], dirM 493), nilV, nilV), by simp, rfl, rfl⟩
    · exact ⟨(([97, 47, 46, 119, 104, 46, 120], fileD []), nilV, .slice a3 0 c3), by simp, rfl, rfl⟩
    · exact ⟨(([97, 47, 122], fileD [52]), nilV, .slice a4 1 c4), by simp, rfl, rfl⟩
    · exact ⟨(([98], dirM 0), nilV, nilV), by simp, rfl, rfl⟩
    · exact ⟨(([98, 47, 99], fileD [53]), nilV, .slice a5 1 c5), by simp, rfl, rfl⟩
  intro w14 Hq
  clear k9 f9 HX1 HU1 HS1 HW13
  have HW14 := Keep.keep Hq.out.1
  have HS1 := Keep.keep Hq.out.2.1
  have HX1 := Keep.keep Hq.out.2.2.1
  have HU1 := Keep.keep Hq.out.2.2.2
  clear Hq
  refine (apply_tr B (HT.out.on (HW14.out.mono HT.out.b)) HX1.out.tr (by decide) (HS1.out.mb (n := 5) rfl (by decide)) (fun x hx => ?_) (by simp) wa2).mono ?_
  · simp only [List.mem_cons, List.not_mem_nil, or_false] at hx
    rcases hx with rfl | rfl | rfl | rfl | rfl
    · exact sm_dirM _ _ (by decide)
    · exact sm_fileD _ _ (by decide) (by decide)
    · exact sm_fileD _ _ (by decide) (by decide)
    · exact sm_dirM _ _ (by decide)
    · exact sm_fileD _ _ (by decide) (by decide)
  rintro e w15 ⟨V1, rfl, hv, -, hb⟩
  clear HX1 HS1
  have HV1 := Keep.keep hv
  have HW15 := Keep.keep (HW14.out.trans (hb.mono HW14.out.size))
  have HU1' := Keep.keep (HU1.out.on hb)
  clear HU1
  have HU1 := HU1'
  clear HU1'
  clear hb hv
  go_wp2_with fail
  refine (get_tr HU1.out.tr [97] (by decide) wg1).mono ?_
  rintro e w16 ⟨aa, la, ca, ad, ld, cd, rfl, -, hb⟩
  have HW16 := Keep.keep (HW15.out.trans (hb.mono HW15.out.size))
  have HU1' := Keep.keep (HU1.out.on hb)
  clear HU1
  have HU1 := HU1'
  clear HU1'
  have HV1' := Keep.keep (HV1.out.on hb)
  clear HV1
  have HV1 := HV1'
  clear HV1'
  clear hb
  go_upto_region 7 with fail
  refine wp_world (R := fun wq => Hp NoM w16 wq [rowA w16.heap.size 30 #[.int .i64 1, .int .u32 493, .int .u32 0, .int .u32 0, .int .i64 0, .slice aa la ca, .slice ad ld cd, .string ⟨(([] : Tx)).toArray⟩]]) ((Hp.begin NoM w16).newRow _ _) ?_
  intro w17 Hq
  have hbq := Hq.out.below
  have HW17 := Keep.keep (HW16.out.trans (hbq.mono HW16.out.size))
  have HU1' := Keep.keep (HU1.out.on hbq)
  clear HU1
  have HU1 := HU1'
  clear HU1'
  have HV1' := Keep.keep (HV1.out.on hbq)
  clear HV1
  have HV1 := HV1'
  clear HV1'
  have c81 := (Hq.out.row 0 rfl).cell (i := 1) rfl
  obtain ⟨b8, hb8⟩ : ∃ b8, b8 = w16.heap.size := ⟨_, rfl⟩
  rw [← hb8] at c81 ⊢
  clear hb8 Hq hbq
  go_wp2_with fail
  refine (paths_any HU1.out.tr (by decide)).mono ?_
  rintro e w18 ⟨vp, rfl, ho, hb⟩
  have HW18 := Keep.keep (HW17.out.trans (hb.mono HW17.out.size))
  have HU1' := Keep.keep (HU1.out.on hb)
  clear HU1
  have HU1 := HU1'
  clear HU1'
  have HV1' := Keep.keep (HV1.out.on hb)
  clear HV1
  have HV1 := HV1'
  clear HV1'
  obtain ⟨ap, cp, hvp, -⟩ := (ownsV_reads ho).shape
  replace hvp : vp = .slice ap 5 cp := hvp
  have HP := Keep.keep ho.rd'
  clear ho hb c81
  subst hvp
  go_wp2_with fail
  refine calls_at (R := fun wq => Below w18.heap.size w18 wq ∧ RdS wq (· < wq.heap.size) (.slice (some ⟨w18.heap.size, 0, none⟩) 5 5) [[97], [97, 47, 121], [97, 47, 122], [98], [98, 47, 99]]) ⟨(Below.refl _ _).alloc (Nat.le_refl _) _, RdV.new 9 (([[97], [97, 47, 121], [97, 47, 122], [98], [98, 47, 99]] : List Tx).map strV) 1 5 _ rfl rfl (by unfold maxLen; omega) (by simp)⟩ ?_
  intro w19 Hq
  have hbq := Hq.out.1
  have HP' := Keep.keep (RdS.on' HP.out hbq)
  clear HP
  have HW19 := Keep.keep (HW18.out.trans (hbq.mono HW18.out.size))
  have HU1' := Keep.keep (HU1.out.on hbq)
  clear HU1
  have HU1 := HU1'
  clear HU1'
  have HV1' := Keep.keep (HV1.out.on hbq)
  clear HV1
  have HV1 := HV1'
  clear HV1'
  refine (sequal_any _ _ _ _ _ HP'.out Hq.out.2 (by decide) (by decide)).mono ?_
  rw [show decide ((wU).map (·.1) = [[97], [97, 47, 121], [97, 47, 122], [98], [98, 47, 99]]) = true from by decide]
  rintro e w20 ⟨rfl, hb⟩
  have HW20 := Keep.keep (HW19.out.trans (hb.mono HW19.out.size))
  have HU1' := Keep.keep (HU1.out.on hb)
  clear HU1
  have HU1 := HU1'
  clear HU1'
  have HV1' := Keep.keep (HV1.out.on hb)
  clear HV1
  have HV1 := HV1'
  clear HV1'
  clear hb Hq hbq HP'
  go_wp2_with fail
  refine (paths_any HV1.out (by decide)).mono ?_
  rintro e w21 ⟨vp, rfl, ho, hb⟩
  have HW21 := Keep.keep (HW20.out.trans (hb.mono HW20.out.size))
  have HV1' := Keep.keep (HV1.out.on hb)
  clear HV1
  have HV1 := HV1'
  clear HV1'
  obtain ⟨ap, cp, hvp, -⟩ := (ownsV_reads ho).shape
  replace hvp : vp = .slice ap 4 cp := hvp
  have HP := Keep.keep ho.rd'
  clear ho hb
  subst hvp
  go_wp2_with fail
  refine calls_at (R := fun wq => Below w21.heap.size w21 wq ∧ RdS wq (· < wq.heap.size) (.slice (some ⟨w21.heap.size, 0, none⟩) 4 4) [[97], [97, 47, 122], [98], [98, 47, 99]]) ⟨(Below.refl _ _).alloc (Nat.le_refl _) _, RdV.new 9 (([[97], [97, 47, 122], [98], [98, 47, 99]] : List Tx).map strV) 1 4 _ rfl rfl (by unfold maxLen; omega) (by simp)⟩ ?_
  intro w22 Hq
  have hbq := Hq.out.1
  have HP' := Keep.keep (RdS.on' HP.out hbq)
  clear HP
  have HW22 := Keep.keep (HW21.out.trans (hbq.mono HW21.out.size))
  have HV1' := Keep.keep (HV1.out.on hbq)
  clear HV1
  have HV1 := HV1'
  clear HV1'
  refine (sequal_any _ _ _ _ _ HP'.out Hq.out.2 (by decide) (by decide)).mono ?_
  rw [show decide ((wV).map (·.1) = [[97], [97, 47, 122], [98], [98, 47, 99]]) = true from by decide]
  rintro e w23 ⟨rfl, hb⟩
  have HW23 := Keep.keep (HW22.out.trans (hb.mono HW22.out.size))
  have HV1' := Keep.keep (HV1.out.on hb)
  clear HV1
  have HV1 := HV1'
  clear HV1'
  clear hb Hq hbq HP'
  go_wp2_with fail
  go_ret
  exact ⟨rfl, HW23.out⟩
end Go.Proofs.YtplafpokgpolkaaGreatDoor
