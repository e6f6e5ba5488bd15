/- PARTS OF ONE PROOF, set in one file: DifferLeads, Nest, Ok, NodeOpen, TreeLaid, OpenS. Each part tells its own conditions. -/
import Derived.Deep.Slices
import Derived.Deep.SlicePairs
import Derived.Lib.LaidU8
import Derived.LaidHandle
import Derived.LaidSub
import Derived.PinnedBridge
import Derived.Deep.DeepWitnessRowRef
import Derived.SliceStrings
import Derived.Test.YtmnknmpfkjhgbaaGreatDoorP1
import Derived.Test.YtmnknmpfkjhgbaaGreatDoorP2
import Derived.Test.YtmnknmpfkjhgbaaGreatDoorP3
import Derived.Test.YtmnknmpfkjhgbaaGreatDoorP4
import Derived.Test.YtmnknmpfkjhgbaaGreatDoorP6
import Derived.Test.YtmnknmpfkjhgbaaGreatDoorP8
import Derived.Test.YtmnknmpfkjhgbaaGreatDoorP9
import Derived.Test.YtmnknmpfkjhgbaaGreatDoorP13
import Derived.Test.YtmnknmpfkjhgbaaGreatDoorP18
/- portolanlaw20.DifferLeads: the law's walk. -/
namespace Go.Proofs.YtmnknmpfkjhgbaaGreatDoor
open Go.RowKit
section
variable {ρ : Operand → Value} {d : Option Tmp} {x y : Operand} {t t1 : TypeId} {pos : String} {af : Array Edge} {g : Option (Nat × Bool)} {w : World}
theorem run_addI {a b : Int} (hx : ρ x = .int .i64 a) (hy : ρ y = .int .i64 b) (h : -9223372036854775808 ≤ a + b ∧ a + b < 9223372036854775808) : (execOp ρ (⟨d, .binOp .add 3 x y t1, t, pos, af, g⟩ : Oper)).run Tryz.prog w = .ok (.value (.int .i64 (a + b))) w := by
  simp [go_sem, execOp, hx, hy]
  rw [IntKind.wrap_i64]
  omega
end
theorem sm_sign {q : Tx} (h : q.length ≤ 400000) : Sm (signM q) := by
  unfold signM
  split
  · exact ⟨by simp, by simp [nd0], by simp [nd0], by simp [nd0], fun x hx => by simp [nd0] at hx, by simp [nd0]⟩
  · exact ⟨h, by simp [bareN], by simp [bareN], by simp [bareN], fun x hx => by simp [bareN] at hx, by simp [bareN]⟩
theorem sm_wh (q : Tx) : Sm (whM q) := sm_sign (by
  unfold whiteoutP
  split
  · simp
  · rename_i h
    have hm : mayP q = true := by
      cases hq : mayP q with
      | true => rfl
      | false => exact (h (by simp [hq])).elim
    have hl : q.length ≤ 4080 := by
      unfold mayP at hm
      simp only [Bool.and_eq_true, decide_eq_true_eq] at hm
      exact hm.1.1
    have h1 := whiteoutP_len q
    have h2 : whiteoutP q = joinP [parentP q, whiteB ++ baseP q] := by unfold whiteoutP; rw [if_neg h]
    rw [← h2]
    omega)
theorem sm_mk (q : Tx) : Sm (mkM q) := sm_sign (by
  cases hm : mayP q with
  | false =>
    unfold opaqueP
    rw [hm]
    simp
  | true =>
    have hl : q.length ≤ 4080 := by
      unfold mayP at hm
      simp only [Bool.and_eq_true, decide_eq_true_eq] at hm
      exact hm.1.1
    have h1 := opaqueP_len q
    omega)
/-- what the operations of the region that adds what is under a path yield -/
def undT (n9 n1 nl cl Tb : Nat) (al : Option Addr) (q : Tx) (l4 : List Mv) (C : List Mb) (b : Bool) : Nat → (Nat → Value) → World → Prop
  | 0, s, _ => s 131 = .slice al nl cl
  | 1, s, w => b = false → RowM n1 (· < n9) w (s 132) l4
  | 2, s, _ => s 133 = .pointer (some ⟨Tb, 0, none⟩)
  | 3, s, _ => s 134 = .string ⟨q.toArray⟩
  | 4, s, w => b = false → ∃ lu m, lu.map (·.1) = underL q C ∧ RowM m NoM w (s 135) lu ∧ n1 ≤ m ∧ m ≤ w.heap.size ∧ ∀ k, (s 132).ownBlock = some k → k < m
  | 5, s, w => b = true ∧ ∃ lu a c, lu.map (·.1) = underL q C ∧ RowM n1 (· < n9) w (s 136) (l4 ++ lu) ∧ s 136 = .slice a (l4 ++ lu).length c
  | 6, s, _ => ∃ a n c, s 136 = .slice a n c ∧ s 137 = .int .i64 (n : Int)
  | 7, s, _ => s 138 = .int .i64 0
  | _, _, _ => True
theorem ent_und : ∀ args w, (callFunc 18 args).run Tryz.prog w = .ok (.enter 18 args) w := enters_of Tryz.func18 (by kernel_rfl) rfl
theorem sign_bare (q : Tx) : (signM q).2.attrs = [] ∧ (signM q).2.data = [] := by
  unfold signM
  split <;> exact ⟨rfl, rfl⟩
theorem ent_least : ∀ args w, (callFunc 13 args).run Tryz.prog w = .ok (.enter 13 args) w := enters_of Tryz.func13 (by kernel_rfl) rfl
/-- what the operations of the region that leaves one out yield -/
def outT (n0 nl cl i : Nat) (al a7 : Option Addr) (l : List Mv) : Nat → Value → World → Prop
  | 0, v, _ => v = .slice al nl cl
  | 1, v, _ => v = .int .i64 (i : Int)
  | 2, v, _ => v = .slice al i cl
  | 3, v, w => RowM n0 (· < n0) w v (l.take i)
  | 4, v, _ => v = .slice al nl cl
  | 5, v, _ => v = .int .i64 (i : Int)
  | 6, v, _ => v = .int .i64 ((i : Int) + 1)
  | 7, v, _ => v = .slice a7 (nl - (i + 1)) (cl - (i + 1))
  | _, _, _ => True
theorem outT_stays {n0 nl cl j : Nat} {al a7 : Option Addr} {l : List Mv} {w w' : World} (i : Nat) (v : Value) (h : outT n0 nl cl j al a7 l i v w) (hb : Below w.heap.size w w') : outT n0 nl cl j al a7 l i v w' := by
  unfold outT at h ⊢
  split at h <;> first
    | exact h
    | exact RowM.below h hb
set_option maxHeartbeats 8000000 in
set_option maxRecDepth 100000 in
theorem leads_any (B : Nat) (v0 v1 v2 : Value) (l0 l1 : List Av) (l2 : List Mv) (d3 d4 : Nat) (hd3 : d3 < 256) (hd4 : d4 < 256) (w : World) (hT : Tabs B w) (h0 : ActL w v0 l0) (k0 : ∀ x ∈ l0, Kb x.2.1) (h1 : ActL w v1 l1) (k1 : ∀ x ∈ l1, Kb x.2.1) (h2 : MbL w v2 l2) (k2 : ∀ x ∈ l2, Kb x.1) :
    Calls Tryz.prog 3 #[v0, v1, v2, .int .u8 (d3 : Int), .int .u8 (d4 : Int)] w fun e w' => e = .returned (.bool true) ∧ Below w.heap.size w w' := by
  obtain ⟨a0, c0, hv0, -⟩ := h0.rd.shape
  obtain ⟨a1, c1, hv1, -⟩ := h1.rd.shape
  obtain ⟨a2, c2, hv2, hc2, hm2, -⟩ := h2.rd.shape
  have HT := Keep.keep hT
  have H0 := Keep.keep h0; have K0 := Keep.keep k0
  have H1 := Keep.keep h1; have K1 := Keep.keep k1
  have H2 := Keep.keep h2; have K2 := Keep.keep k2
  have HWA : Keep (WellL (actT l0) ∧ (actT l0).length ≤ 40) := ⟨actT_well _, actT_len _⟩
  have HWB : Keep (WellL (actT l1) ∧ (actT l1).length ≤ 40) := ⟨actT_well _, actT_len _⟩
  have HW0 : Keep (Below w.heap.size w w) := ⟨Below.refl _ _⟩
  have hent := ent_least
  unfold maxLen at hm2
  clear hT h0 k0 h1 k1 h2 k2
  subst hv0 hv1 hv2
  obtain ⟨A, hA⟩ : ∃ A, actT l0 = A := ⟨_, rfl⟩
  obtain ⟨C, hC⟩ : ∃ C, actT l1 = C := ⟨_, rfl⟩
  have HG0 := Keep.keep (grown_tr B HT.out H0.out K0.out)
  have HG1 : Keep (∀ wx, Below w.heap.size w wx → Calls Tryz.prog 8 #[.slice a1 l1.length c1] wx fun e w' => ∃ T, e = .returned (.pointer (some ⟨T, 0, none⟩)) ∧ TrL w' T (actT l1) ∧ Below wx.heap.size wx w') := ⟨fun wx hb => grown_tr B (HT.out.on (hb.mono HT.out.b)) (H1.out.on hb) K1.out⟩
  rw [hA] at HG0 HWA
  rw [hC] at HG1 HWB
  have H2N : Keep (∀ x ∈ l2, Sm (cutM x.1)) := ⟨fun x hx => (K2.out x hx).cut⟩
  clear hA hC H0 H1 K0 K1 K2
  go_enter Tryz.func3, Tryz.ntmps3
  go_wp2_with fail
  refine HG0.out.mono ?_
  rintro e w1 ⟨Ta, rfl, ht, hb⟩
  have HW1 := Keep.keep hb
  have HA1 := Keep.keep ht
  clear ht hb HG0
  go_wp2_with fail
  refine (HG1.out w1 HW1.out).mono ?_
  rintro e w2 ⟨Tb, rfl, ht, hb⟩
  have HW2 := Keep.keep (HW1.out.trans (hb.mono HW1.out.size))
  have HA2 := Keep.keep (HA1.out.on hb)
  have HC2 := Keep.keep ht
  clear ht hb HG1 HA1
  go_upto_region 2 with fail
  refine wp_world (R := fun w3 => Hp NoM w2 w3 [rowA w2.heap.size 24 #[.pointer (some ⟨Ta, 0, none⟩)], rowA (w2.heap.size + 1) 24 #[.pointer (some ⟨Tb, 0, none⟩)]]) ?_ ?_
  · have := ((Hp.begin NoM w2).newRow 24 #[.pointer (some ⟨Ta, 0, none⟩)]).newRow 24 #[.pointer (some ⟨Tb, 0, none⟩)]
    simpa using this
  intro w3 H3
  obtain ⟨ab, hab⟩ : ∃ b, w2.heap.size = b := ⟨_, rfl⟩
  have HB3 := Keep.keep H3.out.below
  have HA3 := Keep.keep (HA2.out.on H3.out.below)
  have HC3 := Keep.keep (HC2.out.on H3.out.below)
  have HW3 := Keep.keep (HW2.out.trans (H3.out.below.mono HW2.out.size))
  have HRA := Keep.keep (H3.out.row 0 rfl)
  have HRB := Keep.keep (H3.out.row 1 rfl)
  rw [hab] at HRA HRB ⊢
  obtain ⟨bb, hbb⟩ : ∃ b, ab + 1 = b := ⟨_, rfl⟩
  rw [hbb] at HRB ⊢
  have ca := HRA.out.cell (i := 0) rfl
  have cb := HRB.out.cell (i := 0) rfl
  clear H3 hab hbb HB3 HA2 HC2
  go_wp2_with fail
  refine (Of_tr B (HT.out.on (HW3.out.mono HT.out.b)) HWA.out.1 HWB.out.1 (by have := HWA.out.2; omega) (by have := HWB.out.2; omega) HA3.out HC3.out).mono ?_
  rintro e w4 ⟨v4, l4, rfl, ho, -, hr, hb⟩
  have HW4 := Keep.keep (HW3.out.trans (hb.mono HW3.out.size))
  have HA4 := Keep.keep (HA3.out.on hb)
  have HC4 := Keep.keep (HC3.out.on hb)
  have HRA4 := Keep.keep (HRA.out.below hb HRA.out.lt)
  have HRB4 := Keep.keep (HRB.out.below hb HRB.out.lt)
  have HO := Keep.keep ho
  have HS4 : Keep (∀ x ∈ l4, Sm x.1) := ⟨fun x hx => ho.sm x.1 (List.mem_map.2 ⟨x, hx, rfl⟩)⟩
  have HM4 : Keep (MbL w4 v4 l4) := ⟨MbL.ofRow hr⟩
  obtain ⟨al, cl, hv4, hnc, hcm, -⟩ := (ownsV_reads hr.own).shape
  have hnl : l4.length ≤ 41 := by have := ho.le; rw [List.length_map] at this; have := HWB.out.2; omega
  have hml : l4.length = (toldL A C).length := by rw [← ho.len, List.length_map]
  obtain ⟨nl, hnl'⟩ : ∃ n, l4.length = n := ⟨_, rfl⟩
  have HNL := Keep.keep hnl'
  rw [hnl'] at hv4 hnl hnc hml
  have HCM := Keep.keep hcm; have HML := Keep.keep hml
  clear ho hr hb HRA HRB HA3 HC3 ca cb hnl' hcm hml
  subst hv4
  go_upto_region 5 with fail
  refine wp_world (R := fun w5 => Hp NoM w4 w5 [rowA w4.heap.size 23 #[.slice al nl cl]]) ?_ ?_
  · have := (Hp.begin NoM w4).newRow 23 #[.slice al nl cl]
    simpa using this
  intro w5 H5
  obtain ⟨lb, hlb⟩ : ∃ b, w4.heap.size = b := ⟨_, rfl⟩
  have HW5 := Keep.keep (HW4.out.trans (H5.out.below.mono HW4.out.size))
  have hrl := H5.out.row 0 rfl
  have HIN : Keep (LdIn w5 w4.heap.size ab bb Ta Tb al nl cl A C) := ⟨⟨hrl, HRA4.out.below H5.out.below HRA4.out.lt, HRB4.out.below H5.out.below HRB4.out.lt, HA4.out.on H5.out.below, HC4.out.on H5.out.below, HML.out⟩⟩
  have HM5 := Keep.keep (HM4.out.on H5.out.below)
  clear hrl
  rw [hlb] at HIN ⊢
  clear H5 hlb HRA4 HRB4 HA4 HC4 HM4
  have clb := HIN.out.rl.cell (i := 0) rfl
  have HMAY := Keep.keep (chmay_any (.slice al nl cl) l4 B w5 (HT.out.on (HW5.out.mono HT.out.b)) HM5.out HS4.out (by have := HNL.out; omega))
  rw [HO.out.may] at HMAY
  go_wp2_with fail
  refine HMAY.out.mono ?_
  rintro e w6 ⟨rfl, hb⟩
  have HW6 := Keep.keep (HW5.out.trans (hb.mono HW5.out.size))
  have HIN6 := Keep.keep (HIN.out.on hb)
  have HM6 := Keep.keep (HM5.out.on hb)
  clear hb HIN HM5 HMAY clb
  have ca := HIN6.out.ra.cell (i := 0) rfl
  have clb := HIN6.out.rl.cell (i := 0) rfl
  go_wp2_with fail
  refine (apply_tr B (HT.out.on (HW6.out.mono HT.out.b)) HIN6.out.ta (by have := HWA.out.2; omega) HM6.out HS4.out (by have := HNL.out; omega) HO.out.app).mono ?_
  rintro e w7 ⟨Tp, rfl, ht, hb⟩
  have HW7 := Keep.keep (HW6.out.trans (hb.mono HW6.out.size))
  have HIN7 := Keep.keep (HIN6.out.on hb)
  have HM7 := Keep.keep (HM6.out.on hb)
  have HP7 := Keep.keep ht
  clear hb ht HIN6 HM6 ca clb
  have cb := HIN7.out.rb.cell (i := 0) rfl
  go_wp2_with fail
  refine (same_tr HP7.out HIN7.out.tb (by have := HWB.out.2; omega) rfl).mono ?_
  rintro e w8 ⟨rfl, hb⟩
  have HW8 := Keep.keep (HW7.out.trans (hb.mono HW7.out.size))
  have HIN8 := Keep.keep (HIN7.out.on hb)
  have HM8 := Keep.keep (HM7.out.on hb)
  have H28 := Keep.keep (H2.out.on HW8.out)
  clear hb HIN7 HM7 HP7 cb
  obtain ⟨mn, hmn⟩ : ∃ k, min l2.length 12 = k := ⟨_, rfl⟩
  have hmn2 : min (l2.length : Int) 12 = (mn : Int) := by omega
  have hsl := slice_mto a2 l2.length c2 mn .i64 (by omega)
  have HFW : Keep (Calls Tryz.prog 15 #[.slice a2 mn c2] w8 fun e w' => ∃ a n c fl, e = .returned (.slice a n c) ∧ fl.length = n ∧ n ≤ 12 ∧ (∀ x ∈ fl, Sm x.1) ∧ MbL w' (.slice a n c) fl ∧ Below w8.heap.size w8 w') := ⟨by
    have hm := H28.out.take mn (by omega)
    refine (few12_any _ _ w8 hm).mono ?_
    rintro e w' ⟨v', rfl, ⟨fl, hfl, ho, hn⟩, hb⟩
    obtain ⟨a, c, hv, -⟩ := (ownsV_reads ho).shape
    subst hv
    refine ⟨a, fl.length, c, fl, rfl, rfl, ?_, fun x hx => ?_, ⟨(ownsV_reads ho).mono (fun b hb => hb.2.1), fun x hx => (hn x hx).mono (fun b hb => hb.1.2)⟩, hb⟩
    · have := congrArg List.length hfl
      rw [List.length_map] at this
      rw [this]
      unfold few12
      rw [List.length_map]
      exact List.length_take_le _ _
    · have h1 : x.1 ∈ fl.map (·.1) := List.mem_map.2 ⟨x, hx, rfl⟩
      rw [hfl] at h1
      unfold few12 at h1
      obtain ⟨y, hy, he⟩ := List.mem_map.1 h1
      obtain ⟨z, hz, rfl⟩ := List.mem_map.1 (List.mem_of_mem_take hy)
      rw [← he]
      exact H2N.out z (List.mem_of_mem_take hz)⟩
  clear hmn H28 H2 H2N
  go_wp2_with fail
  refine HFW.out.mono ?_
  rintro e w9 ⟨af, nf, cf, fl, rfl, hnf, hnf2, hsf, hmf, hb⟩
  have HW9 := Keep.keep (HW8.out.trans (hb.mono HW8.out.size))
  have HIN9 := Keep.keep (HIN8.out.on hb)
  have HM9 := Keep.keep (HM8.out.on hb)
  have HF9 := Keep.keep hmf
  have HFS := Keep.keep hsf; have HFN := Keep.keep hnf
  clear hb HIN8 HM8 hmf hsf hnf HFW hsl hmn2
  have HSC : Keep (∀ x ∈ C, Sm x) := ⟨by
    obtain ⟨_, _, _, h1, _⟩ := HIN9.out.tb
    exact h1.sm⟩
  have HLE : Keep (∀ wx lst v, Below w9.heap.size w9 wx → MbL wx v lst → (∀ x ∈ lst, Sm x.1) → lst.length ≤ 100000 → Calls Tryz.prog 13 #[v, .pointer (some ⟨lb, 0, none⟩), .pointer (some ⟨ab, 0, none⟩), .pointer (some ⟨bb, 0, none⟩)] wx fun e w' => e = .returned (.bool true) ∧ Below wx.heap.size wx w') := ⟨fun wx lst v hb hm hs hl => least_any lb ab bb Ta Tb al nl cl A C B v lst wx (HT.out.on ((HW9.out.trans (hb.mono HW9.out.size)).mono HT.out.b)) (HIN9.out.on hb) HWA.out.1 HWB.out.1 (by have := HWA.out.2; omega) hm hs hl⟩
  go_wp2_with fail
  refine (HLE.out w9 fl _ (Below.refl _ _) HF9.out HFS.out (by have := HFN.out; omega)).mono ?_
  rintro e w10 ⟨rfl, hb10⟩
  have HB10 := Keep.keep hb10
  clear hb10
  by_cases h0 : 0 < nl
  · have clb := (HIN9.out.on HB10.out).rl.cell (i := 0) rfl
    have hd0 : decide (0 < nl) = true := decide_eq_true h0
    obtain ⟨i, hi⟩ : ∃ i, d3 % nl = i := ⟨_, rfl⟩
    have hil : i < nl := by rw [← hi]; exact Nat.mod_lt _ h0
    have hmod : (d3 : Int) % (nl : Int) = (i : Int) := by rw [← hi]; rfl
    clear hi
    go_upto_region 16 with fail
    rw [hmod]
    clear hd0 hmod clb
    obtain ⟨a7, hs7, hrd7⟩ := slice_mfrom al nl cl (i + 1) .i64 (by omega) hnc
    have hpi : ((i + 1 : Nat) : Int) = (i : Int) + 1 := rfl
    simp only [hpi] at hs7
    have HR7 := Keep.keep hrd7
    have hM10 : MbL w10 (.slice al nl cl) l4 := HM9.out.on HB10.out
    have HM10 := Keep.keep hM10
    clear hrd7
    refine wp_region_spcT 8 [81, 82, 83, 84, 85, 86, 87, 88] (Below w10.heap.size w10) (outT w10.heap.size nl cl i al a7 l4) (fun w w' => Below w.heap.size w w') (by kernel_rfl) rfl (by decide) (by show ∀ d ∈ _, d < 161; decide) (by kernel_rfl) (by decide) (by kernel_rfl) (by kernel_rfl) (by kernel_rfl) (Below.refl _ _).drew (fun i v w w' h _ hb => outT_stays i v h hb) ?_ ?_
    · intro q hq a1 w5 hF hC hT
      have hsz : a1.tmps.size = 161 := hF.size
      have t13 : a1.eval (.tmp 13) = .pointer (some ⟨lb, 0, none⟩) := (hF.same 13 (by decide)).trans rfl
      have t18 : a1.eval (.tmp 18) = .int .i64 (i : Int) := (hF.same 18 (by decide)).trans rfl
      have hkr : Below w5.heap.size w5 w5 := Below.refl _ _
      have cl5 := (HIN9.out.on (HB10.out.trans (hC.mono HB10.out.size))).rl.cell (i := 0) rfl
      rcases (by omega : q = 0 ∨ q = 1 ∨ q = 2 ∨ q = 3 ∨ q = 4 ∨ q = 5 ∨ q = 6 ∨ q = 7) with rfl | rfl | rfl | rfl | rfl | rfl | rfl | rfl
      · exact spcS_val (d := 81) rfl (wanted_none rfl) (run_loadCell (run_isAgg_plain Tryz.underlying23 rfl) cl5 t13) hC hkr rfl
      · exact spcS_val (d := 82) rfl (wanted_none rfl) run_move hC hkr t18
      · have hx : a1.eval (.tmp 81) = .slice al nl cl := hT 0 (by decide) (by kernel_rfl)
        have hy : a1.eval (.tmp 82) = .int .i64 (i : Int) := hT 1 (by decide) (by kernel_rfl)
        exact spcS_val (d := 83) rfl (wanted_none rfl) (v := .slice al i cl) (w2 := w5) (by simp [execOp, Instr.sliceAt, hx, hy, slice_mto al nl cl i .i64 (by omega)]) hC hkr rfl
      · have hx : a1.eval (.tmp 83) = .slice al i cl := hT 2 (by decide) (by kernel_rfl)
        have hmt : MbL w10 (.slice al i cl) (l4.take i) := Mbs.take HM10.out i (by have := HNL.out; omega)
        obtain ⟨v8, w8, hrun, ho8, hb8⟩ := run_appNil (ρ := a1.eval) (d := some 84) (tp := 23) (pos := "outright.go:42") (af := _) (g := none) (s := .const (.slice none 0 0)) (x := .tmp 83) w10.heap.size (Nat.le_refl _) hC.size hmt hC (by rw [List.length_take]; omega) rfl hx
        exact spcS_val (d := 84) rfl (wanted_none rfl) hrun (hC.trans (hb8.mono hC.size)) hb8 ho8
      · exact spcS_val (d := 85) rfl (wanted_none rfl) (run_loadCell (run_isAgg_plain Tryz.underlying23 rfl) cl5 t13) hC hkr rfl
      · exact spcS_val (d := 86) rfl (wanted_none rfl) run_move hC hkr t18
      · have hy : a1.eval (.tmp 86) = .int .i64 (i : Int) := hT 5 (by decide) (by kernel_rfl)
        exact spcS_val (d := 87) rfl (wanted_none rfl) (run_addI hy (show _ = Value.int .i64 1 from rfl) (by omega)) hC hkr rfl
      · have hx : a1.eval (.tmp 85) = .slice al nl cl := hT 4 (by decide) (by kernel_rfl)
        have hy : a1.eval (.tmp 87) = .int .i64 ((i : Int) + 1) := hT 6 (by decide) (by kernel_rfl)
        exact spcS_val (d := 88) rfl (wanted_none rfl) (v := .slice a7 (nl - (i + 1)) (cl - (i + 1))) (w2 := w5) (by simp [execOp, Instr.sliceAt, hx, hy, hs7]) hC hkr rfl
    · intro a1 w6 ha hC hT
      have t84 : RowM w10.heap.size (· < w10.heap.size) w6 (slot a1 84) (l4.take i) := hT 3 (by decide)
      have t88 : slot a1 88 = .slice a7 (nl - (i + 1)) (cl - (i + 1)) := hT 7 (by decide)
      simp only [List.foldl_cons, List.foldl_nil, t88] at ha
      have HRT := Keep.keep t84
      have HB6 := Keep.keep hC
      have HM8 : Keep (Mbs w6 (· < w10.heap.size) (fun b => b < w10.heap.size) (.slice a7 (nl - (i + 1)) (cl - (i + 1))) (l4.drop (i + 1))) := ⟨HR7.out _ _ _ l4 (Mbs.below HM10.out hC (fun _ h => h) (fun _ h => h))⟩
      generalize slot a1 81 = y81 at *
      generalize slot a1 82 = y82 at *
      generalize slot a1 83 = y83 at *
      generalize slot a1 84 = y84 at *
      generalize slot a1 85 = y85 at *
      generalize slot a1 86 = y86 at *
      generalize slot a1 87 = y87 at *
      clear hT t84 t88 hC hs7 HR7
      subst ha
      simp only [List.drop_succ_cons, List.drop_zero]
      simp only [Act.put, List.setIfInBounds_toArray, List.set_cons_succ, List.set_cons_zero]
      have hll : (l4.take i).length + (l4.drop (i + 1)).length + 1 = nl := by rw [List.length_take, List.length_drop, HNL.out]; omega
      refine arm_appM HRT.out HB6.out.size HM8.out (fun b hb => ⟨.inl hb, Nat.lt_of_lt_of_le hb HB6.out.size, fun e => by have := (HRT.out.lt e).1; omega⟩) (by omega) rfl rfl ?_
      intro v19 w7 hr7 hg7 hov7 hv19
      obtain ⟨a19, c19, hv19⟩ := hv19
      obtain ⟨n19, hn19⟩ : ∃ n, (l4.take i).length + (l4.drop (i + 1)).length = n := ⟨_, rfl⟩
      rw [hn19] at hv19 hll
      subst hv19
      have HB7 := Keep.keep (HB6.out.trans (HRT.out.chg HB6.out.size hg7))
      have HM19 := Keep.keep (MbL.ofRowK hr7)
      have HS19 : Keep (∀ x ∈ l4.take i ++ l4.drop (i + 1), Sm x.1) := ⟨fun x hx => by
        rcases List.mem_append.1 hx with hx | hx
        · exact HS4.out x (List.mem_of_mem_take hx)
        · exact HS4.out x (List.mem_of_mem_drop hx)⟩
      have hln : (l4.take i ++ l4.drop (i + 1)).length = n19 := by rw [List.length_append]; exact hn19
      clear hr7 hg7 hov7 hn19 HRT HM8 HB6
      generalize l4.take i ++ l4.drop (i + 1) = L19 at *
      have HLN := Keep.keep hln
      clear hln
      simp only [Act.put, List.setIfInBounds_toArray, List.set_cons_succ, List.set_cons_zero]
      go_wp2_with fail
      refine (HLE.out w7 L19 _ (HB10.out.trans (HB7.out.mono HB10.out.size)) HM19.out HS19.out (by have := HLN.out; omega)).mono ?_
      rintro e w11 ⟨rfl, hb⟩
      have HB11 := Keep.keep ((HB10.out.trans (HB7.out.mono HB10.out.size)).trans (hb.mono (Nat.le_trans HB10.out.size HB7.out.size)))
      have HM11 := Keep.keep (HM19.out.on hb)
      have HF11 := Keep.keep (HF9.out.on HB11.out)
      have hc19 : n19 ≤ c19 := by
        obtain ⟨_, _, he, h, -⟩ := HM11.out.rd.shape
        injection he with _ _ he
        have := HLN.out
        omega
      clear hb HM19
      have hs3 := slice_m3 a19 n19 c19 hc19
      go_wp2_with ((with_reducible refine arm_stopAG ?_ ?_); (focus rfl))
      refine StoppedG.out ?_
      refine arm_appLG rfl (show MbL w11 (.slice a19 n19 n19) L19 from Mbs.full HM11.out) HF11.out (by have := HLN.out; have := HFN.out; omega) rfl rfl ?_
      intro a20 c20 w12 hm12 _ hb12
      have HM12 := Keep.keep hm12
      have HB12 := Keep.keep (HB11.out.trans (hb12.mono HB11.out.size))
      have hsz12 : L19.length + fl.length ≤ 100 := by have := HLN.out; have := HFN.out; omega
      obtain ⟨n20, hn20⟩ : ∃ n, L19.length + fl.length = n := ⟨_, rfl⟩
      have HN20 := Keep.keep hn20
      rw [hn20] at hsz12 HM12 ⊢
      clear hm12 hb12 hs3 HM11 HF11 hn20
      simp only [Act.put, List.setIfInBounds_toArray, List.set_cons_succ, List.set_cons_zero]
      go_wp2_with fail
      refine (HLE.out w12 (L19 ++ fl) _ HB12.out HM12.out (fun x hx => ?_) (by rw [List.length_append, HN20.out]; omega)).mono ?_
      · rcases List.mem_append.1 hx with hx | hx
        · exact HS19.out x hx
        · exact HFS.out x hx
      rintro e w13 ⟨rfl, hb⟩
      have HB13 := Keep.keep (HB12.out.trans (hb.mono HB12.out.size))
      clear hb HM12 HB12 HB11 HB7
      have hin := HIN9.out.on HB13.out
      have HIN13 := Keep.keep hin
      have clb := hin.rl.cell (i := 0) rfl
      have hM13 := HM9.out.on HB13.out
      have HM13 := Keep.keep hM13
      obtain ⟨bL, offL, rfl⟩ : ∃ b off, al = some ⟨b, off, none⟩ := by
        obtain ⟨_, _, he, h1, _, h3⟩ := hM13.rd.shape
        injection he with e1 e2 e3
        subst e1 e3
        rcases h3 with h3 | ⟨b, off, e, _⟩
        · omega
        · exact ⟨b, off, e⟩
      have hil4 : i < l4.length := by rw [HNL.out]; exact hil
      have hcp := Mbs.cell hM13 hil4 0 (by omega) (u := strV l4[i].1.1) rfl
      have HPB : Keep (l4[i].1.1.length ≤ 400000) := ⟨(HS4.out _ (List.getElem_mem hil4)).p⟩
      unfold strV at hcp
      rw [Nat.add_zero] at hcp
      obtain ⟨p, hp⟩ : ∃ q, l4[i].1.1 = q := ⟨_, rfl⟩
      rw [hp] at hcp HPB
      clear hin hM13 hp hil4 HM10
      go_wp2_with fail
      go_loopg [114] 2 (fun g u114 wx => ∃ k : Nat, k + g = 2 ∧ u114 = .int .i64 (k : Int) ∧ Row wx w13.heap.size 9 #[.string ⟨#[]⟩, .string ⟨p.toArray⟩] ∧ Below w13.heap.size w13 wx)
      case atStart => exact ⟨0, by omega, rfl, Row.new _ _ _, (Below.refl _ _).alloc (Nat.le_refl _) _⟩
      case round =>
        obtain ⟨k, hkg, rfl, hrw, hb⟩ := hrel
        have HRW := Keep.keep hrw; have HBP := Keep.keep hb
        have HBR := Keep.keep (HB13.out.trans (hb.mono HB13.out.size))
        clear hrw hb
        cases gk with
        | zero =>
          obtain rfl : k = 2 := by omega
          go_wp2_with fail
          have HWE := Keep.keep (HW9.out.trans (HBR.out.mono HW9.out.size))
          refine (dtells_any B _ (HT.out.on (HWE.out.mono HT.out.b))).mono ?_
          rintro e w14 ⟨rfl, hb⟩
          have HW14 := Keep.keep (HWE.out.trans (hb.mono HWE.out.size))
          clear hb
          go_wp2_with fail
          go_ret
          exact ⟨rfl, HW14.out⟩
        | succ g =>
          have hk : k < 2 := by omega
          obtain ⟨q, hql, hcq⟩ : ∃ q : Tx, q.length ≤ 400000 ∧ wr.cell? ⟨w13.heap.size, k, none⟩ = some (.string ⟨q.toArray⟩) := by
            rcases (by omega : k = 0 ∨ k = 1) with rfl | rfl
            · exact ⟨[], by simp, HRW.out.cell (i := 0) rfl⟩
            · exact ⟨p, HPB.out, HRW.out.cell (i := 1) rfl⟩
          have HQL := Keep.keep hql
          have HMK : Keep (∀ wx, Below w9.heap.size w9 wx → Calls Tryz.prog 16 #[.string ⟨q.toArray⟩] wx fun e w' => e = .returned (.agg (mbC (mkM q) nilV nilV)) ∧ Below wx.heap.size wx w') := ⟨fun wx hb => by
            have ht := HT.out.on ((HW9.out.trans (hb.mono HW9.out.size)).mono HT.out.b)
            exact dmark_any q (by omega) B wx ht.b ht.m⟩
          have HWT : Keep (∀ wx, Below w9.heap.size w9 wx → Calls Tryz.prog 17 #[.string ⟨q.toArray⟩] wx fun e w' => e = .returned (.agg (mbC (whM q) nilV nilV)) ∧ Below wx.heap.size wx w') := ⟨fun wx hb => by
            have ht := HT.out.on ((HW9.out.trans (hb.mono HW9.out.size)).mono HT.out.b)
            exact dwhite_any q (by omega) B wx ht.b ht.m⟩
          obtain ⟨qm, km, hqm⟩ := signM_cells (opaqueP q)
          have HQM : Keep (mbC (mkM q) nilV nilV = #[.string ⟨qm.toArray⟩, .int .i64 km, .int .u32 0, .int .u32 0, .int .u32 0, .int .i64 0, .slice none 0 0, .slice none 0 0, .string ⟨#[]⟩]) := ⟨hqm⟩
          obtain ⟨qw, kw, hqw⟩ := signM_cells (whiteoutP q)
          have HQW : Keep (mbC (whM q) nilV nilV = #[.string ⟨qw.toArray⟩, .int .i64 kw, .int .u32 0, .int .u32 0, .int .u32 0, .int .i64 0, .slice none 0 0, .slice none 0 0, .string ⟨#[]⟩]) := ⟨hqw⟩
          rw [HQM.out] at HMK
          rw [HQW.out] at HWT
          have HPC : Keep ((mcells [(mkM q, nilV, nilV), (whM q, nilV, nilV)]).toArray = #[.string ⟨qm.toArray⟩, .int .i64 km, .int .u32 0, .int .u32 0, .int .u32 0, .int .i64 0, .slice none 0 0, .slice none 0 0, .string ⟨#[]⟩, .string ⟨qw.toArray⟩, .int .i64 kw, .int .u32 0, .int .u32 0, .int .u32 0, .int .i64 0, .slice none 0 0, .slice none 0 0, .string ⟨#[]⟩]) := ⟨by
            have e : mcells [(mkM q, nilV, nilV), (whM q, nilV, nilV)] = (mbC (mkM q) nilV nilV).toList ++ (mbC (whM q) nilV nilV).toList := by simp [mcells, mcell]
            rw [e, HQM.out, HQW.out]
            rfl⟩
          obtain ⟨j, hj⟩ : ∃ j, d4 % 2 = j := ⟨_, rfl⟩
          have hj2 : j < 2 := by rw [← hj]; exact Nat.mod_lt _ (by decide)
          have hmj : (d4 : Int) % 2 = (j : Int) := by rw [← hj]; rfl
          have hsl22 : ∀ b w, (Instr.slice 23 (.slice (some ⟨b, 0, none⟩) 2 2) (some (.int .i64 ((d4 : Int) % 2))) (some (.int .i64 ((d4 : Int) % 2 + 1))) none).run Tryz.prog w = .ok (.slice (some ⟨b, 0 + j * 9, none⟩) 1 (2 - j)) w := fun b w => by rw [hmj]; exact slice_win b 0 2 2 j .i64 .i64 (by omega) w
          clear hqm hqw hql hj hmj
          go_wp2_with fail
          refine (HMK.out wr HBR.out).mono ?_
          rintro e w14 ⟨rfl, hb⟩
          have HB14 := Keep.keep (HBR.out.trans (hb.mono HBR.out.size))
          have HP14 := Keep.keep hb
          clear hb HMK hcq
          go_wp2_with fail
          refine (HWT.out w14 HB14.out).mono ?_
          rintro e w15 ⟨rfl, hb⟩
          have HB15 := Keep.keep (HB14.out.trans (hb.mono HB14.out.size))
          have HP15 := Keep.keep (HP14.out.trans (hb.mono HP14.out.size))
          clear hb HWT HB14 HP14 HBR
          go_upto_region 23 with fail
          refine wp_world (R := fun w16 => Acc w15.heap.size w16 (.slice (some ⟨w15.heap.size, j * 9, none⟩) 1 (2 - j)) [(if j = 0 then mkM q else whM q, nilV, nilV)] ∧ Below w15.heap.size w15 w16 ∧ w15.heap.size < w16.heap.size) ⟨by rw [← HPC.out]; exact acc_pair (sign_bare _) (sign_bare _) hj2, (Below.refl _ _).alloc (Nat.le_refl _) _, by simp⟩ ?_
          intro w16 H16
          have HX22 : Keep (Sm (if j = 0 then mkM q else whM q)) := ⟨by
            split
            · exact sm_mk q
            · exact sm_wh q⟩
          generalize (if j = 0 then mkM q else whM q) = x22 at *
          have HB16 := Keep.keep (HB15.out.trans (H16.out.2.1.mono HB15.out.size))
          have HP16 := Keep.keep (HP15.out.trans (H16.out.2.1.mono HP15.out.size))
          have hs95 : w9.heap.size ≤ w15.heap.size := HB15.out.size
          have hs135 : wr.heap.size ≤ w15.heap.size := HP15.out.size
          obtain ⟨n15, hn15⟩ : ∃ b, w15.heap.size = b := ⟨_, rfl⟩
          rw [hn15] at H16 hs95 hs135 ⊢
          have HP13 := Keep.keep hs135
          have HO22 : Keep (∀ b, (Value.slice (some ⟨n15, j * 9, none⟩) 1 (2 - j)).ownBlock = some b → b = n15) := ⟨fun b hb => by injection hb with hb; exact hb.symm⟩
          generalize (some (⟨n15, j * 9, none⟩ : Addr)) = a22 at *
          generalize 2 - j = c22 at *
          have HA16 := Keep.keep H16.out.1
          have hs16 := H16.out.2.2
          have HM16 := Keep.keep (HM9.out.on HB16.out)
          have HIN16 := Keep.keep (HIN9.out.on HB16.out)
          clear H16 hn15 HB15 HP15 HPC HQM HQW hsl22 hj2 HIN13 clb
          refine wp_region_flip 5 [131, 132, 133, 134, 135, 136, 137, 138] (fun _ wx => Below w16.heap.size w16 wx) (undT w9.heap.size w16.heap.size nl cl Tb (some ⟨bL, offL, none⟩) q l4 C) (fun wa wb => Below wa.heap.size wa wb) (by kernel_rfl) rfl (by decide) (by show ∀ d ∈ _, d < 161; decide) (by kernel_rfl) (by show 5 < 8; decide) (Below.refl _ _).drew ?_ ?_ ?_ ?_
          · intro b z s s' wx wy he hw hT hb
            rcases (by omega : z = 0 ∨ z = 1 ∨ z = 2 ∨ z = 3 ∨ z = 4 ∨ z = 5 ∨ z = 6 ∨ z = 7 ∨ 8 ≤ z) with rfl | rfl | rfl | rfl | rfl | rfl | rfl | rfl | hz
            · have he : s 131 = s' 131 := he
              exact he.symm.trans hT
            · have he : s 132 = s' 132 := he
              exact fun hbf => by
                rw [← he]
                exact RowM.below (hT hbf) hb
            · have he : s 133 = s' 133 := he
              exact he.symm.trans hT
            · have he : s 134 = s' 134 := he
              exact he.symm.trans hT
            · have he : s 135 = s' 135 := he
              have h1 : s 132 = s' 132 := hw 1 (by kernel_rfl)
              intro hbf
              obtain ⟨lu, m, e1, e2, e3, e4, e5⟩ := hT hbf
              exact ⟨lu, m, e1, by rw [← he]; exact e2.below hb, e3, Nat.le_trans e4 hb.size, by rw [← h1]; exact e5⟩
            · have he : s 136 = s' 136 := he
              obtain ⟨hb1, lu, a, c, e1, e2, e3⟩ := hT
              exact ⟨hb1, lu, a, c, e1, by rw [← he]; exact e2.below hb, by rw [← he]; exact e3⟩
            · have he : s 137 = s' 137 := he
              have h1 : s 136 = s' 136 := hw 5 (by kernel_rfl)
              obtain ⟨a, n, c, e1, e2⟩ := hT
              exact ⟨a, n, c, h1.symm.trans e1, he.symm.trans e2⟩
            · have he : s 138 = s' 138 := he
              exact he.symm.trans hT
            · obtain ⟨z, rfl⟩ : ∃ y, z = y + 8 := ⟨z - 8, by omega⟩
              exact True.intro
          · intro z hz hzc b a1 w5 hF hC hT
            have hsz : a1.tmps.size = 161 := hF.size
            have t12 : a1.eval (.tmp 12) = .pointer (some ⟨bb, 0, none⟩) := (hF.same 12 (by decide)).trans rfl
            have t13 : a1.eval (.tmp 13) = .pointer (some ⟨lb, 0, none⟩) := (hF.same 13 (by decide)).trans rfl
            have t21 : a1.eval (.tmp 21) = .string ⟨q.toArray⟩ := (hF.same 21 (by decide)).trans rfl
            have hin5 := HIN16.out.on hC
            have cl5 := hin5.rl.cell (i := 0) rfl
            have cb5 := hin5.rb.cell (i := 0) rfl
            have hkr : Below w5.heap.size w5 w5 := Below.refl _ _
            have hz8 : z < 8 := hz
            rcases (by omega : z = 0 ∨ z = 1 ∨ z = 2 ∨ z = 3 ∨ z = 4 ∨ z = 6 ∨ z = 7) with rfl | rfl | rfl | rfl | rfl | rfl | rfl
            · exact flip_val (d := 131) rfl (by omega) (run_loadCell (run_isAgg_plain Tryz.underlying23 rfl) cl5 t13) hC hkr (fun s h _ => h)
            · have hx : a1.eval (.tmp 131) = .slice (some ⟨bL, offL, none⟩) nl cl := hT 0 (by kernel_rfl)
              obtain ⟨v8, w8, hrun, ho8, hb8⟩ := run_appNil (ρ := a1.eval) (d := some 132) (tp := 23) (pos := "outright.go:49") (af := _) (g := none) (s := .const (.slice none 0 0)) (x := .tmp 131) w16.heap.size HB16.out.size hC.size HM9.out (HB16.out.trans (hC.mono HB16.out.size)) (by have := HNL.out; omega) rfl hx
              exact flip_val (d := 132) rfl (by omega) hrun (hC.trans (hb8.mono hC.size)) hb8 (fun s h _ _ => by rw [h]; exact ho8)
            · exact flip_val (d := 133) rfl (by omega) (run_loadCell (run_isAgg_plain Tryz.underlying24 rfl) cb5 t12) hC hkr (fun s h _ => h)
            · exact flip_val (d := 134) rfl (by omega) run_move hC hkr (fun s h _ => h.trans t21)
            · have hx : a1.eval (.tmp 133) = .pointer (some ⟨Tb, 0, none⟩) := hT 2 (by kernel_rfl)
              have hy : a1.eval (.tmp 134) = .string ⟨q.toArray⟩ := hT 3 (by kernel_rfl)
              obtain ⟨mb, Bk, f, h1, h2⟩ := hin5.tb
              refine flip_call (d := 135) rfl (by omega) ent_und (vs := #[.pointer (some ⟨Tb, 0, none⟩), .string ⟨q.toArray⟩]) (by simp [hx, hy]) ((under_own Tb mb Bk f C q w5 (by have := HWB.out.2; omega) HQL.out h1 ⟨h1.row.lt, h1.map.lt, h2⟩).mono ?_)
              rintro e w' ⟨v, lu, rfl, hlu, ho, hb⟩
              refine ⟨v, rfl, hC.trans (hb.mono hC.size), hb, fun s h hne hbf => ⟨lu, w5.heap.size, hlu, by rw [h]; exact RowM.ofOwn ho _, hC.size, hb.size, fun kk hk => ?_⟩⟩
              rw [hne 132 (by decide)] at hk
              have hr1 : RowM w16.heap.size (· < w9.heap.size) w5 (slot a1 132) l4 := hT 1 (by kernel_rfl) hbf
              exact (hr1.lt hk).2
            · obtain ⟨-, lu, a, c, -, -, e3⟩ : undT w9.heap.size w16.heap.size nl cl Tb (some ⟨bL, offL, none⟩) q l4 C b 5 (slot a1) w5 := hT 5 (by kernel_rfl)
              exact flip_val (d := 137) rfl (by omega) (run_lenSl Tryz.underlying23 (x := .tmp 136) e3) hC hkr (fun s h hne => ⟨a, _, c, by rw [hne 136 (by decide)]; exact e3, h⟩)
            · exact flip_val (d := 138) rfl (by omega) run_move hC hkr (fun s h _ => h)
          · intro a1 w5 hF hC hT
            have hsz : a1.tmps.size = 161 := hF.size
            have hr : RowM w16.heap.size (· < w9.heap.size) w5 (slot a1 132) l4 := hT 1 (by kernel_rfl) rfl
            obtain ⟨lu, m, e1, e2, e3, e4, e5⟩ : ∃ lu m, lu.map (·.1) = underL q C ∧ RowM m NoM w5 (slot a1 135) lu ∧ w16.heap.size ≤ m ∧ m ≤ w5.heap.size ∧ ∀ k, (slot a1 132).ownBlock = some k → k < m := hT 4 (by kernel_rfl) rfl
            have hlu : lu.length ≤ 40 := by
              have := congrArg List.length e1
              rw [List.length_map] at this
              rw [this]
              exact Nat.le_trans (List.length_filter_le _ _) HWB.out.2
            have hmb := e2.mbs
            have hnl4 := HNL.out
            obtain ⟨v', w', hrun, ho, hg, hov⟩ := run_appV (ρ := a1.eval) (d := some 136) (tp := 23) (pos := "outright.go:49") (af := _) (g := none) (s := .tmp 132) (x := .tmp 135) slMb hr.own hmb.rd (mcells_one (fun y hy => (hmb.nd y hy).shape)) (by unfold maxLen; omega) (by omega) hC.size rfl rfl
            have hr' := hr.app (fun x hx => (e2.nd x hx).mono (fun b hb => ⟨Or.inr (by
              have := hb.1.resolve_left (fun h => h)
              omega), hb.2.1, fun e => by
              have := e5 b e
              have := hb.1.resolve_left (fun h => h)
              omega⟩)) ho hg hov
            obtain ⟨a', c', hv, -⟩ := (ownsV_reads ho).shape
            refine flip_val (d := 136) rfl (by omega) hrun (hC.trans (hr.chg hC.size hg)) (fun z s s' hz hw he hk hT => ?_) (fun s h _ => ⟨rfl, lu, a', c', e1, by rw [h]; exact hr', by rw [h, List.length_append]; exact hv⟩)
            rcases (by omega : z = 0 ∨ z = 1 ∨ z = 2 ∨ z = 3 ∨ z = 4 ∨ z = 6 ∨ z = 7 ∨ 8 ≤ z) with rfl | rfl | rfl | rfl | rfl | rfl | rfl | hz
            · have he : s 131 = s' 131 := he
              exact he.symm.trans hT
            · intro h; cases h
            · have he : s 133 = s' 133 := he
              exact he.symm.trans hT
            · have he : s 134 = s' 134 := he
              exact he.symm.trans hT
            · intro h; cases h
            · have he : s 137 = s' 137 := he
              have h1 : s 136 = s' 136 := hk 5 (by kernel_rfl)
              obtain ⟨a, n, c, e1, e2⟩ := hT
              exact ⟨a, n, c, h1.symm.trans e1, he.symm.trans e2⟩
            · have he : s 138 = s' 138 := he
              exact he.symm.trans hT
            · obtain ⟨z, rfl⟩ : ∃ y, z = y + 8 := ⟨z - 8, by omega⟩
              exact True.intro
          · intro a1 w6 ha hC hT
            obtain ⟨-, lu, aD, cD, hlu, hrD, hsD⟩ : undT w9.heap.size w16.heap.size nl cl Tb (some ⟨bL, offL, none⟩) q l4 C true 5 (slot a1) w6 := hT 5 (by show 5 < 8; decide)
            obtain ⟨a9, n9, c9, h136, h137⟩ : ∃ a n c, slot a1 136 = .slice a n c ∧ slot a1 137 = .int .i64 (n : Int) := hT 6 (by show 6 < 8; decide)
            have h138 : slot a1 138 = .int .i64 0 := hT 7 (by show 7 < 8; decide)
            rw [hsD] at h136 hrD
            injection h136 with e1 e2 e3
            subst e1 e2 e3
            simp only [List.foldl_cons, List.foldl_nil, hsD, h137, h138] at ha
            have HC6 := Keep.keep hC
            have HRD := Keep.keep hrD; have HLU := Keep.keep hlu
            clear hT hsD h137 h138 hC hrD hlu
            generalize slot a1 131 = y131 at *
            generalize slot a1 132 = y132 at *
            generalize slot a1 133 = y133 at *
            generalize slot a1 134 = y134 at *
            generalize slot a1 135 = y135 at *
            subst ha
            simp only [Act.put, List.setIfInBounds_toArray, List.set_cons_succ, List.set_cons_zero]
            go_wp2_with fail
            have HSD : Keep (∀ x ∈ l4 ++ lu, Sm x.1) := ⟨fun x hx => by
              rcases List.mem_append.1 hx with hx | hx
              · exact HS4.out x hx
              · have h1 : x.1 ∈ lu.map (·.1) := List.mem_map.2 ⟨x, hx, rfl⟩
                rw [HLU.out] at h1
                unfold underL at h1
                exact HSC.out _ (List.mem_filter.1 h1).1⟩
            have hld : (l4 ++ lu).length ≤ 81 := by
              have h1 := congrArg List.length HLU.out
              rw [List.length_map] at h1
              have h2 : (underL q C).length ≤ C.length := List.length_filter_le _ _
              have := HNL.out
              have := HWB.out.2
              rw [List.length_append]
              omega
            obtain ⟨_, _, heD, hcD, hmD, h3D⟩ := (ownsV_reads HRD.out.own).shape
            injection heD with e1 e2 e3
            subst e1 e3
            have H3D := Keep.keep h3D
            have HMD : Keep (∀ wx, Chg (fun b => b = n15) w6.heap.size w6 wx → Mbs wx (Fresh w16.heap.size w6) (fun b => b < w6.heap.size ∧ b ≠ n15) (.slice aD (l4 ++ lu).length cD) (l4 ++ lu)) := ⟨fun wx hch => by
              have h1 : Mbs w6 (Fresh w16.heap.size w6) (fun b => b < w6.heap.size ∧ b ≠ n15) (.slice aD (l4 ++ lu).length cD) (l4 ++ lu) := HRD.out.mbs.mono (fun b hb => hb) (fun b hb => ⟨hb.2.1, by rcases hb.1 with h | h <;> omega⟩)
              exact h1.loc (fun b hb => hch.block b hb.2 (by have := hb.1; omega)) (fun b hb => hch.block b hb.1 hb.2)⟩
            have HA6 := Keep.keep (HA16.out.on HC6.out)
            have h156 : n15 < w6.heap.size := Nat.lt_of_lt_of_le hs16 HC6.out.size
            have HB6 := Keep.keep (HB16.out.trans (HC6.out.mono HB16.out.size))
            have HP6 := Keep.keep (HP16.out.trans (HC6.out.mono HP16.out.size))
            generalize l4 ++ lu = DM at *
            obtain ⟨nD, hnD⟩ : ∃ n, DM.length = n := ⟨_, rfl⟩
            have HND := Keep.keep hnD
            rw [hnD] at HMD hld hcD ⊢
            clear h3D hmD hnD HRD HLU HC6 HA16 HB16 HP16 HM16 HIN16 hs16
            go_loopg [22, 138] nD (fun g u22 u138 wx => ∃ (kk : Nat) (acc : List Mv) (aA : Option Addr) (cA : Nat), kk + g = nD ∧ u138 = .int .i64 (kk : Int) ∧ u22 = .slice aA acc.length cA ∧ Acc n15 wx (.slice aA acc.length cA) acc ∧ acc.length ≤ kk + 1 ∧ (∀ x ∈ acc, Sm x.1) ∧ (∀ b, (Value.slice aA acc.length cA).ownBlock = some b → b = n15 ∨ w6.heap.size ≤ b) ∧ Chg (fun b => b = n15) w6.heap.size w6 wx)
            case atStart => exact ⟨0, [(x22, nilV, nilV)], a22, c22, by omega, rfl, rfl, HA6.out, by simp, fun x hx => by rw [List.mem_singleton.1 hx]; exact HX22.out, fun b hb => .inl (HO22.out b hb), .refl _ _ _⟩
            case round =>
              obtain ⟨kk, acc, aA, cA, hkk, rfl, rfl, hacc, hal, hsa, hoA, hch⟩ := hrel
              have HAC := Keep.keep hacc; have HSA := Keep.keep hsa; have HOA := Keep.keep hoA; have HCH := Keep.keep hch
              obtain ⟨nA, hnA⟩ : ∃ n, acc.length = n := ⟨_, rfl⟩
              have HNA := Keep.keep hnA
              rw [hnA] at HAC HOA hal ⊢
              clear hacc hsa hoA hch hnA
              cases gk with
              | zero =>
                obtain rfl : kk = nD := by omega
                have HBX := Keep.keep (HB6.out.trans ((HCH.out.lower HB6.out.size).below (fun b hb e => by omega)))
                have HPX := Keep.keep (HP6.out.trans ((HCH.out.lower HP6.out.size).below (fun b hb e => by have := HP13.out; omega)))
                go_wp2_with fail
                refine (HLE.out wr acc _ HBX.out HAC.out.mbl HSA.out (by have := HNA.out; omega)).mono ?_
                rintro e w18 ⟨rfl, hb⟩
                have HPY := Keep.keep (HPX.out.trans (hb.mono HPX.out.size))
                clear hb
                go_wp2_with fail
                go_roundg g
                case measure => omega
                case rel => exact ⟨k + 1, by omega, by simp, HRW.out.below HPY.out HRW.out.lt, HBP.out.trans (HPY.out.mono HBP.out.size)⟩
              | succ g1 =>
                have hkD : kk < DM.length := by rw [HND.out]; omega
                have hkn : kk < nD := by omega
                obtain ⟨bD, offD, rfl, -⟩ := H3D.out.resolve_left (by omega)
                have hldm := (HMD.out wr HCH.out)
                have hld1 := hldm.load hkD
                have HXS := Keep.keep (HSD.out DM[kk] (List.getElem_mem hkD))
                have HXN := Keep.keep (hldm.nd DM[kk] (List.getElem_mem hkD))
                clear hldm
                generalize DM[kk] = x at *
                obtain ⟨⟨xp, ⟨kind, mode, uid, gid, time, attrs, data, link⟩⟩, av, dv⟩ := x
                obtain ⟨aa, la, ca, ad, ld, cd, e1, e2⟩ := HXN.out.shape
                dsimp only at e1 e2
                subst e1 e2
                have HMC : Keep (mcell ((xp, ⟨kind, mode, uid, gid, time, attrs, data, link⟩), .slice aa la ca, .slice ad ld cd) = #[.string ⟨xp.toArray⟩, .int .i64 kind, .int .u32 mode, .int .u32 uid, .int .u32 gid, .int .i64 time, .slice aa la ca, .slice ad ld cd, .string ⟨link.toArray⟩]) := ⟨rfl⟩
                rw [HMC.out] at hld1
                go_upto_region 26 with ((with_reducible refine arm_loadM hld1 ?_ ?_); (focus rfl); simp only [Act.put, List.setIfInBounds_toArray, List.set_cons_succ, List.set_cons_zero])
                obtain ⟨b24, hb24⟩ : ∃ b, wr.heap.size = b := ⟨_, rfl⟩
                refine wp_world (R := fun w2 => Hp NoM wr w2 [rowA b24 41 #[.string ⟨xp.toArray⟩, .int .i64 kind, .int .u32 mode, .int .u32 uid, .int .u32 gid, .int .i64 time, .slice aa la ca, .slice ad ld cd, .string ⟨link.toArray⟩]]) (by have := (Hp.begin NoM wr).newRow 41 #[.string ⟨xp.toArray⟩, .int .i64 kind, .int .u32 mode, .int .u32 uid, .int .u32 gid, .int .i64 time, .slice aa la ca, .slice ad ld cd, .string ⟨link.toArray⟩]; rw [hb24] at this; exact this) ?_
                intro w2 H2
                rw [hb24]
                have HCH2 : Keep (Chg (fun b => b = n15) w6.heap.size w6 w2) := ⟨HCH.out.trans (.of_below (H2.out.below.mono HCH.out.size))⟩
                have HAC2 := Keep.keep (HAC.out.on H2.out.below)
                have HR24 := Keep.keep (H2.out.row 0 rfl)
                have HXN2 := Keep.keep (HXN.out.below H2.out.below (fun b hb => Nat.lt_of_lt_of_le hb.1 HCH.out.size))
                have c24 : w2.cell? ⟨b24, 0, none⟩ = some (.string ⟨xp.toArray⟩) := HR24.out.cell (i := 0) rfl
                clear hld1 hb24 H2 HAC HCH
                have hdA : decide (nA < 4096) = true := decide_eq_true (by omega)
                by_cases hx0 : xp = []
                · subst hx0
                  go_wp2_with fail
                  go_roundg g1
                  case measure => omega
                  case rel => exact ⟨kk + 1, acc, aA, cA, by omega, by simp, by rw [HNA.out], by rw [HNA.out]; exact HAC2.out, by have := HNA.out; omega, HSA.out, by rw [HNA.out]; exact HOA.out, HCH2.out⟩
                · have he : (!xp.isEmpty) = true := by simpa using hx0
                  have he2 : xp.isEmpty = false := by simpa using hx0
                  clear hx0
                  have HSZ : Keep ((#[.string ⟨xp.toArray⟩, .int .i64 kind, .int .u32 mode, .int .u32 uid, .int .u32 gid, .int .i64 time, .slice aa la ca, .slice ad ld cd, .string ⟨link.toArray⟩] : Array Value).size = 9) := ⟨rfl⟩
                  go_wp2_with (first
                    | ((with_reducible refine arm_loadRow HR24.out aggM HSZ.out ?_ ?_); (focus rfl); simp only [Act.put, List.setIfInBounds_toArray, List.set_cons_succ, List.set_cons_zero])
                    | (with_reducible refine arm_stop ?_))
                  refine Stopped.out ?_
                  have hone : RdV (w2.alloc (.cells #[.string ⟨xp.toArray⟩, .int .i64 kind, .int .u32 mode, .int .u32 uid, .int .u32 gid, .int .i64 time, .slice aa la ca, .slice ad ld cd, .string ⟨link.toArray⟩] 41)) (fun b => b = w2.heap.size) 9 (.slice (some ⟨w2.heap.size, 0, none⟩) 1 1) 1 (mcells [(((xp, ⟨kind, mode, uid, gid, time, attrs, data, link⟩), .slice aa la ca, .slice ad ld cd) : Mv)]) := RdV.new 41 (mcells [(((xp, ⟨kind, mode, uid, gid, time, attrs, data, link⟩), .slice aa la ca, .slice ad ld cd) : Mv)]) 9 1 _ rfl rfl (by unfold maxLen; omega) rfl
                  have hal2 : Below w2.heap.size w2 (w2.alloc (.cells #[.string ⟨xp.toArray⟩, .int .i64 kind, .int .u32 mode, .int .u32 uid, .int .u32 gid, .int .i64 time, .slice aa la ca, .slice ad ld cd, .string ⟨link.toArray⟩] 41)) := (Below.refl _ _).alloc (Nat.le_refl _) _
                  have h6 : w6.heap.size ≤ w2.heap.size := HCH2.out.size
                  refine arm_acc (l2 := [(((xp, ⟨kind, mode, uid, gid, time, attrs, data, link⟩), .slice aa la ca, .slice ad ld cd) : Mv)]) (HAC2.out.on hal2) (by have := hal2.size; omega) (N' := fun b => b < w6.heap.size ∧ b ≠ n15) ⟨hone, fun y hy => ?_⟩ (fun b hb => by rw [hb]; simp) (fun b hb => ⟨by have := hal2.size; have := hb.1; omega, fun e => by have := HOA.out b e; have := hb.1; have := hb.2; omega⟩) (by simp) (by have := HNA.out; simp; omega) rfl rfl ?_
                  · obtain rfl := List.mem_singleton.1 hy
                    exact HXN2.out.below hal2 (fun b hb => Nat.lt_of_lt_of_le hb.1 h6)
                  intro a8 c8 w8 hacc8 hch8 how8
                  have HCH8 : Keep (Chg (fun b => b = n15) w6.heap.size w6 w8) := ⟨(HCH2.out.trans (.of_below (hal2.mono h6))).trans ⟨hch8.os, hch8.tape, hch8.output, hch8.size, fun b hb hne => hch8.block b (by have := hal2.size; omega) (fun e => by rcases HOA.out b e with h | h; exact hne h; omega)⟩⟩
                  have HAC8 := Keep.keep hacc8
                  have HOA8 : Keep (∀ b, (Value.slice a8 (acc.length + [(((xp, ⟨kind, mode, uid, gid, time, attrs, data, link⟩), .slice aa la ca, .slice ad ld cd) : Mv)].length) c8).ownBlock = some b → b = n15 ∨ w6.heap.size ≤ b) := ⟨fun b hb => by
                    rcases how8 b hb with h | h
                    · exact HOA.out b h
                    · exact .inr (by have := hal2.size; omega)⟩
                  have HSA8 : Keep (∀ y ∈ acc ++ [(((xp, ⟨kind, mode, uid, gid, time, attrs, data, link⟩), .slice aa la ca, .slice ad ld cd) : Mv)], Sm y.1) := ⟨fun y hy => by
                    rcases List.mem_append.1 hy with hy | hy
                    · exact HSA.out y hy
                    · rw [List.mem_singleton.1 hy]; exact HXS.out⟩
                  have hlen8 : (acc ++ [(((xp, ⟨kind, mode, uid, gid, time, attrs, data, link⟩), .slice aa la ca, .slice ad ld cd) : Mv)]).length = acc.length + [(((xp, ⟨kind, mode, uid, gid, time, attrs, data, link⟩), .slice aa la ca, .slice ad ld cd) : Mv)].length := by rw [List.length_append]
                  obtain ⟨n8, hn8⟩ : ∃ n, acc.length + [(((xp, ⟨kind, mode, uid, gid, time, attrs, data, link⟩), .slice aa la ca, .slice ad ld cd) : Mv)].length = n := ⟨_, rfl⟩
                  have hn8' : n8 = nA + 1 := by rw [← hn8, HNA.out]; rfl
                  rw [hn8] at hlen8 HAC8 HOA8 ⊢
                  have HL8 := Keep.keep hlen8
                  clear hone hal2 hacc8 hch8 how8 hlen8 hn8 HAC2 HCH2 HXN2
                  simp only [Act.put, List.setIfInBounds_toArray, List.set_cons_succ, List.set_cons_zero]
                  go_wp2_with fail
                  go_roundg g1
                  case measure => omega
                  case rel => exact ⟨kk + 1, _, a8, c8, by omega, by simp, by rw [HL8.out], by rw [HL8.out]; exact HAC8.out, by rw [HL8.out]; omega, HSA8.out, by rw [HL8.out]; exact HOA8.out, HCH8.out⟩
  · have clb := (HIN9.out.on HB10.out).rl.cell (i := 0) rfl
    have hd0 : decide (0 < nl) = false := decide_eq_false h0
    go_wp2_with fail
    refine (dtells_any B _ (HT.out.on ((HW9.out.trans (HB10.out.mono HW9.out.size)).mono HT.out.b))).mono ?_
    rintro e w11 ⟨rfl, hb⟩
    have HW11 := Keep.keep ((HW9.out.trans (HB10.out.mono HW9.out.size)).trans (hb.mono (HW9.out.trans (HB10.out.mono HW9.out.size)).size))
    clear hb
    go_wp2_with fail
    go_ret
    exact ⟨rfl, HW11.out⟩
end Go.Proofs.YtmnknmpfkjhgbaaGreatDoor
/- ARGUMENTS WITH SLICES WITHIN SLICES, OPENED: what lies deeper has no word of its own on its blocks; its cells tell them. -/
namespace Go.Proofs.YtmnknmpfkjhgbaaGreatDoor
open Go.ChangeShapes Go.WideShapes Go.ChangeAt Go.RowKit
theorem cell_spot {w : World} {a : Addr} {v : Value} (h : w.cell? a = some v) : a.spot = none ∧ a.block < w.heap.size := by
  unfold World.cell? at h
  split at h
  · rename_i c e fr hb
    split at h
    · cases h
    · rename_i hs
      exact ⟨by simpa using hs, (Array.getElem?_eq_some_iff.1 hb).1⟩
  · cases h
/-- a []byte that lies anywhere within an argument -/
theorem reads_of_trod {P : Program} {H : Type} {enc : TypeId × Value → H} {t e : TypeId} {held : Bool} {fuel : Nat} (ht : P.underlying t = some (.slice e)) (he : P.underlying e = some (.int .u8)) (hc : P.cellsOf e = 1) {W : World} {v : Value} {x : DataW H × List MemPlace}
    (hf : DataW.trod enc P W 0 (fun _ => true) held fuel t [v] = some x) : ∃ l, Reads W (fun b => b < W.heap.size) v l := by
  rcases open_ints ht he hc hf with ⟨hcs, hx⟩ | ⟨⟨b, off, sp⟩, len, cap, zs, hcs, _, hl, hm, hz, hx, hcell, hwz⟩
  · injection hcs with hcs _
    subst hcs
    exact ⟨[], Reads.ofNil⟩
  · injection hcs with hcs _
    subst hcs
    simp only [if_true] at hz
    have hsp : cap = 0 ∨ (sp = none ∧ b < W.heap.size) := by
      rcases Nat.eq_zero_or_pos cap with h | h
      · exact .inl h
      · have := cell_spot (hcell 0 (by omega))
        exact .inr this
    refine ⟨(zs.take len).map fun x => UInt8.ofNat x.toNat, ⟨some ⟨b, off, sp⟩, cap, ?_, ?_, hm, ?_⟩, fun b' off' n' c' he' j hj => ?_⟩
    · congr 1; simp; omega
    · simp; omega
    · rcases hsp with h | ⟨rfl, h⟩
      · exact .inl h
      · exact .inr ⟨b, off, rfl, h⟩
    · injection he' with e1 _ _; injection e1 with e1; injection e1 with e1 e2 e3; subst e1 e2 e3
      have hj' : j < len := by simp at hj; omega
      have hjz : j < zs.length := by omega
      have hc := hcell j hjz
      rw [Addr.add_mid] at hc
      rw [hc]
      have hw := hwz _ (List.getElem_mem hjz)
      have hm1 : IntKind.u8.min = 0 := rfl
      have hm2 : IntKind.u8.max = 255 := rfl
      simp only [Lit.wf, Bool.and_eq_true, decide_eq_true_eq, hm1, hm2] at hw
      simp only [List.getElem_map, List.getElem_take, List.getD_eq_getElem?_getD, List.getElem?_eq_getElem hjz, Option.getD_some, UInt8.toNat_ofNat']
      congr 2
      omega
end Go.Proofs.YtmnknmpfkjhgbaaGreatDoor
/- ARGUMENTS THAT ARE WHOLE NUMBERS, OPENED. -/
namespace Go.Proofs.YtmnknmpfkjhgbaaGreatDoor
open Go.ChangeShapes Go.WideShapes Go.ChangeAt Go.RowKit
theorem okU8 {P : Program} {w : World} {r : Reach} {base : Nat} {t : TypeId} {v : Value} (ht : P.underlying t = some (.int .u8)) (h : Value.okWide P w r base t v) : ∃ n : Nat, v = .int .u8 (n : Int) ∧ n < 256 := by
  simp only [Value.okWide, ht, Cell.okWide] at h
  have hm1 : IntKind.u8.min = 0 := rfl
  have hm2 : IntKind.u8.max = 255 := rfl
  cases v <;> simp only [Cell.ok, ht] at h
  rename_i k x
  obtain ⟨rfl, h1, h2⟩ := h
  rw [hm1] at h1; rw [hm2] at h2
  exact ⟨x.toNat, by congr 1; omega, by omega⟩
end Go.Proofs.YtmnknmpfkjhgbaaGreatDoor
/- ARGUMENTS THAT ARE SLICES OF MEMBERS, OR OF ACTS, OPENED. -/
namespace Go.Proofs.YtmnknmpfkjhgbaaGreatDoor
open Go.ChangeShapes Go.WideShapes Go.ChangeAt Go.RowKit
section
variable {H : Type} {enc : TypeId × Value → H} {W : World} {fuel : Nat} {x : DataW H × List MemPlace}
theorem str_of_trod {v : Value} (h : DataW.trod enc Tryz.prog W 0 (fun _ => true) true fuel 9 [v] = some x) : ∃ l : Tx, v = strV l ∧ l.length ≤ maxLen := by
  obtain ⟨⟨⟨l⟩⟩, e, _, hm⟩ := DataW.trod_string Tryz.underlying9 h
  injection e with e _
  exact ⟨l, e, hm⟩
theorem attrs_of_trod {v : Value} (hf : DataW.trod enc Tryz.prog W 0 (fun _ => true) true fuel 36 [v] = some x) : ∃ l : List R2, RdV W (· < W.heap.size) 2 v l.length (rcells l) := by
  rcases Deep.open_slice_pairs Tryz.underlying36 Tryz.underlying92 (by kernel_rfl) rfl rfl (by kernel_rfl) (by kernel_rfl) hf with ⟨hcs, _⟩ | ⟨⟨b, off, sp⟩, len, cap, m, n, V0, V1, D0, D1, P0, P1, hcs, _, hl, hm, hmm, _, hx⟩
  · injection hcs with hcs _
    subst hcs
    exact ⟨[], RdV.ofNil⟩
  · injection hcs with hcs _
    subst hcs
    simp only [if_true] at hmm
    have hsp : cap = 0 ∨ (sp = none ∧ b < W.heap.size) := by
      rcases Nat.eq_zero_or_pos cap with h | h
      · exact .inl h
      · exact .inr (cell_spot (hx 0 (by omega)).1)
    have key : ∀ i, i < m → ∃ q : R2, V0 i = strV q.1 ∧ V1 i = strV q.2 := fun i hi => by
      obtain ⟨_, _, t0, t1⟩ := hx i hi
      obtain ⟨l0, e0, _⟩ := str_of_trod t0
      obtain ⟨l1, e1, _⟩ := str_of_trod t1
      exact ⟨(l0, l1), e0, e1⟩
    obtain ⟨q, hq⟩ := Deep.choose_lt (α := R2) key
    have hll : ((List.range len).map q).length = len := by simp
    refine ⟨(List.range len).map q, rcells_length _, ⟨_, cap, by rw [hll], by omega, hm, ?_⟩, ?_⟩
    · rcases hsp with h | ⟨rfl, h⟩
      · exact .inl h
      · exact .inr ⟨b, off, rfl, h⟩
    · intro b' off' m' c' he j u hu
      injection he with e1 _ _; injection e1 with e1; injection e1 with e1 e2 e3; subst e1 e2 e3
      have hj := (List.getElem?_eq_some_iff.1 hu).1
      rw [rcells_length, hll] at hj
      obtain ⟨i, hi⟩ : ∃ i, i = j / 2 := ⟨_, rfl⟩
      have hil : i < len := by omega
      have hrg := rcells_get ((List.range len).map q) i (by rw [hll]; exact hil)
      have hqi : ((List.range len).map q)[i]'(by rw [hll]; exact hil) = q i := by simp
      rw [hqi] at hrg
      obtain ⟨k0, k1, _, _⟩ := hx i (by omega)
      obtain ⟨s0, s1⟩ := hq i (by omega)
      rw [Addr.add_mid] at k0 k1
      rcases (by omega : j = i * 2 ∨ j = i * 2 + 1) with rfl | rfl
      · rw [hrg.1] at hu; injection hu with hu
        rw [k0, s0, hu]
      · rw [hrg.2] at hu; injection hu with hu
        rw [← Nat.add_assoc, ← hu, ← s1]
        rw [← Nat.add_assoc] at k1
        exact k1
theorem cOne : Tryz.prog.cellsOf 3 = 1 ∧ Tryz.prog.cellsOf 35 = 1 ∧ Tryz.prog.cellsOf 2 = 1 ∧ Tryz.prog.cellsOf 36 = 1 ∧ Tryz.prog.cellsOf 37 = 1 ∧ Tryz.prog.cellsOf 9 = 1 ∧ Tryz.prog.cellsOf 4 = 1 ∧ Tryz.prog.cellsOf 39 = 8 ∧ Tryz.prog.cellsOf 41 = 9 ∧ Tryz.prog.cellsOf 70 = 10 := ⟨by kernel_rfl, by kernel_rfl, by kernel_rfl, by kernel_rfl, by kernel_rfl, by kernel_rfl, by kernel_rfl, by kernel_rfl, by kernel_rfl, by kernel_rfl⟩
set_option maxRecDepth 100000 in
theorem node_of_trod {cs : List Value} (hf : DataW.trod enc Tryz.prog W 0 (fun _ => true) true fuel 39 cs = some x) :
    ∃ n av dv, cs = (ndC n av dv).toList ∧ NdR W (· < W.heap.size) n av dv ∧ -9223372036854775808 ≤ n.kind ∧ n.kind ≤ 9223372036854775807 := by
  obtain ⟨xs, k, -, -, hlen, hxs, hg⟩ := DataW.trod_struct Tryz.underlying39 hf
  obtain ⟨c1, c2, c3, c4, c5, c6, c7, c8, -, -⟩ := cOne
  rw [c8] at hlen
  obtain ⟨v0, v1, v2, v3, v4, v5, v6, v7, rfl⟩ : ∃ v0 v1 v2 v3 v4 v5 v6 v7, cs = [v0, v1, v2, v3, v4, v5, v6, v7] := by
    match cs, hlen with
    | [v0, v1, v2, v3, v4, v5, v6, v7], _ => exact ⟨v0, v1, v2, v3, v4, v5, v6, v7, rfl⟩
  obtain ⟨y0, y1, y2, y3, y4, y5, y6, y7, rfl⟩ : ∃ y0 y1 y2 y3 y4 y5 y6 y7, xs = [y0, y1, y2, y3, y4, y5, y6, y7] := by
    match xs, hxs with
    | [v0, v1, v2, v3, v4, v5, v6, v7], _ => exact ⟨v0, v1, v2, v3, v4, v5, v6, v7, rfl⟩
  have g0 := hg 0 _ rfl
  have g1 := hg 1 _ rfl
  have g2 := hg 2 _ rfl
  have g3 := hg 3 _ rfl
  have g4 := hg 4 _ rfl
  have g5 := hg 5 _ rfl
  have g6 := hg 6 _ rfl
  have g7 := hg 7 _ rfl
  simp only [List.getElem?_cons_zero, List.getElem?_cons_succ] at g0 g1 g2 g3 g4 g5 g6 g7
  obtain ⟨n0, h0, _, w0⟩ := DataW.trod_int Tryz.underlying3 g0
  obtain ⟨n1, h1, _, _⟩ := DataW.trod_int Tryz.underlying35 g1
  obtain ⟨n2, h2, _, _⟩ := DataW.trod_int Tryz.underlying35 g2
  obtain ⟨n3, h3, _, _⟩ := DataW.trod_int Tryz.underlying35 g3
  obtain ⟨n4, h4, _, _⟩ := DataW.trod_int Tryz.underlying2 g4
  obtain ⟨l5, h5⟩ := attrs_of_trod g5
  obtain ⟨l6, h6⟩ := reads_of_trod Tryz.underlying37 Tryz.underlying5 (by kernel_rfl) g6
  obtain ⟨l7, h7, _⟩ := str_of_trod g7
  injection h0 with h0 _; injection h1 with h1 _; injection h2 with h2 _; injection h3 with h3 _; injection h4 with h4 _
  subst h0 h1 h2 h3 h4 h7
  have hm1 : IntKind.i64.min = -9223372036854775808 := rfl
  have hm2 : IntKind.i64.max = 9223372036854775807 := rfl
  simp only [Lit.wf, Bool.and_eq_true, decide_eq_true_eq, hm1, hm2] at w0
  exact ⟨⟨n0, n1, n2, n3, n4, l5, l6, l7⟩, v5, v6, rfl, ⟨h5, h6⟩, by exact w0⟩
set_option maxRecDepth 100000 in
theorem mb_of_trod {cs : List Value} (hf : DataW.trod enc Tryz.prog W 0 (fun _ => true) true fuel 41 cs = some x) :
    ∃ y : Mv, cs = (mcell y).toList ∧ NdR W (· < W.heap.size) y.1.2 y.2.1 y.2.2 ∧ Kb y.1 := by
  obtain ⟨xs, k, -, -, hlen, hxs, hg⟩ := DataW.trod_struct Tryz.underlying41 hf
  obtain ⟨c1, c2, c3, c4, c5, c6, c7, c8, c9, -⟩ := cOne
  rw [c9] at hlen
  obtain ⟨v0, v1, v2, v3, v4, v5, v6, v7, v8, rfl⟩ : ∃ v0 v1 v2 v3 v4 v5 v6 v7 v8, cs = [v0, v1, v2, v3, v4, v5, v6, v7, v8] := by
    match cs, hlen with
    | [v0, v1, v2, v3, v4, v5, v6, v7, v8], _ => exact ⟨v0, v1, v2, v3, v4, v5, v6, v7, v8, rfl⟩
  obtain ⟨y0, y1, rfl⟩ : ∃ y0 y1, xs = [y0, y1] := by
    match xs, hxs with
    | [v0, v1], _ => exact ⟨v0, v1, rfl⟩
  have g0 := hg 0 _ rfl
  have g1 := hg 1 _ rfl
  simp only [List.getElem_toArray, List.getElem_cons_succ, List.getElem_cons_zero, c6, c8, List.drop_succ_cons, List.drop_zero, List.take_succ_cons, List.take_zero, List.getElem?_cons_zero, List.getElem?_cons_succ] at g0 g1
  obtain ⟨l0, h0, _⟩ := str_of_trod g0
  obtain ⟨n, av, dv, h1, h2, h3⟩ := node_of_trod g1
  subst h0
  refine ⟨((l0, n), av, dv), ?_, h2, h3⟩
  rw [h1]; rfl
set_option maxRecDepth 100000 in
theorem act_of_trod {cs : List Value} (hf : DataW.trod enc Tryz.prog W 0 (fun _ => true) true fuel 70 cs = some x) :
    ∃ y : Av, cs = acell y ∧ NdR W (· < W.heap.size) y.2.1.2 y.2.2.1 y.2.2.2 ∧ Kb y.2.1 := by
  obtain ⟨xs, k, -, -, hlen, hxs, hg⟩ := DataW.trod_struct Tryz.underlying70 hf
  obtain ⟨c1, c2, c3, c4, c5, c6, c7, c8, c9, c10⟩ := cOne
  rw [c10] at hlen
  obtain ⟨v0, v1, v2, v3, v4, v5, v6, v7, v8, v9, rfl⟩ : ∃ v0 v1 v2 v3 v4 v5 v6 v7 v8 v9, cs = [v0, v1, v2, v3, v4, v5, v6, v7, v8, v9] := by
    match cs, hlen with
    | [v0, v1, v2, v3, v4, v5, v6, v7, v8, v9], _ => exact ⟨v0, v1, v2, v3, v4, v5, v6, v7, v8, v9, rfl⟩
  obtain ⟨y0, y1, rfl⟩ : ∃ y0 y1, xs = [y0, y1] := by
    match xs, hxs with
    | [v0, v1], _ => exact ⟨v0, v1, rfl⟩
  have g0 := hg 0 _ rfl
  have g1 := hg 1 _ rfl
  simp only [List.getElem_toArray, List.getElem_cons_succ, List.getElem_cons_zero, c7, c9, List.drop_succ_cons, List.drop_zero, List.take_succ_cons, List.take_zero, List.getElem?_cons_zero, List.getElem?_cons_succ] at g0 g1
  obtain ⟨b0, h0, _⟩ := DataW.trod_bool Tryz.underlying4 g0
  obtain ⟨y, h1, h2, h3⟩ := mb_of_trod g1
  injection h0 with h0 _
  subst h0
  refine ⟨(b0, y), ?_, h2, h3⟩
  rw [h1]; rfl
set_option maxRecDepth 100000 in
/-- a slice of rows of k cells -/
theorem slice_of_trod {α : Type} [Inhabited α] {t e : TypeId} {k : Nat} (ht : Tryz.prog.underlying t = some (.slice e)) (hk : Tryz.prog.cellsOf e = k) (hk0 : 0 < k) (cl : α → List Value) (hcl : ∀ a, (cl a).length = k) (p : α → Prop) (cells : List α → List Value) (hlen : ∀ l, (cells l).length = l.length * k)
    (hcells : ∀ (l : List α) (j i : Nat) (h : j < l.length), i < k → (cells l)[j * k + i]? = (cl l[j])[i]?)
    (hel : ∀ (n : Nat) (cs : List Value) (y : DataW H × List MemPlace), DataW.trod enc Tryz.prog W 0 (fun _ => true) true n e cs = some y → ∃ a, cs = cl a ∧ p a)
    {v : Value} (hf : DataW.trod enc Tryz.prog W 0 (fun _ => true) true fuel t [v] = some x) : ∃ l : List α, RdV W (· < W.heap.size) k v l.length (cells l) ∧ ∀ a ∈ l, p a := by
  rcases Deep.open_slice ht hf with ⟨hcs, _⟩ | ⟨⟨b, off, sp⟩, len, cap, m, n, D, Pl, hcs, _, hl, hm, hmm, _, hx⟩
  · injection hcs with hcs _
    subst hcs
    refine ⟨[], ⟨by simp [hlen], ⟨_, _, rfl, Nat.zero_le _, Nat.zero_le _, .inl rfl⟩, fun _ _ _ _ e j u hu => by cases e⟩, fun a ha => (List.not_mem_nil ha).elim⟩
  · injection hcs with hcs _
    subst hcs
    simp only [if_true] at hmm
    rw [hk] at hx
    have key : ∀ i, i < m → ∃ a, (∀ j u, (cl a)[j]? = some u → W.cell? ((⟨b, off, sp⟩ : Addr).add (i * k + j)) = some u) ∧ p a := fun i hi => by
      obtain ⟨cs', h1, h2⟩ := hx i hi
      obtain ⟨_, hl', hcell⟩ := World.cells?_some h1
      obtain ⟨a, rfl, hp⟩ := hel _ _ _ h2
      refine ⟨a, fun j u hj => ?_, hp⟩
      have hjl := (List.getElem?_eq_some_iff.1 hj).1
      rw [hcl] at hjl
      have := hcell j hjl
      rw [Deep.add_add] at this
      rw [this]; exact hj
    obtain ⟨q, hq⟩ := Deep.choose_lt (α := α) key
    have hsp : cap = 0 ∨ (sp = none ∧ b < W.heap.size) := by
      rcases Nat.eq_zero_or_pos cap with h | h
      · exact .inl h
      · have h0 := (hq 0 (by omega)).1 0 ((cl (q 0))[0]'(by rw [hcl]; exact hk0)) (List.getElem?_eq_getElem _)
        rw [Nat.zero_mul, Nat.add_zero] at h0
        exact .inr (cell_spot h0)
    have hll : ((List.range len).map q).length = len := by simp
    refine ⟨(List.range len).map q, ⟨hlen _, ⟨_, cap, by rw [hll], by omega, hm, ?_⟩, ?_⟩, fun a ha => ?_⟩
    · rcases hsp with h | ⟨rfl, h⟩
      · exact .inl h
      · exact .inr ⟨b, off, rfl, h⟩
    · intro b' off' m' c' he j u hu
      injection he with e1 _ _; injection e1 with e1; injection e1 with e1 e2 e3; subst e1 e2 e3
      have hj := (List.getElem?_eq_some_iff.1 hu).1
      rw [hlen, hll] at hj
      have hil : j / k < len := Nat.div_lt_of_lt_mul (by rw [Nat.mul_comm]; exact hj)
      have hjk : j / k * k + j % k = j := Nat.div_add_mod' j k
      have hrg := hcells ((List.range len).map q) (j / k) (j % k) (by rw [hll]; exact hil) (Nat.mod_lt _ hk0)
      rw [hjk, hu] at hrg
      have hqi : ((List.range len).map q)[j / k]'(by rw [hll]; exact hil) = q (j / k) := by simp
      rw [hqi] at hrg
      have := (hq (j / k) (by omega)).1 (j % k) u hrg.symm
      rw [hjk, Addr.add_mid] at this
      exact this
    · obtain ⟨i, hi, rfl⟩ := List.mem_map.1 ha
      exact (hq i (by have := List.mem_range.1 hi; omega)).2
instance : Inhabited Nd := ⟨⟨0, 0, 0, 0, 0, [], [], []⟩⟩
set_option maxRecDepth 100000 in
/-- AN ARGUMENT OF TYPE []Act, OPENED -/
theorem opened_acts {r : Reach} {base : Nat} {v : Value} {d : DataW H} {ps : List MemPlace} (hok : Value.okWide Tryz.prog W r base 22 v) (h0 : DataW.Trod enc Tryz.prog W 0 (fun _ => true) true 22 v d ps) :
    ∃ l : List Av, ActsR W (· < W.heap.size) (· < W.heap.size) v l ∧ ∀ a ∈ l, Kb a.2.1 := by
  obtain ⟨fuel, hf⟩ := h0
  replace hf : DataW.trod enc Tryz.prog W 0 (fun _ => true) true fuel 22 [v] = some (d, ps) := by
    rcases okSlice Tryz.underlying22 hok with rfl | ⟨b, off, len, cap, rfl, -, -, -⟩ <;> exact hf
  obtain ⟨l, h1, h2⟩ := slice_of_trod (α := Av) (k := 10) Tryz.underlying22 (by kernel_rfl) (by decide) acell acell_len (fun y => NdR W (· < W.heap.size) y.2.1.2 y.2.2.1 y.2.2.2 ∧ Kb y.2.1) acells acells_length acells_get (fun n cs y h => act_of_trod h) hf
  exact ⟨l, ⟨h1, fun a ha => (h2 a ha).1⟩, fun a ha => (h2 a ha).2⟩
set_option maxRecDepth 100000 in
/-- AN ARGUMENT OF TYPE []Member, OPENED -/
theorem opened_mbs {r : Reach} {base : Nat} {v : Value} {d : DataW H} {ps : List MemPlace} (hok : Value.okWide Tryz.prog W r base 23 v) (h0 : DataW.Trod enc Tryz.prog W 0 (fun _ => true) true 23 v d ps) :
    ∃ l : List Mv, Mbs W (· < W.heap.size) (· < W.heap.size) v l ∧ ∀ a ∈ l, Kb a.1 := by
  obtain ⟨fuel, hf⟩ := h0
  replace hf : DataW.trod enc Tryz.prog W 0 (fun _ => true) true fuel 23 [v] = some (d, ps) := by
    rcases okSlice Tryz.underlying23 hok with rfl | ⟨b, off, len, cap, rfl, -, -, -⟩ <;> exact hf
  obtain ⟨l, h1, h2⟩ := slice_of_trod (α := Mv) (k := 9) Tryz.underlying23 (by kernel_rfl) (by decide) (fun y => (mcell y).toList) mcell_len (fun y => NdR W (· < W.heap.size) y.1.2 y.2.1 y.2.2 ∧ Kb y.1) mcells mcells_length (fun l j i h hi => by rw [mcells_get l j i h hi]; simp) (fun n cs y h => mb_of_trod h) hf
  exact ⟨l, ⟨h1, fun a ha => (h2 a ha).1⟩, fun a ha => (h2 a ha).2⟩
end
end Go.Proofs.YtmnknmpfkjhgbaaGreatDoor
/- WHAT THE ROWS' LISTED VARIABLES AND THE WORLD'S SHAPE GIVE; and a world that holds the listed variables. -/
namespace Go.Proofs.YtmnknmpfkjhgbaaGreatDoor
open Go.ChangeShapes Go.WideShapes Go.ChangeAt Go.RowKit
theorem mx_of_shape {W : World} (h : W.ShapedOpen Tryz.prog) : Mx W.heap.size W := by
  obtain ⟨m, hm⟩ : ∃ m, W.cell? ⟨2, 0, none⟩ = some (.int .i64 m) := Go.Proofs.cell_of_shapedOpen_int (zero := #[.int .i64 0]) (t := 3) h (of_decide_eq_true (by kernel_rfl)) (by kernel_rfl) rfl (by kernel_rfl) (by kernel_rfl) Tryz.underlying3
  exact ⟨World.block_lt_of_cell? W _ hm, m, hm⟩
/-- what the laws of the trees ask of the world -/
theorem tabs_of {W : World} {l : List (String × DataW Unit)} (hL : laidMetH Tryz.prog l W) (hsh : W.ShapedOpen Tryz.prog) (hc : ("portolan/path.classes", Rows.laid_portolan_path_classes) ∈ l) (ht : ("portolan/tar.types", Rows.laid_portolan_tar_types) ∈ l) : Tabs W.heap.size W :=
  ⟨Nat.le_refl _, mx_of_shape hsh, cls_of_laid hL hc, typ_of_laid (laidMetH_iff.1 hL).1 (List.mem_filter.2 ⟨ht, rfl⟩)⟩
/-- A WORLD FOR THE WITNESS -/
def layRow (c : Array Value) : Obj → Obj
  | .cells _ t frozen => .cells c t frozen
  | o => o
def classesMap : Obj := .map #[⟨.int .i64 1, .func (.func 223) #[] #[], 0⟩, ⟨.int .i64 2, .func (.func 224) #[] #[], 1⟩, ⟨.int .i64 3, .func (.func 225) #[] #[], 2⟩] 3
def typesMap : Obj := .map #[⟨.int .i64 1, .int .u8 53, 0⟩, ⟨.int .i64 2, .int .u8 48, 1⟩, ⟨.int .i64 3, .int .u8 50, 2⟩, ⟨.int .i64 4, .int .u8 54, 3⟩] 4
noncomputable def lowM : Nat := (World.holding Tryz.prog default ⟨#[], #[], []⟩).heap.size
noncomputable def laidWorld (os : Os) : World :=
  let w0 := World.holding Tryz.prog os ⟨#[classesMap, typesMap], #[], []⟩
  let h2 := Array.modify w0.heap 4 (layRow ((List.range 16).flatMap fun i => [Value.int .u8 (Lib.accLo i), Value.int .u8 (Lib.accHi i)]).toArray)
  let h3 := Array.modify h2 3 (layRow (Lib.firstTab.map fun z => Value.int .u8 z).toArray)
  let h4 := Array.modify h3 0 (layRow #[.map (some lowM)])
  let h5 := Array.modify h4 1 (layRow #[.map (some (lowM + 1))])
  { w0 with heap := h5 }
end Go.Proofs.YtmnknmpfkjhgbaaGreatDoor
/- AN ARGUMENT THAT IS A SLICE OF TEXTS, OPENED. -/
namespace Go.Proofs.YtmnknmpfkjhgbaaGreatDoor
open Go.ChangeShapes Go.WideShapes Go.ChangeAt Go.RowKit
end Go.Proofs.YtmnknmpfkjhgbaaGreatDoor

