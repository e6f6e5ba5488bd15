/- PARTS OF ONE PROOF, set in one file: LdSorted, RfLaw, TreeCopy, TreeSame, ChPlain. Each part tells its own conditions. -/
import Derived.RangeFuncNested
import Derived.RangeFuncBound
import Derived.Test.YtmnknmpfkjhgbaaGreatDoorP1
import Derived.Test.YtmnknmpfkjhgbaaGreatDoorP7
import Derived.Test.YtmnknmpfkjhgbaaGreatDoorP8
import Derived.Test.YtmnknmpfkjhgbaaGreatDoorP9
import Derived.Test.YtmnknmpfkjhgbaaGreatDoorP11
import Derived.Test.YtmnknmpfkjhgbaaGreatDoorP12
import Derived.Test.YtmnknmpfkjhgbaaGreatDoorP13
import Derived.Test.YtmnknmpfkjhgbaaGreatDoorP14
import Derived.Test.YtmnknmpfkjhgbaaGreatDoorP16
/- portolanlaw20.sorted: Members by rising paths, of one path the first one. -/
namespace Go.Proofs.YtmnknmpfkjhgbaaGreatDoor
open Go.RowKit
theorem plc_below {L : List Mb} (h : SM.Srt L) {p : Tx} {i : Nat} (hi : i < SM.plc L p) (hl : i < L.length) : L[i].1 < p := by
  have e := h.take_plc p
  have : L[i] ∈ L.take (SM.plc L p) := by
    rw [List.mem_take_iff_getElem]
    exact ⟨i, by omega, rfl⟩
  rw [e] at this
  unfold SM.lo at this
  simpa using (List.mem_filter.1 this).2
theorem plc_from {L : List Mb} (h : SM.Srt L) {p : Tx} (hl : SM.plc L p < L.length) : ¬ L[SM.plc L p].1 < p := by
  cases hk : SM.look L p with
  | some v =>
    have := h.at_some hk
    rw [List.getElem?_eq_getElem hl] at this
    injection this with this
    rw [this]
    exact tx_irrefl p
  | none => exact tx_asymm (h.at_none hk hl)
theorem ownsNew {w : World} {e : TypeId} {c : Array Value} {k base : Nat} (hb : base ≤ w.heap.size) (hs : c.size = k) : (w.alloc (.cells c e)).ownsRow base e k (.slice (some ⟨w.heap.size, 0, none⟩) 1 1) 1 c.toList :=
  ⟨by rw [Array.length_toList, hs, Nat.one_mul], .inr ⟨_, 1, c, rfl, hb, heap_alloc_new w _, Nat.le_refl _, by unfold maxLen; omega, by omega, by rw [Nat.one_mul, ← hs, ← Array.length_toList, List.take_length]⟩⟩
/-- what the operations of the inserting region yield -/
def insT (n0 n c3 j : Nat) (a3 a' : Option Addr) (row : Array Value) (tl : List Value) : Nat → Value → World → Prop
  | 0, v, _ => v = .slice a3 n c3
  | 1, v, _ => v = .int .i64 (j : Int)
  | 2, v, _ => v = .slice a3 j c3
  | 3, v, _ => v = .agg row
  | 4, v, w => ∃ g, v = .slice (some ⟨g, 0, none⟩) 1 1 ∧ w.ownsRow n0 41 9 v 1 row.toList
  | 5, v, _ => v = .slice a3 n c3
  | 6, v, _ => v = .int .i64 (j : Int)
  | 7, v, _ => v = .slice a' (n - j) (c3 - j)
  | 8, v, w => w.ownsRow n0 41 9 v (1 + (n - j)) (row.toList ++ tl)
  | _, _, _ => True
theorem insT_stays {n0 n c3 j : Nat} {a3 a' : Option Addr} {row : Array Value} {tl : List Value} {w w' : World} (i : Nat) (v : Value) (h : insT n0 n c3 j a3 a' row tl i v w) (hb : Below w.heap.size w w') : insT n0 n c3 j a3 a' row tl i v w' := by
  unfold insT at h ⊢
  split at h <;> first
    | exact h
    | (obtain ⟨g, e, h⟩ := h; exact ⟨g, e, ownsRow_loc _ _ (fun b e => hb.block b (World.ownsRow.lt h b e).2) h⟩)
    | exact ownsRow_loc _ _ (fun b e => hb.block b (World.ownsRow.lt h b e).2) h
set_option maxHeartbeats 4000000 in
set_option maxRecDepth 100000 in
theorem sorted_any (v : Value) (l : List Mv) (w : World) (hr : MbL w v l) (hll : l.length ≤ 1000000) :
    Calls Tryz.prog 14 #[v] w fun e w' => ∃ a c out, e = .returned (.slice a out.length c) ∧ out.map (·.1) = sortedS (l.map (·.1)) ∧ RowM w.heap.size (· < w.heap.size) w' (.slice a out.length c) out ∧ Below w.heap.size w w' := by
  obtain ⟨a, cap, hv, hcap, hmx, h3⟩ := hr.rd.shape
  have HR := Keep.keep hr; have H3 := Keep.keep h3
  unfold maxLen at hmx
  clear hr h3
  subst hv
  obtain ⟨S, hS⟩ : ∃ S, l.map (·.1) = S := ⟨_, rfl⟩
  have HSS := Keep.keep hS
  rw [hS]
  have HSL : Keep (S.length = l.length) := ⟨by rw [← hS, List.length_map]⟩
  clear hS
  go_enter Tryz.func14, Tryz.ntmps14
  go_wp2_with fail
  go_loopg [3, 9] l.length (fun g u3 u9 wx => ∃ (k : Nat) (out : List Mv), k + g = l.length ∧ u9 = .int .i64 (k : Int) ∧ sortedS (S.take k) = out.map (·.1) ∧ RowM w.heap.size (· < w.heap.size) wx u3 out ∧ Below w.heap.size w wx)
  case atStart => exact ⟨0, [], by omega, rfl, rfl, RowM.nil _ _ _, Below.refl _ _⟩
  case round =>
    obtain ⟨k, out, hkg, rfl, hso, hrow, hb⟩ := hrel
    have HSO := Keep.keep hso; have HB := Keep.keep hb; have HRO := Keep.keep hrow
    obtain ⟨a3, c3, hv3, hc3, hm3, h33⟩ := (ownsV_reads hrow.own).shape
    have hln : out.length ≤ k := by
      have h1 := congrArg List.length hso
      rw [List.length_map] at h1
      have h2 := sortedS_len (S.take k)
      rw [List.length_take] at h2
      omega
    obtain ⟨n, hn⟩ : ∃ n, out.length = n := ⟨_, rfl⟩
    have HN := Keep.keep hn
    rw [hn] at hv3 hc3 hln
    have HMX := Keep.keep hm3
    have H33 := Keep.keep h33
    clear hso hb hrow h33 hn hm3
    subst hv3
    cases gk with
    | zero =>
      obtain rfl : k = l.length := by omega
      have HX : Keep (out.map (·.1) = sortedS S) := ⟨by rw [← HSO.out, ← HSL.out, List.take_length]⟩
      go_wp2_with fail
      go_ret
      exact ⟨a3, c3, out, by rw [HN.out]; rfl, HX.out, by rw [HN.out]; exact HRO.out, HB.out⟩
    | succ g =>
      have hk : k < l.length := by omega
      obtain ⟨b, off, rfl, hbl⟩ : ∃ b off, a = some ⟨b, off, none⟩ ∧ b < w.heap.size := by
        rcases H3.out with h | ⟨b, off, h, hb⟩
        · omega
        · exact ⟨b, off, h, hb⟩
      have hld := (HR.out.below HB.out (fun b hb => hb) (fun b hb => hb)).load hk
      have hkS : k < S.length := by rw [HSL.out]; exact hk
      have hSk : S[k] = l[k].1 := by simp [← HSS.out]
      have HTK : Keep (sortedS (S.take (k + 1)) = insS (out.map (·.1)) l[k].1) := ⟨by rw [List.take_succ_eq_append_getElem hkS, hSk, sortedS_snoc, HSO.out]⟩
      have HSR : Keep (SM.Srt (out.map (·.1))) := ⟨by rw [← HSO.out]; exact sortedS_srt _⟩
      have HND := Keep.keep (HR.out.nd l[k] (List.getElem_mem hk))
      clear hkS hSk
      generalize l[k] = x at *
      obtain ⟨⟨xp, ⟨kind, mode, uid, gid, time, attrs, data, link⟩⟩, av, dv⟩ := x
      obtain ⟨aa, la, ca, ad, ld, cd, e1, e2⟩ := HND.out.shape
      dsimp only at e1 e2 HTK
      subst e1 e2
      have HMC : Keep (mcell ((xp, ⟨kind, mode, uid, gid, time, attrs, data, link⟩), .slice aa la ca, .slice ad ld cd) = #[.string ⟨xp.toArray⟩, .int .i64 kind, .int .u32 mode, .int .u32 uid, .int .u32 gid, .int .i64 time, .slice aa la ca, .slice ad ld cd, .string ⟨link.toArray⟩]) := ⟨rfl⟩
      rw [HMC.out] at hld
      -- where it stands
      have HPE := Keep.keep (HSR.out.put_eq (xp, ⟨kind, mode, uid, gid, time, attrs, data, link⟩))
      have hple := SM.plc_le (out.map (·.1)) xp
      rw [List.length_map, HN.out] at hple
      have HLT : Keep (∀ i, (hi : i < SM.plc (out.map (·.1)) xp) → (hl : i < out.length) → out[i].1.1 < xp) := ⟨fun i hi hl => by
        have := plc_below HSR.out hi (by rw [List.length_map]; exact hl)
        simpa using this⟩
      have HGE : Keep (∀ hl : SM.plc (out.map (·.1)) xp < out.length, ¬ out[SM.plc (out.map (·.1)) xp].1.1 < xp) := ⟨fun hl => by
        have := plc_from HSR.out (p := xp) (by rw [List.length_map]; exact hl)
        simpa using this⟩
      have HIL := Keep.keep (fun e => is_len (l := out) (p := xp) HSR.out e)
      have HIH := Keep.keep (fun k hk e => is_here (l := out) (p := xp) HSR.out (k := k) hk e)
      have HINS : Keep (insS (out.map (·.1)) (xp, ⟨kind, mode, uid, gid, time, attrs, data, link⟩) = if (SM.look (out.map (·.1)) xp).isSome = true then out.map (·.1) else SM.put (out.map (·.1)) (xp, ⟨kind, mode, uid, gid, time, attrs, data, link⟩)) := ⟨rfl⟩
      dsimp only at HPE
      generalize SM.plc (out.map (·.1)) xp = pl at *
      generalize (SM.look (out.map (·.1)) xp).isSome = is at *
      go_upto_region 5 with ((with_reducible refine arm_loadM hld ?_ ?_); (focus rfl); simp only [Act.put, List.setIfInBounds_toArray, List.set_cons_succ, List.set_cons_zero])
      obtain ⟨b5, hb5⟩ : ∃ b, wr.heap.size = b := ⟨_, rfl⟩
      refine wp_world (R := fun w2 => Hp NoM wr w2 [rowA b5 41 #[.string ⟨xp.toArray⟩, .int .i64 kind, .int .u32 mode, .int .u32 uid, .int .u32 gid, .int .i64 time, .slice aa la ca, .slice ad ld cd, .string ⟨link.toArray⟩]]) (by have := (Hp.begin NoM wr).newRow 41 #[.string ⟨xp.toArray⟩, .int .i64 kind, .int .u32 mode, .int .u32 uid, .int .u32 gid, .int .i64 time, .slice aa la ca, .slice ad ld cd, .string ⟨link.toArray⟩]; rw [hb5] at this; exact this) ?_
      intro w2 H2
      rw [hb5]
      rw [← HMC.out] at H2
      have hshp : NdS ((xp, (⟨kind, mode, uid, gid, time, attrs, data, link⟩ : Nd)), (Value.slice aa la ca), (Value.slice ad ld cd)) := HND.out.shape
      have HSH := Keep.keep hshp
      clear hshp
      have HM0 : Keep ((mcell ((xp, ⟨kind, mode, uid, gid, time, attrs, data, link⟩), .slice aa la ca, .slice ad ld cd))[0]? = some (.string ⟨xp.toArray⟩)) := ⟨rfl⟩
      generalize (⟨kind, mode, uid, gid, time, attrs, data, link⟩ : Nd) = xn at *
      have HRO2 := Keep.keep (HRO.out.below H2.out.below)
      have HB2 := Keep.keep (HB.out.trans (H2.out.below.mono HB.out.size))
      have HR5 := Keep.keep (H2.out.row 0 rfl)
      clear hld hb5 H2 HRO HB HMC
      go_wp2_with fail
      go_loopg [6] pl (fun g u6 wx => ∃ j : Nat, j + g = pl ∧ u6 = .int .i64 (j : Int) ∧ Below w2.heap.size w2 wx)
      case atStart => exact ⟨0, by omega, rfl, Below.refl _ _⟩
      case round =>
        obtain ⟨j, hjg, rfl, hbx⟩ := hrel
        have HBX := Keep.keep hbx
        have HROX := Keep.keep (HRO2.out.below hbx)
        have HR5X := Keep.keep (HR5.out.below hbx HR5.out.lt)
        have c50 : wr.cell? ⟨b5, 0, none⟩ = some (.string ⟨xp.toArray⟩) := HR5X.out.cell HM0.out
        clear hbx
        cases gk with
        | zero =>
          obtain rfl : j = pl := by omega
          cases is with
          | true =>
            have hjn : j < out.length := by
              rcases Nat.lt_or_ge j out.length with h | h
              · exact h
              · have := HIL.out (by have := HN.out; omega)
                cases this
            have HIS := HIH.out j hjn rfl
            obtain ⟨b3, off3, rfl, -⟩ := H33.out.resolve_left (by have := HN.out; omega)
            have hcj := HROX.out.mbs.cell hjn 0 (by omega) (u := strV out[j].1.1) rfl
            have hxe : out[j].1.1 = xp := by simpa using HIS.symm
            have hjl : j < n := by have := HN.out; omega
            have hd : decide (j < n) = true := decide_eq_true hjl
            have hbl : Op.bytesLess xp xp = false := by rw [less_lt]; exact decide_eq_false (tx_irrefl xp)
            rw [hxe] at hcj
            unfold strV at hcj
            rw [Nat.add_zero] at hcj
            have HX : Keep (sortedS (S.take (k + 1)) = out.map (·.1)) := ⟨by rw [HTK.out, HINS.out, if_pos rfl]⟩
            clear hxe HIS hjn
            go_upto_region 6 with fail
            (refine wp_region_quiet_lit (by kernel_rfl) (by kernel_rfl) ?_); (repeat (first | (fail) | go_big_quiet_step (fail))); (refine wpQuiet_nil ?_); (intro _ hwq); (obtain ⟨nq, hwq⟩ := hwq); (subst hwq)
            go_upto_region 8 with fail
            (refine wp_region_quiet_lit (by kernel_rfl) (by kernel_rfl) ?_); (repeat (first | (fail) | go_big_quiet_step (fail))); (refine wpQuiet_nil ?_); (intro _ hwq); (obtain ⟨nq, hwq⟩ := hwq); (subst hwq)
            go_wp2_with fail
            go_roundg g
            case measure => omega
            case rel => exact ⟨k + 1, out, by omega, by simp, HX.out, by first | exact HROX.out | exact HROX.out.below (below_drewN' (Below.refl _ _) _), (HB2.out.trans (HBX.out.mono HB2.out.size)).trans (below_drewN' (Below.refl _ _) _)⟩
          | false =>
            have HX : Keep (sortedS (S.take (k + 1)) = (out.take j ++ (((xp, xn), .slice aa la ca, .slice ad ld cd) :: out.drop j)).map (·.1)) := ⟨by
              rw [HTK.out, HINS.out, if_neg (by decide), HPE.out]
              simp [List.map_take, List.map_drop]⟩
            by_cases hjn : j < out.length
            focus
              have HIS := HIH.out j hjn rfl
              have hng := HGE.out hjn
              obtain ⟨b3, off3, rfl, -⟩ := H33.out.resolve_left (by have := HN.out; omega)
              have hcj := HROX.out.mbs.cell hjn 0 (by omega) (u := strV out[j].1.1) rfl
              have hjl : j < n := by have := HN.out; omega
              have hd : decide (j < n) = true := decide_eq_true hjl
              have hbl : Op.bytesLess out[j].1.1 xp = false := by rw [less_lt]; exact decide_eq_false hng
              have hbe : (out[j].1.1 == xp) = false := HIS.symm
              unfold strV at hcj
              rw [Nat.add_zero] at hcj
              obtain ⟨yp, hyp⟩ : ∃ y, out[j].1.1 = y := ⟨_, rfl⟩
              rw [hyp] at hcj hbl hbe
              clear hyp HIS hng hjn
              go_upto_region 6 with fail
              (refine wp_region_quiet_lit (by kernel_rfl) (by kernel_rfl) ?_); (repeat (first | (fail) | go_big_quiet_step (fail))); (refine wpQuiet_nil ?_); (intro _ hwq); (obtain ⟨nq, hwq⟩ := hwq); (subst hwq)
              go_upto_region 8 with fail
              (refine wp_region_quiet_lit (by kernel_rfl) (by kernel_rfl) ?_); (repeat (first | (fail) | go_big_quiet_step (fail))); (refine wpQuiet_nil ?_); (intro _ hwq); (obtain ⟨nq, hwq⟩ := hwq); (subst hwq)
              go_upto_region 9 with fail
              clear hcj hd hbl hbe hjl
              generalize (some (⟨b3, off3, none⟩ : Addr)) = a3 at *
            rotate_left
            focus
              have hd : decide (j < n) = false := decide_eq_false (by have := HN.out; omega)
              clear hjn
              go_upto_region 6 with fail
              (refine wp_region_quiet_lit (by kernel_rfl) (by kernel_rfl) ?_); (repeat (first | (fail) | go_big_quiet_step (fail))); (refine wpQuiet_nil ?_); (intro _ hwq); (obtain ⟨nq, hwq⟩ := hwq); (subst hwq)
              go_upto_region 8 with fail
              (refine wp_region_quiet_lit (by kernel_rfl) (by kernel_rfl) ?_); (repeat (first | (fail) | go_big_quiet_step (fail))); (refine wpQuiet_nil ?_); (intro _ hwq); (obtain ⟨nq, hwq⟩ := hwq); (subst hwq)
              go_upto_region 9 with fail
              clear hd
            all_goals
              obtain ⟨a7, hs7, hrd7⟩ := slice_mfrom a3 n c3 j .i64 hple hc3
              have HR7 := Keep.keep hrd7
              clear hrd7
              have hnm : n ≤ 1000000 := by omega
              refine wp_region_spcT 9 [43, 44, 45, 46, 47, 48, 49, 50, 51] (Below wr.heap.size wr) (insT wr.heap.size n c3 j a3 a7 (mcell ((xp, xn), .slice aa la ca, .slice ad ld cd)) (mcells (out.drop j))) (fun w w' => Below w.heap.size w w') (by kernel_rfl) rfl (by decide) (by show ∀ d ∈ _, d < 55; decide) (by kernel_rfl) (by decide) (by kernel_rfl) (by kernel_rfl) (by kernel_rfl) (below_drewN' (below_drewN' (Below.refl _ _) _) _).drew (fun i v w w' h _ hb => insT_stays i v h hb) ?_ ?_
              · intro q hq a1 w5 hF hC hT
                have hsz : a1.tmps.size = 55 := hF.size
                have t3 : a1.eval (.tmp 3) = .slice a3 n c3 := (hF.same 3 (by decide)).trans rfl
                have t5 : a1.eval (.tmp 5) = .pointer (some ⟨b5, 0, none⟩) := (hF.same 5 (by decide)).trans rfl
                have t6 : a1.eval (.tmp 6) = .int .i64 (j : Int) := (hF.same 6 (by decide)).trans rfl
                have hkr : Below w5.heap.size w5 w5 := Below.refl _ _
                rcases (by omega : q = 0 ∨ q = 1 ∨ q = 2 ∨ q = 3 ∨ q = 4 ∨ q = 5 ∨ q = 6 ∨ q = 7 ∨ q = 8) with rfl | rfl | rfl | rfl | rfl | rfl | rfl | rfl | rfl
                · exact spcS_val (d := 43) rfl (wanted_none rfl) run_move hC hkr t3
                · exact spcS_val (d := 44) rfl (wanted_none rfl) run_move hC hkr t6
                · have hx : a1.eval (.tmp 43) = .slice a3 n c3 := hT 0 (by decide) (by kernel_rfl)
                  have hy : a1.eval (.tmp 44) = .int .i64 (j : Int) := hT 1 (by decide) (by kernel_rfl)
                  exact spcS_val (d := 45) rfl (wanted_none rfl) (v := .slice a3 j c3) (w2 := w5) (by simp [execOp, Instr.sliceAt, hx, hy, slice_mto a3 n c3 j .i64 (by omega)]) hC hkr rfl
                · exact spcS_val (d := 46) rfl (wanted_none rfl) (run_loadRowG (HR5X.out.below hC HR5X.out.lt) aggM rfl t5) hC hkr rfl
                · have hx : a1.eval (.tmp 46) = .agg (mcell ((xp, xn), .slice aa la ca, .slice ad ld cd)) := hT 3 (by decide) (by kernel_rfl)
                  have hal2 : Below w5.heap.size w5 (w5.alloc (.cells (a1.eval (.tmp 46)).cells 41)) := (Below.refl _ _).alloc (Nat.le_refl _) _
                  refine spcS_val (d := 47) rfl (wanted_none rfl) (run_build1 slMb (by decide) (by rw [hx]; rfl)) (hC.trans (hal2.mono hC.size)) hal2 ?_
                  rw [hx]
                  exact ⟨w5.heap.size, rfl, ownsNew hC.size rfl⟩
                · exact spcS_val (d := 48) rfl (wanted_none rfl) run_move hC hkr t3
                · exact spcS_val (d := 49) rfl (wanted_none rfl) run_move hC hkr t6
                · have hx : a1.eval (.tmp 48) = .slice a3 n c3 := hT 5 (by decide) (by kernel_rfl)
                  have hy : a1.eval (.tmp 49) = .int .i64 (j : Int) := hT 6 (by decide) (by kernel_rfl)
                  exact spcS_val (d := 50) rfl (wanted_none rfl) (v := .slice a7 (n - j) (c3 - j)) (w2 := w5) (by simp [execOp, Instr.sliceAt, hx, hy, hs7]) hC hkr rfl
                · obtain ⟨g4, hx, ho⟩ : ∃ g, a1.eval (.tmp 47) = .slice (some ⟨g, 0, none⟩) 1 1 ∧ w5.ownsRow wr.heap.size 41 9 (a1.eval (.tmp 47)) 1 (mcell ((xp, xn), .slice aa la ca, .slice ad ld cd)).toList := hT 4 (by decide) (by kernel_rfl)
                  have hy : a1.eval (.tmp 50) = .slice a7 (n - j) (c3 - j) := hT 7 (by decide) (by kernel_rfl)
                  rw [hx] at ho
                  have hm7 := HR7.out _ _ _ out (HROX.out.below hC).mbs
                  have hrd := hm7.rd
                  rw [List.length_drop, HN.out] at hrd
                  obtain ⟨v8, w8, hrun, ho8, hb8⟩ := run_appFull (ρ := a1.eval) (d := some 51) (tp := 23) (pos := "outright.go:73") (af := _) (g := none) slMb ho hrd (mcells_one (fun y hy => (hm7.nd y hy).shape)) (by unfold maxLen; omega) (by omega) hC.size hx hy
                  exact spcS_val (d := 51) rfl (wanted_none rfl) hrun (hC.trans (hb8.mono hC.size)) hb8 ho8
              · intro a1 w6 ha hC hT
                have t45 : slot a1 45 = .slice a3 j c3 := hT 2 (by decide)
                have ho8 : w6.ownsRow wr.heap.size 41 9 (slot a1 51) (1 + (n - j)) ((mcell ((xp, xn), .slice aa la ca, .slice ad ld cd)).toList ++ mcells (out.drop j)) := hT 8 (by decide)
                simp only [List.foldl_cons, List.foldl_nil, t45] at ha
                have HB6 := Keep.keep ((HB2.out.trans (HBX.out.mono HB2.out.size)).trans (hC.mono (Nat.le_trans HB2.out.size HBX.out.size)))
                have hl8 : (((xp, xn), .slice aa la ca, .slice ad ld cd) :: out.drop j : List Mv).length = 1 + (n - j) := by rw [List.length_cons, List.length_drop, HN.out]; omega
                rw [← mcells_cons, ← hl8] at ho8
                have hro6 := HROX.out.below hC
                have HRT := Keep.keep (hro6.take j hple)
                have hwl := Nat.le_trans HB2.out.size HBX.out.size
                have HM8 : Keep (Mbs w6 (fun b => wr.heap.size ≤ b) (fun b => b < w6.heap.size ∧ (Value.slice a3 j c3).ownBlock ≠ some b) (slot a1 51) (((xp, xn), .slice aa la ca, .slice ad ld cd) :: out.drop j)) := ⟨⟨(ownsV_reads ho8).mono (fun b hb => hb.1), fun y hy => by
                  rcases List.mem_cons.1 hy with rfl | hy
                  · refine (HND.out.below HB6.out (fun b hb => hb)).mono (fun b hb => ⟨Nat.lt_of_lt_of_le hb HB6.out.size, fun e => ?_⟩)
                    have := (HRT.out.lt e).1
                    omega
                  · exact (hro6.nd y (List.mem_of_mem_drop hy)).mono (fun b hb => ⟨hb.2.1, by cases a3 <;> exact hb.2.2⟩)⟩⟩
                generalize slot a1 43 = y43 at *
                generalize slot a1 44 = y44 at *
                generalize slot a1 46 = y46 at *
                generalize slot a1 47 = y47 at *
                generalize slot a1 48 = y48 at *
                generalize slot a1 49 = y49 at *
                generalize slot a1 50 = y50 at *
                generalize slot a1 51 = y51 at *
                clear hT t45 ho8 hC hro6
                subst ha
                simp only [List.drop_succ_cons, List.drop_zero]
                simp only [Act.put, List.setIfInBounds_toArray, List.set_cons_succ, List.set_cons_zero]
                refine arm_appM HRT.out HB6.out.size HM8.out (fun b hb => ⟨Nat.lt_or_ge b _, hb⟩) (by rw [hl8, List.length_take]; omega) rfl rfl ?_
                intro v52 w7 hr7 hg7 hov7 hv52
                obtain ⟨a52, c52, hv52⟩ := hv52
                obtain ⟨n52, hn52⟩ : ∃ n, (out.take j).length + (((((xp, xn), .slice aa la ca, .slice ad ld cd) : Mv) :: out.drop j).length) = n := ⟨_, rfl⟩
                rw [hn52] at hv52
                clear hn52
                subst hv52
                have HR7' := Keep.keep hr7
                have HB7 := Keep.keep (HB6.out.trans (HRT.out.chg HB6.out.size hg7))
                clear hr7 hg7 hov7 hl8 hs7 HR7 HRT HM8 HROX HRO2
                simp only [Act.put, List.setIfInBounds_toArray, List.set_cons_succ, List.set_cons_zero]
                go_wp2_with fail
                go_roundg g
                case measure => omega
                case rel => exact ⟨k + 1, _, by omega, by simp, HX.out, HR7'.out, HB7.out⟩
        | succ g1 =>
          have hjn : j < out.length := by have := HN.out; omega
          obtain ⟨b3, off3, rfl, -⟩ := H33.out.resolve_left (by have := HN.out; omega)
          have hcj := HROX.out.mbs.cell hjn 0 (by omega) (u := strV out[j].1.1) rfl
          have hlt := HLT.out j (by omega) hjn
          have hjl : j < n := by have := HN.out; omega
          have hd : decide (j < n) = true := decide_eq_true hjl
          have hbl : Op.bytesLess out[j].1.1 xp = true := by rw [less_lt]; exact decide_eq_true hlt
          unfold strV at hcj
          rw [Nat.add_zero] at hcj
          obtain ⟨yp, hyp⟩ : ∃ y, out[j].1.1 = y := ⟨_, rfl⟩
          rw [hyp] at hcj hbl
          clear hyp hlt hjn
          go_upto_region 6 with fail
          (refine wp_region_quiet_lit (by kernel_rfl) (by kernel_rfl) ?_); (repeat (first | (fail) | go_big_quiet_step (fail))); (refine wpQuiet_nil ?_); (intro _ hwq); (obtain ⟨nq, hwq⟩ := hwq); (subst hwq)
          go_wp2_with fail
          go_roundg g1
          case measure => omega
          case rel => exact ⟨j + 1, by omega, by simp, HBX.out.trans (below_drewN' (Below.refl _ _) _ |>.mono HBX.out.size)⟩
end Go.Proofs.YtmnknmpfkjhgbaaGreatDoor
/- A RANGE OVER A FUNCTION IN A LAW: whose loop variable is a box of its own; quiet regions in its body; the memory as a list of assertions. -/
namespace Go.Proofs.YtmnknmpfkjhgbaaGreatDoor
open Go.RowKit
theorem Hp.grownBy {w X Y : World} {row : Option Nat} {ls : List As} (h : Hp NoM w X ls) (hg : X.grownBy Y row) (hr : ∀ r, row = some r → w.heap.size ≤ r ∧ ∀ A ∈ ls, ¬ A.blk r) : Hp NoM w Y ls := by
  refine ⟨⟨hg.os.trans h.c.os, hg.tape.trans h.c.tape, hg.output.trans h.c.output, Nat.le_trans h.c.size hg.size, fun k hk hm => ?_⟩, fun A hA => ?_, h.d⟩
  · have := h.c.size
    rw [hg.block k (by omega) (fun e => by have := (hr k e.symm).1; omega)]
    exact h.c.block k hk hm
  · have := h.p A hA
    exact ⟨A.loc X Y (fun b hb => hg.block b (this.2 b hb).2 (fun e => (hr b e.symm).2 A hA hb)) this.1, fun b hb => ⟨(this.2 b hb).1, Nat.lt_of_lt_of_le (this.2 b hb).2 hg.size⟩⟩
end Go.Proofs.YtmnknmpfkjhgbaaGreatDoor
/- tree.Copy: a tree that lives apart. -/
namespace Go.Proofs.YtmnknmpfkjhgbaaGreatDoor
open Go.RowKit
/-- what has come, when one more comes -/
theorem came_put {L : List Mb} (h : SM.Srt L) {todo : Tx → Bool} {p : Tx} {n : Nd} (hp : todo p = true) (hl : SM.look L p = some n) : L.filter (fun x => !(todo x.1 && x.1 != p)) = SM.put (L.filter (fun x => !todo x.1)) (p, n) := by
  have hs : SM.Srt (L.filter (fun x => !todo x.1)) := h.filter _
  have h2 : SM.Srt (L.filter (fun x => !(todo x.1 && x.1 != p))) := h.filter _
  refine h2.ext (hs.put _) (fun q => ?_)
  rw [hs.look_put, h.look_filter (fun k => !(todo k && k != p)), h.look_filter (fun k => !todo k)]
  by_cases e : q = p
  · subst e
    simp [hl]
  · simp [e]
def cpT (W : World) (T2 m2 : Nat) (p : Tx) (n : Nd) (av dv : Value) : Nat → Value → World → Prop
  | 0, v, _ => v = .pointer (some ⟨T2, 0, none⟩)
  | 1, v, _ => v = .pointer (some ⟨T2, 0, none⟩)
  | 2, v, _ => v = .pointer (some ⟨T2, 0, none⟩)
  | 3, v, _ => v = .map (some m2)
  | 4, v, _ => v = .string ⟨p.toArray⟩
  | 5, v, _ => v = .agg (ndC n av dv)
  | _, v, w => ∃ av' dv', v = .agg (ndC n av' dv') ∧ NdR w (Fresh W.heap.size w) n av' dv'
theorem cpT_stays {W : World} {T2 m2 : Nat} {p : Tx} {n : Nd} {av dv : Value} (k : Nat) (v : Value) (w w' : World) (h : cpT W T2 m2 p n av dv k v w) (hb : Below w.heap.size w w') : cpT W T2 m2 p n av dv k v w' := by
  unfold cpT at h ⊢
  split at h
  · exact h
  · exact h
  · exact h
  · exact h
  · exact h
  · exact h
  · obtain ⟨a, d, h1, h2⟩ := h
    exact ⟨a, d, h1, (h2.below hb (fun b hb => hb.2)).mono (fun b hb' => hb'.mono (Nat.le_refl _) hb.size)⟩
set_option maxHeartbeats 4000000 in
set_option maxRecDepth 100000 in
theorem copy_tree (T mb : Nat) (Bk : Nat → Prop) (f : Tx → Value × Value) (L : List Mb) (w : World) (h : TreeIn w T mb Bk f L) (hBk : ∀ b, Bk b → b < w.heap.size) (hL : L.length ≤ 100000) :
    Calls Tryz.prog 27 #[.pointer (some ⟨T, 0, none⟩)] w fun e w' => ∃ T2 m2 Bk2 f2, e = .returned (.pointer (some ⟨T2, 0, none⟩)) ∧ TreeIn w' T2 m2 Bk2 f2 L ∧ (w.heap.size ≤ T2 ∧ w.heap.size ≤ m2 ∧ ∀ b, Bk2 b → Fresh w.heap.size w' b) ∧ Below w.heap.size w w' := by
  have HT := Keep.keep h; have HBK := Keep.keep hBk
  have HN := Keep.keep (none_ok T mb w h.row)
  have hmbw := h.map.lt
  have hTw := h.row.lt
  clear h hBk
  go_enter Tryz.func27, Tryz.ntmps27
  go_wp2_with fail
  refine HN.out.mono ?_
  rintro e w' ⟨rfl, rfl⟩
  have hmm := @run_makeMap Tryz.prog
  go_upto_region 4 with fail
  refine wp_world (R := fun w2 => Hp NoM w w2 [trA (w.heap.size + 1) w.heap.size (fun _ => False) (fun _ => (nilV, nilV)) []]) ?_ ?_
  · have h1 := Hp.begin NoM w
    have hb2 : Below w.heap.size w ((w.alloc (Obj.map #[] 0)).alloc (Obj.cells #[Value.map (some w.heap.size)] 88)) := ((Below.refl _ _).alloc (Nat.le_refl _) _).alloc (by simp) _
    have hm1 := MapS.made (k := 9) w
    exact h1.push (trA (w.heap.size + 1) w.heap.size (fun _ => False) (fun _ => (nilV, nilV)) []) (.of_below hb2)
      ⟨Row.new' (by simp) rfl, hm1.loc (Below.heap_alloc _ _ _ hm1.lt), (fun m hm => (List.not_mem_nil hm).elim), (fun m hm => (List.not_mem_nil hm).elim), ⟨by omega, fun h => h, fun h => h⟩⟩
      (fun b hb => by rcases hb with rfl | rfl | h
                      · simp
                      · simp; omega
                      · exact h.elim)
  intro w2 H2
  obtain ⟨m2, hm2⟩ : ∃ m2, w.heap.size = m2 := ⟨_, rfl⟩
  have HM2 := Keep.keep hm2
  obtain ⟨T2, hT2⟩ : ∃ T2, m2 + 1 = T2 := ⟨_, rfl⟩
  have HT2E := Keep.keep hT2
  rw [hm2, hT2] at H2 ⊢
  clear hmm hm2 hT2
  have hT2w : TreeIn w2 T mb Bk f L := HT.out.loc (fun b hb => H2.out.below.block b (by
    rcases hb with rfl | rfl | h
    · exact hTw
    · exact hmbw
    · exact HBK.out b h))
  have cT := hT2w.row.cell (i := 0) rfl
  have HM := Keep.keep hT2w.map
  have HSR := Keep.keep HT.out.srt
  have HSM := Keep.keep HT.out.sm
  have HND := Keep.keep HT.out.nd
  have HEL : Keep ((entries f L).length = L.length) := ⟨by simp [entries]⟩
  have hs2 := H2.out.size
  have hT2lt : T2 < w2.heap.size := by
    have := (H2.out.p _ (List.mem_of_getElem? (i := 0) rfl)).2 T2 (.inl rfl)
    exact this.2
  clear hT2w HN
  go_wp2_with (first | (with_reducible refine arm_sRange ?_) | (with_reducible refine arm_sNext ?_) | (with_reducible refine arm_sDel ?_) | (with_reducible refine arm_sPut ?_) | (with_reducible refine arm_sIns ?_))
  refine StM.out ?_
  refine arm_rangeS Tryz.underlying9 Tryz.underlying86 HM.out rfl ?_
  intro w3 hrg hb3 hs3
  obtain ⟨r, hr⟩ : ∃ r, w2.heap.size = r := ⟨_, rfl⟩
  have HRE : Keep (w.heap.size ≤ r ∧ mb < r ∧ T2 < r ∧ m2 < r) := ⟨by have := HT2E.out; omega⟩
  have H3 := Keep.keep (H2.out.call hb3)
  rw [hr] at hrg ⊢
  have HRG := Keep.keep hrg
  clear hrg hb3 hs3 hr cT HM H2 hs2 hT2lt
  simp only [Act.put, List.setIfInBounds_toArray, List.set_cons_succ, List.set_cons_zero]
  go_wp2_with fail
  go_loopg [4] L.length (fun g _ wx => ∃ (todo : Tx → Bool) (Bk2 : Nat → Prop) (f2 : Tx → Value × Value), RgS wx 9 mb r (entries f L) todo g ∧ Hp NoM w wx [trA T2 m2 Bk2 f2 (L.filter (fun x => !todo x.1))] ∧ ∀ b, Bk2 b → r < b)
  case atStart =>
    refine ⟨_, fun _ => False, fun _ => (nilV, nilV), by rw [← HEL.out]; exact HRG.out, ?_, fun b hb => hb.elim⟩
    have e0 : L.filter (fun x => !(SM.look (entries f L) x.1).isSome) = [] := by
      rw [List.filter_eq_nil_iff]
      intro x hx
      rw [look_entries, HSR.out.look.2 hx]; simp
    rw [e0]
    exact H3.out
  case round =>
    obtain ⟨todo, Bk2, f2, hrg, hH, hbr⟩ := hrel
    have HRG2 := Keep.keep hrg; have HH := Keep.keep hH; have HBR := Keep.keep hbr
    clear hrg hH hbr HRG H3
    go_wp2_with (first | (with_reducible refine arm_sRange ?_) | (with_reducible refine arm_sNext ?_) | (with_reducible refine arm_sDel ?_) | (with_reducible refine arm_sPut ?_) | (with_reducible refine arm_sIns ?_))
    refine StM.out ?_
    refine arm_nextS Tryz.underlying9 HRG2.out rfl ?_ ?_
    · intro h0 hall
      have e0 : L.filter (fun x => !todo x.1) = L := by
        rw [List.filter_eq_self]
        intro x _
        simp [hall]
      rw [e0] at HH
      clear h0 hall e0
      simp only [Act.put, List.setIfInBounds_toArray, List.set_cons_succ, List.set_cons_zero]
      go_wp2_with fail
      go_ret
      refine ⟨T2, m2, Bk2, f2, rfl, HH.out.get 0 rfl, ?_, HH.out.below⟩
      refine ⟨HH.out.new 0 rfl (b := T2) (.inl rfl) |>.1, HH.out.new 0 rfl (b := m2) (.inr (.inl rfl)) |>.1, fun b hb => HH.out.new 0 rfl (b := b) (.inr (.inr hb))⟩
    · intro p v w4 cnt' h1 h2 h3 h4 h5 h6 hen
      obtain ⟨n, hln, hve⟩ : ∃ n, SM.look L p = some n ∧ v = .agg (ndC n (f p).1 (f p).2) := by
        rw [look_entries] at h2
        cases hl : SM.look L p with
        | none => rw [hl] at h2; cases h2
        | some n => rw [hl] at h2; injection h2 with h2; exact ⟨n, rfl, h2.symm⟩
      have hmem := SM.look_mem hln
      have HCP := Keep.keep (came_put HSR.out h1 hln)
      have HNX := Keep.keep (HND.out _ hmem)
      have HSX := Keep.keep (HSM.out _ hmem)
      have HLN : Keep ((L.filter (fun x => !todo x.1)).length ≤ L.length) := ⟨List.length_filter_le _ _⟩
      obtain ⟨aa, la, ca, ad, ld, cd, e1, e2⟩ := HNX.out.shape
      dsimp only at e1 e2 HNX
      rw [e1, e2] at HNX hve
      have HRG4 := Keep.keep h3
      have hne5 : ∀ b, b < wr.heap.size → b ≠ r → w4.heap[b]? = wr.heap[b]? := fun b hb hn => h5.block b hb hn
      have hr4 := HRG2.out.lt.2.1
      have H4 : Keep (Hp NoM w w4 [trA T2 m2 Bk2 f2 (L.filter (fun x => !todo x.1))]) := ⟨by
        refine HH.out.grownBy (row := some r) ⟨h5.os, h5.tape, h5.output, h5.size, fun k hk hm => h5.block k hk (fun e => hm (by rw [e]))⟩ (fun r' e => ?_)
        injection e with e
        subst e
        refine ⟨HRE.out.1, fun A hA => ?_⟩
        obtain rfl := List.mem_singleton.1 hA
        rintro (h | h | h)
        · have := HRE.out.2.2.1; omega
        · have := HRE.out.2.2.2; omega
        · have := HBR.out _ h; omega⟩
      have hs4 := h5.size
      clear h1 h2 h3 h5 h6 e1 e2 HRG2 HH hmem
      subst hve
      have HNC : Keep (ndC n (.slice aa la ca) (.slice ad ld cd) = #[.int .i64 n.kind, .int .u32 n.mode, .int .u32 n.uid, .int .u32 n.gid, .int .i64 n.time, .slice aa la ca, .slice ad ld cd, .string ⟨n.link.toArray⟩]) := ⟨rfl⟩
      rw [HNC.out] at hen ⊢
      simp only [Act.put, List.setIfInBounds_toArray, List.set_cons_succ, List.set_cons_zero]
      go_upto_region 7 with fail
      refine wp_world (R := fun w5 => (Hp NoM w w5 [trA T2 m2 Bk2 f2 (L.filter (fun x => !todo x.1)), rowA w4.heap.size 39 #[.int .i64 n.kind, .int .u32 n.mode, .int .u32 n.uid, .int .u32 n.gid, .int .i64 n.time, .slice aa la ca, .slice ad ld cd, .string ⟨n.link.toArray⟩]]) ∧ RgS w5 9 mb r (entries f L) (fun q => todo q && q != p) cnt') ⟨H4.out.newRow _ _, HRG4.out.loc (Below.heap_alloc _ _ _ HRG4.out.lt.1) (Below.heap_alloc _ _ _ HRG4.out.lt.2.1)⟩ ?_
      intro w5 H5
      obtain ⟨b5, hb5⟩ : ∃ b5, w4.heap.size = b5 := ⟨_, rfl⟩
      rw [hb5] at H5 ⊢
      have hs5 := (H5.out.1.row 1 rfl).lt
      have hrg5 := H5.out.2.lt
      clear hen H4 HRG4
      refine wp_region_spcT 7 [21, 22, 23, 24, 25, 26, 27] (Below w5.heap.size w5) (cpT w5 T2 m2 p n (.slice aa la ca) (.slice ad ld cd)) (fun w w' => Below w.heap.size w w') (by kernel_rfl) rfl (by decide) (by show ∀ d ∈ _, d < 29; decide) (by kernel_rfl) (by decide) (by kernel_rfl) (by kernel_rfl) (by kernel_rfl) (Below.refl _ _).drew (fun i v w w' h _ hb => cpT_stays i v w w' h hb) ?_ ?_
      · intro q hq a1 w6 hF hC hT
        have b3 : a1.eval (.tmp 3) = .pointer (some ⟨T2, 0, none⟩) := (hF.same 3 (by decide)).trans rfl
        have b4 : a1.eval (.tmp 4) = .string ⟨p.toArray⟩ := (hF.same 4 (by decide)).trans rfl
        have b5e : a1.eval (.tmp 5) = .pointer (some ⟨b5, 0, none⟩) := (hF.same 5 (by decide)).trans rfl
        have hkr : Below w6.heap.size w6 w6 := Below.refl _ _
        have HP := H5.out.1.call hC
        have hRC := HP.row 1 rfl
        have hTW := (HP.get 0 rfl).row
        rcases (by omega : q = 0 ∨ q = 1 ∨ q = 2 ∨ q = 3 ∨ q = 4 ∨ q = 5 ∨ q = 6) with rfl | rfl | rfl | rfl | rfl | rfl | rfl
        · exact spcS_val (d := 21) rfl (wanted_none rfl) run_move hC hkr b3
        · have hx : a1.eval (.tmp 21) = .pointer (some ⟨T2, 0, none⟩) := hT 0 (by decide) (by kernel_rfl)
          exact spcS_val (d := 22) rfl (wanted_none rfl) (by simp [execOp, hx]) hC hkr rfl
        · have hx : a1.eval (.tmp 22) = .pointer (some ⟨T2, 0, none⟩) := hT 1 (by decide) (by kernel_rfl)
          exact spcS_val (d := 23) rfl (wanted_none rfl) (run_fieldAddr (m := 0) Tryz.underlying88 rfl (by kernel_rfl) hx) hC hkr rfl
        · have hx : a1.eval (.tmp 23) = .pointer (some ⟨T2, 0, none⟩) := hT 2 (by decide) (by kernel_rfl)
          exact spcS_val (d := 24) rfl (wanted_none rfl) (run_loadCell (run_isAgg_plain Tryz.underlying86 rfl) (hTW.cell (i := 0) rfl) hx) hC hkr rfl
        · exact spcS_val (d := 25) rfl (wanted_none rfl) run_move hC hkr b4
        · have hld := hRC.loadAt (P := Tryz.prog) 39 _ Tryz.underlying39 rfl (by kernel_rfl)
          exact spcS_val (d := 26) rfl (wanted_none rfl) (by unfold execOp; simp only [b5e, Sem.run_bind, Sem.run_pure, Result.andThen_ok, hld]; rfl) hC hkr rfl
        · have hx : a1.eval (.tmp 26) = .agg (ndC n (.slice aa la ca) (.slice ad ld cd)) := hT 5 (by decide) (by kernel_rfl)
          refine spcS_call (d := 27) (vs := #[.agg (ndC n (.slice aa la ca) (.slice ad ld cd))]) rfl (wanted_none rfl) (Go.Proofs.enters_of Tryz.func57 (by kernel_rfl) rfl) (by simp [hx]) ?_
          have hsz6 := HP.size
          refine (clone_node n _ _ w6 ((HNX.out.below HP.below (fun b hb => HBK.out b hb)).mono (fun b hb => by have := HBK.out b hb; omega)) HSX.out.a (Nat.le_trans HSX.out.d (by decide))).mono ?_
          rintro e wz ⟨a', d', rfl, hn', hb⟩
          exact ⟨_, rfl, hC.trans (hb.mono hC.size), hb, a', d', rfl, hn'.mono (fun b hb' => hb'.mono hC.size (Nat.le_refl _))⟩
      · intro a2 w6 ha hC hT
        have t3 : slot a2 24 = .map (some m2) := hT 3 (by decide)
        have t5 : slot a2 25 = .string ⟨p.toArray⟩ := hT 4 (by decide)
        obtain ⟨av', dv', t8, hn'⟩ : ∃ av' dv', slot a2 27 = .agg (ndC n av' dv') ∧ NdR w6 (Fresh w5.heap.size w6) n av' dv' := hT 6 (by decide)
        simp only [List.foldl_cons, List.foldl_nil, t3, t5, t8] at ha
        clear hT t3 t5 t8
        generalize slot a2 21 = y21 at *
        generalize slot a2 22 = y22 at *
        generalize slot a2 23 = y23 at *
        generalize slot a2 26 = y26 at *
        have HN' := Keep.keep hn'
        have H6 := Keep.keep (H5.out.1.call hC)
        have HS6 := Keep.keep hC.size
        have HC6 := Keep.keep hC
        have HRG6 : Keep (RgS w6 9 mb r (entries f L) (fun q => todo q && q != p) cnt') := ⟨H5.out.2.loc (hC.block _ hrg5.1) (hC.block _ hrg5.2.1)⟩
        clear hn' hC
        subst ha
        simp only [List.drop_succ_cons, List.drop_zero]
        simp only [Act.put, List.setIfInBounds_toArray, List.set_cons_succ, List.set_cons_zero]
        have hT6 : TreeIn w6 T2 m2 Bk2 f2 (L.filter (fun x => !todo x.1)) := H6.out.get 0 rfl
        have hbk6 : ∀ b, Bk2 b → b < w5.heap.size := fun b hb => ((H5.out.1.p _ (List.mem_of_getElem? (i := 0) rfl)).2 b (.inr (.inr hb))).2
        have hT6lt : T2 < w5.heap.size ∧ m2 < w5.heap.size := ⟨((H5.out.1.p _ (List.mem_of_getElem? (i := 0) rfl)).2 T2 (.inl rfl)).2, ((H5.out.1.p _ (List.mem_of_getElem? (i := 0) rfl)).2 m2 (.inr (.inl rfl))).2⟩
        have HT6 := Keep.keep hT6; have HBK6 := Keep.keep hbk6; have HLT6 := Keep.keep hT6lt
        have hel : (entries f2 (L.filter (fun x => !todo x.1))).length < maxLen := by
          have := HLN.out
          simp only [entries, List.length_map]
          unfold maxLen; omega
        clear hT6 hbk6 hT6lt
        go_wp2_with (first | (with_reducible refine arm_sRange ?_) | (with_reducible refine arm_sNext ?_) | (with_reducible refine arm_sDel ?_) | (with_reducible refine arm_sPut ?_) | (with_reducible refine arm_sIns ?_))
        refine StM.out ?_
        refine arm_putS Tryz.underlying9 Tryz.underlying86 HT6.out.map (p := p) (by have := HSX.out.p; dsimp only at this; unfold maxLen; omega) hel rfl rfl rfl ?_
        intro w7 hm7 hc7
        have hs6 := HS6.out
        have hs7 := hc7.size
        have hfin := HT6.out.put (Bk' := fun b => Bk2 b ∨ Fresh w5.heap.size w6 b) (fun b hb => by have := HBK6.out b hb; omega) (p, n) av' dv' HSX.out hm7 hc7 (HN'.out.mono (fun b hb => .inr hb)) (fun b hb => .inl hb) (fun b hb => by
          rcases hb with hb | hb
          · have h1 := HBK6.out b hb
            exact ⟨by omega, fun e => HT6.out.ne.2.1 (e ▸ hb), fun e => HT6.out.ne.2.2 (e ▸ hb)⟩
          · have h1 := hb.1
            have h2 := HLT6.out
            exact ⟨hb.2, by omega, by omega⟩)
        rw [← HCP.out] at hfin
        have hch : Chg (fun j => (trA T2 m2 Bk2 f2 (L.filter (fun x => !todo x.1))).blk j) w5.heap.size w5 w7 := ((Chg.of_below (M := fun j => (trA T2 m2 Bk2 f2 (L.filter (fun x => !todo x.1))).blk j) HC6.out)).trans ((hc7.lower HS6.out).mono (Nat.le_refl _) (fun j hj => .inr (.inl hj)))
        have H7 := Keep.keep (H5.out.1.upd 0 rfl (trA T2 m2 (fun b => Bk2 b ∨ Fresh w5.heap.size w6 b) (fun q => if q = p then (av', dv') else f2 q) (L.filter (fun x => !(todo x.1 && x.1 != p)))) hch hfin (fun b hb => by
          rcases hb with h | h | h | h
          · exact .inl (.inl h)
          · exact .inl (.inr (.inl h))
          · exact .inl (.inr (.inr h))
          · exact .inr ⟨h.1, by have := h.2; omega⟩))
        have HRG7 : Keep (RgS w7 9 mb r (entries f L) (fun q => todo q && q != p) cnt') := ⟨HRG6.out.loc (hc7.block _ HRG6.out.lt.1 (by have := HRE.out; have := HM2.out; omega)) (hc7.block _ HRG6.out.lt.2.1 (by have := HRE.out; omega))⟩
        clear hfin hm7 hc7 hch
        simp only [Act.put]
        go_wp2_with fail
        go_roundg cnt'
        case measure => omega
        case rel =>
          refine ⟨_, (fun b => Bk2 b ∨ Fresh w5.heap.size w6 b), (fun q => if q = p then (av', dv') else f2 q), HRG7.out, H7.out.take 1, fun b hb => ?_⟩
          rcases hb with hb | hb
          · exact HBR.out b hb
          · have := hb.1; omega
end Go.Proofs.YtmnknmpfkjhgbaaGreatDoor
/- tree.Same: two trees are the same. -/
namespace Go.Proofs.YtmnknmpfkjhgbaaGreatDoor
open Go.RowKit
theorem srt_sub {L K : List Mb} (h : SM.Srt L) (k : SM.Srt K) (hs : ∀ p n, SM.look L p = some n → SM.look K p = some n) (hl : L.length = K.length) : L = K := by
  have e : K.filter (fun x => (SM.look L x.1).isSome) = L := by
    refine SM.Srt.ext (k.filter _) h (fun p => ?_)
    rw [k.look_filter (fun p => (SM.look L p).isSome)]
    cases hp : SM.look L p with
    | none => simp
    | some n => simp [hs p n hp]
  have e2 : K.filter (fun x => (SM.look L x.1).isSome) = K := by
    refine List.filter_eq_self.2 ?_
    refine List.length_filter_eq_length_iff.1 ?_
    rw [e, hl]
  rw [← e, e2]
set_option maxHeartbeats 4000000 in
set_option maxRecDepth 100000 in
theorem same_tree (T mb : Nat) (Bk : Nat → Prop) (f : Tx → Value × Value) (L : List Mb) (T2 m2 : Nat) (Bk2 : Nat → Prop) (f2 : Tx → Value × Value) (L2 : List Mb) (w : World) (h : TreeIn w T mb Bk f L) (hBk : ∀ b, Bk b → b < w.heap.size) (h2 : TreeIn w T2 m2 Bk2 f2 L2) (hBk2 : ∀ b, Bk2 b → b < w.heap.size) (_hL : L.length ≤ 100000) :
    Calls Tryz.prog 12 #[.pointer (some ⟨T, 0, none⟩), .pointer (some ⟨T2, 0, none⟩)] w fun e w' => SaysB (L = L2) e ∧ Below w.heap.size w w' := by
  have HT := Keep.keep h; have HBK := Keep.keep hBk
  have HT2 := Keep.keep h2; have HBK2 := Keep.keep hBk2
  have HN := Keep.keep (none_ok T mb w h.row)
  have HN2 := Keep.keep (none_ok T2 m2 w h2.row)
  have hmbw := h.map.lt
  have hTw := h.row.lt
  have hm2w := h2.map.lt
  have hT2w := h2.row.lt
  have HEQ : Keep (∀ p n, SM.look L p = some n → SM.look L2 p ≠ some n → L ≠ L2) := ⟨fun p n h1 h2 e => h2 (by rw [← e]; exact h1)⟩
  have HLE : Keep (L.length ≠ L2.length → L ≠ L2) := ⟨fun h e => h (by rw [e])⟩
  have HSB : Keep (L.length = L2.length → (∀ p n, SM.look L p = some n → SM.look L2 p = some n) → L = L2) := ⟨fun hl hs => srt_sub h.srt h2.srt hs hl⟩
  clear h hBk h2 hBk2
  obtain ⟨P, hP⟩ : ∃ P : Prop, (L = L2) = P := ⟨_, rfl⟩
  rw [hP] at HSB ⊢
  have HP : Keep (P ↔ L = L2) := ⟨by rw [hP]⟩
  clear hP
  go_enter Tryz.func12, Tryz.ntmps12
  go_wp2_with fail
  refine HN.out.mono ?_
  rintro e w' ⟨rfl, rfl⟩
  go_wp2_with fail
  refine HN2.out.mono ?_
  rintro e w' ⟨rfl, rfl⟩
  have cT := HT.out.row.cell (i := 0) rfl
  have cT2 := HT2.out.row.cell (i := 0) rfl
  have e1 : (entries f L).length = L.length := by simp [entries]
  have e2 : (entries f2 L2).length = L2.length := by simp [entries]
  have hlen := fun n => (HT.out.map.loc (w' := w.drewN n) rfl).len Tryz.underlying86 3
  have hlen2 := fun n => (HT2.out.map.loc (w' := w.drewN n) rfl).len Tryz.underlying86 3
  rw [e1] at hlen
  rw [e2] at hlen2
  have HE1 := Keep.keep e1
  clear e1 e2 HN HN2
  go_upto_region 3 with fail
  (refine wp_region_quiet_lit (by kernel_rfl) (by kernel_rfl) ?_); (repeat (first | (fail) | go_big_quiet_step (fail))); (refine wpQuiet_nil ?_); (intro _ hwq); (obtain ⟨nq, hwq⟩ := hwq); (subst hwq)
  by_cases hl : L.length = L2.length
  · have hne : ((L.length : Int) != (L2.length : Int)) = false := by simp [hl]
    have HL := Keep.keep hl
    simp only [hne]
    clear hl hlen hlen2 cT cT2 hne
    have hb1 := below_drewN' (Below.refl w.heap.size w) nq
    generalize w.drewN nq = w1 at *
    have HB1 := Keep.keep hb1
    have hs1 := hb1.size
    have HTX : Keep (∀ wx, Below w.heap.size w wx → TreeIn wx T mb Bk f L) := ⟨fun wx hb => HT.out.loc (fun b hb' => hb.block b (by
      rcases hb' with rfl | rfl | h
      · exact hTw
      · exact hmbw
      · exact HBK.out b h))⟩
    have HTY : Keep (∀ wx, Below w.heap.size w wx → TreeIn wx T2 m2 Bk2 f2 L2) := ⟨fun wx hb => HT2.out.loc (fun b hb' => hb.block b (by
      rcases hb' with rfl | rfl | h
      · exact hT2w
      · exact hm2w
      · exact HBK2.out b h))⟩
    have cT := (HTX.out w1 hb1).row.cell (i := 0) rfl
    have HM := Keep.keep (HTX.out w1 hb1).map
    clear hb1
    go_wp2_with (first | (with_reducible refine arm_sRange ?_) | (with_reducible refine arm_sNext ?_) | (with_reducible refine arm_sDel ?_) | (with_reducible refine arm_sPut ?_) | (with_reducible refine arm_sIns ?_))
    refine StM.out ?_
    refine arm_rangeS Tryz.underlying9 Tryz.underlying86 HM.out rfl ?_
    intro w3 hrg hb3 hs3
    obtain ⟨r, hr⟩ : ∃ r, w1.heap.size = r := ⟨_, rfl⟩
    have hwr : w.heap.size ≤ r := by omega
    have HB3 := Keep.keep (HB1.out.trans (hb3.mono hs1))
    rw [hr] at hrg ⊢
    rw [HE1.out] at hrg
    have HRG := Keep.keep hrg
    clear hrg hb3 hs3 hr cT HM
    simp only [Act.put, List.setIfInBounds_toArray, List.set_cons_succ, List.set_cons_zero]
    go_wp2_with fail
    go_loopg [5] L.length (fun g _ wx => ∃ (todo : Tx → Bool), RgS wx 9 mb r (entries f L) todo g ∧ (∀ p n, SM.look L p = some n → todo p = false → SM.look L2 p = some n) ∧ Below w.heap.size w wx)
    case atStart =>
      refine ⟨_, HRG.out, fun p n h1 h2 => ?_, HB3.out⟩
      rw [look_entries, h1] at h2
      simp at h2
    case round =>
      obtain ⟨todo, hrg, hok, hb⟩ := hrel
      have HRG2 := Keep.keep hrg; have HOK := Keep.keep hok; have HB := Keep.keep hb
      clear hrg hok hb HRG HB3
      go_wp2_with (first | (with_reducible refine arm_sRange ?_) | (with_reducible refine arm_sNext ?_) | (with_reducible refine arm_sDel ?_) | (with_reducible refine arm_sPut ?_) | (with_reducible refine arm_sIns ?_))
      refine StM.out ?_
      refine arm_nextS Tryz.underlying9 HRG2.out rfl ?_ ?_
      · intro h0 hall
        have HF : Keep P := ⟨HP.out.2 (by
          have := HSB.out HL.out (fun p n h => HOK.out p n h (hall p))
          exact HP.out.1 this)⟩
        clear h0 hall
        simp only [Act.put, List.setIfInBounds_toArray, List.set_cons_succ, List.set_cons_zero]
        go_wp2_with fail
        go_ret
        exact ⟨⟨true, rfl, ⟨fun _ => HF.out, fun _ => rfl⟩⟩, HB.out⟩
      · intro p v w4 cnt' h1 h2 h3 h4 h5 h6 hen
        obtain ⟨n, hln, hve⟩ : ∃ n, SM.look L p = some n ∧ v = .agg (ndC n (f p).1 (f p).2) := by
          rw [look_entries] at h2
          cases hl : SM.look L p with
          | none => rw [hl] at h2; cases h2
          | some n => rw [hl] at h2; injection h2 with h2; exact ⟨n, rfl, h2.symm⟩
        have HB4 : Keep (Below w.heap.size w w4) := ⟨HB.out.trans ((h5.lower HB.out.size).below (fun k hk e => by omega))⟩
        have hmem := SM.look_mem hln
        have HNX := Keep.keep ((HTX.out w4 HB4.out).nd _ hmem)
        have HSX := Keep.keep (HT.out.sm _ hmem)
        obtain ⟨aa, la, ca, ad, ld, cd, e1, e2⟩ := HNX.out.shape
        dsimp only at e1 e2 HNX
        rw [e1, e2] at HNX hve
        have HRG4 := Keep.keep h3
        have HLN := Keep.keep hln
        have HSH := Keep.keep (And.intro e1 e2)
        have HTD := Keep.keep h1
        clear h1 h2 h3 h5 h6 e1 e2 HRG2 hmem
        subst hve
        have hlt4 := HRG4.out.lt
        have HNC : Keep (ndC n (.slice aa la ca) (.slice ad ld cd) = #[.int .i64 n.kind, .int .u32 n.mode, .int .u32 n.uid, .int .u32 n.gid, .int .i64 n.time, .slice aa la ca, .slice ad ld cd, .string ⟨n.link.toArray⟩]) := ⟨rfl⟩
        rw [HNC.out] at hen ⊢
        simp only [Act.put, List.setIfInBounds_toArray, List.set_cons_succ, List.set_cons_zero]
        go_upto_region 8 with fail
        refine wp_world (R := fun w5 => Below w.heap.size w w5 ∧ RgS w5 9 mb r (entries f L) (fun q => todo q && q != p) cnt' ∧ Row w5 w4.heap.size 39 #[.int .i64 n.kind, .int .u32 n.mode, .int .u32 n.uid, .int .u32 n.gid, .int .i64 n.time, .slice aa la ca, .slice ad ld cd, .string ⟨n.link.toArray⟩]) ⟨HB4.out.alloc HB4.out.size _, HRG4.out.loc (Below.heap_alloc _ _ _ hlt4.1) (Below.heap_alloc _ _ _ hlt4.2.1), Row.new _ _ _⟩ ?_
        intro w5 H5
        obtain ⟨b6, hb6⟩ : ∃ b6, w4.heap.size = b6 := ⟨_, rfl⟩
        rw [hb6] at H5 ⊢
        have hT5 := HTY.out w5 H5.out.1
        have c2 := hT5.row.cell (i := 0) rfl
        have hlk := hT5.map.lookOk Tryz.underlying9 Tryz.underlying86 (zeroN w5) (p := p) (by have := HSX.out.p; dsimp only at this; unfold maxLen; omega)
        have HND2 := Keep.keep hT5.nd
        have hb6lt := H5.out.2.2.lt
        rw [look_entries] at hlk
        clear hen HRG4 HB4 HNX hT5
        cases hl2 : SM.look L2 p with
        | none =>
          have HNE := Keep.keep (HEQ.out p n HLN.out (by rw [hl2]; simp))
          rw [hl2] at hlk
          replace hlk : (Instr.lookup 86 (.map (some m2)) (.string ⟨p.toArray⟩) true).run Tryz.prog w5 = .ok (.tuple #[.agg #[.int .i64 0, .int .u32 0, .int .u32 0, .int .u32 0, .int .i64 0, .slice none 0 0, .slice none 0 0, .string ⟨#[]⟩], .bool false]) w5 := hlk
          clear hl2
          go_wp2_with fail
          go_ret
          exact ⟨⟨false, rfl, ⟨fun h => (by cases h), fun h => (HNE.out (HP.out.1 h)).elim⟩⟩, H5.out.1.alloc H5.out.1.size _⟩
        | some m =>
          have hnm := HND2.out _ (SM.look_mem hl2)
          obtain ⟨ba, lb, cb, bd, le, ce, e1, e2⟩ := hnm.shape
          dsimp only at e1 e2 hnm
          rw [hl2] at hlk
          replace hlk : (Instr.lookup 86 (.map (some m2)) (.string ⟨p.toArray⟩) true).run Tryz.prog w5 = .ok (.tuple #[.agg (ndC m (f2 p).1 (f2 p).2), .bool true]) w5 := hlk
          rw [e1, e2] at hnm hlk
          replace hlk : (Instr.lookup 86 (.map (some m2)) (.string ⟨p.toArray⟩) true).run Tryz.prog w5 = .ok (.tuple #[.agg #[.int .i64 m.kind, .int .u32 m.mode, .int .u32 m.uid, .int .u32 m.gid, .int .i64 m.time, .slice ba lb cb, .slice bd le ce, .string ⟨m.link.toArray⟩], .bool true]) w5 := hlk
          have HNM := Keep.keep hnm
          have HL2 := Keep.keep hl2
          have HS2 := Keep.keep (And.intro e1 e2)
          clear hl2 hnm e1 e2
          go_upto_region 9 with fail
          refine wp_world (R := fun w9 => Below w5.heap.size w5 w9 ∧ Row w9 w5.heap.size 39 #[.int .i64 m.kind, .int .u32 m.mode, .int .u32 m.uid, .int .u32 m.gid, .int .i64 m.time, .slice ba lb cb, .slice bd le ce, .string ⟨m.link.toArray⟩]) ⟨(Below.refl _ _).alloc (Nat.le_refl _) _, Row.new _ _ _⟩ ?_
          intro w9 H9
          obtain ⟨b7, hb7⟩ : ∃ b7, w5.heap.size = b7 := ⟨_, rfl⟩
          rw [hb7] at H9 ⊢
          have HR6 := Keep.keep (H5.out.2.2.below (hb7 ▸ H9.out.1) hb6lt)
          have HR7 := Keep.keep H9.out.2
          have HS6 : Keep ((#[.int .i64 n.kind, .int .u32 n.mode, .int .u32 n.uid, .int .u32 n.gid, .int .i64 n.time, .slice aa la ca, .slice ad ld cd, .string ⟨n.link.toArray⟩] : Array Value).size = 8) := ⟨rfl⟩
          have HS7 : Keep ((#[.int .i64 m.kind, .int .u32 m.mode, .int .u32 m.uid, .int .u32 m.gid, .int .i64 m.time, .slice ba lb cb, .slice bd le ce, .string ⟨m.link.toArray⟩] : Array Value).size = 8) := ⟨rfl⟩
          have HB9 := Keep.keep (H5.out.1.trans ((show Below w5.heap.size w5 w9 from hb7 ▸ H9.out.1).mono H5.out.1.size))
          have hw9 := HB9.out.size
          have hbm1 : ∀ w, (Instr.build 41 #[(0, .string ⟨p.toArray⟩), (1, .agg #[.int .i64 n.kind, .int .u32 n.mode, .int .u32 n.uid, .int .u32 n.gid, .int .i64 n.time, .slice aa la ca, .slice ad ld cd, .string ⟨n.link.toArray⟩])]).run Tryz.prog w = .ok (.agg (mbC (p, n) (.slice aa la ca) (.slice ad ld cd))) w := fun w => by kernel_rfl
          have hbm2 : ∀ w, (Instr.build 41 #[(0, .string ⟨p.toArray⟩), (1, .agg #[.int .i64 m.kind, .int .u32 m.mode, .int .u32 m.uid, .int .u32 m.gid, .int .i64 m.time, .slice ba lb cb, .slice bd le ce, .string ⟨m.link.toArray⟩])]).run Tryz.prog w = .ok (.agg (mbC (p, m) (.slice ba lb cb) (.slice bd le ce))) w := fun w => by kernel_rfl
          have HTS := Keep.keep (same_tar (p, n) (p, m) (.slice aa la ca) (.slice ad ld cd) (.slice ba lb cb) (.slice bd le ce) w9 (by
            have h1 := (HTX.out w9 HB9.out).nd _ (SM.look_mem HLN.out)
            dsimp only at h1
            rw [HSH.out.1, HSH.out.2] at h1
            exact h1.mono (fun b hb => by have := HBK.out b hb; omega)) (by
            have h1 := (HTY.out w9 HB9.out).nd _ (SM.look_mem HL2.out)
            dsimp only at h1
            rw [HS2.out.1, HS2.out.2] at h1
            exact h1.mono (fun b hb => by have := HBK2.out b hb; omega)))
          clear hlk c2
          go_wp2_with (first
            | ((with_reducible refine arm_loadRowG ?_ HR6.out aggN HS6.out ?_ ?_); (focus rfl); (focus rfl); simp only [Act.put, List.setIfInBounds_toArray, List.set_cons_succ, List.set_cons_zero])
            | ((with_reducible refine arm_loadRowG ?_ HR7.out aggN HS7.out ?_ ?_); (focus rfl); (focus rfl); simp only [Act.put, List.setIfInBounds_toArray, List.set_cons_succ, List.set_cons_zero]))
          refine HTS.out.mono ?_
          rintro e w10 ⟨⟨rb, rfl, hrb⟩, hb10⟩
          have HB10 := Keep.keep (HB9.out.trans (hb10.mono hw9))
          have hrg5 := H5.out.2.1.lt
          have HRG10 : Keep (RgS w10 9 mb r (entries f L) (fun q => todo q && q != p) cnt') := ⟨H5.out.2.1.loc (by rw [hb10.block mb (by have := HB9.out.size; omega), H9.out.1.block mb (by omega)]) (by rw [hb10.block r (by have := (hb7 ▸ H9.out.1 : Below w5.heap.size w5 w9).size; omega), H9.out.1.block r (by omega)])⟩
          cases rb with
          | true =>
            have hmn : n = m := by
              have := hrb.1 rfl
              injection this
            have HMN := Keep.keep hmn
            clear hmn hrb hb10
            go_wp2_with fail
            go_roundg cnt'
            case measure => omega
            case rel =>
              refine ⟨_, HRG10.out, fun p' n' h1 h2 => ?_, HB10.out⟩
              by_cases e : p' = p
              · rw [e] at h1 ⊢
                rw [HLN.out] at h1
                rw [HL2.out, ← HMN.out]; exact h1
              · exact HOK.out p' n' h1 (by simpa [e] using h2)
          | false =>
            have HNE := Keep.keep (HEQ.out p n HLN.out (by
              rw [HL2.out]
              intro e
              injection e with e
              have := hrb.2 (by rw [e])
              cases this))
            clear hrb hb10
            go_wp2_with fail
            go_ret
            exact ⟨⟨false, rfl, ⟨fun h => (by cases h), fun h => (HNE.out (HP.out.1 h)).elim⟩⟩, HB10.out⟩
  · have hne : ((L.length : Int) == (L2.length : Int)) = false := by simp; omega
    have HL := Keep.keep hl
    clear hl hlen hlen2
    go_wp2_with fail
    go_ret
    exact ⟨⟨false, rfl, ⟨fun h => (by cases h), fun h => (HLE.out HL.out (HP.out.1 h)).elim⟩⟩, below_drewN' (Below.refl _ _) _⟩
end Go.Proofs.YtmnknmpfkjhgbaaGreatDoor
/- change.of, Plain. -/
namespace Go.Proofs.YtmnknmpfkjhgbaaGreatDoor
open Go.RowKit
theorem buildE (b1 b2 b3 : Nat) (w : World) : (Instr.build 84 #[(0, .map (some b1)), (1, .map (some b2)), (2, .map (some b3))]).run Tryz.prog w = .ok (.agg #[.map (some b1), .map (some b2), .map (some b3)]) w := by kernel_rfl
theorem tgt_len (p : Tx) : (classP p).2.length ≤ p.length := by
  rcases told p with ⟨hc, _⟩ | ⟨hc, _, _⟩ | ⟨t, hc, _, _, hl⟩ | ⟨t, hc, _, _, hl⟩ | ⟨hc, _, _⟩
  · rw [hc]; simp
  · rw [hc]; exact Nat.le_refl _
  · rw [hc]; exact hl
  · rw [hc]; exact hl
  · rw [hc]; simp
set_option maxHeartbeats 4000000 in
set_option maxRecDepth 100000 in
theorem of_any (v : Value) (l : List Mv) (B : Nat) (w : World) (hT : Tabs B w) (hr : Mbs w (· < w.heap.size) (· < w.heap.size) v l) (hs : ∀ x ∈ l, Sm x.1) (hl : l.length ≤ 1000000) :
    Calls Tryz.prog 47 #[v] w fun e w' => ∃ b1 b2 b3, e = .returned (.agg #[.map (some b1), .map (some b2), .map (some b3)]) ∧ EffIn w' b1 b2 b3 (l.map (·.1)) ∧ (w.heap.size ≤ b1 ∧ w.heap.size ≤ b2 ∧ w.heap.size ≤ b3) ∧ Below w.heap.size w w' := by
  obtain ⟨a, cap, hv, hcap, hmx, h3⟩ := hr.rd.shape
  have HR := Keep.keep hr; have H3 := Keep.keep h3; have HT := Keep.keep hT; have HS := Keep.keep hs
  unfold maxLen at hmx
  clear hr h3 hT hs
  subst hv
  have hmm := @run_makeMap Tryz.prog
  have hbe := buildE
  obtain ⟨S, hS⟩ : ∃ S, l.map (·.1) = S := ⟨_, rfl⟩
  have HSL : Keep (S.length = l.length) := ⟨by rw [← hS, List.length_map]⟩
  have HSS := Keep.keep hS
  rw [hS]
  clear hS
  go_enter Tryz.func47, Tryz.ntmps47
  go_upto_region 2 with fail
  obtain ⟨b0, hb0⟩ : ∃ b0, w.heap.size = b0 := ⟨_, rfl⟩
  refine wp_world (R := fun w1 => Hp NoM w w1 [rowA b0 84 #[.map none, .map none, .map none], msA 9 (b0 + 1) [], msA 9 (b0 + 2) [], msA 9 (b0 + 3) [], rowA (b0 + 4) 84 #[.map (some (b0 + 1)), .map (some (b0 + 2)), .map (some (b0 + 3))]]) ?_ ?_
  · have h1 := ((((Hp.begin NoM w).newRow 84 #[.map none, .map none, .map none]).newMap 9).newMap 9).newMap 9
    have h2 := h1.newRow 84 #[.map (some (b0 + 1)), .map (some (b0 + 2)), .map (some (b0 + 3))]
    simpa [hb0, Nat.add_assoc] using h2
  intro w1 H1
  clear hmm hbe
  go_wp2_with fail
  go_loopg [14] l.length (fun g u14 wx => ∃ (k : Nat) (M1 M2 M3 : List (Tx × Value)), k + g = l.length ∧ u14 = .int .i64 (k : Int) ∧ M1.length ≤ k ∧ M2.length ≤ k ∧ M3.length ≤ k ∧ MapIs (.bool false) M1 (gonV (S.take k)) ∧ MapIs (.bool false) M2 (mrkV (S.take k)) ∧ MapIs (.int .i64 0) M3 (ovrV (S.take k)) ∧
    Hp NoM w wx [rowA b0 84 #[.map none, .map none, .map none], msA 9 (b0 + 1) M1, msA 9 (b0 + 2) M2, msA 9 (b0 + 3) M3, rowA (b0 + 4) 84 #[.map (some (b0 + 1)), .map (some (b0 + 2)), .map (some (b0 + 3))]])
  case atStart => exact ⟨0, [], [], [], by omega, rfl, Nat.le_refl _, Nat.le_refl _, Nat.le_refl _, fun q => rfl, fun q => rfl, fun q => rfl, H1.out⟩
  case round =>
    obtain ⟨k, M1, M2, M3, hkg, rfl, hl1, hl2, hl3, hg, hm, ho, hH⟩ := hrel
    have HG := Keep.keep hg; have HM := Keep.keep hm; have HO := Keep.keep ho; have HH := Keep.keep hH
    clear hg hm ho hH H1
    cases gk with
    | zero =>
      obtain rfl : k = l.length := by omega
      have HTK : Keep (S.take l.length = S) := ⟨by rw [← HSL.out, List.take_length]⟩
      rw [HTK.out] at HG HM HO
      have HRA := Keep.keep (HH.out.row 4 rfl)
      have HRB := Keep.keep (HH.out.row 0 rfl)
      have HSA : Keep ((#[.map (some (b0 + 1)), .map (some (b0 + 2)), .map (some (b0 + 3))] : Array Value).size = 3) := ⟨rfl⟩
      have HSB : Keep ((#[.map none, .map none, .map none] : Array Value).size = 3) := ⟨rfl⟩
      have HON : Keep ((#[.map (some (b0 + 1)), .map (some (b0 + 2)), .map (some (b0 + 3))] : Array Value).all (·.oneCell') = true) := ⟨by simp [Value.oneCell']⟩
      go_wp2_with (first | ((with_reducible refine arm_loadRow HRA.out aggE HSA.out ?_ ?_); (focus rfl); simp only [Act.put, List.setIfInBounds_toArray, List.set_cons_succ, List.set_cons_zero]) | ((with_reducible refine arm_storeRow HRB.out aggE HSB.out HSA.out HON.out ?_ ?_ ?_); (focus rfl); (focus rfl); simp only [Act.put]))
      have hoth : ∀ b, b ≠ b0 → (wr.setRow b0 #[.map (some (b0 + 1)), .map (some (b0 + 2)), .map (some (b0 + 3))]).heap[b]? = wr.heap[b]? := fun b hb => Go.setRow_other wr b0 b _ hb
      refine bodyPost_ret (results_row (p := 2) (ty := 84) rfl (HRB.out.setRow _) aggE HSA.out rfl) rfl ⟨b0 + 1, b0 + 2, b0 + 3, rfl, ⟨⟨M1, MapS.loc (HH.out.get 1 rfl) (hoth _ (by omega)), HG.out⟩, ⟨M2, MapS.loc (HH.out.get 2 rfl) (hoth _ (by omega)), HM.out⟩, ⟨M3, MapS.loc (HH.out.get 3 rfl) (hoth _ (by omega)), HO.out⟩⟩, by omega, ?_⟩
      exact ((Chg.of_below (M := NoM) HH.out.below).setRow (.inl (by omega)) _).below (fun _ _ h => h)
    | succ g =>
      have hk : k < l.length := by omega
      obtain ⟨b, off, rfl, hbl⟩ : ∃ b off, a = some ⟨b, off, none⟩ ∧ b < w.heap.size := by
        rcases H3.out with h | ⟨b, off, h, hb⟩
        · omega
        · exact ⟨b, off, h, hb⟩
      have hrx := HR.out.below HH.out.below (fun b hb => hb) (fun b hb => hb)
      have hld := hrx.load hk
      have hkS : k < S.length := by rw [HSL.out]; exact hk
      have hSk : S[k] = l[k].1 := by simp [← HSS.out]
      have HTK : Keep (S.take (k + 1) = S.take k ++ [l[k].1]) := ⟨by rw [List.take_succ_eq_append_getElem hkS, hSk]⟩
      have hsx := HS.out l[k] (List.getElem_mem hk)
      have hnd := HR.out.nd l[k] (List.getElem_mem hk)
      clear hrx hSk hkS
      generalize l[k] = x at *
      obtain ⟨⟨xp, ⟨kind, mode, uid, gid, time, attrs, data, link⟩⟩, av, dv⟩ := x
      obtain ⟨aa, la, ca, ad, ld, cd, e1, e2⟩ := hnd.shape
      dsimp only at e1 e2 hsx HTK
      have hxp := hsx.p
      dsimp only at hxp
      subst e1 e2
      unfold mcell mbC strV at hld
      dsimp only at hld
      have htl := tgt_len xp
      have HGS := Keep.keep (fun t => goneE_snoc (S.take k) (xp, ⟨kind, mode, uid, gid, time, attrs, data, link⟩) t)
      have HMS := Keep.keep (fun t => markE_snoc (S.take k) (xp, ⟨kind, mode, uid, gid, time, attrs, data, link⟩) t)
      have HOS := Keep.keep (fun t => overE_snoc (S.take k) (xp, ⟨kind, mode, uid, gid, time, attrs, data, link⟩) t)
      rw [← HTK.out] at HGS HMS HOS
      have HCL := Keep.keep (fun wx (hb : Below w.heap.size w wx) => class_any xp (by omega) B wx (Nat.le_trans HT.out.b hb.size) (HT.out.m.on (hb.mono HT.out.b)) (HT.out.c.on (hb.mono HT.out.b)))
      have hcls : cls (xp, ⟨kind, mode, uid, gid, time, attrs, data, link⟩) = (classP xp).1 := rfl
      have htgt : tgt (xp, ⟨kind, mode, uid, gid, time, attrs, data, link⟩) = (classP xp).2 := rfl
      rw [hcls, htgt] at HGS HMS HOS
      obtain ⟨⟨cl, tg⟩, hcp⟩ : ∃ c, classP xp = c := ⟨_, rfl⟩
      rw [hcp] at HCL htl HGS HMS HOS
      dsimp only at HCL htl HGS HMS HOS
      clear hnd hsx hcls htgt hcp HTK
      go_wp2_with ((with_reducible refine arm_loadM hld ?_ ?_); (focus rfl); simp only [Act.put, List.setIfInBounds_toArray, List.set_cons_succ, List.set_cons_zero])
      refine calls_at (R := fun wq => Hp NoM w wq ([rowA b0 84 #[.map none, .map none, .map none], msA 9 (b0 + 1) M1, msA 9 (b0 + 2) M2, msA 9 (b0 + 3) M3, rowA (b0 + 4) 84 #[.map (some (b0 + 1)), .map (some (b0 + 2)), .map (some (b0 + 3))]] ++ [rowA wr.heap.size 41 #[.string ⟨xp.toArray⟩, .int .i64 kind, .int .u32 mode, .int .u32 uid, .int .u32 gid, .int .i64 time, .slice aa la ca, .slice ad ld cd, .string ⟨link.toArray⟩]])) (HH.out.newRow _ _) ?_
      intro w2 H2
      refine (HCL.out w2 H2.out.below).mono ?_
      rintro e w3 ⟨rfl, hb3⟩
      have H3' := Keep.keep (H2.out.call hb3)
      obtain ⟨b5, hb5⟩ : ∃ b5, wr.heap.size = b5 := ⟨_, rfl⟩
      rw [hb5] at H3' ⊢
      have c0 := (H3'.out.row 4 rfl).cell (i := 0) rfl
      have c1 := (H3'.out.row 4 rfl).cell (i := 1) rfl
      have c2 := (H3'.out.row 4 rfl).cell (i := 2) rfl
      have k1 := (H3'.out.row 5 rfl).cell (i := 1) rfl
      have hm1 : MapS w3 9 (b0 + 1) M1 := H3'.out.get 1 rfl
      have hm2 : MapS w3 9 (b0 + 2) M2 := H3'.out.get 2 rfl
      have hm3 : MapS w3 9 (b0 + 3) M3 := H3'.out.get 3 rfl
      have HM1 := Keep.keep hm1; have HM2 := Keep.keep hm2; have HM3 := Keep.keep hm3
      have htl2 : tg.length ≤ maxLen := by unfold maxLen; omega
      clear hb3 H2 HCL HH hm1 hm2 hm3 hld
      by_cases z2 : cl = 2
      · have h2 : (cl == 2) = true := by rw [z2]; rfl
        go_wp2_with (first | (with_reducible refine arm_sRange ?_) | (with_reducible refine arm_sNext ?_) | (with_reducible refine arm_sDel ?_) | (with_reducible refine arm_sPut ?_) | (with_reducible refine arm_sIns ?_))
        refine StM.out ?_
        refine arm_putS Tryz.underlying9 Tryz.underlying82 HM1.out (p := tg) htl2 (by unfold maxLen; omega) rfl rfl rfl ?_
        intro w4 hm4 hc4
        have H5 := Keep.keep (H3'.out.upd 1 rfl (msA 9 (b0 + 1) (SM.put M1 (tg, .bool true))) hc4 hm4 (fun b hb => .inl hb))
        have HL : Keep ((SM.put M1 (tg, .bool true)).length ≤ k + 1) := ⟨by rw [HM1.out.s.length_put]; split <;> omega⟩
        have HG5 := Keep.keep (HG.out.put (f' := gonV (S.take (k + 1))) (v := .bool true) (p := tg) HM1.out.s (fun q => by
          unfold gonV; rw [HGS.out q, z2]; by_cases e : q = tg
          · subst e; simp
          · have e2 : ¬ tg = q := fun h => e h.symm
            rw [if_neg e]; simp [e2]))
        have HM5 := Keep.keep (HM.out.same (f' := mrkV (S.take (k + 1))) (fun q => by unfold mrkV; rw [HMS.out q, z2]; simp))
        have HO5 := Keep.keep (HO.out.same (f' := ovrV (S.take (k + 1))) (fun q => by unfold ovrV; rw [HOS.out q, z2]; simp))
        clear hm4 hc4 H3' HM1 HM2 HM3 HGS HMS HOS HG HM HO
        simp only [Act.put]
        go_wp2_with fail
        go_roundg g
        case measure => omega
        case rel => exact ⟨k + 1, SM.put M1 (tg, .bool true), M2, M3, by omega, by simp, HL.out, by omega, by omega, HG5.out, HM5.out, HO5.out, H5.out.init⟩
      · have h2 : (cl == 2) = false := by simpa using z2
        by_cases z3 : cl = 3
        · have h3 : (cl == 3) = true := by rw [z3]; rfl
          go_wp2_with (first | (with_reducible refine arm_sRange ?_) | (with_reducible refine arm_sNext ?_) | (with_reducible refine arm_sDel ?_) | (with_reducible refine arm_sPut ?_) | (with_reducible refine arm_sIns ?_))
          refine StM.out ?_
          refine arm_putS Tryz.underlying9 Tryz.underlying82 HM2.out (p := tg) htl2 (by unfold maxLen; omega) rfl rfl rfl ?_
          intro w4 hm4 hc4
          have H5 := Keep.keep (H3'.out.upd 2 rfl (msA 9 (b0 + 2) (SM.put M2 (tg, .bool true))) hc4 hm4 (fun b hb => .inl hb))
          have HL : Keep ((SM.put M2 (tg, .bool true)).length ≤ k + 1) := ⟨by rw [HM2.out.s.length_put]; split <;> omega⟩
          have HG5 := Keep.keep (HG.out.same (f' := gonV (S.take (k + 1))) (fun q => by unfold gonV; rw [HGS.out q, z3]; simp))
          have HM5 := Keep.keep (HM.out.put (f' := mrkV (S.take (k + 1))) (v := .bool true) (p := tg) HM2.out.s (fun q => by
            unfold mrkV; rw [HMS.out q, z3]; by_cases e : q = tg
            · subst e; simp
            · have e2 : ¬ tg = q := fun h => e h.symm
              rw [if_neg e]; simp [e2]))
          have HO5 := Keep.keep (HO.out.same (f' := ovrV (S.take (k + 1))) (fun q => by unfold ovrV; rw [HOS.out q, z3]; simp))
          clear hm4 hc4 H3' HM1 HM2 HM3 HGS HMS HOS HG HM HO
          simp only [Act.put]
          go_wp2_with fail
          go_roundg g
          case measure => omega
          case rel => exact ⟨k + 1, M1, SM.put M2 (tg, .bool true), M3, by omega, by simp, by omega, HL.out, by omega, HG5.out, HM5.out, HO5.out, H5.out.init⟩
        · have h3 : (cl == 3) = false := by simpa using z3
          have HG5 := Keep.keep (HG.out.same (f' := gonV (S.take (k + 1))) (fun q => by unfold gonV; rw [HGS.out q]; simp [z2]))
          have HM5 := Keep.keep (HM.out.same (f' := mrkV (S.take (k + 1))) (fun q => by unfold mrkV; rw [HMS.out q]; simp [z3]))
          by_cases z1 : cl = 1
          · have h1 : (cl == 1) = true := by rw [z1]; rfl
            have hlk := HM3.out.look1 Tryz.underlying9 Tryz.underlying73 (zeroI w3) (p := tg) htl2
            rw [HO.out tg] at hlk
            unfold ovrV at hlk
            by_cases zk : kind = 1
            · have h4 : (kind == 1) = true := by rw [zk]; rfl
              go_wp2_with (first | (with_reducible refine arm_sRange ?_) | (with_reducible refine arm_sNext ?_) | (with_reducible refine arm_sDel ?_) | (with_reducible refine arm_sPut ?_) | (with_reducible refine arm_sIns ?_))
              refine StM.out ?_
              refine arm_putS Tryz.underlying9 Tryz.underlying73 HM3.out (p := tg) (u := .int .i64 (max (overE (S.take k) tg) 1)) htl2 (by unfold maxLen; omega) rfl rfl rfl ?_
              intro w4 hm4 hc4
              have H5 := Keep.keep (H3'.out.upd 3 rfl (msA 9 (b0 + 3) (SM.put M3 (tg, .int .i64 (max (overE (S.take k) tg) 1)))) hc4 hm4 (fun b hb => .inl hb))
              have HL : Keep ((SM.put M3 (tg, .int .i64 (max (overE (S.take k) tg) 1))).length ≤ k + 1) := ⟨by rw [HM3.out.s.length_put]; split <;> omega⟩
              have HO5 := Keep.keep (HO.out.put (f' := ovrV (S.take (k + 1))) (v := .int .i64 (max (overE (S.take k) tg) 1)) (p := tg) HM3.out.s (fun q => by
                unfold ovrV; rw [HOS.out q, z1, zk]; by_cases e : q = tg
                · subst e; simp
                · have e2 : ¬ tg = q := fun h => e h.symm
                  rw [if_neg e]; simp [e2]))
              clear hm4 hc4 H3' HM1 HM2 HM3 HGS HMS HOS HG HM HO hlk
              simp only [Act.put]
              go_wp2_with fail
              go_roundg g
              case measure => omega
              case rel => exact ⟨k + 1, M1, M2, _, by omega, by simp, by omega, by omega, HL.out, HG5.out, HM5.out, HO5.out, H5.out.init⟩
            · have h4 : (kind == 1) = false := by simpa using zk
              go_wp2_with (first | (with_reducible refine arm_sRange ?_) | (with_reducible refine arm_sNext ?_) | (with_reducible refine arm_sDel ?_) | (with_reducible refine arm_sPut ?_) | (with_reducible refine arm_sIns ?_))
              refine StM.out ?_
              refine arm_putS Tryz.underlying9 Tryz.underlying73 HM3.out (p := tg) (u := .int .i64 2) htl2 (by unfold maxLen; omega) rfl rfl rfl ?_
              intro w4 hm4 hc4
              have H5 := Keep.keep (H3'.out.upd 3 rfl (msA 9 (b0 + 3) (SM.put M3 (tg, .int .i64 2))) hc4 hm4 (fun b hb => .inl hb))
              have HL : Keep ((SM.put M3 (tg, .int .i64 2)).length ≤ k + 1) := ⟨by rw [HM3.out.s.length_put]; split <;> omega⟩
              have HO5 := Keep.keep (HO.out.put (f' := ovrV (S.take (k + 1))) (v := .int .i64 2) (p := tg) HM3.out.s (fun q => by
                unfold ovrV; rw [HOS.out q, z1]; by_cases e : q = tg
                · subst e; simp [zk]
                · have e2 : ¬ tg = q := fun h => e h.symm
                  rw [if_neg e]; simp [e2]))
              clear hm4 hc4 H3' HM1 HM2 HM3 HGS HMS HOS HG HM HO hlk
              simp only [Act.put]
              go_wp2_with fail
              go_roundg g
              case measure => omega
              case rel => exact ⟨k + 1, M1, M2, _, by omega, by simp, by omega, by omega, HL.out, HG5.out, HM5.out, HO5.out, H5.out.init⟩
          · have h1 : (cl == 1) = false := by simpa using z1
            have HO5 := Keep.keep (HO.out.same (f' := ovrV (S.take (k + 1))) (fun q => by unfold ovrV; rw [HOS.out q]; simp [z1]))
            clear HM1 HM2 HM3 HGS HMS HOS HG HM HO
            go_wp2_with fail
            go_roundg g
            case measure => omega
            case rel => exact ⟨k + 1, M1, M2, M3, by omega, by simp, by omega, by omega, by omega, HG5.out, HM5.out, HO5.out, H3'.out.init⟩
end Go.Proofs.YtmnknmpfkjhgbaaGreatDoor

