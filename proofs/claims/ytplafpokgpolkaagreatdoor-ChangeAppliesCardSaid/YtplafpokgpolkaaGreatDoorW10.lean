/- PARTS OF ONE PROOF, set in one file: RApply, RFold, Wak19, ChangeApplies, Nest, NodeOpen, TreeLaid. Each part tells its own conditions. -/
import Derived.Deep.Slices
import Derived.Deep.SlicePairs
import Derived.Lib.LaidU8
import Derived.LaidHandle
import Derived.LaidSub
import Derived.PinnedBridge
import Derived.Deep.DeepWitnessRowRef
import Derived.Test.YtplafpokgpolkaaGreatDoorW9
/- portolanref19.Apply. -/
namespace Go.Proofs.YtplafpokgpolkaaGreatDoor
open Go.RowKit
set_option maxHeartbeats 4000000 in
set_option maxRecDepth 100000 in
theorem rapply_any (R : Nat) (A : List Mb) (v : Value) (l : List Mv) (w : World) (hR : RfL w R A) (hr : MbL w v l) (hs : ∀ x ∈ l, Sm x.1) (hl : A.length + l.length ≤ 4096) :
    Calls Tryz.prog 32 #[.pointer (some ⟨R, 0, none⟩), v] w fun e w' => (∃ pv, e = .returned (.tuple #[pv, .int .i64 (applyC A (l.map (·.1))).1]) ∧ RfO w' pv (applyC A (l.map (·.1))).2) ∧ Below w.heap.size w w' := by
  obtain ⟨N, u, m, hri, hm, hRl, hN⟩ := hR
  obtain ⟨a, cap, hv, -, -, -⟩ := hr.rd.shape
  obtain ⟨ua, uc, hu, hucap, hmx, h3⟩ := hri.mbs.rd.shape
  unfold maxLen at hmx
  obtain ⟨S, hS⟩ : ∃ S, l.map (·.1) = S := ⟨_, rfl⟩
  have HON : Keep (∀ wx, Below w.heap.size w wx → RefIn wx R N u m) := ⟨fun wx hb => hri.below hb hRl hN⟩
  have HNN := Keep.keep hN; have H3 := Keep.keep h3
  have HR := Keep.keep hr; have HS := Keep.keep hs
  have HML : Keep (m.length + l.length ≤ 4096) := ⟨by rw [← hm, List.length_map] at hl; exact hl⟩
  have hml : m.length ≤ 4096 := by have := HML.out; omega
  have HSM := Keep.keep hri.sm
  obtain ⟨st, hst⟩ : ∃ st : Mv → Bool, st = fun x => staysC S x.1.1 := ⟨_, rfl⟩
  have HST : Keep (∀ x, st x = staysC S x.1.1) := ⟨fun x => by rw [hst]⟩
  have HAC : Keep (applyC A S = if mayC S ≠ 0 then (mayC S, none) else newT ((m.filter st ++ l.filter isPl).map (·.1))) := ⟨by
    unfold applyC
    rw [List.map_append, plain_map, ← hm, List.filter_map, hS, hst]
    rfl⟩
  have HMY := Keep.keep (rmay19_any v l w hr hs (by have := HML.out; omega))
  rw [hS] at HMY
  rw [hS]
  have HSY := Keep.keep (fun p (hp : p.length ≤ 400000) wx (hb : Below w.heap.size w wx) => rstays_any v l p hp wx (hr.on hb) hs (by have := HML.out; omega))
  rw [hS] at HSY
  generalize applyC A S = res at *
  generalize mayC S = e0 at *
  clear hr hs hl hri hm hN hst hS h3
  subst hv hu
  go_enter Tryz.func32, Tryz.ntmps32
  go_wp2_with fail
  refine HMY.out.mono ?_
  rintro e w1 ⟨rfl, hb1⟩
  have HB1 := Keep.keep hb1
  clear hb1 HMY
  by_cases h0 : e0 = 0
  rotate_left
  focus
    have hz1 : (e0 == 0) = false := by rw [beq_eq_false_iff_ne]; exact h0
    have hz2 : (e0 != 0) = true := by rw [bne, hz1]; rfl
    have HRS : Keep (res = (e0, none)) := ⟨by rw [HAC.out, if_pos h0]⟩
    clear h0 HAC
    go_wp2_with fail
    go_ret2
    exact ⟨⟨.pointer none, by rw [HRS.out]; rfl, by rw [HRS.out]; rfl⟩, HB1.out⟩
  subst h0
  have HRS : Keep (res = newT ((m.filter st ++ l.filter isPl).map (·.1))) := ⟨by rw [HAC.out, if_neg (by decide)]⟩
  clear HAC
  go_wp2_with fail
  go_loopg [7, 8] m.length (fun g u7 u8 wx => ∃ (k : Nat), k + g = m.length ∧ u8 = .int .i64 (k : Int) ∧ RowM w.heap.size (· < w.heap.size) wx u7 ((m.take k).filter st) ∧ Below w.heap.size w wx)
  case atStart => exact ⟨0, by omega, rfl, RowM.nil _ _ _, HB1.out⟩
  case round =>
    obtain ⟨k, hkg, rfl, hrow, hb⟩ := hrel
    have HRW := Keep.keep hrow; have HB := Keep.keep hb
    obtain ⟨a7, c7, hv7, -⟩ := (ownsV_reads hrow.own).shape
    have c0 := (HON.out wr hb).row.cell (i := 0) rfl
    have hlen : ((m.take k).filter st).length ≤ k := Nat.le_trans (List.length_filter_le _ _) (by rw [List.length_take]; omega)
    clear hrow hb
    subst hv7
    cases gk with
    | zero =>
      obtain rfl : k = m.length := by omega
      have HTK : Keep (m.take m.length = m) := ⟨List.take_length⟩
      rw [HTK.out] at HRW hlen ⊢
      go_wp2_with fail
      refine (rplain_any _ l wr (· < w.heap.size) (fun b hb => Nat.lt_of_lt_of_le hb HB.out.size) ((HR.out.below HB.out (fun _ hb => hb) (fun _ hb => hb)).mono (fun b hb => Nat.lt_of_lt_of_le hb HB.out.size) (fun _ h => h)) HS.out (by have := HML.out; omega)).mono ?_
      rintro e w2 ⟨v2, rfl, hr2, hb2⟩
      obtain ⟨a2, c2, hv2, -⟩ := (ownsV_reads hr2.own).shape
      have HR2 := Keep.keep hr2
      have HB2 := Keep.keep (HB.out.trans (hb2.mono HB.out.size))
      have hrA := HRW.out.below hb2
      have hl2 : (l.filter isPl).length ≤ l.length := List.length_filter_le _ _
      have HPM : Keep (∀ x ∈ m.filter st ++ l.filter isPl, Sm x.1) := ⟨fun x hx => by
        rcases List.mem_append.1 hx with h | h
        · exact HSM.out x (List.mem_filter.1 h).1
        · exact HS.out x (List.mem_filter.1 h).1⟩
      have HLN : Keep ((m.filter st ++ l.filter isPl).length ≤ 4096) := ⟨by rw [List.length_append]; have := HML.out; omega⟩
      generalize m.filter st = acc at *
      generalize l.filter isPl = pl at *
      subst hv2
      clear c0
      go_wp2_with (with_reducible refine arm_stop ?_)
      refine Stopped.out ?_
      refine arm_appM (B := w.heap.size) hrA HB2.out.size HR2.out.mbs (fun b hb => ⟨hb.1.imp id (Nat.le_trans HB.out.size), hb.2.1, fun e => by
        have h1 := (HRW.out.lt e)
        rcases hb.1 with h | h
        · have := h1.1; omega
        · have := h1.2; omega⟩) (by have := HML.out; omega) rfl rfl ?_
      intro v4 w4 hr4 hg4 hov4 hsh4
      obtain ⟨a4, c4, rfl⟩ := hsh4
      have HR4 := Keep.keep hr4
      have HB4 : Keep (Below w.heap.size w w4) := ⟨HB2.out.trans (hrA.chg HB2.out.size hg4)⟩
      have hle : acc.length + pl.length ≤ 4096 := by have := HLN.out; rwa [List.length_append] at this
      have hnd : decide (4096 < ((acc.length + pl.length : Nat) : Int)) = false := decide_eq_false (by omega)
      generalize hnn : acc.length + pl.length = nn at *
      have HNW := Keep.keep (rnew_any (· < w4.heap.size) (.slice a4 nn c4) (acc ++ pl) w4 (fun _ h => h) (MbL.ofRow HR4.out) HPM.out (Nat.le_trans HLN.out (by omega)))
      rw [← HRS.out] at HNW
      clear hr4 hg4 hov4 hrA hnn HR2 HRW hlen hl2 hr2 hb2
      simp only [Act.put, List.setIfInBounds_toArray, List.set_cons_succ, List.set_cons_zero]
      go_wp2_with fail
      refine HNW.out.mono ?_
      rintro e w5 ⟨⟨pv, rfl, hn⟩, hb5⟩
      have HN5 : Keep (RfO w5 pv res.2) := ⟨RfO.ofNew hn (fun _ h => h)⟩
      have HB5 := Keep.keep (HB4.out.trans (hb5.mono HB4.out.size))
      clear hn hb5 HNW
      go_wp2_with fail
      go_ret2
      exact ⟨⟨_, rfl, HN5.out⟩, HB5.out⟩
    | succ g =>
      have hk : k < m.length := by omega
      have hd : decide ((k : Int) < (m.length : Int)) = true := decide_eq_true (by omega)
      obtain ⟨b, off, rfl, hbl⟩ : ∃ b off, ua = some ⟨b, off, none⟩ ∧ N b := by
        rcases H3.out with h | ⟨b, off, h, hb⟩
        · omega
        · exact ⟨b, off, h, hb⟩
      have hrx := (HON.out wr HB.out).mbs
      have hc0 := hrx.cell hk 0 (by omega) (u := .string ⟨m[k].1.1.toArray⟩) rfl
      rw [Nat.add_zero] at hc0
      have HLD : Keep (∀ wx, Below w.heap.size w wx → (Instr.loadAt 32 (.pointer (some ⟨b, off + k * 9, none⟩))).run Tryz.prog wx = .ok (.agg (mcell m[k])) wx) := ⟨fun wx hx => (HON.out wx hx).mbs.load hk⟩
      have HTK : Keep ((m.take (k + 1)).filter st = (m.take k).filter st ++ (if st m[k] = true then [m[k]] else [])) := ⟨by
        rw [List.take_succ_eq_append_getElem hk, List.filter_append]
        cases h : st m[k] <;> simp [h]⟩
      have hsx := HSM.out m[k] (List.getElem_mem hk)
      have HNDX : Keep (∀ wx, Below w.heap.size w wx → NdR wx (· < w.heap.size) m[k].1.2 m[k].2.1 m[k].2.2) := ⟨fun wx hb => ((HON.out wx hb).mbs.nd m[k] (List.getElem_mem hk)).mono (fun b hb => HNN.out b hb)⟩
      have HSK := Keep.keep (HST.out m[k])
      clear hrx
      generalize m[k] = x at *
      generalize (m.take k).filter st = acc at *
      obtain ⟨⟨xp, ⟨kind, mode, uid, gid, time, attrs, data, link⟩⟩, av, dv⟩ := x
      obtain ⟨aa, la, ca, ad, ld, cd, e1, e2⟩ := (HNDX.out wr HB.out).shape
      dsimp only at e1 e2 hsx HTK hc0 HSK HNDX
      have hxp := hsx.p
      dsimp only at hxp
      subst e1 e2
      have HMC : Keep (mcell ((xp, ⟨kind, mode, uid, gid, time, attrs, data, link⟩), .slice aa la ca, .slice ad ld cd) = #[.string ⟨xp.toArray⟩, .int .i64 kind, .int .u32 mode, .int .u32 uid, .int .u32 gid, .int .i64 time, .slice aa la ca, .slice ad ld cd, .string ⟨link.toArray⟩]) := ⟨rfl⟩
      rw [HMC.out] at HLD
      have HCL := Keep.keep (fun wx hb => HSY.out xp hxp wx hb)
      obtain ⟨sy, hsy⟩ : ∃ c, staysC S xp = c := ⟨_, rfl⟩
      rw [hsy] at HCL HSK
      rw [HSK.out] at HTK
      clear hsx hsy HSK
      go_wp2_with fail
      refine (HCL.out wr HB.out).mono ?_
      rintro e w3 ⟨rfl, hb3⟩
      have HB3 := Keep.keep (HB.out.trans (hb3.mono HB.out.size))
      have HRW3 := Keep.keep (HRW.out.below hb3)
      have hsw3 := HB3.out.size
      clear hb3 HCL HRW hc0
      cases sy with
      | false =>
        rw [if_neg (by decide), List.append_nil] at HTK
        clear c0
        go_wp2_with fail
        go_roundg g
        case measure => omega
        case rel => exact ⟨k + 1, by omega, by simp, by rw [HTK.out]; exact HRW3.out, HB3.out⟩
      | true =>
        rw [if_pos rfl] at HTK
        have hld := HLD.out w3 HB3.out
        have c0 := (HON.out w3 HB3.out).row.cell (i := 0) rfl
        go_wp2_with (first | ((with_reducible refine arm_loadM hld ?_ ?_); (focus rfl); simp only [Act.put, List.setIfInBounds_toArray, List.set_cons_succ, List.set_cons_zero]) | (with_reducible refine arm_stop ?_))
        refine Stopped.out ?_
        have hal : Below w3.heap.size w3 (w3.alloc (.cells #[.string ⟨xp.toArray⟩, .int .i64 kind, .int .u32 mode, .int .u32 uid, .int .u32 gid, .int .i64 time, .slice aa la ca, .slice ad ld cd, .string ⟨link.toArray⟩] 32)) := (Below.refl _ _).alloc (Nat.le_refl _) _
        have HAL := Keep.keep hal
        have hrA := HRW3.out.below hal
        have hmm : Mbs (w3.alloc (.cells #[.string ⟨xp.toArray⟩, .int .i64 kind, .int .u32 mode, .int .u32 uid, .int .u32 gid, .int .i64 time, .slice aa la ca, .slice ad ld cd, .string ⟨link.toArray⟩] 32)) (fun _ => True) (· < w.heap.size) (.slice (some ⟨w3.heap.size, 0, none⟩) 1 1) [((xp, ⟨kind, mode, uid, gid, time, attrs, data, link⟩), .slice aa la ca, .slice ad ld cd)] :=
          ⟨RdV.new (N := fun _ => True) 32 [.string ⟨xp.toArray⟩, .int .i64 kind, .int .u32 mode, .int .u32 uid, .int .u32 gid, .int .i64 time, .slice aa la ca, .slice ad ld cd, .string ⟨link.toArray⟩] 9 1 _ rfl rfl (by unfold maxLen; omega) trivial, fun y hy => by
            obtain rfl : y = ((xp, ⟨kind, mode, uid, gid, time, attrs, data, link⟩), .slice aa la ca, .slice ad ld cd) := by simpa using hy
            exact HNDX.out _ (HB3.out.trans (hal.mono HB3.out.size))⟩
        refine arm_appM (B := w.heap.size) hrA (Nat.le_trans hsw3 hal.size) hmm (fun b hb => ⟨.inl hb, by have := hal.size; omega, fun e => by have := (hrA.lt e).1; omega⟩) (by simp; omega) rfl rfl ?_
        intro v4 w4 hr4 hg4 hov4 hsh4
        obtain ⟨a4, c4, rfl⟩ := hsh4
        have HR4 := Keep.keep hr4
        have HB4 : Keep (Below w.heap.size w w4) := ⟨(HB3.out.trans (hal.mono HB3.out.size)).trans (hrA.chg (Nat.le_trans hsw3 hal.size) hg4)⟩
        clear hr4 hg4 hov4 hmm hrA hal HRW3 HAL c0 hld
        simp only [Act.put, List.setIfInBounds_toArray, List.set_cons_succ, List.set_cons_zero]
        go_wp2_with fail
        go_roundg g
        case measure => omega
        case rel => exact ⟨k + 1, by omega, by simp, by rw [HTK.out]; exact HR4.out, HB4.out⟩
end Go.Proofs.YtplafpokgpolkaaGreatDoor
/- change.Fold, portolanref19.Fold, change.Stays. -/
namespace Go.Proofs.YtplafpokgpolkaaGreatDoor
open Go.RowKit
/-- a row of slices of Members -/
def SetsL (w : World) (b : Nat) (vs : List (Value × List Mv)) : Prop := Row w b 35 (vs.map (·.1)).toArray ∧ ∀ x ∈ vs, MbL w x.1 x.2
theorem SetsL.on {w w' : World} {b : Nat} {vs : List (Value × List Mv)} (h : SetsL w b vs) (hb : Below w.heap.size w w') : SetsL w' b vs :=
  ⟨h.1.below hb h.1.lt, fun x hx => (h.2 x hx).on hb⟩
abbrev setsC (vs : List (Value × List Mv)) : List (List Mb) := vs.map fun x => x.2.map (·.1)
theorem apply_o {w : World} {T : Nat} {A : List Mb} {v : Value} {l : List Mv} (B : Nat) (hT : Tabs B w) (h : TrL w T A) (hA : A.length ≤ 100000) (hr : MbL w v l) (hs : ∀ x ∈ l, Sm x.1) (hl : l.length ≤ 100000) :
    Calls Tryz.prog 12 #[.pointer (some ⟨T, 0, none⟩), v] w fun e w' => (∃ pv, e = .returned (.tuple #[pv, .int .i64 (applyC A (l.map (·.1))).1]) ∧ TrO w' pv (applyC A (l.map (·.1))).2) ∧ Below w.heap.size w w' := by
  obtain ⟨mb, Bk, f, h1, h2⟩ := h
  refine (apply_any T mb Bk f A v l B w hT h1 h2 hA hr hs hl).mono ?_
  rintro e w' ⟨⟨pv, rfl, hn⟩, hb⟩
  exact ⟨⟨pv, rfl, TrO.ofNew hn⟩, hb⟩
set_option maxHeartbeats 2000000 in
set_option maxRecDepth 100000 in
theorem rfold_any (R : Nat) (A : List Mb) (b n : Nat) (vs : List (Value × List Mv)) (w : World) (hR : RfL w R A) (hr : SetsL w b vs) (hs : ∀ x ∈ vs, x.2.length ≤ 600 ∧ ∀ y ∈ x.2, Sm y.1) (hA : A.length ≤ 600) (hn : vs.length = n) (hn4 : n ≤ 4) :
    Calls Tryz.prog 34 #[.pointer (some ⟨R, 0, none⟩), .slice (some ⟨b, 0, none⟩) n n] w fun e w' => (∃ pv, e = .returned (.tuple #[pv, .int .i64 (foldC A (setsC vs)).1]) ∧ RfO w' pv (foldC A (setsC vs)).2) ∧ Below w.heap.size w w' := by
  obtain ⟨res, hres⟩ : ∃ r, foldC A (setsC vs) = r := ⟨_, rfl⟩
  have HRES : Keep (foldC A ((setsC vs).drop 0) = res) := ⟨hres⟩
  rw [hres]
  have HR := Keep.keep hR; have HST := Keep.keep hr; have HS := Keep.keep hs; have HN := Keep.keep hn
  clear hR hr hs hn hres
  go_enter Tryz.func34, Tryz.ntmps34
  go_wp2_with fail
  go_loopg [0, 6] n (fun g u0 u6 wx => ∃ (k : Nat) (U : List Mb) (Q : Nat), k + g = n ∧ u6 = .int .i64 (k : Int) ∧ u0 = .pointer (some ⟨Q, 0, none⟩) ∧ RfL wx Q U ∧ U.length ≤ 600 + 600 * k ∧ foldC U ((setsC vs).drop k) = res ∧ Below w.heap.size w wx)
  case atStart => exact ⟨0, A, R, by omega, rfl, rfl, HR.out, by omega, HRES.out, Below.refl _ _⟩
  case round =>
    obtain ⟨k, U, Q, hkg, rfl, rfl, hU, hul, hfo, hb⟩ := hrel
    have HU := Keep.keep hU; have HFO := Keep.keep hfo; have HB := Keep.keep hb
    clear hU hfo hb
    cases gk with
    | zero =>
      obtain rfl : k = n := by omega
      have HE : Keep (res = (0, some U)) := ⟨by rw [← HFO.out, List.drop_eq_nil_of_le (by rw [List.length_map]; exact Nat.le_of_eq HN.out)]; rfl⟩
      clear HFO HRES
      go_wp2_with fail
      go_ret2
      exact ⟨⟨.pointer (some ⟨Q, 0, none⟩), by rw [HE.out]; rfl, by rw [HE.out]; exact ⟨_, rfl, HU.out⟩⟩, HB.out⟩
    | succ g =>
      have hk : k < n := by omega
      have hkv : k < vs.length := by rw [HN.out]; exact hk
      have hd : decide ((k : Int) < (n : Int)) = true := decide_eq_true (by omega)
      have hst := HST.out.on HB.out
      have hcc := hst.1.cell (i := k) (v := vs[k].1) (by simp [hkv])
      have HX := Keep.keep (hst.2 vs[k] (List.getElem_mem hkv))
      have HXS := Keep.keep (HS.out vs[k] (List.getElem_mem hkv))
      have HDR : Keep ((setsC vs).drop k = (vs[k].2.map (·.1)) :: (setsC vs).drop (k + 1)) := ⟨by
        rw [List.drop_eq_getElem_cons (by rw [List.length_map]; exact hkv), List.getElem_map]⟩
      generalize vs[k] = x at *
      obtain ⟨xv, xl⟩ := x
      dsimp only at hcc HX HXS HDR
      obtain ⟨ax, cx, hxv, -, -, -⟩ := HX.out.rd.shape
      obtain ⟨xn, hxn⟩ : ∃ m, xl.length = m := ⟨_, rfl⟩
      have HXN := Keep.keep hxn
      rw [hxn] at hxv
      have HAP := Keep.keep (rapply_any Q U xv xl wr HU.out HX.out HXS.out.2 (by have := HXS.out.1; omega))
      have HOR := Keep.keep (apply_or U (xl.map (·.1)))
      have HF1 : Keep ((applyC U (xl.map (·.1))).2 = none → res = ((applyC U (xl.map (·.1))).1, none)) := ⟨fun h => by rw [← HFO.out, HDR.out, foldC_fail h]⟩
      have HF2 : Keep (∀ V, applyC U (xl.map (·.1)) = (0, some V) → foldC V ((setsC vs).drop (k + 1)) = res) := ⟨fun V h => by rw [← HFO.out, HDR.out, foldC_step h]⟩
      have HXL : Keep ((xl.map (·.1)).length ≤ 600) := ⟨by rw [List.length_map]; exact HXS.out.1⟩
      generalize xl.map (·.1) = X at *
      subst hxv
      clear hst HFO HDR hxn
      go_wp2_with fail
      refine HAP.out.mono ?_
      rintro e w2 ⟨⟨pv, rfl, hpv⟩, hb2⟩
      have HB2 := Keep.keep (HB.out.trans (hb2.mono HB.out.size))
      clear hb2 HAP hcc
      rcases HOR.out with ⟨h1, h2⟩ | ⟨V, h1, h2⟩
      · have HRE := Keep.keep (HF1.out h2)
        rw [h2] at hpv
        obtain rfl : pv = .pointer none := hpv
        generalize (applyC U X).1 = e0 at *
        have hz1 : (e0 == 0) = false := by rw [beq_eq_false_iff_ne]; exact h1
        have hz2 : (e0 != 0) = true := by rw [bne, hz1]; rfl
        clear HF1 HF2 HRES h1 h2 HOR
        go_wp2_with fail
        go_ret2
        exact ⟨⟨.pointer none, by rw [HRE.out]; rfl, by rw [HRE.out]; rfl⟩, HB2.out⟩
      · have HRE := Keep.keep (HF2.out V h1)
        rw [h1] at hpv ⊢
        obtain ⟨Q2, rfl, hv2⟩ := hpv
        have HV2 := Keep.keep hv2
        have hvl : V.length ≤ 600 + 600 * (k + 1) := by have := HXL.out; omega
        clear HF1 HF2 HRES h1 hv2 HOR h2
        go_wp2_with fail
        go_roundg g
        case measure => omega
        case rel => exact ⟨k + 1, V, Q2, by omega, by simp, rfl, HV2.out, hvl, HRE.out, HB2.out⟩
set_option maxHeartbeats 2000000 in
set_option maxRecDepth 100000 in
theorem fold_any (B T : Nat) (A : List Mb) (b n : Nat) (vs : List (Value × List Mv)) (w : World) (hT : Tabs B w) (hR : TrL w T A) (hr : SetsL w b vs) (hs : ∀ x ∈ vs, x.2.length ≤ 600 ∧ ∀ y ∈ x.2, Sm y.1) (hA : A.length ≤ 600) (hn : vs.length = n) (hn4 : n ≤ 4) :
    Calls Tryz.prog 17 #[.pointer (some ⟨T, 0, none⟩), .slice (some ⟨b, 0, none⟩) n n] w fun e w' => (∃ pv, e = .returned (.tuple #[pv, .int .i64 (foldC A (setsC vs)).1]) ∧ TrO w' pv (foldC A (setsC vs)).2) ∧ Below w.heap.size w w' := by
  obtain ⟨res, hres⟩ : ∃ r, foldC A (setsC vs) = r := ⟨_, rfl⟩
  have HRES : Keep (foldC A ((setsC vs).drop 0) = res) := ⟨hres⟩
  rw [hres]
  have HR := Keep.keep hR; have HST := Keep.keep hr; have HS := Keep.keep hs; have HN := Keep.keep hn; have HT := Keep.keep hT
  clear hT hR hr hs hn hres
  go_enter Tryz.func17, Tryz.ntmps17
  go_wp2_with fail
  refine (copy_tr19 HR.out (by omega)).mono ?_
  rintro e w1 ⟨T2, rfl, ht2, hb1⟩
  have HT2 := Keep.keep ht2; have HB1 := Keep.keep hb1
  clear ht2 hb1 HR
  go_wp2_with fail
  go_loopg [6, 16] n (fun g u6 u16 wx => ∃ (k : Nat) (U : List Mb) (Q : Nat), k + g = n ∧ u16 = .int .i64 (k : Int) ∧ u6 = .pointer (some ⟨Q, 0, none⟩) ∧ TrL wx Q U ∧ U.length ≤ 600 + 600 * k ∧ foldC U ((setsC vs).drop k) = res ∧ Below w.heap.size w wx)
  case atStart => exact ⟨0, A, T2, by omega, rfl, rfl, HT2.out, by omega, HRES.out, HB1.out⟩
  case round =>
    obtain ⟨k, U, Q, hkg, rfl, rfl, hU, hul, hfo, hb⟩ := hrel
    have HU := Keep.keep hU; have HFO := Keep.keep hfo; have HB := Keep.keep hb
    clear hU hfo hb
    cases gk with
    | zero =>
      obtain rfl : k = n := by omega
      have HE : Keep (res = (0, some U)) := ⟨by rw [← HFO.out, List.drop_eq_nil_of_le (by rw [List.length_map]; exact Nat.le_of_eq HN.out)]; rfl⟩
      clear HFO HRES
      go_wp2_with fail
      go_ret2
      exact ⟨⟨.pointer (some ⟨Q, 0, none⟩), by rw [HE.out]; rfl, by rw [HE.out]; exact ⟨_, rfl, HU.out⟩⟩, HB.out⟩
    | succ g =>
      have hk : k < n := by omega
      have hkv : k < vs.length := by rw [HN.out]; exact hk
      have hd : decide ((k : Int) < (n : Int)) = true := decide_eq_true (by omega)
      have hst := HST.out.on HB.out
      have hcc := hst.1.cell (i := k) (v := vs[k].1) (by simp [hkv])
      have HX := Keep.keep (hst.2 vs[k] (List.getElem_mem hkv))
      have HXS := Keep.keep (HS.out vs[k] (List.getElem_mem hkv))
      have HDR : Keep ((setsC vs).drop k = (vs[k].2.map (·.1)) :: (setsC vs).drop (k + 1)) := ⟨by
        rw [List.drop_eq_getElem_cons (by rw [List.length_map]; exact hkv), List.getElem_map]⟩
      generalize vs[k] = x at *
      obtain ⟨xv, xl⟩ := x
      dsimp only at hcc HX HXS HDR
      obtain ⟨ax, cx, hxv, -, -, -⟩ := HX.out.rd.shape
      obtain ⟨xn, hxn⟩ : ∃ m, xl.length = m := ⟨_, rfl⟩
      have HXN := Keep.keep hxn
      rw [hxn] at hxv
      have HAP := Keep.keep (apply_o B (HT.out.on (HB.out.mono HT.out.b)) HU.out (by omega) HX.out HXS.out.2 (by have := HXS.out.1; omega))
      have HOR := Keep.keep (apply_or U (xl.map (·.1)))
      have HF1 : Keep ((applyC U (xl.map (·.1))).2 = none → res = ((applyC U (xl.map (·.1))).1, none)) := ⟨fun h => by rw [← HFO.out, HDR.out, foldC_fail h]⟩
      have HF2 : Keep (∀ V, applyC U (xl.map (·.1)) = (0, some V) → foldC V ((setsC vs).drop (k + 1)) = res) := ⟨fun V h => by rw [← HFO.out, HDR.out, foldC_step h]⟩
      have HXL : Keep ((xl.map (·.1)).length ≤ 600) := ⟨by rw [List.length_map]; exact HXS.out.1⟩
      generalize xl.map (·.1) = X at *
      subst hxv
      clear hst HFO HDR hxn
      go_wp2_with fail
      refine HAP.out.mono ?_
      rintro e w2 ⟨⟨pv, rfl, hpv⟩, hb2⟩
      have HB2 := Keep.keep (HB.out.trans (hb2.mono HB.out.size))
      clear hb2 HAP hcc
      rcases HOR.out with ⟨h1, h2⟩ | ⟨V, h1, h2⟩
      · have HRE := Keep.keep (HF1.out h2)
        rw [h2] at hpv
        obtain rfl : pv = .pointer none := hpv
        generalize (applyC U X).1 = e0 at *
        have hz1 : (e0 == 0) = false := by rw [beq_eq_false_iff_ne]; exact h1
        have hz2 : (e0 != 0) = true := by rw [bne, hz1]; rfl
        clear HF1 HF2 HRES h1 h2 HOR
        go_wp2_with fail
        go_ret2
        exact ⟨⟨.pointer none, by rw [HRE.out]; rfl, by rw [HRE.out]; rfl⟩, HB2.out⟩
      · have HRE := Keep.keep (HF2.out V h1)
        rw [h1] at hpv ⊢
        obtain ⟨Q2, rfl, hv2⟩ := hpv
        have HV2 := Keep.keep hv2
        have hvl : V.length ≤ 600 + 600 * (k + 1) := by have := HXL.out; omega
        clear HF1 HF2 HRES h1 hv2 HOR h2
        go_wp2_with fail
        go_roundg g
        case measure => omega
        case rel => exact ⟨k + 1, V, Q2, by omega, by simp, rfl, HV2.out, hvl, HRE.out, HB2.out⟩
set_option maxHeartbeats 1000000 in
set_option maxRecDepth 100000 in
theorem cstays_any (B : Nat) (v : Value) (l : List Mv) (p : Tx) (w : World) (hT : Tabs B w) (hr : MbL w v l) (hs : ∀ x ∈ l, Sm x.1) (hl : l.length ≤ 1000000) (hp : p.length ≤ 1000000) :
    Calls Tryz.prog 19 #[v, .string ⟨p.toArray⟩] w fun e w' => e = .returned (.bool (staysC (l.map (·.1)) p)) ∧ Below w.heap.size w w' := by
  obtain ⟨a, c, hv, -, -, -⟩ := hr.rd.shape
  have HOF := Keep.keep (of_any v l B w hT hr hs hl)
  generalize l.map (·.1) = S at *
  clear hr hs hT
  subst hv
  go_enter Tryz.func19, Tryz.ntmps19
  go_wp2_with fail
  refine HOF.out.mono ?_
  rintro e w1 ⟨b1, b2, b3, rfl, hE, -, hb⟩
  have HE := Keep.keep hE; have HB := Keep.keep hb
  clear hE hb HOF
  go_wp2_with fail
  refine (stays_any b1 b2 b3 S p hp w1 HE.out).mono ?_
  rintro e w2 ⟨rfl, hb⟩
  have HB2 := Keep.keep (HB.out.trans (hb.mono HB.out.size))
  clear hb
  go_wp2_with fail
  go_ret
  exact ⟨rfl, HB2.out⟩
end Go.Proofs.YtplafpokgpolkaaGreatDoor
/- portolanlaw19.wakes. -/
namespace Go.Proofs.YtplafpokgpolkaaGreatDoor
open Go.RowKit
def wT : List Mb := [([97], dirM 448), ([97, 47, 120], fileD [49]), ([97, 47, 121], fileD [50]), ([98], fileD [51])]
def wS1 : List Mb := [([97], dirM 493), ([97, 47, 46, 119, 104, 46, 120], fileD []), ([97, 47, 122], fileD [52]), ([98], dirM 0), ([98, 47, 99], fileD [53])]
def wS2 : List Mb := [([97], dirM 493), ([97, 47, 46, 119, 104, 46, 46, 119, 104, 46, 46, 111, 112, 113], fileD []), ([97, 47, 122], fileD [52]), ([98], dirM 0), ([98, 47, 99], fileD [53])]
def wU : List Mb := [([97], dirM 493), ([97, 47, 121], fileD [50]), ([97, 47, 122], fileD [52]), ([98], dirM 0), ([98, 47, 99], fileD [53])]
def wV : List Mb := [([97], dirM 493), ([97, 47, 122], fileD [52]), ([98], dirM 0), ([98, 47, 99], fileD [53])]
set_option maxRecDepth 100000 in
theorem wn1 : newT wT = (0, some wT) := by kernel_rfl
set_option maxRecDepth 100000 in
theorem wa1 : applyC wT wS1 = (0, some wU) := by kernel_rfl
set_option maxRecDepth 100000 in
theorem wa2 : applyC wT wS2 = (0, some wV) := by kernel_rfl
set_option maxRecDepth 100000 in
theorem wg1 : getT wU [97] = (⟨1, 493, 0, 0, 0, [], [], []⟩, true) := by kernel_rfl
set_option maxHeartbeats 8000000 in
set_option maxRecDepth 100000 in
theorem wakes19_any (B : Nat) (w : World) (hT : Tabs B w) : Calls Tryz.prog 20 #[] w fun e w' => e = .returned (.bool true) ∧ Below w.heap.size w w' := by
  have HT := Keep.keep hT
  have HW0 : Keep (Below w.heap.size w w) := ⟨Below.refl _ _⟩
  clear hT
  go_enter Tryz.func20, Tryz.ntmps20
  go_wp2_with fail
  refine (dir_any [97] 448 _).mono ?_
  rintro e w1 ⟨rfl, hb⟩
  have HW1 := Keep.keep (HW0.out.trans (hb.mono HW0.out.size))
  clear hb
  go_wp2_with fail
  refine (file_any [97, 47, 120] [49] 1 rfl (by decide) _).mono ?_
  rintro e w2 ⟨a0, c0, rfl, hn, hb⟩
  have HW2 := Keep.keep (HW1.out.trans (hb.mono HW1.out.size))
  have HN0 := Keep.keep hn
  clear hn hb
  go_wp2_with fail
  refine (file_any [97, 47, 121] [50] 1 rfl (by decide) _).mono ?_
  rintro e w3 ⟨a1, c1, rfl, hn, hb⟩
  have HW3 := Keep.keep (HW2.out.trans (hb.mono HW2.out.size))
  have HN0' := Keep.keep (HN0.out.on hb)
  clear HN0
  have HN0 := HN0'
  clear HN0'
  have HN1 := Keep.keep hn
  clear hn hb
  go_wp2_with fail
  refine (file_any [98] [51] 1 rfl (by decide) _).mono ?_
  rintro e w4 ⟨a2, c2, rfl, hn, hb⟩
  have HW4 := Keep.keep (HW3.out.trans (hb.mono HW3.out.size))
  have HN0' := Keep.keep (HN0.out.on hb)
  clear HN0
  have HN0 := HN0'
  clear HN0'
  have HN1' := Keep.keep (HN1.out.on hb)
  clear HN1
  have HN1 := HN1'
  clear HN1'
  have HN2 := Keep.keep hn
  clear hn hb
  go_wp2_with fail
  refine calls_at (R := fun wq => Below w4.heap.size w4 wq ∧ SetL wq w4.heap.size ([(([97], dirM 448), nilV, nilV), (([97, 47, 120], fileD [49]), nilV, .slice a0 1 c0), (([97, 47, 121], fileD [50]), nilV, .slice a1 1 c1), (([98], fileD [51]), nilV, .slice a2 1 c2)] : List Mv)) ⟨(Below.refl _ _).alloc (Nat.le_refl _) _, SetL.new (fun x hx => ?_) rfl⟩ ?_
  · simp only [List.mem_cons, List.not_mem_nil, or_false] at hx
    rcases hx with rfl | rfl | rfl | rfl
    · exact dirL _ _
    · exact HN0.out
    · exact HN1.out
    · exact HN2.out
  intro w5 Hq
  have hbq := Hq.out.1
  have HW5 := Keep.keep (HW4.out.trans (hbq.mono HW4.out.size))
  have HN0' := Keep.keep (HN0.out.on hbq)
  clear HN0
  have HN0 := HN0'
  clear HN0'
  have HN1' := Keep.keep (HN1.out.on hbq)
  clear HN1
  have HN1 := HN1'
  clear HN1'
  have HN2' := Keep.keep (HN2.out.on hbq)
  clear HN2
  have HN2 := HN2'
  clear HN2'
  refine (new_tr B (HT.out.on (HW5.out.mono HT.out.b)) (Hq.out.2.mb (n := 4) rfl (by decide)) (fun x hx => ?_) (by simp) wn1).mono ?_
  · simp only [List.mem_cons, List.not_mem_nil, or_false] at hx
    rcases hx with rfl | rfl | rfl | rfl
    · exact sm_dirM _ _ (by decide)
    · exact sm_fileD _ _ (by decide) (by decide)
    · exact sm_fileD _ _ (by decide) (by decide)
    · exact sm_fileD _ _ (by decide) (by decide)
  rintro e w6 ⟨T1, rfl, ht, hb⟩
  have HW6 := Keep.keep (HW5.out.trans (hb.mono HW5.out.size))
  have HN0' := Keep.keep (HN0.out.on hb)
  clear HN0
  have HN0 := HN0'
  clear HN0'
  have HN1' := Keep.keep (HN1.out.on hb)
  clear HN1
  have HN1 := HN1'
  clear HN1'
  have HN2' := Keep.keep (HN2.out.on hb)
  clear HN2
  have HN2 := HN2'
  clear HN2'
  have HT1 := Keep.keep ht
  clear ht hb hbq Hq
  clear HN0
  clear HN1
  clear HN2
  go_wp2_with fail
  refine (dir_any [97] 493 _).mono ?_
  rintro e w7 ⟨rfl, hb⟩
  have HW7 := Keep.keep (HW6.out.trans (hb.mono HW6.out.size))
  have HT1' := Keep.keep (HT1.out.on hb)
  clear HT1
  have HT1 := HT1'
  clear HT1'
  clear hb
  go_wp2_with fail
  refine (file_any [97, 47, 46, 119, 104, 46, 120] [] 0 rfl (by decide) _).mono ?_
  rintro e w8 ⟨a3, c3, rfl, hn, hb⟩
  have HW8 := Keep.keep (HW7.out.trans (hb.mono HW7.out.size))
  have HT1' := Keep.keep (HT1.out.on hb)
  clear HT1
  have HT1 := HT1'
  clear HT1'
  have HN3 := Keep.keep hn
  clear hn hb
  go_wp2_with fail
  refine (file_any [97, 47, 122] [52] 1 rfl (by decide) _).mono ?_
  rintro e w9 ⟨a4, c4, rfl, hn, hb⟩
  have HW9 := Keep.keep (HW8.out.trans (hb.mono HW8.out.size))
  have HT1' := Keep.keep (HT1.out.on hb)
  clear HT1
  have HT1 := HT1'
  clear HT1'
  have HN3' := Keep.keep (HN3.out.on hb)
  clear HN3
  have HN3 := HN3'
  clear HN3'
  have HN4 := Keep.keep hn
  clear hn hb
  go_wp2_with fail
  refine (dir_any [98] 0 _).mono ?_
  rintro e w10 ⟨rfl, hb⟩
  have HW10 := Keep.keep (HW9.out.trans (hb.mono HW9.out.size))
  have HT1' := Keep.keep (HT1.out.on hb)
  clear HT1
  have HT1 := HT1'
  clear HT1'
  have HN3' := Keep.keep (HN3.out.on hb)
  clear HN3
  have HN3 := HN3'
  clear HN3'
  have HN4' := Keep.keep (HN4.out.on hb)
  clear HN4
  have HN4 := HN4'
  clear HN4'
  clear hb
  go_wp2_with fail
  refine (file_any [98, 47, 99] [53] 1 rfl (by decide) _).mono ?_
  rintro e w11 ⟨a5, c5, rfl, hn, hb⟩
  have HW11 := Keep.keep (HW10.out.trans (hb.mono HW10.out.size))
  have HT1' := Keep.keep (HT1.out.on hb)
  clear HT1
  have HT1 := HT1'
  clear HT1'
  have HN3' := Keep.keep (HN3.out.on hb)
  clear HN3
  have HN3 := HN3'
  clear HN3'
  have HN4' := Keep.keep (HN4.out.on hb)
  clear HN4
  have HN4 := HN4'
  clear HN4'
  have HN5 := Keep.keep hn
  clear hn hb
  go_wp2_with fail
  refine calls_at (R := fun wq => Below w11.heap.size w11 wq ∧ SetL wq w11.heap.size ([(([97], dirM 493), nilV, nilV), (([97, 47, 46, 119, 104, 46, 120], fileD []), nilV, .slice a3 0 c3), (([97, 47, 122], fileD [52]), nilV, .slice a4 1 c4), (([98], dirM 0), nilV, nilV), (([98, 47, 99], fileD [53]), nilV, .slice a5 1 c5)] : List Mv)) ⟨(Below.refl _ _).alloc (Nat.le_refl _) _, SetL.new (fun x hx => ?_) rfl⟩ ?_
  · simp only [List.mem_cons, List.not_mem_nil, or_false] at hx
    rcases hx with rfl | rfl | rfl | rfl | rfl
    · exact dirL _ _
    · exact HN3.out
    · exact HN4.out
    · exact dirL _ _
    · exact HN5.out
  have HX1 := Keep.keep (HT1.out.x (Nat.le_refl _))
  have hbw : w.heap.size ≤ w11.heap.size := HW11.out.size
  obtain ⟨b3, hb3⟩ : ∃ b3, b3 = w11.heap.size := ⟨_, rfl⟩
  have HB3 : Keep (w.heap.size ≤ b3) := ⟨by rw [hb3]; exact hbw⟩
  rw [← hb3] at HX1 ⊢
  clear hbw
  intro w12 Hq
  have hbq := Hq.out.1
  rw [hb3] at hbq
  clear hb3
  clear HN3
  clear HN4
  clear HN5
  clear HT1
  have HW12 := Keep.keep (HW11.out.trans (hbq.mono HW11.out.size))
  have HX1' := Keep.keep (HX1.out.on hbq)
  clear HX1
  have HX1 := HX1'
  clear HX1'
  have HS1 := Keep.keep Hq.out.2
  clear Hq hbq
  refine (apply_tr B (HT.out.on (HW12.out.mono HT.out.b)) HX1.out.tr (by decide) (HS1.out.mb (n := 5) rfl (by decide)) (fun x hx => ?_) (by simp) wa1).mono ?_
  · simp only [List.mem_cons, List.not_mem_nil, or_false] at hx
    rcases hx with rfl | rfl | rfl | rfl | rfl
    · exact sm_dirM _ _ (by decide)
    · exact sm_fileD _ _ (by decide) (by decide)
    · exact sm_fileD _ _ (by decide) (by decide)
    · exact sm_dirM _ _ (by decide)
    · exact sm_fileD _ _ (by decide) (by decide)
  rintro e w13 ⟨U1, rfl, -, hu, hb⟩
  have HU1 := Keep.keep (hu b3 HS1.out.1.lt)
  have HW13 := Keep.keep (HW12.out.trans (hb.mono HW12.out.size))
  have HX1' := Keep.keep (HX1.out.on hb)
  clear HX1
  have HX1 := HX1'
  clear HX1'
  have HS1' := Keep.keep (HS1.out.on hb)
  clear HS1
  have HS1 := HS1'
  clear HS1'
  clear hb hu
  have k9 := HS1.out.1.cell (i := 9) rfl
  have f9 := HS1.out.1.frozen 9
  go_wp2_with fail
  refine calls_at (R := fun wq => Below w.heap.size w wq ∧ SetL wq b3 ([(([97], dirM 493), nilV, nilV), (([97, 47, 46, 119, 104, 46, 46, 119, 104, 46, 46, 111, 112, 113], fileD []), nilV, .slice a3 0 c3), (([97, 47, 122], fileD [52]), nilV, .slice a4 1 c4), (([98], dirM 0), nilV, nilV), (([98, 47, 99], fileD [53]), nilV, .slice a5 1 c5)] : List Mv) ∧ TrX b3 wq T1 wT ∧ TrX b3 wq U1 wU) ⟨?_, HS1.out.set (i := 9) (v := .string ⟨([97, 47, 46, 119, 104, 46, 46, 119, 104, 46, 46, 111, 112, 113] : Tx).toArray⟩) rfl (fun x hx => ?_), HX1.out.set, HU1.out.set⟩ ?_
  · exact ((Chg.of_below (M := NoM) HW13.out).setCell (.inl HB3.out) _).below (fun _ _ h => h)
  · simp only [List.mem_cons, List.not_mem_nil, or_false] at hx
    rcases hx with rfl | rfl | rfl | rfl | rfl
    · exact ⟨(([97], dirM 493), nilV, nilV), by simp, rfl, rfl⟩
    · exact ⟨(([97, 47, 46, 119, 104, 46, 120], fileD []), nilV, .slice a3 0 c3), by simp, rfl, rfl⟩
    · exact ⟨(([97, 47, 122], fileD [52]), nilV, .slice a4 1 c4), by simp, rfl, rfl⟩
    · exact ⟨(([98], dirM 0), nilV, nilV), by simp, rfl, rfl⟩
    · exact ⟨(([98, 47, 99], fileD [53]), nilV, .slice a5 1 c5), by simp, rfl, rfl⟩
  intro w14 Hq
  clear k9 f9 HX1 HU1 HS1 HW13
  have HW14 := Keep.keep Hq.out.1
  have HS1 := Keep.keep Hq.out.2.1
  have HX1 := Keep.keep Hq.out.2.2.1
  have HU1 := Keep.keep Hq.out.2.2.2
  clear Hq
  refine (apply_tr B (HT.out.on (HW14.out.mono HT.out.b)) HX1.out.tr (by decide) (HS1.out.mb (n := 5) rfl (by decide)) (fun x hx => ?_) (by simp) wa2).mono ?_
  · simp only [List.mem_cons, List.not_mem_nil, or_false] at hx
    rcases hx with rfl | rfl | rfl | rfl | rfl
    · exact sm_dirM _ _ (by decide)
    · exact sm_fileD _ _ (by decide) (by decide)
    · exact sm_fileD _ _ (by decide) (by decide)
    · exact sm_dirM _ _ (by decide)
    · exact sm_fileD _ _ (by decide) (by decide)
  rintro e w15 ⟨V1, rfl, hv, -, hb⟩
  clear HX1 HS1
  have HV1 := Keep.keep hv
  have HW15 := Keep.keep (HW14.out.trans (hb.mono HW14.out.size))
  have HU1' := Keep.keep (HU1.out.on hb)
  clear HU1
  have HU1 := HU1'
  clear HU1'
  clear hb hv
  go_wp2_with fail
  refine (get_tr HU1.out.tr [97] (by decide) wg1).mono ?_
  rintro e w16 ⟨aa, la, ca, ad, ld, cd, rfl, -, hb⟩
  have HW16 := Keep.keep (HW15.out.trans (hb.mono HW15.out.size))
  have HU1' := Keep.keep (HU1.out.on hb)
  clear HU1
  have HU1 := HU1'
  clear HU1'
  have HV1' := Keep.keep (HV1.out.on hb)
  clear HV1
  have HV1 := HV1'
  clear HV1'
  clear hb
  go_upto_region 7 with fail
  refine wp_world (R := fun wq => Hp NoM w16 wq [rowA w16.heap.size 30 #[.int .i64 1, .int .u32 493, .int .u32 0, .int .u32 0, .int .i64 0, .slice aa la ca, .slice ad ld cd, .string ⟨(([] : Tx)).toArray⟩]]) ((Hp.begin NoM w16).newRow _ _) ?_
  intro w17 Hq
  have hbq := Hq.out.below
  have HW17 := Keep.keep (HW16.out.trans (hbq.mono HW16.out.size))
  have HU1' := Keep.keep (HU1.out.on hbq)
  clear HU1
  have HU1 := HU1'
  clear HU1'
  have HV1' := Keep.keep (HV1.out.on hbq)
  clear HV1
  have HV1 := HV1'
  clear HV1'
  have c81 := (Hq.out.row 0 rfl).cell (i := 1) rfl
  obtain ⟨b8, hb8⟩ : ∃ b8, b8 = w16.heap.size := ⟨_, rfl⟩
  rw [← hb8] at c81 ⊢
  clear hb8 Hq hbq
  go_wp2_with fail
  refine (paths_any HU1.out.tr (by decide)).mono ?_
  rintro e w18 ⟨vp, rfl, ho, hb⟩
  have HW18 := Keep.keep (HW17.out.trans (hb.mono HW17.out.size))
  have HU1' := Keep.keep (HU1.out.on hb)
  clear HU1
  have HU1 := HU1'
  clear HU1'
  have HV1' := Keep.keep (HV1.out.on hb)
  clear HV1
  have HV1 := HV1'
  clear HV1'
  obtain ⟨ap, cp, hvp, -⟩ := (ownsV_reads ho).shape
  replace hvp : vp = .slice ap 5 cp := hvp
  have HP := Keep.keep ho.rd'
  clear ho hb c81
  subst hvp
  go_wp2_with fail
  refine calls_at (R := fun wq => Below w18.heap.size w18 wq ∧ RdS wq (· < wq.heap.size) (.slice (some ⟨w18.heap.size, 0, none⟩) 5 5) [[97], [97, 47, 121], [97, 47, 122], [98], [98, 47, 99]]) ⟨(Below.refl _ _).alloc (Nat.le_refl _) _, RdV.new 9 (([[97], [97, 47, 121], [97, 47, 122], [98], [98, 47, 99]] : List Tx).map strV) 1 5 _ rfl rfl (by unfold maxLen; omega) (by simp)⟩ ?_
  intro w19 Hq
  have hbq := Hq.out.1
  have HP' := Keep.keep (RdS.on' HP.out hbq)
  clear HP
  have HW19 := Keep.keep (HW18.out.trans (hbq.mono HW18.out.size))
  have HU1' := Keep.keep (HU1.out.on hbq)
  clear HU1
  have HU1 := HU1'
  clear HU1'
  have HV1' := Keep.keep (HV1.out.on hbq)
  clear HV1
  have HV1 := HV1'
  clear HV1'
  refine (sequal_any _ _ _ _ _ HP'.out Hq.out.2 (by decide) (by decide)).mono ?_
  rw [show decide ((wU).map (·.1) = [[97], [97, 47, 121], [97, 47, 122], [98], [98, 47, 99]]) = true from by decide]
  rintro e w20 ⟨rfl, hb⟩
  have HW20 := Keep.keep (HW19.out.trans (hb.mono HW19.out.size))
  have HU1' := Keep.keep (HU1.out.on hb)
  clear HU1
  have HU1 := HU1'
  clear HU1'
  have HV1' := Keep.keep (HV1.out.on hb)
  clear HV1
  have HV1 := HV1'
  clear HV1'
  clear hb Hq hbq HP'
  go_wp2_with fail
  refine (paths_any HV1.out (by decide)).mono ?_
  rintro e w21 ⟨vp, rfl, ho, hb⟩
  have HW21 := Keep.keep (HW20.out.trans (hb.mono HW20.out.size))
  have HV1' := Keep.keep (HV1.out.on hb)
  clear HV1
  have HV1 := HV1'
  clear HV1'
  obtain ⟨ap, cp, hvp, -⟩ := (ownsV_reads ho).shape
  replace hvp : vp = .slice ap 4 cp := hvp
  have HP := Keep.keep ho.rd'
  clear ho hb
  subst hvp
  go_wp2_with fail
  refine calls_at (R := fun wq => Below w21.heap.size w21 wq ∧ RdS wq (· < wq.heap.size) (.slice (some ⟨w21.heap.size, 0, none⟩) 4 4) [[97], [97, 47, 122], [98], [98, 47, 99]]) ⟨(Below.refl _ _).alloc (Nat.le_refl _) _, RdV.new 9 (([[97], [97, 47, 122], [98], [98, 47, 99]] : List Tx).map strV) 1 4 _ rfl rfl (by unfold maxLen; omega) (by simp)⟩ ?_
  intro w22 Hq
  have hbq := Hq.out.1
  have HP' := Keep.keep (RdS.on' HP.out hbq)
  clear HP
  have HW22 := Keep.keep (HW21.out.trans (hbq.mono HW21.out.size))
  have HV1' := Keep.keep (HV1.out.on hbq)
  clear HV1
  have HV1 := HV1'
  clear HV1'
  refine (sequal_any _ _ _ _ _ HP'.out Hq.out.2 (by decide) (by decide)).mono ?_
  rw [show decide ((wV).map (·.1) = [[97], [97, 47, 122], [98], [98, 47, 99]]) = true from by decide]
  rintro e w23 ⟨rfl, hb⟩
  have HW23 := Keep.keep (HW22.out.trans (hb.mono HW22.out.size))
  have HV1' := Keep.keep (HV1.out.on hb)
  clear HV1
  have HV1 := HV1'
  clear HV1'
  clear hb Hq hbq HP'
  go_wp2_with fail
  go_ret
  exact ⟨rfl, HW23.out⟩
end Go.Proofs.YtplafpokgpolkaaGreatDoor
/- portolanlaw19.ChangeApplies. -/
namespace Go.Proofs.YtplafpokgpolkaaGreatDoor
open Go.RowKit
def setC (g : Bool) (l : List Mb) : List Mb := if g = true then grown19 l else few19 l
theorem setC_len (g : Bool) (l : List Mb) : (setC g l).length ≤ 280 := by
  unfold setC
  split
  · exact grown19_len l
  · exact Nat.le_trans (few19_len l) (by decide)
theorem setC_sm (g : Bool) {l : List Mb} (h : ∀ x ∈ l, Kb x) : ∀ x ∈ setC g l, Sm x := by
  unfold setC
  split
  · exact grown19_sm h
  · exact few19_sm h
/-- Members that are a list's, with the slice's shape -/
def MbN (w : World) (v : Value) (X : List Mb) : Prop := ∃ l a c, l.map (·.1) = X ∧ MbL w v l ∧ v = .slice a l.length c
theorem MbN.on {w w' : World} {v : Value} {X : List Mb} (h : MbN w v X) (hb : Below w.heap.size w w') : MbN w' v X := by
  obtain ⟨l, a, c, h1, h2, h3⟩ := h
  exact ⟨l, a, c, h1, h2.on hb, h3⟩
theorem MbN.of {w : World} {v : Value} {l : List Mv} {X : List Mb} (h : MbL w v l) (he : l.map (·.1) = X) : MbN w v X := by
  obtain ⟨a, c, hv, -, -, -⟩ := h.rd.shape
  exact ⟨l, a, c, he, h, hv⟩
theorem set19_n {w : World} {v : Value} {l : List Mv} {gr : Bool} (hr : MbL w v l) :
    Calls Tryz.prog 30 #[v, .bool gr] w fun e w' => ∃ v', e = .returned v' ∧ MbN w' v' (setC gr (l.map (·.1))) ∧ Below w.heap.size w w' := by
  refine (set19_any v l gr w hr).mono ?_
  rintro e w' ⟨v', l', rfl, h1, h2, h3⟩
  exact ⟨v', rfl, .of (.ofRow h2) h1, h3⟩
/-- what is said of each operation of the sets' region -/
def apT (b4 b5 : Nat) (va vb : Value) (ga gb : Bool) (X Y : List Mb) : Nat → Value → World → Prop
  | 0, v, _ => v = .pointer (some ⟨b4, 0, none⟩)
  | 1, v, _ => v = va
  | 2, v, _ => v = .pointer (some ⟨b4, 1, none⟩)
  | 3, v, _ => v = .bool ga
  | 4, v, w => MbN w v X
  | 5, v, _ => v = .pointer (some ⟨b5, 0, none⟩)
  | 6, v, _ => v = vb
  | 7, v, _ => v = .pointer (some ⟨b5, 1, none⟩)
  | 8, v, _ => v = .bool gb
  | 9, v, w => MbN w v Y
  | _, _, _ => True
theorem apT_stays {b4 b5 : Nat} {va vb : Value} {ga gb : Bool} {X Y : List Mb} : ∀ (i : Nat) (v : Value) {w w' : World}, apT b4 b5 va vb ga gb X Y i v w → Below w.heap.size w w' → apT b4 b5 va vb ga gb X Y i v w'
  | 0, _, _, _, h, _ => h
  | 1, _, _, _, h, _ => h
  | 2, _, _, _, h, _ => h
  | 3, _, _, _, h, _ => h
  | 4, _, _, _, h, hb => MbN.on h hb
  | 5, _, _, _, h, _ => h
  | 6, _, _, _, h, _ => h
  | 7, _, _, _, h, _ => h
  | 8, _, _, _, h, _ => h
  | 9, _, _, _, h, hb => MbN.on h hb
  | _ + 10, _, _, _, h, _ => h
structure LvA (w : World) (T : Nat) (A : List Mb) (vx vy : Value) (lx ly : List Mv) : Prop where
  t : TrL w T A
  x : MbL w vx lx
  y : MbL w vy ly
theorem LvA.on {w w' : World} {T : Nat} {A : List Mb} {vx vy : Value} {lx ly : List Mv} (h : LvA w T A vx vy lx ly) (hb : Below w.heap.size w w') : LvA w' T A vx vy lx ly := ⟨h.t.on hb, h.x.on hb, h.y.on hb⟩
set_option maxHeartbeats 16000000 in
set_option maxRecDepth 100000 in
theorem applies_any (B : Nat) (v va vb : Value) (ga gb : Bool) (l la lb : List Mv) (w : World) (hT : Tabs B w) (hr : MbL w v l) (hk : ∀ a ∈ l, Kb a.1) (hra : MbL w va la) (hka : ∀ a ∈ la, Kb a.1) (hrb : MbL w vb lb) (hkb : ∀ a ∈ lb, Kb a.1) :
    Calls Tryz.prog 5 #[v, .agg #[va, .bool ga], .agg #[vb, .bool gb]] w fun e w' => e = .returned (.bool true) ∧ Below w.heap.size w w' := by
  obtain ⟨a1, c1, hv1, -, -, -⟩ := hr.rd.shape
  obtain ⟨aa, ca, hva, -, -, -⟩ := hra.rd.shape
  obtain ⟨ab, cb, hvb, -, -, -⟩ := hrb.rd.shape
  have HT := Keep.keep hT
  have HMV := Keep.keep hr
  have HKV := Keep.keep hk
  have HRA := Keep.keep hra; have HRB := Keep.keep hrb
  obtain ⟨A, hA⟩ : ∃ A, tree19 (l.map (·.1)) = A := ⟨_, rfl⟩
  have HA : Keep (A.length ≤ 280) := ⟨by rw [← hA]; exact tree19_len _⟩
  obtain ⟨X, hX⟩ : ∃ A, setC ga (la.map (·.1)) = A := ⟨_, rfl⟩
  obtain ⟨Y, hY⟩ : ∃ A, setC gb (lb.map (·.1)) = A := ⟨_, rfl⟩
  have HX : Keep (X.length ≤ 280 ∧ ∀ x ∈ X, Sm x) := ⟨by rw [← hX]; exact setC_len _ _, by rw [← hX]; exact setC_sm _ (fun x hx => by obtain ⟨y, hy, rfl⟩ := List.mem_map.1 hx; exact hka y hy)⟩
  have HY : Keep (Y.length ≤ 280 ∧ ∀ x ∈ Y, Sm x) := ⟨by rw [← hY]; exact setC_len _ _, by rw [← hY]; exact setC_sm _ (fun x hx => by obtain ⟨y, hy, rfl⟩ := List.mem_map.1 hx; exact hkb y hy)⟩
  have HAE := Keep.keep hA; have HXE := Keep.keep hX; have HYE := Keep.keep hY
  clear hT hr hk hra hka hrb hkb hA hX hY
  obtain ⟨na, hna⟩ : ∃ n, la.length = n := ⟨_, rfl⟩
  obtain ⟨nb, hnb⟩ : ∃ n, lb.length = n := ⟨_, rfl⟩
  obtain ⟨nl, hnl⟩ : ∃ n, l.length = n := ⟨_, rfl⟩
  rw [hna] at hva
  rw [hnb] at hvb
  rw [hnl] at hv1
  clear hna hnb hnl
  subst hv1 hva hvb
  go_enter Tryz.func5, Tryz.ntmps5
  go_wp2_with fail
  refine calls_at (R := fun wq => Hp NoM w wq [rowA w.heap.size 52 #[.slice aa na ca, .bool ga], rowA (w.heap.size + 1) 52 #[.slice ab nb cb, .bool gb]]) (((Hp.begin NoM w).newRow _ _).newRow' _ _ _ _ (by simp) rfl) ?_
  intro w1 H1
  have hb1 := H1.out.below
  refine (tree_tr B (HT.out.on (hb1.mono HT.out.b)) (HMV.out.on hb1) HKV.out).mono ?_
  rw [HAE.out]
  rintro e w2 ⟨T, rfl, ht, hb2⟩
  have H2 := H1.out.call hb2
  have HW2 := Keep.keep H2.below
  have HTR := Keep.keep ht
  have HRA2 := Keep.keep (HRA.out.on HW2.out)
  have HRB2 := Keep.keep (HRB.out.on HW2.out)
  obtain ⟨b4, hb4⟩ : ∃ b, w.heap.size = b := ⟨_, rfl⟩
  have H4 := H2.row 0 rfl
  have H5 := H2.row 1 rfl
  rw [hb4] at H4 H5 ⊢
  obtain ⟨b5, hb5⟩ : ∃ b, b4 + 1 = b := ⟨_, rfl⟩
  rw [hb5] at H5 ⊢
  have HR4 := Keep.keep H4
  have HR5 := Keep.keep H5
  have HBB : Keep (b4 < w2.heap.size ∧ b5 < w2.heap.size) := ⟨H4.lt, H5.lt⟩
  clear H1 hb1 hb2 H2 ht H4 H5 hb4 hb5 HMV HKV HAE HRA HRB
  go_upto_region 2 with fail
  refine wp_region_spcT 10 [23, 24, 25, 26, 27, 28, 29, 30, 31, 32] (Below w2.heap.size w2) (apT b4 b5 (.slice aa na ca) (.slice ab nb cb) ga gb X Y) (fun w w' => Below w.heap.size w w') (by kernel_rfl) rfl (by decide) (by show ∀ d ∈ _, d < 118; decide) (by kernel_rfl) (by decide) (by kernel_rfl) (by kernel_rfl) (by kernel_rfl) (Below.refl _ _).drew (fun i v w w' h _ hb => apT_stays i v h hb) ?_ ?_
  focus
    intro q hq a1 w5 hF hC hT
    have hsz : a1.tmps.size = 118 := hF.size
    have t4 : a1.eval (.tmp 4) = .pointer (some ⟨b4, 0, none⟩) := (hF.same 4 (by decide)).trans rfl
    have t5 : a1.eval (.tmp 5) = .pointer (some ⟨b5, 0, none⟩) := (hF.same 5 (by decide)).trans rfl
    have hkr : Below w5.heap.size w5 w5 := Below.refl _ _
    have r4 := HR4.out.below hC HBB.out.1
    have r5 := HR5.out.below hC HBB.out.2
    rcases (by omega : q = 0 ∨ q = 1 ∨ q = 2 ∨ q = 3 ∨ q = 4 ∨ q = 5 ∨ q = 6 ∨ q = 7 ∨ q = 8 ∨ q = 9) with rfl | rfl | rfl | rfl | rfl | rfl | rfl | rfl | rfl | rfl
    · exact spcS_val (d := 23) rfl (wanted_none rfl) (run_fieldAddr (m := 0) Tryz.underlying52 rfl (by kernel_rfl) t4) hC hkr rfl
    · have hx : a1.eval (.tmp 23) = .pointer (some ⟨b4, 0, none⟩) := hT 0 (by decide) (by kernel_rfl)
      exact spcS_val (d := 24) rfl (wanted_none rfl) (run_loadCell (run_isAgg_plain Tryz.underlying35 rfl) (r4.cell (i := 0) rfl) hx) hC hkr rfl
    · exact spcS_val (d := 25) rfl (wanted_none rfl) (run_fieldAddr (m := 0) Tryz.underlying52 rfl (by kernel_rfl) t4) hC hkr rfl
    · have hx : a1.eval (.tmp 25) = .pointer (some ⟨b4, 1, none⟩) := hT 2 (by decide) (by kernel_rfl)
      exact spcS_val (d := 26) rfl (wanted_none rfl) (run_loadCell (run_isAgg_plain Tryz.underlying4 rfl) (r4.cell (i := 1) rfl) hx) hC hkr rfl
    · have hx1 : a1.eval (.tmp 24) = .slice aa na ca := hT 1 (by decide) (by kernel_rfl)
      have hx2 : a1.eval (.tmp 26) = .bool ga := hT 3 (by decide) (by kernel_rfl)
      refine spcS_call (d := 27) (vs := #[.slice aa na ca, .bool ga]) rfl (wanted_none rfl) (Go.Proofs.enters_of Tryz.func30 (by kernel_rfl) rfl) (by simp [hx1, hx2]) ?_
      refine (set19_n (HRA2.out.on hC)).mono ?_
      rintro e wz ⟨v', rfl, hn, hb⟩
      rw [HXE.out] at hn
      exact ⟨_, rfl, hC.trans (hb.mono hC.size), hb, hn⟩
    · exact spcS_val (d := 28) rfl (wanted_none rfl) (run_fieldAddr (m := 0) Tryz.underlying52 rfl (by kernel_rfl) t5) hC hkr rfl
    · have hx : a1.eval (.tmp 28) = .pointer (some ⟨b5, 0, none⟩) := hT 5 (by decide) (by kernel_rfl)
      exact spcS_val (d := 29) rfl (wanted_none rfl) (run_loadCell (run_isAgg_plain Tryz.underlying35 rfl) (r5.cell (i := 0) rfl) hx) hC hkr rfl
    · exact spcS_val (d := 30) rfl (wanted_none rfl) (run_fieldAddr (m := 0) Tryz.underlying52 rfl (by kernel_rfl) t5) hC hkr rfl
    · have hx : a1.eval (.tmp 30) = .pointer (some ⟨b5, 1, none⟩) := hT 7 (by decide) (by kernel_rfl)
      exact spcS_val (d := 31) rfl (wanted_none rfl) (run_loadCell (run_isAgg_plain Tryz.underlying4 rfl) (r5.cell (i := 1) rfl) hx) hC hkr rfl
    · have hx1 : a1.eval (.tmp 29) = .slice ab nb cb := hT 6 (by decide) (by kernel_rfl)
      have hx2 : a1.eval (.tmp 31) = .bool gb := hT 8 (by decide) (by kernel_rfl)
      refine spcS_call (d := 32) (vs := #[.slice ab nb cb, .bool gb]) rfl (wanted_none rfl) (Go.Proofs.enters_of Tryz.func30 (by kernel_rfl) rfl) (by simp [hx1, hx2]) ?_
      refine (set19_n (HRB2.out.on hC)).mono ?_
      rintro e wz ⟨v', rfl, hn, hb⟩
      rw [HYE.out] at hn
      exact ⟨_, rfl, hC.trans (hb.mono hC.size), hb, hn⟩
  intro a1 w3 ha hC hT
  have t23 : slot a1 23 = .pointer (some ⟨b4, 0, none⟩) := hT 0 (by decide)
  have t24 : slot a1 24 = .slice aa na ca := hT 1 (by decide)
  have t25 : slot a1 25 = .pointer (some ⟨b4, 1, none⟩) := hT 2 (by decide)
  have t26 : slot a1 26 = .bool ga := hT 3 (by decide)
  obtain ⟨lx, ax, cx, hlx, hmx, t27⟩ : MbN w3 (slot a1 27) X := hT 4 (by decide)
  have t28 : slot a1 28 = .pointer (some ⟨b5, 0, none⟩) := hT 5 (by decide)
  have t29 : slot a1 29 = .slice ab nb cb := hT 6 (by decide)
  have t30 : slot a1 30 = .pointer (some ⟨b5, 1, none⟩) := hT 7 (by decide)
  have t31 : slot a1 31 = .bool gb := hT 8 (by decide)
  obtain ⟨ly, ay, cy, hly, hmy, t32⟩ : MbN w3 (slot a1 32) Y := hT 9 (by decide)
  rw [t27] at hmx
  rw [t32] at hmy
  obtain ⟨nx, hnx⟩ : ∃ n, lx.length = n := ⟨_, rfl⟩
  obtain ⟨ny, hny⟩ : ∃ n, ly.length = n := ⟨_, rfl⟩
  rw [hnx] at t27 hmx
  rw [hny] at t32 hmy
  have HLX : Keep (lx.map (·.1) = X ∧ lx.length ≤ 280 ∧ ∀ x ∈ lx, Sm x.1) := ⟨hlx, by have := HX.out.1; rw [← hlx, List.length_map] at this; exact this, sm_mapX (by rw [hlx]; exact HX.out.2)⟩
  have HLY : Keep (ly.map (·.1) = Y ∧ ly.length ≤ 280 ∧ ∀ x ∈ ly, Sm x.1) := ⟨hly, by have := HY.out.1; rw [← hly, List.length_map] at this; exact this, sm_mapX (by rw [hly]; exact HY.out.2)⟩
  have HNX := Keep.keep hnx; have HNY := Keep.keep hny
  simp only [List.foldl_cons, List.foldl_nil, t23, t24, t25, t26, t27, t28, t29, t30, t31, t32] at ha
  have HLV : Keep (LvA w3 T A (.slice ax nx cx) (.slice ay ny cy) lx ly) := ⟨HTR.out.on hC, hmx, hmy⟩
  have HW3 := Keep.keep (HW2.out.trans (hC.mono HW2.out.size))
  clear hT t23 t24 t25 t26 t27 t28 t29 t30 t31 t32 hmx hmy hlx hly hnx hny hC HTR HRA2 HRB2 HR4 HR5 HBB HW2 HXE HYE
  subst ha
  simp only [List.drop_succ_cons, List.drop_zero]
  simp only [Act.put, List.setIfInBounds_toArray, List.set_cons_succ, List.set_cons_zero]
  go_wp2_with fail
  refine (copy_tr19 HLV.out.t (by have := HA.out; omega)).mono ?_
  rintro e w4 ⟨T2, rfl, ht2, hb⟩
  have HT2 := Keep.keep ht2
  have HLV4 := Keep.keep (HLV.out.on hb)
  have HW4 := Keep.keep (HW3.out.trans (hb.mono HW3.out.size))
  clear ht2 hb HLV HW3
  go_wp2_with fail
  refine (apply_o B (HT.out.on (HW4.out.mono HT.out.b)) HLV4.out.t (by have := HA.out; omega) HLV4.out.x HLX.out.2.2 (by have := HLX.out.2.1; omega)).mono ?_
  rw [HLX.out.1]
  have HO1 := Keep.keep (app_some (A := A) (S := X))
  have HRAP := Keep.keep (fun R (wx : World) (hR : RfL wx R A) (hv : MbL wx (.slice ax nx cx) lx) => rapply_any R A _ lx wx hR hv HLX.out.2.2 (by have := HA.out; have := HLX.out.2.1; omega))
  rw [HLX.out.1] at HRAP
  obtain ⟨⟨c1, o1⟩, ho1⟩ : ∃ r, applyC A X = r := ⟨_, rfl⟩
  rw [ho1] at HO1 HRAP ⊢
  clear ho1
  dsimp only at HO1 HRAP ⊢
  rintro e w5 ⟨⟨pu, rfl, hpu⟩, hb⟩
  have HU := Keep.keep hpu
  have HT25 := Keep.keep (HT2.out.on hb)
  have HLV5 := Keep.keep (HLV4.out.on hb)
  have HW5 := Keep.keep (HW4.out.trans (hb.mono HW4.out.size))
  clear hpu hb HT2 HLV4 HW4
  go_wp2_with fail
  refine (of19_any HLV5.out.t (by have := HA.out; omega)).mono ?_
  rintro e w6 ⟨R, rfl, hR, hb⟩
  have HR := Keep.keep hR
  have HU6 := Keep.keep (HU.out.on hb)
  have HT26 := Keep.keep (HT25.out.on hb)
  have HLV6 := Keep.keep (HLV5.out.on hb)
  have HW6 := Keep.keep (HW5.out.trans (hb.mono HW5.out.size))
  clear hR hb HT25 HLV5 HW5 HU
  go_wp2_with fail
  refine (HRAP.out R w6 HR.out HLV6.out.x).mono ?_
  rintro e w7 ⟨⟨pv, rfl, hpv⟩, hb⟩
  have HV := Keep.keep hpv
  have HU7 := Keep.keep (HU6.out.on hb)
  have HT27 := Keep.keep (HT26.out.on hb)
  have HLV7 := Keep.keep (HLV6.out.on hb)
  have HW7 := Keep.keep (HW6.out.trans (hb.mono HW6.out.size))
  clear hpv hb HT26 HLV6 HW6 HU6 HR HRAP
  obtain ⟨vs, hvs⟩ : ∃ vs : List (Value × List Mv), vs = [(.slice ax nx cx, lx), (.slice ay ny cy, ly)] := ⟨_, rfl⟩
  have HVS : Keep (vs.length = 2 ∧ (∀ x ∈ vs, x.2.length ≤ 600 ∧ ∀ y ∈ x.2, Sm y.1)) := ⟨by rw [hvs]; rfl, fun x hx => by
    rw [hvs] at hx
    simp only [List.mem_cons, List.not_mem_nil, or_false] at hx
    rcases hx with rfl | rfl
    · exact ⟨by have := HLX.out.2.1; dsimp only; omega, HLX.out.2.2⟩
    · exact ⟨by have := HLY.out.2.1; dsimp only; omega, HLY.out.2.2⟩⟩
  have HSV : Keep (setsC vs = [X, Y]) := ⟨by rw [hvs, ← HLX.out.1, ← HLY.out.1]; rfl⟩
  have HSN : Keep (∀ wx : World, LvA wx T A (.slice ax nx cx) (.slice ay ny cy) lx ly → SetsL (wx.alloc (.cells #[.slice ax nx cx, .slice ay ny cy] 35)) wx.heap.size vs) := ⟨fun wx h => by
    have hal : Below wx.heap.size wx (wx.alloc (.cells #[.slice ax nx cx, .slice ay ny cy] 35)) := (Below.refl _ _).alloc (Nat.le_refl _) _
    refine ⟨by rw [hvs]; exact Row.new _ _ _, fun x hx => ?_⟩
    rw [hvs] at hx
    simp only [List.mem_cons, List.not_mem_nil, or_false] at hx
    rcases hx with rfl | rfl
    · exact h.x.on hal
    · exact h.y.on hal⟩
  clear hvs
  have HO2 := Keep.keep (fold_or2 A X Y)
  have HFO := Keep.keep (fun (wx : World) bs (hT : Tabs B wx) (h : TrL wx T A) (hs : SetsL wx bs vs) => fold_any B T A bs 2 vs wx hT h hs HVS.out.2 (by have := HA.out; omega) HVS.out.1 (by decide))
  have HRF := Keep.keep (fun (wx : World) bs R (h : RfL wx R A) (hs : SetsL wx bs vs) => rfold_any R A bs 2 vs wx h hs HVS.out.2 (by have := HA.out; omega) HVS.out.1 (by decide))
  rw [HSV.out] at HFO HRF
  obtain ⟨⟨c2, o2⟩, ho2⟩ : ∃ r, foldC A [X, Y] = r := ⟨_, rfl⟩
  rw [ho2] at HO2 HFO HRF
  clear ho2
  dsimp only at HO2 HFO HRF
  go_wp2_with fail
  refine calls_at (R := fun wq => Below w7.heap.size w7 wq ∧ SetsL wq w7.heap.size vs) ⟨(Below.refl _ _).alloc (Nat.le_refl _) _, HSN.out _ HLV7.out⟩ ?_
  intro w8 Hq
  have hb := Hq.out.1
  have HV8 := Keep.keep (HV.out.on hb)
  have HU8 := Keep.keep (HU7.out.on hb)
  have HT28 := Keep.keep (HT27.out.on hb)
  have HLV8 := Keep.keep (HLV7.out.on hb)
  have HW8 := Keep.keep (HW7.out.trans (hb.mono HW7.out.size))
  refine (HFO.out w8 _ (HT.out.on (HW8.out.mono HT.out.b)) HLV8.out.t Hq.out.2).mono ?_
  rintro e w9 ⟨⟨pp, rfl, hpp⟩, hb⟩
  have HP := Keep.keep hpp
  have HV9 := Keep.keep (HV8.out.on hb)
  have HU9 := Keep.keep (HU8.out.on hb)
  have HT29 := Keep.keep (HT28.out.on hb)
  have HLV9 := Keep.keep (HLV8.out.on hb)
  have HW9 := Keep.keep (HW8.out.trans (hb.mono HW8.out.size))
  clear hpp hb HV HV8 HU7 HU8 HT27 HT28 HLV7 HLV8 HW7 HW8 HFO Hq
  go_wp2_with fail
  refine (of19_any HLV9.out.t (by have := HA.out; omega)).mono ?_
  rintro e w10 ⟨R2, rfl, hR, hb⟩
  have HR := Keep.keep hR
  have HPA := Keep.keep (HP.out.on hb)
  have HVA := Keep.keep (HV9.out.on hb)
  have HUA := Keep.keep (HU9.out.on hb)
  have HT2A := Keep.keep (HT29.out.on hb)
  have HLVA := Keep.keep (HLV9.out.on hb)
  have HWA := Keep.keep (HW9.out.trans (hb.mono HW9.out.size))
  clear hR hb HP HV9 HU9 HT29 HLV9 HW9
  go_wp2_with fail
  refine calls_at (R := fun wq => Below w10.heap.size w10 wq ∧ SetsL wq w10.heap.size vs) ⟨(Below.refl _ _).alloc (Nat.le_refl _) _, HSN.out _ HLVA.out⟩ ?_
  intro w11 Hq
  have hb := Hq.out.1
  refine (HRF.out w11 _ R2 (HR.out.on hb) Hq.out.2).mono ?_
  rintro e w12 ⟨⟨pq, rfl, hpq⟩, hb2⟩
  replace hb := hb.trans (hb2.mono hb.size)
  have HQ := Keep.keep hpq
  have HPB := Keep.keep (HPA.out.on hb)
  have HVB := Keep.keep (HVA.out.on hb)
  have HUB := Keep.keep (HUA.out.on hb)
  have HT2B := Keep.keep (HT2A.out.on hb)
  have HLVB := Keep.keep (HLVA.out.on hb)
  have HWB := Keep.keep (HWA.out.trans (hb.mono HWA.out.size))
  clear hpq hb hb2 HPA HVA HUA HT2A HLVA HWA HR HRF Hq HSN HSV HVS
  have hc1 : (c1 != c1) = false := by simp
  have hc2 : (c2 != c2) = false := by simp
  go_wp2_with fail
  refine (same19_any HUB.out HVB.out (fun t h => by have := HO1.out t h; have := HA.out; have := HX.out.1; omega)).mono ?_
  rintro e w13 ⟨rfl, hb⟩
  have HPC := Keep.keep (HPB.out.on hb)
  have HQC := Keep.keep (HQ.out.on hb)
  have HT2C := Keep.keep (HT2B.out.on hb)
  have HLVC := Keep.keep (HLVB.out.on hb)
  have HWC := Keep.keep (HWB.out.trans (hb.mono HWB.out.size))
  clear hb HPB HQ HVB HUB HT2B HLVB HWB
  go_wp2_with fail
  refine (same19_any HPC.out HQC.out (fun t h => by have := HO2.out t h; have := HA.out; have := HX.out.1; have := HY.out.1; omega)).mono ?_
  rintro e w14 ⟨rfl, hb⟩
  have HT2D := Keep.keep (HT2C.out.on hb)
  have HLVD := Keep.keep (HLVC.out.on hb)
  have HWD := Keep.keep (HWC.out.trans (hb.mono HWC.out.size))
  clear hb HPC HQC HT2C HLVC HWC HO1 HO2
  have HMY1 := Keep.keep (chmay_any _ _ B w14 (HT.out.on (HWD.out.mono HT.out.b)) HLVD.out.y HLY.out.2.2 (by have := HLY.out.2.1; omega))
  have HMY2 := Keep.keep (fun (wx : World) (hv : MbL wx (.slice ay ny cy) ly) => rmay19_any _ ly wx hv HLY.out.2.2 (by have := HLY.out.2.1; omega))
  generalize mayC (ly.map (·.1)) = cm at *
  have hcm : (cm != cm) = false := by simp
  go_wp2_with fail
  refine HMY1.out.mono ?_
  rintro e w15 ⟨rfl, hb⟩
  have HT2E := Keep.keep (HT2D.out.on hb)
  have HLVE := Keep.keep (HLVD.out.on hb)
  have HWE := Keep.keep (HWD.out.trans (hb.mono HWD.out.size))
  clear hb HT2D HLVD HWD HMY1
  go_wp2_with fail
  refine (HMY2.out w15 HLVE.out.y).mono ?_
  rintro e w16 ⟨rfl, hb⟩
  have HT2F := Keep.keep (HT2E.out.on hb)
  have HLVF := Keep.keep (HLVE.out.on hb)
  have HWF := Keep.keep (HWE.out.trans (hb.mono HWE.out.size))
  clear hb HT2E HLVE HWE HMY2
  go_wp2_with fail
  refine (same_tr HLVF.out.t HT2F.out (by have := HA.out; omega) rfl).mono ?_
  rintro e w17 ⟨rfl, hb⟩
  have HLVG := Keep.keep (HLVF.out.on hb)
  have HWG := Keep.keep (HWF.out.trans (hb.mono HWF.out.size))
  clear hb HT2F HLVF HWF
  go_wp2_with fail
  refine (all_tr HLVG.out.t (by have := HA.out; omega)).mono ?_
  rintro e w18 ⟨vt, lt, rfl, hlt, hrow, hb⟩
  have HLT : Keep (lt.length ≤ 280 ∧ ∀ x ∈ lt, Sm x.1) := ⟨by have := HA.out; rw [← hlt, List.length_map] at this; exact this, sm_mapX (by rw [hlt]; exact HLVG.out.t.sm)⟩
  have HBA := Keep.keep hb
  have HRW := Keep.keep (hrow.lower (Nat.le_refl _) (fun b (h : NoM b) => (show b < w17.heap.size from h.elim)))
  have HSZ : Keep (w17.heap.size ≤ w18.heap.size) := ⟨hb.size⟩
  have HYG : Keep (Mbs w18 (· < w17.heap.size) (· < w17.heap.size) (.slice ay ny cy) ly) := ⟨Mbs.below HLVG.out.y hb (fun _ h => h) (fun _ h => h)⟩
  obtain ⟨at', ct, hvt, -⟩ := (ownsV_reads hrow.own).shape
  obtain ⟨nt, hnt⟩ : ∃ n, lt.length = n := ⟨_, rfl⟩
  rw [hnt] at hvt
  clear hlt hrow hb hnt
  subst hvt
  go_wp2_with (with_reducible refine arm_stop ?_)
  refine Stopped.out ?_
  refine arm_appM (B := w17.heap.size) HRW.out HSZ.out HYG.out (fun b hb => ⟨.inl hb, Nat.lt_of_lt_of_le hb HSZ.out, fun e => by have := (HRW.out.lt e).1; omega⟩) (by have := HLT.out.1; have := HLY.out.2.1; omega) rfl rfl ?_
  intro v4 w19 hr4 hg4 hov4 hsh4
  obtain ⟨a4, c4, rfl⟩ := hsh4
  have hb := HBA.out.trans (HRW.out.chg HSZ.out hg4)
  have HR4 := Keep.keep hr4
  have HLVI := Keep.keep (HLVG.out.on hb)
  have HWI := Keep.keep (HWG.out.trans (hb.mono HWG.out.size))
  obtain ⟨lz, hlz⟩ : ∃ q, lt ++ ly = q := ⟨_, rfl⟩
  obtain ⟨nn, hnn⟩ : ∃ q, lt.length + ly.length = q := ⟨_, rfl⟩
  have HLZ : Keep (lz.length = nn ∧ nn ≤ 560 ∧ ∀ x ∈ lz, Sm x.1) := ⟨by rw [← hlz, ← hnn, List.length_append], by have := HLT.out.1; have := HLY.out.2.1; omega, fun x hx => by
    rw [← hlz] at hx
    rcases List.mem_append.1 hx with h | h
    · exact HLT.out.2 x h
    · exact HLY.out.2.2 x h⟩
  rw [hlz, hnn] at HR4
  rw [hnn]
  clear hb hr4 hg4 hov4 HRW HBA HLVG HWG HYG HSZ hlz hnn HLT HLY
  have hn5 : nn ≤ 560 := HLZ.out.2.1
  simp only [Act.put, List.setIfInBounds_toArray, List.set_cons_succ, List.set_cons_zero]
  go_wp2_with fail
  go_loopg [103] nn (fun g u103 wx => ∃ k : Nat, k + g = nn ∧ u103 = .int .i64 (k : Int) ∧ Below w19.heap.size w19 wx)
  focus
    exact ⟨0, by omega, rfl, Below.refl _ _⟩
  obtain ⟨k, hkg, rfl, hbk⟩ := hrel
  have HBK := Keep.keep hbk
  clear hbk
  cases gk
  rotate_left
  focus
    rename_i g hnext
    have hk : k < nn := by omega
    have hkl : k < lz.length := by have := HLZ.out.1; omega
    have hd : decide ((k : Int) < (nn : Int)) = true := decide_eq_true (by omega)
    have HRX := Keep.keep (HR4.out.below HBK.out)
    obtain ⟨g2, rfl⟩ : ∃ g2, a4 = some ⟨g2, 0, none⟩ := by
      rcases HRX.out.own.2 with ⟨h1, h2⟩ | ⟨g', cap', cur, h1, -⟩
      · omega
      · injection h1 with h1; exact ⟨g', h1⟩
    have hown := HRX.out.own
    rw [HLZ.out.1] at hown
    have hld := own_loadAt hown (HLZ.out.1.symm) (List.getElem?_eq_getElem hkl)
    have hsx := HLZ.out.2.2 lz[k] (List.getElem_mem hkl)
    have HND := Keep.keep (HRX.out.nd lz[k] (List.getElem_mem hkl))
    clear hown
    generalize lz[k] = x at *
    obtain ⟨⟨xp, ⟨kind, mode, uid, gid, time, attrs, data, link⟩⟩, av, dv⟩ := x
    obtain ⟨aa1, la1, ca1, ad1, ld1, cd1, e1, e2⟩ := HND.out.shape
    dsimp only at e1 e2 hsx
    subst e1 e2
    have hxl := hsx.p
    dsimp only at hxl
    have HMC : Keep (mcell ((xp, ⟨kind, mode, uid, gid, time, attrs, data, link⟩), .slice aa1 la1 ca1, .slice ad1 ld1 cd1) = #[.string ⟨xp.toArray⟩, .int .i64 kind, .int .u32 mode, .int .u32 uid, .int .u32 gid, .int .i64 time, .slice aa1 la1 ca1, .slice ad1 ld1 cd1, .string ⟨link.toArray⟩]) := ⟨rfl⟩
    rw [HMC.out] at hld
    clear hsx
    go_upto_region 13 with ((with_reducible refine arm_loadM hld ?_ ?_); (focus rfl); simp only [Act.put, List.setIfInBounds_toArray, List.set_cons_succ, List.set_cons_zero])
    refine wp_world (R := fun wq => Hp NoM wr wq [rowA wr.heap.size 32 #[.string ⟨xp.toArray⟩, .int .i64 kind, .int .u32 mode, .int .u32 uid, .int .u32 gid, .int .i64 time, .slice aa1 la1 ca1, .slice ad1 ld1 cd1, .string ⟨link.toArray⟩]]) ((Hp.begin NoM wr).newRow _ _) ?_
    intro w20 H5
    obtain ⟨b12, hb12⟩ : ∃ b, wr.heap.size = b := ⟨_, rfl⟩
    have HB5 := Keep.keep (HBK.out.trans (H5.out.below.mono HBK.out.size))
    rw [hb12] at H5 ⊢
    have HR12 := Keep.keep (H5.out.row 0 rfl)
    clear hld hb12 H5 HND
    have HXP : Keep (∀ wx, Below w20.heap.size w20 wx → wx.cell? ⟨b12, 0, none⟩ = some (.string ⟨xp.toArray⟩)) := ⟨fun wx hb => (HR12.out.below hb HR12.out.lt).cell (i := 0) rfl⟩
    have HLW := Keep.keep (HLVI.out.on HB5.out)
    have HWW := Keep.keep (HWI.out.trans (HB5.out.mono HWI.out.size))
    have HCS := Keep.keep (fun (wx : World) (hb : Below w20.heap.size w20 wx) => cstays_any B _ lx xp wx (HT.out.on ((HWW.out.trans (hb.mono HWW.out.size)).mono HT.out.b)) (HLW.out.on hb).x HLX.out.2.2 (by have := HLX.out.2.1; omega) (by omega))
    have HRS := Keep.keep (fun (wx : World) (hb : Below w20.heap.size w20 wx) => rstays_any _ lx xp hxl wx (HLW.out.on hb).x HLX.out.2.2 (by have := HLX.out.2.1; omega))
    generalize staysC (lx.map (·.1)) xp = sy at *
    have hsy : (sy != sy) = false := by simp
    refine wp_region_cls (fun w' => Below w20.heap.size w20 w') (by kernel_rfl) (by kernel_rfl) (Below.refl _ _).drew ?_
    repeat (first
      | ((with_reducible refine cls_cell ?_ HXP.out (run_isAgg_plain Tryz.underlying9 rfl) ?_ ?_); (focus rfl); (focus rfl); simp only [Act.put, List.setIfInBounds_toArray, List.set_cons_succ, List.set_cons_zero])
      | ((with_reducible refine cls_call (f := 19) ?_ (Go.Proofs.enters_of Tryz.func19 (by kernel_rfl) rfl) ?_ (fun w1 hw1 => (HCS.out w1 hw1).mono (fun e w2 he => ⟨he.1, hw1.trans (he.2.mono hw1.size)⟩)) ?_); (focus rfl); (focus (first | exact Array.map_empty | (simp only [List.map_toArray, List.map_cons, List.map_nil]; rfl))); simp only [Act.put, List.setIfInBounds_toArray, List.set_cons_succ, List.set_cons_zero])
      | ((with_reducible refine cls_call (f := 39) ?_ (Go.Proofs.enters_of Tryz.func39 (by kernel_rfl) rfl) ?_ (fun w1 hw1 => (HRS.out w1 hw1).mono (fun e w2 he => ⟨he.1, hw1.trans (he.2.mono hw1.size)⟩)) ?_); (focus rfl); (focus (first | exact Array.map_empty | (simp only [List.map_toArray, List.map_cons, List.map_nil]; rfl))); simp only [Act.put, List.setIfInBounds_toArray, List.set_cons_succ, List.set_cons_zero])
      | (first | go_big_quiet_step (fail) | (go_big_quiet_want; go_big_quiet_op; (refine ⟨_, fun _ _ => rfl, ?_⟩); go_big_quiet_on)))
    (refine wpQuiet_nil ?_); intro w21 hw21
    have HB6 := Keep.keep (HB5.out.trans (hw21.mono HB5.out.size))
    clear hw21 HCS HRS HXP HLW HWW HB5 HR12
    go_wp2_with fail
    go_roundg g
    case measure => omega
    case rel => exact ⟨k + 1, by omega, by simp, HB6.out⟩
  obtain rfl : k = nn := by omega
  have HWJ := Keep.keep (HWI.out.trans (HBK.out.mono HWI.out.size))
  go_wp2_with fail
  refine (wakes19_any B wr (HT.out.on (HWJ.out.mono HT.out.b))).mono ?_
  rintro e w22 ⟨rfl, hb⟩
  have HWK := Keep.keep (HWJ.out.trans (hb.mono HWJ.out.size))
  clear hb
  go_wp2_with fail
  go_ret
  exact ⟨rfl, HWK.out⟩
end Go.Proofs.YtplafpokgpolkaaGreatDoor
/- ARGUMENTS WITH SLICES WITHIN SLICES, OPENED: what lies deeper has no word of its own on its blocks; its cells tell them. -/
namespace Go.Proofs.YtplafpokgpolkaaGreatDoor
open Go.ChangeShapes Go.WideShapes Go.ChangeAt Go.RowKit
theorem cell_spot {w : World} {a : Addr} {v : Value} (h : w.cell? a = some v) : a.spot = none ∧ a.block < w.heap.size := by
  unfold World.cell? at h
  split at h
  · rename_i c e fr hb
    split at h
    · cases h
    · rename_i hs
      exact ⟨by simpa using hs, (Array.getElem?_eq_some_iff.1 hb).1⟩
  · cases h
/-- a []byte that lies anywhere within an argument -/
theorem reads_of_trod {P : Program} {H : Type} {enc : TypeId × Value → H} {t e : TypeId} {held : Bool} {fuel : Nat} (ht : P.underlying t = some (.slice e)) (he : P.underlying e = some (.int .u8)) (hc : P.cellsOf e = 1) {W : World} {v : Value} {x : DataW H × List MemPlace}
    (hf : DataW.trod enc P W 0 (fun _ => true) held fuel t [v] = some x) : ∃ l, Reads W (fun b => b < W.heap.size) v l := by
  rcases open_ints ht he hc hf with ⟨hcs, hx⟩ | ⟨⟨b, off, sp⟩, len, cap, zs, hcs, _, hl, hm, hz, hx, hcell, hwz⟩
  · injection hcs with hcs _
    subst hcs
    exact ⟨[], Reads.ofNil⟩
  · injection hcs with hcs _
    subst hcs
    simp only [if_true] at hz
    have hsp : cap = 0 ∨ (sp = none ∧ b < W.heap.size) := by
      rcases Nat.eq_zero_or_pos cap with h | h
      · exact .inl h
      · have := cell_spot (hcell 0 (by omega))
        exact .inr this
    refine ⟨(zs.take len).map fun x => UInt8.ofNat x.toNat, ⟨some ⟨b, off, sp⟩, cap, ?_, ?_, hm, ?_⟩, fun b' off' n' c' he' j hj => ?_⟩
    · congr 1; simp; omega
    · simp; omega
    · rcases hsp with h | ⟨rfl, h⟩
      · exact .inl h
      · exact .inr ⟨b, off, rfl, h⟩
    · injection he' with e1 _ _; injection e1 with e1; injection e1 with e1 e2 e3; subst e1 e2 e3
      have hj' : j < len := by simp at hj; omega
      have hjz : j < zs.length := by omega
      have hc := hcell j hjz
      rw [Addr.add_mid] at hc
      rw [hc]
      have hw := hwz _ (List.getElem_mem hjz)
      have hm1 : IntKind.u8.min = 0 := rfl
      have hm2 : IntKind.u8.max = 255 := rfl
      simp only [Lit.wf, Bool.and_eq_true, decide_eq_true_eq, hm1, hm2] at hw
      simp only [List.getElem_map, List.getElem_take, List.getD_eq_getElem?_getD, List.getElem?_eq_getElem hjz, Option.getD_some, UInt8.toNat_ofNat']
      congr 2
      omega
end Go.Proofs.YtplafpokgpolkaaGreatDoor
/- ARGUMENTS THAT ARE SLICES OF MEMBERS, OR OF ACTS, OPENED. -/
namespace Go.Proofs.YtplafpokgpolkaaGreatDoor
open Go.ChangeShapes Go.WideShapes Go.ChangeAt Go.RowKit
section
variable {H : Type} {enc : TypeId × Value → H} {W : World} {fuel : Nat} {x : DataW H × List MemPlace}
theorem str_of_trod {v : Value} (h : DataW.trod enc Tryz.prog W 0 (fun _ => true) true fuel 9 [v] = some x) : ∃ l : Tx, v = strV l ∧ l.length ≤ maxLen := by
  obtain ⟨⟨⟨l⟩⟩, e, _, hm⟩ := DataW.trod_string Tryz.underlying9 h
  injection e with e _
  exact ⟨l, e, hm⟩
theorem attrs_of_trod {v : Value} (hf : DataW.trod enc Tryz.prog W 0 (fun _ => true) true fuel 27 [v] = some x) : ∃ l : List R2, RdV W (· < W.heap.size) 2 v l.length (rcells l) := by
  rcases Deep.open_slice_pairs Tryz.underlying27 Tryz.underlying97 (by kernel_rfl) rfl rfl (by kernel_rfl) (by kernel_rfl) hf with ⟨hcs, _⟩ | ⟨⟨b, off, sp⟩, len, cap, m, n, V0, V1, D0, D1, P0, P1, hcs, _, hl, hm, hmm, _, hx⟩
  · injection hcs with hcs _
    subst hcs
    exact ⟨[], RdV.ofNil⟩
  · injection hcs with hcs _
    subst hcs
    simp only [if_true] at hmm
    have hsp : cap = 0 ∨ (sp = none ∧ b < W.heap.size) := by
      rcases Nat.eq_zero_or_pos cap with h | h
      · exact .inl h
      · exact .inr (cell_spot (hx 0 (by omega)).1)
    have key : ∀ i, i < m → ∃ q : R2, V0 i = strV q.1 ∧ V1 i = strV q.2 := fun i hi => by
      obtain ⟨_, _, t0, t1⟩ := hx i hi
      obtain ⟨l0, e0, _⟩ := str_of_trod t0
      obtain ⟨l1, e1, _⟩ := str_of_trod t1
      exact ⟨(l0, l1), e0, e1⟩
    obtain ⟨q, hq⟩ := Deep.choose_lt (α := R2) key
    have hll : ((List.range len).map q).length = len := by simp
    refine ⟨(List.range len).map q, rcells_length _, ⟨_, cap, by rw [hll], by omega, hm, ?_⟩, ?_⟩
    · rcases hsp with h | ⟨rfl, h⟩
      · exact .inl h
      · exact .inr ⟨b, off, rfl, h⟩
    · intro b' off' m' c' he j u hu
      injection he with e1 _ _; injection e1 with e1; injection e1 with e1 e2 e3; subst e1 e2 e3
      have hj := (List.getElem?_eq_some_iff.1 hu).1
      rw [rcells_length, hll] at hj
      obtain ⟨i, hi⟩ : ∃ i, i = j / 2 := ⟨_, rfl⟩
      have hil : i < len := by omega
      have hrg := rcells_get ((List.range len).map q) i (by rw [hll]; exact hil)
      have hqi : ((List.range len).map q)[i]'(by rw [hll]; exact hil) = q i := by simp
      rw [hqi] at hrg
      obtain ⟨k0, k1, _, _⟩ := hx i (by omega)
      obtain ⟨s0, s1⟩ := hq i (by omega)
      rw [Addr.add_mid] at k0 k1
      rcases (by omega : j = i * 2 ∨ j = i * 2 + 1) with rfl | rfl
      · rw [hrg.1] at hu; injection hu with hu
        rw [k0, s0, hu]
      · rw [hrg.2] at hu; injection hu with hu
        rw [← Nat.add_assoc, ← hu, ← s1]
        rw [← Nat.add_assoc] at k1
        exact k1
theorem cOne : Tryz.prog.cellsOf 3 = 1 ∧ Tryz.prog.cellsOf 26 = 1 ∧ Tryz.prog.cellsOf 2 = 1 ∧ Tryz.prog.cellsOf 27 = 1 ∧ Tryz.prog.cellsOf 28 = 1 ∧ Tryz.prog.cellsOf 9 = 1 ∧ Tryz.prog.cellsOf 4 = 1 ∧ Tryz.prog.cellsOf 30 = 8 ∧ Tryz.prog.cellsOf 32 = 9 := ⟨by kernel_rfl, by kernel_rfl, by kernel_rfl, by kernel_rfl, by kernel_rfl, by kernel_rfl, by kernel_rfl, by kernel_rfl, by kernel_rfl⟩
set_option maxRecDepth 100000 in
theorem node_of_trod {cs : List Value} (hf : DataW.trod enc Tryz.prog W 0 (fun _ => true) true fuel 30 cs = some x) :
    ∃ n av dv, cs = (ndC n av dv).toList ∧ NdR W (· < W.heap.size) n av dv ∧ -9223372036854775808 ≤ n.kind ∧ n.kind ≤ 9223372036854775807 := by
  obtain ⟨xs, k, -, -, hlen, hxs, hg⟩ := DataW.trod_struct Tryz.underlying30 hf
  obtain ⟨c1, c2, c3, c4, c5, c6, c7, c8, -⟩ := cOne
  rw [c8] at hlen
  obtain ⟨v0, v1, v2, v3, v4, v5, v6, v7, rfl⟩ : ∃ v0 v1 v2 v3 v4 v5 v6 v7, cs = [v0, v1, v2, v3, v4, v5, v6, v7] := by
    match cs, hlen with
    | [v0, v1, v2, v3, v4, v5, v6, v7], _ => exact ⟨v0, v1, v2, v3, v4, v5, v6, v7, rfl⟩
  obtain ⟨y0, y1, y2, y3, y4, y5, y6, y7, rfl⟩ : ∃ y0 y1 y2 y3 y4 y5 y6 y7, xs = [y0, y1, y2, y3, y4, y5, y6, y7] := by
    match xs, hxs with
    | [v0, v1, v2, v3, v4, v5, v6, v7], _ => exact ⟨v0, v1, v2, v3, v4, v5, v6, v7, rfl⟩
  have g0 := hg 0 _ rfl
  have g1 := hg 1 _ rfl
  have g2 := hg 2 _ rfl
  have g3 := hg 3 _ rfl
  have g4 := hg 4 _ rfl
  have g5 := hg 5 _ rfl
  have g6 := hg 6 _ rfl
  have g7 := hg 7 _ rfl
  simp only [List.getElem?_cons_zero, List.getElem?_cons_succ] at g0 g1 g2 g3 g4 g5 g6 g7
  obtain ⟨n0, h0, _, w0⟩ := DataW.trod_int Tryz.underlying3 g0
  obtain ⟨n1, h1, _, _⟩ := DataW.trod_int Tryz.underlying26 g1
  obtain ⟨n2, h2, _, _⟩ := DataW.trod_int Tryz.underlying26 g2
  obtain ⟨n3, h3, _, _⟩ := DataW.trod_int Tryz.underlying26 g3
  obtain ⟨n4, h4, _, _⟩ := DataW.trod_int Tryz.underlying2 g4
  obtain ⟨l5, h5⟩ := attrs_of_trod g5
  obtain ⟨l6, h6⟩ := reads_of_trod Tryz.underlying28 Tryz.underlying5 (by kernel_rfl) g6
  obtain ⟨l7, h7, _⟩ := str_of_trod g7
  injection h0 with h0 _; injection h1 with h1 _; injection h2 with h2 _; injection h3 with h3 _; injection h4 with h4 _
  subst h0 h1 h2 h3 h4 h7
  have hm1 : IntKind.i64.min = -9223372036854775808 := rfl
  have hm2 : IntKind.i64.max = 9223372036854775807 := rfl
  simp only [Lit.wf, Bool.and_eq_true, decide_eq_true_eq, hm1, hm2] at w0
  exact ⟨⟨n0, n1, n2, n3, n4, l5, l6, l7⟩, v5, v6, rfl, ⟨h5, h6⟩, by exact w0⟩
set_option maxRecDepth 100000 in
theorem mb_of_trod {cs : List Value} (hf : DataW.trod enc Tryz.prog W 0 (fun _ => true) true fuel 32 cs = some x) :
    ∃ y : Mv, cs = (mcell y).toList ∧ NdR W (· < W.heap.size) y.1.2 y.2.1 y.2.2 ∧ Kb y.1 := by
  obtain ⟨xs, k, -, -, hlen, hxs, hg⟩ := DataW.trod_struct Tryz.underlying32 hf
  obtain ⟨c1, c2, c3, c4, c5, c6, c7, c8, c9⟩ := cOne
  rw [c9] at hlen
  obtain ⟨v0, v1, v2, v3, v4, v5, v6, v7, v8, rfl⟩ : ∃ v0 v1 v2 v3 v4 v5 v6 v7 v8, cs = [v0, v1, v2, v3, v4, v5, v6, v7, v8] := by
    match cs, hlen with
    | [v0, v1, v2, v3, v4, v5, v6, v7, v8], _ => exact ⟨v0, v1, v2, v3, v4, v5, v6, v7, v8, rfl⟩
  obtain ⟨y0, y1, rfl⟩ : ∃ y0 y1, xs = [y0, y1] := by
    match xs, hxs with
    | [v0, v1], _ => exact ⟨v0, v1, rfl⟩
  have g0 := hg 0 _ rfl
  have g1 := hg 1 _ rfl
  simp only [List.getElem_toArray, List.getElem_cons_succ, List.getElem_cons_zero, c6, c8, List.drop_succ_cons, List.drop_zero, List.take_succ_cons, List.take_zero, List.getElem?_cons_zero, List.getElem?_cons_succ] at g0 g1
  obtain ⟨l0, h0, _⟩ := str_of_trod g0
  obtain ⟨n, av, dv, h1, h2, h3⟩ := node_of_trod g1
  subst h0
  refine ⟨((l0, n), av, dv), ?_, h2, h3⟩
  rw [h1]; rfl
set_option maxRecDepth 100000 in
/-- a slice of rows of k cells -/
theorem slice_of_trod {α : Type} [Inhabited α] {t e : TypeId} {k : Nat} (ht : Tryz.prog.underlying t = some (.slice e)) (hk : Tryz.prog.cellsOf e = k) (hk0 : 0 < k) (cl : α → List Value) (hcl : ∀ a, (cl a).length = k) (p : α → Prop) (cells : List α → List Value) (hlen : ∀ l, (cells l).length = l.length * k)
    (hcells : ∀ (l : List α) (j i : Nat) (h : j < l.length), i < k → (cells l)[j * k + i]? = (cl l[j])[i]?)
    (hel : ∀ (n : Nat) (cs : List Value) (y : DataW H × List MemPlace), DataW.trod enc Tryz.prog W 0 (fun _ => true) true n e cs = some y → ∃ a, cs = cl a ∧ p a)
    {v : Value} (hf : DataW.trod enc Tryz.prog W 0 (fun _ => true) true fuel t [v] = some x) : ∃ l : List α, RdV W (· < W.heap.size) k v l.length (cells l) ∧ ∀ a ∈ l, p a := by
  rcases Deep.open_slice ht hf with ⟨hcs, _⟩ | ⟨⟨b, off, sp⟩, len, cap, m, n, D, Pl, hcs, _, hl, hm, hmm, _, hx⟩
  · injection hcs with hcs _
    subst hcs
    refine ⟨[], ⟨by simp [hlen], ⟨_, _, rfl, Nat.zero_le _, Nat.zero_le _, .inl rfl⟩, fun _ _ _ _ e j u hu => by cases e⟩, fun a ha => (List.not_mem_nil ha).elim⟩
  · injection hcs with hcs _
    subst hcs
    simp only [if_true] at hmm
    rw [hk] at hx
    have key : ∀ i, i < m → ∃ a, (∀ j u, (cl a)[j]? = some u → W.cell? ((⟨b, off, sp⟩ : Addr).add (i * k + j)) = some u) ∧ p a := fun i hi => by
      obtain ⟨cs', h1, h2⟩ := hx i hi
      obtain ⟨_, hl', hcell⟩ := World.cells?_some h1
      obtain ⟨a, rfl, hp⟩ := hel _ _ _ h2
      refine ⟨a, fun j u hj => ?_, hp⟩
      have hjl := (List.getElem?_eq_some_iff.1 hj).1
      rw [hcl] at hjl
      have := hcell j hjl
      rw [Deep.add_add] at this
      rw [this]; exact hj
    obtain ⟨q, hq⟩ := Deep.choose_lt (α := α) key
    have hsp : cap = 0 ∨ (sp = none ∧ b < W.heap.size) := by
      rcases Nat.eq_zero_or_pos cap with h | h
      · exact .inl h
      · have h0 := (hq 0 (by omega)).1 0 ((cl (q 0))[0]'(by rw [hcl]; exact hk0)) (List.getElem?_eq_getElem _)
        rw [Nat.zero_mul, Nat.add_zero] at h0
        exact .inr (cell_spot h0)
    have hll : ((List.range len).map q).length = len := by simp
    refine ⟨(List.range len).map q, ⟨hlen _, ⟨_, cap, by rw [hll], by omega, hm, ?_⟩, ?_⟩, fun a ha => ?_⟩
    · rcases hsp with h | ⟨rfl, h⟩
      · exact .inl h
      · exact .inr ⟨b, off, rfl, h⟩
    · intro b' off' m' c' he j u hu
      injection he with e1 _ _; injection e1 with e1; injection e1 with e1 e2 e3; subst e1 e2 e3
      have hj := (List.getElem?_eq_some_iff.1 hu).1
      rw [hlen, hll] at hj
      have hil : j / k < len := Nat.div_lt_of_lt_mul (by rw [Nat.mul_comm]; exact hj)
      have hjk : j / k * k + j % k = j := Nat.div_add_mod' j k
      have hrg := hcells ((List.range len).map q) (j / k) (j % k) (by rw [hll]; exact hil) (Nat.mod_lt _ hk0)
      rw [hjk, hu] at hrg
      have hqi : ((List.range len).map q)[j / k]'(by rw [hll]; exact hil) = q (j / k) := by simp
      rw [hqi] at hrg
      have := (hq (j / k) (by omega)).1 (j % k) u hrg.symm
      rw [hjk, Addr.add_mid] at this
      exact this
    · obtain ⟨i, hi, rfl⟩ := List.mem_map.1 ha
      exact (hq i (by have := List.mem_range.1 hi; omega)).2
instance : Inhabited Nd := ⟨⟨0, 0, 0, 0, 0, [], [], []⟩⟩
set_option maxRecDepth 100000 in
/-- AN ARGUMENT OF TYPE []Member, OPENED -/
theorem opened_mbs {r : Reach} {base : Nat} {v : Value} {d : DataW H} {ps : List MemPlace} (hok : Value.okWide Tryz.prog W r base 35 v) (h0 : DataW.Trod enc Tryz.prog W 0 (fun _ => true) true 35 v d ps) :
    ∃ l : List Mv, Mbs W (· < W.heap.size) (· < W.heap.size) v l ∧ ∀ a ∈ l, Kb a.1 := by
  obtain ⟨fuel, hf⟩ := h0
  replace hf : DataW.trod enc Tryz.prog W 0 (fun _ => true) true fuel 35 [v] = some (d, ps) := by
    rcases okSlice Tryz.underlying35 hok with rfl | ⟨b, off, len, cap, rfl, -, -, -⟩ <;> exact hf
  obtain ⟨l, h1, h2⟩ := slice_of_trod (α := Mv) (k := 9) Tryz.underlying35 (by kernel_rfl) (by decide) (fun y => (mcell y).toList) mcell_len (fun y => NdR W (· < W.heap.size) y.1.2 y.2.1 y.2.2 ∧ Kb y.1) mcells mcells_length (fun l j i h hi => by rw [mcells_get l j i h hi]; simp) (fun n cs y h => mb_of_trod h) hf
  exact ⟨l, ⟨h1, fun a ha => (h2 a ha).1⟩, fun a ha => (h2 a ha).2⟩
end
end Go.Proofs.YtplafpokgpolkaaGreatDoor
/- WHAT THE ROWS' LISTED VARIABLES AND THE WORLD'S SHAPE GIVE; and a world that holds the listed variables. -/
namespace Go.Proofs.YtplafpokgpolkaaGreatDoor
open Go.ChangeShapes Go.WideShapes Go.ChangeAt Go.RowKit
theorem mx_of_shape {W : World} (h : W.ShapedOpen Tryz.prog) : Mx W.heap.size W := by
  obtain ⟨m, hm⟩ : ∃ m, W.cell? ⟨2, 0, none⟩ = some (.int .i64 m) := Go.Proofs.cell_of_shapedOpen_int (zero := #[.int .i64 0]) (t := 3) h (of_decide_eq_true (by kernel_rfl)) (by kernel_rfl) rfl (by kernel_rfl) (by kernel_rfl) Tryz.underlying3
  exact ⟨World.block_lt_of_cell? W _ hm, m, hm⟩
/-- what the laws of the trees ask of the world -/
theorem tabs_of {W : World} {l : List (String × DataW Unit)} (hL : laidMetH Tryz.prog l W) (hsh : W.ShapedOpen Tryz.prog) (hc : ("portolan/path.classes", Rows.laid_portolan_path_classes) ∈ l) (ht : ("portolan/tar.types", Rows.laid_portolan_tar_types) ∈ l) : Tabs W.heap.size W :=
  ⟨Nat.le_refl _, mx_of_shape hsh, cls_of_laid hL hc, typ_of_laid (laidMetH_iff.1 hL).1 (List.mem_filter.2 ⟨ht, rfl⟩)⟩
/-- A WORLD FOR THE WITNESS -/
def layRow (c : Array Value) : Obj → Obj
  | .cells _ t frozen => .cells c t frozen
  | o => o
def classesMap : Obj := .map #[⟨.int .i64 1, .func (.func 215) #[] #[], 0⟩, ⟨.int .i64 2, .func (.func 216) #[] #[], 1⟩, ⟨.int .i64 3, .func (.func 217) #[] #[], 2⟩] 3
def typesMap : Obj := .map #[⟨.int .i64 1, .int .u8 53, 0⟩, ⟨.int .i64 2, .int .u8 48, 1⟩, ⟨.int .i64 3, .int .u8 50, 2⟩, ⟨.int .i64 4, .int .u8 54, 3⟩] 4
noncomputable def lowM : Nat := (World.holding Tryz.prog default ⟨#[], #[], []⟩).heap.size
noncomputable def laidWorld (os : Os) : World :=
  let w0 := World.holding Tryz.prog os ⟨#[classesMap, typesMap], #[], []⟩
  let h2 := Array.modify w0.heap 4 (layRow ((List.range 16).flatMap fun i => [Value.int .u8 (Lib.accLo i), Value.int .u8 (Lib.accHi i)]).toArray)
  let h3 := Array.modify h2 3 (layRow (Lib.firstTab.map fun z => Value.int .u8 z).toArray)
  let h4 := Array.modify h3 0 (layRow #[.map (some lowM)])
  let h5 := Array.modify h4 1 (layRow #[.map (some (lowM + 1))])
  { w0 with heap := h5 }
end Go.Proofs.YtplafpokgpolkaaGreatDoor
