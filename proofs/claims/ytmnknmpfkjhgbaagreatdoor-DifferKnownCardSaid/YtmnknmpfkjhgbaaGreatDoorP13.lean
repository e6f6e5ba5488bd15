/- PARTS OF ONE PROOF, set in one file: ChMay, DifE, ChOf, DfSide, DfSign, AttrEq, SpcF, Conv, Bytes. Each part tells its own conditions. -/
import Derived.Shelf.Bytes.SlEqualAll
import Derived.Lib.SlBytesConst
import Derived.Lib.SmallJoins
import Derived.Test.YtmnknmpfkjhgbaaGreatDoorP1
import Derived.Test.YtmnknmpfkjhgbaaGreatDoorP2
import Derived.Test.YtmnknmpfkjhgbaaGreatDoorP5
import Derived.Test.YtmnknmpfkjhgbaaGreatDoorP6
import Derived.Test.YtmnknmpfkjhgbaaGreatDoorP7
import Derived.Test.YtmnknmpfkjhgbaaGreatDoorP9
import Derived.Test.YtmnknmpfkjhgbaaGreatDoorP10
import Derived.Test.YtmnknmpfkjhgbaaGreatDoorP11
import Derived.Test.YtmnknmpfkjhgbaaGreatDoorP12
/- change.May. -/
namespace Go.Proofs.YtmnknmpfkjhgbaaGreatDoor
open Go.RowKit
def isDirM (S : List Mb) (q : Tx) : Bool := S.any (fun x => x.1 == q && decide (x.2.kind = 1))
/-- the map of the Dirs among S -/
def DirsIn (M : List (Tx × Value)) (S : List Mb) : Prop := ∀ q, (SM.look M q).getD (.int .i64 0) = .int .i64 (if isDirM S q = true then 1 else 0)
theorem isDirM_snoc (S : List Mb) (x : Mb) (q : Tx) : isDirM (S ++ [x]) q = (isDirM S q || (x.1 == q && decide (x.2.kind = 1))) := by unfold isDirM; simp [List.any_append]
theorem DirsIn.skip {M : List (Tx × Value)} {S : List Mb} {x : Mb} (h : DirsIn M S) (hk : x.2.kind ≠ 1) : DirsIn M (S ++ [x]) := fun q => by
  rw [h q, isDirM_snoc]; simp [hk]
theorem DirsIn.put {M : List (Tx × Value)} {S : List Mb} {x : Mb} (hs : SM.Srt M) (h : DirsIn M S) (hk : x.2.kind = 1) : DirsIn (SM.put M (x.1, .int .i64 1)) (S ++ [x]) := fun q => by
  rw [hs.look_put, isDirM_snoc]
  by_cases e : q = x.1
  · subst e; simp [hk]
  · rw [if_neg e, h q]
    have : (x.1 == q) = false := by simpa using fun e' : x.1 = q => e e'.symm
    simp [this]
theorem zeroI (w : World) : (zeroValue 3).run Tryz.prog w = .ok (.int .i64 0) w := by kernel_rfl
theorem ent_may1 : ∀ args w, (callFunc 41 args).run Tryz.prog w = .ok (.enter 41 args) w := enters_of Tryz.func41 (by kernel_rfl) rfl
set_option maxHeartbeats 1000000 in
set_option maxRecDepth 100000 in
theorem may1_any (q : Tx) (hq : q.length ≤ 1000000) (b3 mb : Nat) (M : List (Tx × Value)) (S : List Mb) (w : World) (hc : w.cell? ⟨b3, 0, none⟩ = some (.map (some mb))) (hM : MapS w 9 mb M) (hD : DirsIn M S) :
    Calls Tryz.prog 41 #[.string ⟨q.toArray⟩, .pointer (some ⟨b3, 0, none⟩)] w fun e w' => e = .returned (.bool (!isDirM S q)) ∧ Below w.heap.size w w' := by
  have hlk := hM.look1 Tryz.underlying9 Tryz.underlying73 (zeroI w) (p := q) (by unfold maxLen; omega)
  rw [hD q] at hlk
  generalize isDirM S q = b at *
  clear hM hD
  cases b with
  | true =>
    have hlk : (Instr.lookup 73 (.map (some mb)) (.string ⟨q.toArray⟩) false).run Tryz.prog w = .ok (.int .i64 1) w := hlk
    go_enter Tryz.func41, Tryz.ntmps41
    go_wp2_with fail
    go_ret
    exact ⟨rfl, Below.refl _ _⟩
  | false =>
    have hlk : (Instr.lookup 73 (.map (some mb)) (.string ⟨q.toArray⟩) false).run Tryz.prog w = .ok (.int .i64 0) w := hlk
    go_enter Tryz.func41, Tryz.ntmps41
    go_wp2_with fail
    go_ret
    exact ⟨rfl, Below.refl _ _⟩
theorem mayFrom_end (S : List Mb) (k : Nat) (hk : k = S.length) : mayFrom S k (S.drop k) = if 4096 < S.length then 42 else 0 := by
  subst hk; rw [List.drop_length]; rfl
theorem mayFrom_step {S : List Mb} {k : Nat} (hk : k < S.length) : mayFrom S k (S.drop k) = if errC S k S[k] ≠ 0 then errC S k S[k] else mayFrom S (k + 1) (S.drop (k + 1)) := by
  rw [List.drop_eq_getElem_cons hk]; rfl
/-- ARM: a load that is known, under a guard that holds -/
theorem arm_loadMG {P : Program} {ops : Array Oper} {rest : List Oper} {a : Act} {w : World} {Q : Exit → Act → World → Prop} {tp ty : TypeId} {dst : Option Tmp} {x : Operand} {pos : String} {after : Array Edge} {g : Option (Nat × Bool)} {ad : Addr} {u : Value}
    (hwt : Region.wanted (⟨dst, .load ty x, tp, pos, after, g⟩ : Oper) (yielded ops a.tmps) = true) (hr : (Instr.loadAt ty (.pointer (some ad))).run P w = .ok u w) (hx : a.eval x = .pointer (some ad)) (h : wpList P ops Q rest (a.put dst u) w) : wpList P ops Q (⟨dst, .load ty x, tp, pos, after, g⟩ :: rest) a w := by
  refine Go.BigFrame.wpList_want hwt fun K hK => ?_
  unfold Oper.wp execOp
  simp only [hx, Sem.run_bind, Sem.run_pure, Result.andThen_ok, hr]
  exact hK _ _ h
set_option maxHeartbeats 4000000 in
set_option maxRecDepth 100000 in
theorem chmay_any (v : Value) (l : List Mv) (B : Nat) (w : World) (hT : Tabs B w) (hr : Mbs w (· < w.heap.size) (· < w.heap.size) v l) (hs : ∀ x ∈ l, Sm x.1) (hl : l.length ≤ 1000000) :
    Calls Tryz.prog 10 #[v] w fun e w' => e = .returned (.int .i64 (mayC (l.map (·.1)))) ∧ Below w.heap.size w w' := by
  obtain ⟨a, cap, hv, hcap, hmx, h3⟩ := hr.rd.shape
  have HR := Keep.keep hr; have H3 := Keep.keep h3; have HT := Keep.keep hT; have HS := Keep.keep hs
  unfold maxLen at hmx
  clear hr h3 hT hs
  subst hv
  obtain ⟨S, hS⟩ : ∃ S, l.map (·.1) = S := ⟨_, rfl⟩
  have HSL : Keep (S.length = l.length) := ⟨by rw [← hS, List.length_map]⟩
  rw [hS]
  obtain ⟨out, hout⟩ : ∃ out, mayC S = out := ⟨_, rfl⟩
  have HOUT : Keep (mayFrom S 0 (S.drop 0) = out) := ⟨hout⟩
  rw [hout]
  have HSS := Keep.keep hS
  clear hout hS
  have hmm := @run_makeMap Tryz.prog
  go_enter Tryz.func10, Tryz.ntmps10
  go_upto_region 2 with fail
  refine wp_world (R := fun w1 => Hp NoM w w1 [msA 9 w.heap.size [], rowA (w.heap.size + 1) 73 #[.map (some w.heap.size)]]) ?_ ?_
  · have := ((Hp.begin NoM w).newMap 9).newRow 73 #[.map (some w.heap.size)]
    simpa using this
  intro w1 H1
  obtain ⟨b0, hb0⟩ : ∃ b0, w.heap.size = b0 := ⟨_, rfl⟩
  rw [hb0] at H1 ⊢
  clear hmm
  go_wp2_with fail
  go_loopg [12] l.length (fun g u12 wx => ∃ (k : Nat) (M : List (Tx × Value)), k + g = l.length ∧ u12 = .int .i64 (k : Int) ∧ mayFrom S k (S.drop k) = out ∧ DirsIn M (S.take k) ∧ M.length ≤ k ∧ Hp NoM w wx [msA 9 b0 M, rowA (b0 + 1) 73 #[.map (some b0)]])
  case atStart => exact ⟨0, [], by omega, rfl, HOUT.out, fun q => rfl, Nat.le_refl _, H1.out⟩
  case round =>
    obtain ⟨k, M, hkg, rfl, hmf, hdi, hml, HH⟩ := hrel
    have HMF := Keep.keep hmf; have HDI := Keep.keep hdi; have HHH := Keep.keep HH
    clear hmf hdi HH H1
    cases gk with
    | zero =>
      obtain rfl : k = l.length := by omega
      have HE : Keep (out = if 4096 < l.length then 42 else 0) := ⟨by rw [← HMF.out, mayFrom_end S _ HSL.out.symm, HSL.out]⟩
      by_cases hbig : 4096 < l.length
      · have hd : decide (4096 < (l.length : Int)) = true := decide_eq_true (by omega)
        go_wp2_with fail
        go_ret
        exact ⟨by rw [HE.out, if_pos hbig]; rfl, HHH.out.below⟩
      · have hd : decide (4096 < (l.length : Int)) = false := decide_eq_false (by omega)
        go_wp2_with fail
        go_ret
        exact ⟨by rw [HE.out, if_neg hbig]; rfl, HHH.out.below⟩
    | succ g =>
      have hk : k < l.length := by omega
      obtain ⟨b, off, rfl, hbl⟩ : ∃ b off, a = some ⟨b, off, none⟩ ∧ b < w.heap.size := by
        rcases H3.out with h | ⟨b, off, h, hb⟩
        · omega
        · exact ⟨b, off, h, hb⟩
      have hrx := HR.out.below HHH.out.below (fun b hb => hb) (fun b hb => hb)
      have hld := hrx.load hk
      have hkS : k < S.length := by rw [HSL.out]; exact hk
      have hSk : S[k] = l[k].1 := by simp [← HSS.out]
      have HSTEP : Keep (out = if errC S k l[k].1 ≠ 0 then errC S k l[k].1 else mayFrom S (k + 1) (S.drop (k + 1))) := ⟨by rw [← HMF.out, mayFrom_step hkS, hSk]⟩
      have HTK : Keep (S.take (k + 1) = S.take k ++ [l[k].1]) := ⟨by rw [List.take_succ_eq_append_getElem hkS, hSk]⟩
      have hsx := HS.out l[k] (List.getElem_mem hk)
      have HND := Keep.keep (HR.out.nd l[k] (List.getElem_mem hk))
      have HPV : Keep (∀ j, k = j + 1 → ∃ pp : Tx, notUp S k l[k].1 = !Op.bytesLess pp l[k].1.1 ∧ ∀ wx, Below w.heap.size w wx → wx.cell? ⟨b, off + j * 9, none⟩ = some (.string ⟨pp.toArray⟩)) := ⟨fun j hj => by
        have hj2 : j < l.length := by omega
        refine ⟨l[j].1.1, ?_, fun wx hb => (HR.out.below hb (fun b hb => hb) (fun b hb => hb)).cell hj2 0 (by decide) rfl⟩
        have hjS : S[j]? = some l[j].1 := by rw [← HSS.out, List.getElem?_map, List.getElem?_eq_getElem hj2]; rfl
        subst hj
        unfold notUp
        simp only
        rw [hjS]
        simp only
        rw [less_lt, Bool.eq_iff_iff]
        simp [List.not_lt]⟩
      have HNU : Keep (k = 0 → notUp S k l[k].1 = false) := ⟨fun e => by
        generalize l[k].1 = z
        subst e; rfl⟩
      clear hrx hSk hkS
      have HERR : Keep (errC S k l[k].1 = if (!mayT ([97], l[k].1.2) || notUp S k l[k].1) = true then 1 else if cls l[k].1 < 1 ∨ 3 < cls l[k].1 then 32 else if cls l[k].1 ≠ 1 ∧ bareB l[k].1.2 = false then 31 else if (aboveP l[k].1.1).any (fun q => !isDirM (S.take k) q) = true then 33 else 0) := ⟨rfl⟩
      generalize l[k] = x at *
      obtain ⟨⟨xp, ⟨kind, mode, uid, gid, time, attrs, data, link⟩⟩, av, dv⟩ := x
      obtain ⟨aa, la, ca, ad, ld, cd, e1, e2⟩ := HND.out.shape
      dsimp only at e1 e2 hsx HTK HERR HSTEP HPV HNU
      have hxp := hsx.p
      dsimp only at hxp
      subst e1 e2
      have HMC : Keep (mcell ((xp, ⟨kind, mode, uid, gid, time, attrs, data, link⟩), .slice aa la ca, .slice ad ld cd) = #[.string ⟨xp.toArray⟩, .int .i64 kind, .int .u32 mode, .int .u32 uid, .int .u32 gid, .int .i64 time, .slice aa la ca, .slice ad ld cd, .string ⟨link.toArray⟩]) := ⟨rfl⟩
      rw [HMC.out] at hld
      have hbm : ∀ w, (Instr.build 41 #[(0, .string ⟨#[97]⟩), (1, .agg #[.int .i64 kind, .int .u32 mode, .int .u32 uid, .int .u32 gid, .int .i64 time, .slice aa la ca, .slice ad ld cd, .string ⟨link.toArray⟩])]).run Tryz.prog w = .ok (.agg (mbC ([97], ⟨kind, mode, uid, gid, time, attrs, data, link⟩) (.slice aa la ca) (.slice ad ld cd))) w := fun w => buildM ([97], ⟨kind, mode, uid, gid, time, attrs, data, link⟩) (.slice aa la ca) (.slice ad ld cd) w
      have HCL := Keep.keep (fun wx (hb : Below w.heap.size w wx) => class_any xp (by omega) B wx (Nat.le_trans HT.out.b hb.size) (HT.out.m.on (hb.mono HT.out.b)) (HT.out.c.on (hb.mono HT.out.b)))
      have HNX : Keep (∀ wx, Below w.heap.size w wx → NdR wx (· < wx.heap.size) ⟨kind, mode, uid, gid, time, attrs, data, link⟩ (.slice aa la ca) (.slice ad ld cd)) := ⟨fun wx hb => (HND.out.below hb (fun b hb => hb)).mono (fun b hb' => Nat.lt_of_lt_of_le hb' hb.size)⟩
      have HTM : Keep (∀ wx, Below w.heap.size w wx → Calls Tryz.prog 42 #[.agg (mbC ([97], ⟨kind, mode, uid, gid, time, attrs, data, link⟩) (.slice aa la ca) (.slice ad ld cd))] wx fun e w' => e = .returned (.bool (mayT ([97], ⟨kind, mode, uid, gid, time, attrs, data, link⟩))) ∧ Below wx.heap.size wx w') :=
        ⟨fun wx h => may_any' ([97], ⟨kind, mode, uid, gid, time, attrs, data, link⟩) _ _ ⟨by simp, hsx.l, hsx.d, hsx.a, hsx.n, hsx.k⟩ B wx (Nat.le_trans HT.out.b h.size) (HT.out.m.on (h.mono HT.out.b)) (HT.out.c.on (h.mono HT.out.b)) (HT.out.t.on (h.mono HT.out.b)) (HNX.out wx h)⟩
      have HBR : Keep (∀ wx, Below w.heap.size w wx → Calls Tryz.prog 43 #[.agg (ndC ⟨kind, mode, uid, gid, time, attrs, data, link⟩ (.slice aa la ca) (.slice ad ld cd))] wx fun e w' => e = .returned (.bool (bareB ⟨kind, mode, uid, gid, time, attrs, data, link⟩)) ∧ Below wx.heap.size wx w') := ⟨fun wx hb => bare_any ⟨kind, mode, uid, gid, time, attrs, data, link⟩ _ _ wx (HNX.out wx hb)⟩
      have HNC : Keep (ndC ⟨kind, mode, uid, gid, time, attrs, data, link⟩ (.slice aa la ca) (.slice ad ld cd) = #[.int .i64 kind, .int .u32 mode, .int .u32 uid, .int .u32 gid, .int .i64 time, .slice aa la ca, .slice ad ld cd, .string ⟨link.toArray⟩]) := ⟨rfl⟩
      rw [HNC.out] at HBR
      have HAB := Keep.keep (fun wx => above_any xp (by omega) wx)
      have HCF : Keep (∀ wx v b3 mb, wx.cell? ⟨b3, 0, none⟩ = some (.map (some mb)) → MapS wx 9 mb M → RdS wx (· < wx.heap.size) v (aboveP xp) → Calls Tryz.prog 44 #[v, .func (.func 41) #[] #[.pointer (some ⟨b3, 0, none⟩)]] wx fun e w' => e = .returned (.bool ((aboveP xp).any (fun q => !isDirM (S.take k) q))) ∧ Below wx.heap.size wx w') :=
        ⟨fun wx v b3 mb hc hm hv => cfuncC 41 #[] _ (fun q => !isDirM (S.take k) q) v (aboveP xp) wx ent_may1 (fun wy hy q hq => by
          have hql : q.length ≤ xp.length := by
            have := (mem_above.1 hq).length_le
            simp at this; omega
          have := may1_any q (by omega) b3 mb M (S.take k) wy (by rw [hy.cell (p := ⟨b3, 0, none⟩) (World.block_lt_of_cell? wx _ hc)]; exact hc) (hm.loc (hy.block _ hm.lt)) HDI.out
          simpa using this) hv⟩
      have hcls : cls (xp, ⟨kind, mode, uid, gid, time, attrs, data, link⟩) = (classP xp).1 := rfl
      rw [hcls] at HERR
      generalize errC S k (xp, ⟨kind, mode, uid, gid, time, attrs, data, link⟩) = er at *
      generalize mayT ([97], ⟨kind, mode, uid, gid, time, attrs, data, link⟩) = mt at *
      generalize bareB ⟨kind, mode, uid, gid, time, attrs, data, link⟩ = bb at *
      generalize (aboveP xp).any (fun q => !isDirM (S.take k) q) = an at *
      generalize notUp S k (xp, ⟨kind, mode, uid, gid, time, attrs, data, link⟩) = nu at *
      obtain ⟨⟨cl, tg⟩, hcp⟩ : ∃ c, classP xp = c := ⟨_, rfl⟩
      rw [hcp] at HCL HERR
      dsimp only at HCL HERR
      generalize aboveP xp = ab at *
      clear hcls hcp hsx
      go_wp2_with ((with_reducible refine arm_loadM hld ?_ ?_); (focus rfl); simp only [Act.put, List.setIfInBounds_toArray, List.set_cons_succ, List.set_cons_zero])
      refine calls_at (R := fun wq => Hp NoM w wq ([msA 9 b0 M, rowA (b0 + 1) 73 #[.map (some b0)]] ++ [rowA wr.heap.size 41 #[.string ⟨xp.toArray⟩, .int .i64 kind, .int .u32 mode, .int .u32 uid, .int .u32 gid, .int .i64 time, .slice aa la ca, .slice ad ld cd, .string ⟨link.toArray⟩]])) (HHH.out.newRow _ _) ?_
      intro w2 H2
      refine (HCL.out w2 H2.out.below).mono ?_
      rintro e w3 ⟨rfl, hb3⟩
      have H3' := Keep.keep (H2.out.call hb3)
      obtain ⟨b5, hb5⟩ : ∃ b5, wr.heap.size = b5 := ⟨_, rfl⟩
      rw [hb5] at H3' ⊢
      clear hb3 H2 HCL hld HHH
      go_upto_region 7 with fail
      have HXP : Keep (∀ wx, Below w3.heap.size w3 wx → wx.cell? ⟨b5, 0, none⟩ = some (.string ⟨xp.toArray⟩)) := ⟨fun wx hb => ((H3'.out.call hb).row 2 rfl).cell (i := 0) rfl⟩
      have HAG : Keep (∀ wx, Below w3.heap.size w3 wx → ∀ (j : Nat) (v : Value), ([.int .i64 kind, .int .u32 mode, .int .u32 uid, .int .u32 gid, .int .i64 time, .slice aa la ca, .slice ad ld cd, .string ⟨link.toArray⟩] : List Value)[j]? = some v → wx.cell? ⟨b5, 1 + j, none⟩ = some v) := ⟨fun wx hb j v hj => ((H3'.out.call hb).row 2 rfl).cell (i := 1 + j) (by rw [Nat.add_comm]; simpa using hj)⟩
      have HI8 : Keep ((Tryz.prog.info? 39).map (·.size) = some ([.int .i64 kind, .int .u32 mode, .int .u32 uid, .int .u32 gid, .int .i64 time, .slice aa la ca, .slice ad ld cd, .string ⟨link.toArray⟩] : List Value).length) := ⟨by kernel_rfl⟩
      have HTM' : Keep (∀ wx, Below w3.heap.size w3 wx → Calls Tryz.prog 42 #[.agg (mbC ([97], ⟨kind, mode, uid, gid, time, attrs, data, link⟩) (.slice aa la ca) (.slice ad ld cd))] wx fun e w' => e = .returned (.bool mt) ∧ Below wx.heap.size wx w') := ⟨fun wx hb => HTM.out wx (H3'.out.call hb).below⟩
      cases mt with
      | false =>
        have HE1 : Keep (out = 1) := ⟨by rw [HSTEP.out, HERR.out]; rfl⟩
        refine wp_region_cls (fun w' => Below w3.heap.size w3 w') (by kernel_rfl) (by kernel_rfl) (Below.refl _ _).drew ?_
        repeat (first
          | ((with_reducible refine cls_agg ?_ HAG.out Tryz.underlying39 rfl HI8.out ?_ ?_); (focus rfl); (focus rfl); simp only [Act.put, List.setIfInBounds_toArray, List.set_cons_succ, List.set_cons_zero])
          | ((with_reducible refine cls_cell ?_ HXP.out (run_isAgg_plain Tryz.underlying9 rfl) ?_ ?_); (focus rfl); (focus rfl); simp only [Act.put, List.setIfInBounds_toArray, List.set_cons_succ, List.set_cons_zero])
          | ((with_reducible refine cls_call (f := 42) ?_ (Go.Proofs.enters_of Tryz.func42 (by kernel_rfl) rfl) ?_ (fun w1 hw1 => (HTM'.out w1 hw1).mono (fun e w2 he => ⟨he.1, hw1.trans (he.2.mono hw1.size)⟩)) ?_); (focus rfl); (focus (first | exact Array.map_empty | (simp only [List.map_toArray, List.map_cons, List.map_nil]; rfl))); simp only [Act.put, List.setIfInBounds_toArray, List.set_cons_succ, List.set_cons_zero])
          | (first | go_big_quiet_step (fail) | (go_big_quiet_want; go_big_quiet_op; (refine ⟨_, fun _ _ => rfl, ?_⟩); go_big_quiet_on)))
        (refine wpQuiet_nil ?_); intro w4 hw4
        have HB4 := Keep.keep (H3'.out.call hw4).below
        clear hw4
        go_wp2_with fail
        go_ret
        exact ⟨by rw [HE1.out]; rfl, by first | exact HB4.out | (rw [← hb0]; exact HB4.out)⟩
      | true =>
        have HOE : Keep (∀ c : Int, er = c → c ≠ 0 → out = c) := ⟨fun c h1 h2 => by rw [HSTEP.out, h1, if_pos h2]⟩
        have HNF : Keep (nu = false → er = if cl < 1 ∨ 3 < cl then 32 else if cl ≠ 1 ∧ bb = false then 31 else if an = true then 33 else 0) := ⟨fun h => by rw [HERR.out, h]; rfl⟩
        have HNT : Keep (nu = true → out = 1) := ⟨fun h => by rw [HSTEP.out, HERR.out, h]; rfl⟩
        rcases Nat.eq_zero_or_pos k with hk0 | hk0
        focus
          have HE := Keep.keep (HNF.out (HNU.out hk0))
          have hd : decide (0 < (k : Int)) = false := decide_eq_false (by omega)
          have hd2 : decide (0 < k) = false := decide_eq_false (by omega)
          clear hk0
          refine wp_region_cls (fun w' => Below w3.heap.size w3 w') (by kernel_rfl) (by kernel_rfl) (Below.refl _ _).drew ?_
          repeat (first
            | ((with_reducible refine cls_agg ?_ HAG.out Tryz.underlying39 rfl HI8.out ?_ ?_); (focus rfl); (focus rfl); simp only [Act.put, List.setIfInBounds_toArray, List.set_cons_succ, List.set_cons_zero])
            | ((with_reducible refine cls_cell ?_ HXP.out (run_isAgg_plain Tryz.underlying9 rfl) ?_ ?_); (focus rfl); (focus rfl); simp only [Act.put, List.setIfInBounds_toArray, List.set_cons_succ, List.set_cons_zero])
            | ((with_reducible refine cls_call (f := 42) ?_ (Go.Proofs.enters_of Tryz.func42 (by kernel_rfl) rfl) ?_ (fun w1 hw1 => (HTM'.out w1 hw1).mono (fun e w2 he => ⟨he.1, hw1.trans (he.2.mono hw1.size)⟩)) ?_); (focus rfl); (focus (first | exact Array.map_empty | (simp only [List.map_toArray, List.map_cons, List.map_nil]; rfl))); simp only [Act.put, List.setIfInBounds_toArray, List.set_cons_succ, List.set_cons_zero])
            | (first | go_big_quiet_step (fail) | (go_big_quiet_want; go_big_quiet_op; (refine ⟨_, fun _ _ => rfl, ?_⟩); go_big_quiet_on)))
          (refine wpQuiet_nil ?_); intro w4 hw4
        rotate_left
        focus
          obtain ⟨j, hj⟩ : ∃ j, k = j + 1 := ⟨k - 1, by omega⟩
          obtain ⟨pp, hnu, hpc⟩ := HPV.out j hj
          have HPC : Keep (∀ wx, Below w3.heap.size w3 wx → wx.cell? ⟨b, off + j * 9, none⟩ = some (.string ⟨pp.toArray⟩)) := ⟨fun wx hb => hpc wx (H3'.out.call hb).below⟩
          have hkj : ((k : Int) - 1) = (j : Int) := by omega
          have hd : decide (0 < (k : Int)) = true := decide_eq_true (by omega)
          have hd2 : decide (0 < k) = true := decide_eq_true (by omega)
          clear hk0
          have HNUJ := Keep.keep hnu
          have hjl : j < l.length := by omega
          clear hnu hpc hj
          cases hbl2 : Op.bytesLess pp xp
          case false =>
            have HO1 := Keep.keep (HNT.out (by rw [HNUJ.out, hbl2]; rfl))
            refine wp_region_cls (fun w' => Below w3.heap.size w3 w') (by kernel_rfl) (by kernel_rfl) (Below.refl _ _).drew ?_
            repeat (first
              | ((with_reducible refine cls_agg ?_ HAG.out Tryz.underlying39 rfl HI8.out ?_ ?_); (focus rfl); (focus rfl); simp only [Act.put, List.setIfInBounds_toArray, List.set_cons_succ, List.set_cons_zero])
              | ((with_reducible refine cls_cell ?_ HPC.out (run_isAgg_plain Tryz.underlying9 rfl) ?_ ?_); (focus rfl); (focus rfl); simp only [Act.put, List.setIfInBounds_toArray, List.set_cons_succ, List.set_cons_zero])
              | ((with_reducible refine cls_cell ?_ HXP.out (run_isAgg_plain Tryz.underlying9 rfl) ?_ ?_); (focus rfl); (focus rfl); simp only [Act.put, List.setIfInBounds_toArray, List.set_cons_succ, List.set_cons_zero])
              | ((with_reducible refine cls_call (f := 42) ?_ (Go.Proofs.enters_of Tryz.func42 (by kernel_rfl) rfl) ?_ (fun w1 hw1 => (HTM'.out w1 hw1).mono (fun e w2 he => ⟨he.1, hw1.trans (he.2.mono hw1.size)⟩)) ?_); (focus rfl); (focus (first | exact Array.map_empty | (simp only [List.map_toArray, List.map_cons, List.map_nil]; rfl))); simp only [Act.put, List.setIfInBounds_toArray, List.set_cons_succ, List.set_cons_zero])
              | (first | go_big_quiet_step (fail) | (go_big_quiet_want; go_big_quiet_op; (refine ⟨_, fun _ _ => rfl, ?_⟩); go_big_quiet_on)))
            (refine wpQuiet_nil ?_); intro w4 hw4
            have HB4 := Keep.keep (H3'.out.call hw4).below
            clear hw4
            go_wp2_with fail
            go_ret
            exact ⟨by rw [HO1.out]; rfl, by first | exact HB4.out | (rw [← hb0]; exact HB4.out)⟩
          have HE := Keep.keep (HNF.out (by rw [HNUJ.out, hbl2]; rfl))
          refine wp_region_cls (fun w' => Below w3.heap.size w3 w') (by kernel_rfl) (by kernel_rfl) (Below.refl _ _).drew ?_
          repeat (first
            | ((with_reducible refine cls_agg ?_ HAG.out Tryz.underlying39 rfl HI8.out ?_ ?_); (focus rfl); (focus rfl); simp only [Act.put, List.setIfInBounds_toArray, List.set_cons_succ, List.set_cons_zero])
            | ((with_reducible refine cls_cell ?_ HPC.out (run_isAgg_plain Tryz.underlying9 rfl) ?_ ?_); (focus rfl); (focus rfl); simp only [Act.put, List.setIfInBounds_toArray, List.set_cons_succ, List.set_cons_zero])
            | ((with_reducible refine cls_cell ?_ HXP.out (run_isAgg_plain Tryz.underlying9 rfl) ?_ ?_); (focus rfl); (focus rfl); simp only [Act.put, List.setIfInBounds_toArray, List.set_cons_succ, List.set_cons_zero])
            | ((with_reducible refine cls_call (f := 42) ?_ (Go.Proofs.enters_of Tryz.func42 (by kernel_rfl) rfl) ?_ (fun w1 hw1 => (HTM'.out w1 hw1).mono (fun e w2 he => ⟨he.1, hw1.trans (he.2.mono hw1.size)⟩)) ?_); (focus rfl); (focus (first | exact Array.map_empty | (simp only [List.map_toArray, List.map_cons, List.map_nil]; rfl))); simp only [Act.put, List.setIfInBounds_toArray, List.set_cons_succ, List.set_cons_zero])
            | (first | go_big_quiet_step (fail) | (go_big_quiet_want; go_big_quiet_op; (refine ⟨_, fun _ _ => rfl, ?_⟩); go_big_quiet_on)))
          (refine wpQuiet_nil ?_); intro w4 hw4
          clear hkj hbl2 HNUJ HPC hjl
        all_goals
          have H4 := Keep.keep (H3'.out.call hw4)
          have HB4 := Keep.keep (H3'.out.call hw4).below
          clear hw4 hd hd2
          by_cases z1 : cl < 1
          · have d1 : decide (cl < 1) = true := decide_eq_true z1
            have HX : Keep (out = 32) := ⟨HOE.out 32 (by rw [HE.out, if_pos (.inl z1)]) (by decide)⟩
            go_wp2_with fail
            go_ret
            exact ⟨by rw [HX.out]; rfl, by first | exact HB4.out | (rw [← hb0]; exact HB4.out)⟩
          by_cases z3 : 3 < cl
          · have d1 : decide (cl < 1) = false := decide_eq_false z1
            have d3 : decide (3 < cl) = true := decide_eq_true z3
            have HX : Keep (out = 32) := ⟨HOE.out 32 (by rw [HE.out, if_pos (.inr z3)]) (by decide)⟩
            go_wp2_with fail
            go_ret
            exact ⟨by rw [HX.out]; rfl, by first | exact HB4.out | (rw [← hb0]; exact HB4.out)⟩
          have HE2 : Keep (er = if cl ≠ 1 ∧ bb = false then 31 else if an = true then 33 else 0) := ⟨by rw [HE.out, if_neg (fun h => h.elim z1 z3)]⟩
          have d1 : decide (cl < 1) = false := decide_eq_false z1
          have d3 : decide (3 < cl) = false := decide_eq_false z3
          by_cases zc : cl = 1
          focus
            have hne : (cl != 1) = false := by rw [zc]; rfl
            have HE3 : Keep (er = if an = true then 33 else 0) := ⟨by rw [HE2.out, if_neg (fun h => h.1 zc)]⟩
            go_upto_region 13 with fail
          rotate_left
          focus
            have hne : (cl != 1) = true := by simpa using zc
            have hla : (Instr.loadAt 39 (.pointer (some ⟨b5, 1, none⟩))).run Tryz.prog w4 = .ok (.agg #[.int .i64 kind, .int .u32 mode, .int .u32 uid, .int .u32 gid, .int .i64 time, .slice aa la ca, .slice ad ld cd, .string ⟨link.toArray⟩]) w4 := by
              have := run_loadAt_mid (P := Tryz.prog) w4 b5 1 39 [.int .i64 kind, .int .u32 mode, .int .u32 uid, .int .u32 gid, .int .i64 time, .slice aa la ca, .slice ad ld cd, .string ⟨link.toArray⟩] _ (fun j z hj => ((H4.out.row 2 rfl).cell (i := 1 + j) (by rw [Nat.add_comm]; simpa using hj))) Tryz.underlying39 rfl (by kernel_rfl)
              simpa using this
            go_wp2_with ((with_reducible refine arm_loadMG ?_ hla ?_ ?_); (focus rfl); (focus rfl); simp only [Act.put, List.setIfInBounds_toArray, List.set_cons_succ, List.set_cons_zero])
            refine (HBR.out w4 HB4.out).mono ?_
            rintro e w5 ⟨rfl, hb5'⟩
            have H5 := Keep.keep (H4.out.call hb5')
            clear hb5' hla
            cases bb
            case false =>
              have HX : Keep (out = 31) := ⟨HOE.out 31 (by rw [HE2.out, if_pos ⟨zc, rfl⟩]) (by decide)⟩
              have HB5 := Keep.keep H5.out.below
              go_wp2_with fail
              go_ret
              exact ⟨by rw [HX.out]; rfl, by first | exact HB5.out | (rw [← hb0]; exact HB5.out)⟩
            have HE3 : Keep (er = if an = true then 33 else 0) := ⟨by rw [HE2.out, if_neg (fun h => by cases h.2)]⟩
            clear H4
            have H4 := H5
            go_upto_region 13 with fail
        all_goals
          clear HB4
          refine wp_world (R := fun wz => Hp NoM w wz ([msA 9 b0 M, rowA (b0 + 1) 73 #[.map (some b0)]] ++ [rowA b5 41 #[.string ⟨xp.toArray⟩, .int .i64 kind, .int .u32 mode, .int .u32 uid, .int .u32 gid, .int .i64 time, .slice aa la ca, .slice ad ld cd, .string ⟨link.toArray⟩]])) H4.out ?_
          intro w6 H6
          have c0 := (H6.out.row 2 rfl).cell (i := 0) rfl
          clear H4
          go_wp2_with fail
          refine (HAB.out w6).mono ?_
          rintro e w7 ⟨va, rfl, hoa, hb7⟩
          have H7 := Keep.keep (H6.out.call hb7)
          have HVA : Keep (RdS w7 (· < w7.heap.size) va ab) := ⟨(ownsV_reads hoa).mono (fun b hb => hb.2.1)⟩
          obtain ⟨a7, c7, hva, -⟩ := (ownsV_reads hoa).shape
          generalize ab.length = na at hva
          subst hva
          have HC7 := Keep.keep (HCF.out w7 _ (b0 + 1) b0 ((H7.out.row 1 rfl).cell (i := 0) rfl) (H7.out.get 0 rfl) HVA.out)
          clear hoa hb7 c0 H6
          go_wp2_with fail
          refine HC7.out.mono ?_
          rintro e w8 ⟨rfl, hb8⟩
          have H8 := Keep.keep (H7.out.call hb8)
          clear hb8 HC7 HVA H7
          cases an with
          | true =>
            have HX : Keep (out = 33) := ⟨HOE.out 33 (by rw [HE3.out, if_pos rfl]) (by decide)⟩
            have HB8 := Keep.keep H8.out.below
            go_wp2_with fail
            go_ret
            exact ⟨by rw [HX.out]; rfl, by first | exact HB8.out | (rw [← hb0]; exact HB8.out)⟩
          | false =>
            have HMF2 : Keep (mayFrom S (k + 1) (S.drop (k + 1)) = out) := ⟨by rw [HSTEP.out, HE3.out, if_neg (by decide)]⟩
            have k1 := (H8.out.row 2 rfl).cell (i := 1) rfl
            have c0 := (H8.out.row 2 rfl).cell (i := 0) rfl
            have c3 := (H8.out.row 1 rfl).cell (i := 0) rfl
            have hm8 : MapS w8 9 b0 M := H8.out.get 0 rfl
            have HM8 := Keep.keep hm8
            clear hm8
            by_cases zk : kind = 1
            · have hzk : (kind == 1) = true := by rw [zk]; rfl
              have HD2 : Keep (DirsIn (SM.put M (xp, .int .i64 1)) (S.take (k + 1))) := ⟨by rw [HTK.out]; exact DirsIn.put (x := (xp, ⟨kind, mode, uid, gid, time, attrs, data, link⟩)) HM8.out.s HDI.out zk⟩
              have HL2 : Keep ((SM.put M (xp, .int .i64 1)).length ≤ k + 1) := ⟨by rw [HM8.out.s.length_put]; split <;> omega⟩
              go_wp2_with (first | (with_reducible refine arm_sRange ?_) | (with_reducible refine arm_sNext ?_) | (with_reducible refine arm_sDel ?_) | (with_reducible refine arm_sPut ?_) | (with_reducible refine arm_sIns ?_))
              refine StM.out ?_
              refine arm_putS Tryz.underlying9 Tryz.underlying73 HM8.out (p := xp) (by unfold maxLen; omega) (by unfold maxLen; omega) rfl rfl rfl ?_
              intro w9 hm9 hc9
              have H9 := Keep.keep (H8.out.upd 0 rfl (msA 9 b0 (SM.put M (xp, .int .i64 1))) hc9 hm9 (fun b hb => .inl hb))
              clear hm9 hc9 H8 HM8 k1 c0 c3
              simp only [Act.put]
              go_wp2_with fail
              go_roundg g
              case measure => omega
              case rel => exact ⟨k + 1, _, by omega, by simp, HMF2.out, HD2.out, HL2.out, H9.out.init⟩
            · have hzk : (kind == 1) = false := by simpa using zk
              have HD2 : Keep (DirsIn M (S.take (k + 1))) := ⟨by rw [HTK.out]; exact HDI.out.skip zk⟩
              clear HM8
              go_wp2_with fail
              go_roundg g
              case measure => omega
              case rel => exact ⟨k + 1, M, by omega, by simp, HMF2.out, HD2.out, by omega, H8.out.init⟩
end Go.Proofs.YtmnknmpfkjhgbaaGreatDoor
/- CHANGESETS, plainly: what a changeset's maps tell; what stays. -/
namespace Go.Proofs.YtmnknmpfkjhgbaaGreatDoor
def goneE (S : List Mb) (t : Tx) : Bool := S.any fun m => decide (cls m = 2) && tgt m == t
def markE (S : List Mb) (t : Tx) : Bool := S.any fun m => decide (cls m = 3) && tgt m == t
def overE (S : List Mb) (t : Tx) : Int := if (S.any fun m => decide (cls m = 1) && decide (m.2.kind ≠ 1) && tgt m == t) = true then 2 else if (S.any fun m => decide (cls m = 1) && decide (m.2.kind = 1) && tgt m == t) = true then 1 else 0
def hidesE (S : List Mb) (p : Tx) : Bool := goneE S p || decide (overE S p = 2)
def staysE (S : List Mb) (p : Tx) : Bool := p != [] && decide (overE S p = 0) && !markE S [] && !hidesE S p && !(aboveP p).any (hidesE S) && !(aboveP p).any (markE S)
theorem over_two {S : List Mb} {t : Tx} : overE S t = 2 ↔ ∃ m ∈ S, cls m = 1 ∧ m.2.kind ≠ 1 ∧ tgt m = t := by
  unfold overE
  split
  · rename_i h
    simp only [List.any_eq_true, Bool.and_eq_true, decide_eq_true_eq, beq_iff_eq, and_assoc] at h
    exact ⟨fun _ => h, fun _ => rfl⟩
  · rename_i h
    have hn : ¬ ∃ m ∈ S, cls m = 1 ∧ m.2.kind ≠ 1 ∧ tgt m = t := by
      rintro ⟨m, hm, a, b, c⟩
      exact h (List.any_eq_true.2 ⟨m, hm, by simp [a, b, c]⟩)
    split <;> exact ⟨fun e => by omega, fun e => (hn e).elim⟩
theorem over_zero {S : List Mb} {t : Tx} : overE S t = 0 ↔ ¬ ∃ m ∈ S, cls m = 1 ∧ tgt m = t := by
  unfold overE
  split
  · rename_i h
    simp only [List.any_eq_true, Bool.and_eq_true, decide_eq_true_eq, beq_iff_eq, and_assoc] at h
    obtain ⟨m, hm, a, _, c⟩ := h
    exact ⟨fun e => by omega, fun e => (e ⟨m, hm, a, c⟩).elim⟩
  · rename_i h
    split
    · rename_i h2
      simp only [List.any_eq_true, Bool.and_eq_true, decide_eq_true_eq, beq_iff_eq, and_assoc] at h2
      obtain ⟨m, hm, a, _, c⟩ := h2
      exact ⟨fun e => by omega, fun e => (e ⟨m, hm, a, c⟩).elim⟩
    · rename_i h2
      refine ⟨fun _ => ?_, fun _ => rfl⟩
      rintro ⟨m, hm, a, c⟩
      by_cases hk : m.2.kind = 1
      · exact h2 (List.any_eq_true.2 ⟨m, hm, by simp [a, hk, c]⟩)
      · exact h (List.any_eq_true.2 ⟨m, hm, by simp [a, hk, c]⟩)
theorem gone_iff {S : List Mb} {t : Tx} : goneE S t = true ↔ ∃ m ∈ S, cls m = 2 ∧ tgt m = t := by unfold goneE; simp [List.any_eq_true]
theorem mark_iff {S : List Mb} {t : Tx} : markE S t = true ↔ ∃ m ∈ S, cls m = 3 ∧ tgt m = t := by unfold markE; simp [List.any_eq_true]
theorem hides_iff {S : List Mb} {t : Tx} : hidesE S t = true ↔ ∃ m ∈ S, tgt m = t ∧ (cls m = 2 ∨ (cls m = 1 ∧ m.2.kind ≠ 1)) := by
  unfold hidesE
  rw [Bool.or_eq_true, decide_eq_true_eq, gone_iff, over_two]
  constructor
  · rintro (⟨m, hm, a, b⟩ | ⟨m, hm, a, b, c⟩)
    · exact ⟨m, hm, b, .inl a⟩
    · exact ⟨m, hm, c, .inr ⟨a, b⟩⟩
  · rintro ⟨m, hm, a, b | b⟩
    · exact .inl ⟨m, hm, b, a⟩
    · exact .inr ⟨m, hm, b.1, b.2, a⟩
theorem tgt_ne {m : Mb} (h : cls m = 1 ∨ cls m = 2) : tgt m ≠ [] := by
  rcases at_of (m := m) (by omega) with ⟨_, ht, _, h0⟩ | ⟨_, _, h0, _⟩ | ⟨hk, _⟩
  · rw [ht]; exact h0
  · exact h0
  · omega
/-- the maps tell what the Members do -/
theorem stays_eq (S : List Mb) (p : Tx) : staysE S p = staysC S p := by
  rw [Bool.eq_iff_iff]
  unfold staysE staysC
  simp only [Bool.and_eq_true, bne_iff_ne, decide_eq_true_eq, Bool.not_eq_true', List.all_eq_true, over_zero, ← Bool.not_eq_true, hides_iff, mark_iff, List.any_eq_true]
  constructor
  · rintro ⟨⟨⟨⟨⟨h0, h1⟩, h2⟩, h3⟩, h4⟩, h5⟩
    refine ⟨h0, fun m hm h => ?_⟩
    unfold hits at h
    simp only [Bool.or_eq_true, Bool.and_eq_true, decide_eq_true_eq, beq_iff_eq] at h
    rcases h with (⟨hc, h | ⟨hk, h⟩⟩ | ⟨hc, h | h⟩) | ⟨hc, h⟩
    · exact h1 ⟨m, hm, hc, h⟩
    · exact h4 ⟨tgt m, (under_above (tgt_ne (.inl hc))).1 h, m, hm, rfl, .inr ⟨hc, hk⟩⟩
    · exact h3 ⟨m, hm, h, .inl hc⟩
    · exact h4 ⟨tgt m, (under_above (tgt_ne (.inr hc))).1 h, m, hm, rfl, .inl hc⟩
    · by_cases ht : tgt m = []
      · exact h2 ⟨m, hm, hc, ht⟩
      · exact h5 ⟨tgt m, (under_above ht).1 h, m, hm, hc, rfl⟩
  · rintro ⟨h0, h⟩
    have hf : ∀ m ∈ S, ∀ t, tgt m = t → (cls m = 1 ∧ (t = p ∨ (m.2.kind ≠ 1 ∧ underP t p = true))) ∨ (cls m = 2 ∧ (t = p ∨ underP t p = true)) ∨ (cls m = 3 ∧ underP t p = true) → False := by
      rintro m hm t rfl e
      refine h m hm ?_
      unfold hits
      simp only [Bool.or_eq_true, Bool.and_eq_true, decide_eq_true_eq, beq_iff_eq, or_assoc]
      exact e
    refine ⟨⟨⟨⟨⟨h0, ?_⟩, ?_⟩, ?_⟩, ?_⟩, ?_⟩
    · rintro ⟨m, hm, a, b⟩
      exact hf m hm _ b (.inl ⟨a, .inl rfl⟩)
    · rintro ⟨m, hm, a, b⟩
      exact hf m hm _ b (.inr (.inr ⟨a, by rw [under_nil]; simp [h0]⟩))
    · rintro ⟨m, hm, a, b | ⟨b, _⟩⟩
      · exact hf m hm _ a (.inr (.inl ⟨b, .inl rfl⟩))
      · exact hf m hm _ a (.inl ⟨b, .inl rfl⟩)
    · rintro ⟨q, hq, m, hm, a, b⟩
      have hq0 : q ≠ [] := by rw [← a]; exact tgt_ne (by rcases b with b | ⟨b, _⟩ <;> omega)
      have hu := (under_above hq0).2 hq
      rcases b with b | ⟨b, c⟩
      · exact hf m hm q a (.inr (.inl ⟨b, .inr hu⟩))
      · exact hf m hm q a (.inl ⟨b, .inr ⟨c, hu⟩⟩)
    · rintro ⟨q, hq, m, hm, a, b⟩
      by_cases hq0 : q = []
      · exact hf m hm q b (.inr (.inr ⟨a, by rw [hq0, under_nil]; simp [h0]⟩))
      · exact hf m hm q b (.inr (.inr ⟨a, (under_above hq0).2 hq⟩))
end Go.Proofs.YtmnknmpfkjhgbaaGreatDoor
/- change.of: what Members do, as three maps; hides, stays. -/
namespace Go.Proofs.YtmnknmpfkjhgbaaGreatDoor
open Go.RowKit
theorem goneE_snoc (S : List Mb) (x : Mb) (t : Tx) : goneE (S ++ [x]) t = (goneE S t || (decide (cls x = 2) && tgt x == t)) := by unfold goneE; simp [List.any_append]
theorem markE_snoc (S : List Mb) (x : Mb) (t : Tx) : markE (S ++ [x]) t = (markE S t || (decide (cls x = 3) && tgt x == t)) := by unfold markE; simp [List.any_append]
theorem overE_snoc (S : List Mb) (x : Mb) (t : Tx) : overE (S ++ [x]) t = if cls x = 1 ∧ tgt x = t then (if x.2.kind = 1 then max (overE S t) 1 else 2) else overE S t := by
  unfold overE
  rw [List.any_append, List.any_append]
  generalize (S.any fun m => decide (cls m = 1) && decide (m.2.kind ≠ 1) && tgt m == t) = b1
  generalize (S.any fun m => decide (cls m = 1) && decide (m.2.kind = 1) && tgt m == t) = b2
  by_cases h1 : cls x = 1 <;> by_cases h2 : tgt x = t <;> by_cases h3 : x.2.kind = 1 <;> cases b1 <;> cases b2 <;> simp [h1, h2, h3] <;> decide
/-- what a map tells, at every key -/
def MapIs (z : Value) (M : List (Tx × Value)) (f : Tx → Value) : Prop := ∀ t, (SM.look M t).getD z = f t
theorem MapIs.put {z v : Value} {M : List (Tx × Value)} {f f' : Tx → Value} {p : Tx} (hs : SM.Srt M) (h : MapIs z M f) (hf : ∀ q, f' q = if q = p then v else f q) : MapIs z (SM.put M (p, v)) f' := fun q => by
  rw [hs.look_put, hf]
  by_cases e : q = p
  · rw [if_pos e, if_pos e]; rfl
  · rw [if_neg e, if_neg e]; exact h q
theorem MapIs.same {z : Value} {M : List (Tx × Value)} {f f' : Tx → Value} (h : MapIs z M f) (hf : ∀ q, f' q = f q) : MapIs z M f' := fun q => by rw [h q, hf]
def gonV (S : List Mb) (t : Tx) : Value := .bool (goneE S t)
def mrkV (S : List Mb) (t : Tx) : Value := .bool (markE S t)
def ovrV (S : List Mb) (t : Tx) : Value := .int .i64 (overE S t)
structure EffIn (w : World) (b1 b2 b3 : Nat) (S : List Mb) : Prop where
  g : ∃ M, MapS w 9 b1 M ∧ MapIs (.bool false) M (gonV S)
  m : ∃ M, MapS w 9 b2 M ∧ MapIs (.bool false) M (mrkV S)
  o : ∃ M, MapS w 9 b3 M ∧ MapIs (.int .i64 0) M (ovrV S)
theorem EffIn.lt {w : World} {b1 b2 b3 : Nat} {S : List Mb} (h : EffIn w b1 b2 b3 S) : b1 < w.heap.size ∧ b2 < w.heap.size ∧ b3 < w.heap.size := by
  obtain ⟨_, h1, _⟩ := h.g
  obtain ⟨_, h2, _⟩ := h.m
  obtain ⟨_, h3, _⟩ := h.o
  exact ⟨h1.lt, h2.lt, h3.lt⟩
theorem EffIn.loc {w w' : World} {b1 b2 b3 : Nat} {S : List Mb} (h : EffIn w b1 b2 b3 S) (hb : ∀ b, b = b1 ∨ b = b2 ∨ b = b3 → w'.heap[b]? = w.heap[b]?) : EffIn w' b1 b2 b3 S := by
  obtain ⟨_, h1, g1⟩ := h.g
  obtain ⟨_, h2, g2⟩ := h.m
  obtain ⟨_, h3, g3⟩ := h.o
  exact ⟨⟨_, h1.loc (hb _ (.inl rfl)), g1⟩, ⟨_, h2.loc (hb _ (.inr (.inl rfl))), g2⟩, ⟨_, h3.loc (hb _ (.inr (.inr rfl))), g3⟩⟩
theorem EffIn.below {w w' : World} {b1 b2 b3 : Nat} {S : List Mb} (h : EffIn w b1 b2 b3 S) (hb : Below w.heap.size w w') : EffIn w' b1 b2 b3 S := h.loc (fun b hb' => hb.block b (by
  have := h.lt
  rcases hb' with rfl | rfl | rfl <;> omega))
theorem zeroB (w : World) : (zeroValue 4).run Tryz.prog w = .ok (.bool false) w := by kernel_rfl
theorem EffIn.lookG {w : World} {b1 b2 b3 : Nat} {S : List Mb} (h : EffIn w b1 b2 b3 S) {p : Tx} (hp : p.length ≤ 1000000) : (Instr.lookup 82 (.map (some b1)) (.string ⟨p.toArray⟩) false).run Tryz.prog w = .ok (.bool (goneE S p)) w := by
  obtain ⟨_, h1, g1⟩ := h.g
  have := h1.look1 Tryz.underlying9 Tryz.underlying82 (zeroB w) (p := p) (by unfold maxLen; omega)
  rw [g1 p] at this; exact this
theorem EffIn.lookM {w : World} {b1 b2 b3 : Nat} {S : List Mb} (h : EffIn w b1 b2 b3 S) {p : Tx} (hp : p.length ≤ 1000000) : (Instr.lookup 82 (.map (some b2)) (.string ⟨p.toArray⟩) false).run Tryz.prog w = .ok (.bool (markE S p)) w := by
  obtain ⟨_, h1, g1⟩ := h.m
  have := h1.look1 Tryz.underlying9 Tryz.underlying82 (zeroB w) (p := p) (by unfold maxLen; omega)
  rw [g1 p] at this; exact this
theorem EffIn.lookO {w : World} {b1 b2 b3 : Nat} {S : List Mb} (h : EffIn w b1 b2 b3 S) {p : Tx} (hp : p.length ≤ 1000000) : (Instr.lookup 73 (.map (some b3)) (.string ⟨p.toArray⟩) false).run Tryz.prog w = .ok (.int .i64 (overE S p)) w := by
  obtain ⟨_, h1, g1⟩ := h.o
  have := h1.look1 Tryz.underlying9 Tryz.underlying73 (zeroI w) (p := p) (by unfold maxLen; omega)
  rw [g1 p] at this; exact this
set_option maxHeartbeats 1000000 in
set_option maxRecDepth 100000 in
theorem hides_any (b1 b2 b3 : Nat) (S : List Mb) (p : Tx) (hp : p.length ≤ 1000000) (w : World) (h : EffIn w b1 b2 b3 S) :
    Calls Tryz.prog 95 #[.agg #[.map (some b1), .map (some b2), .map (some b3)], .string ⟨p.toArray⟩] w fun e w' => e = .returned (.bool (hidesE S p)) ∧ Below w.heap.size w w' := by
  have hE := h.below ((Below.refl w.heap.size w).alloc (Nat.le_refl _) (.cells #[.map (some b1), .map (some b2), .map (some b3)] 84))
  have hg := hE.lookG hp
  have ho := hE.lookO hp
  have HX : Keep (hidesE S p = (goneE S p || overE S p == 2)) := ⟨rfl⟩
  generalize hidesE S p = out at *
  generalize goneE S p = b at *
  obtain ⟨b4, h4⟩ : ∃ b, (overE S p == 2) = b := ⟨_, rfl⟩
  rw [h4] at HX
  generalize overE S p = o at *
  clear h hE
  cases b with
  | true =>
    go_enter Tryz.func95, Tryz.ntmps95
    go_wp2_with fail
    go_ret
    exact ⟨by rw [HX.out]; rfl, (Below.refl _ _).alloc (Nat.le_refl _) _⟩
  | false =>
    go_enter Tryz.func95, Tryz.ntmps95
    go_wp2_with fail
    go_ret
    exact ⟨by rw [HX.out]; rfl, (Below.refl _ _).alloc (Nat.le_refl _) _⟩
set_option maxHeartbeats 1000000 in
set_option maxRecDepth 100000 in
theorem stays1_any (b1 b2 b3 b0 : Nat) (S : List Mb) (p : Tx) (hp : p.length ≤ 1000000) (w : World) (h : EffIn w b1 b2 b3 S) (hr : Row w b0 84 #[.map (some b1), .map (some b2), .map (some b3)]) :
    Calls Tryz.prog 94 #[.string ⟨p.toArray⟩, .pointer (some ⟨b0, 0, none⟩)] w fun e w' => e = .returned (.bool (markE S p)) ∧ Below w.heap.size w w' := by
  have hm := h.lookM hp
  have c1 := hr.cell (i := 1) rfl
  generalize markE S p = b at *
  clear h hr
  go_enter Tryz.func94, Tryz.ntmps94
  go_wp2_with fail
  go_ret
  exact ⟨rfl, Below.refl _ _⟩
theorem ent_hides : ∀ args w, (callFunc 95 args).run Tryz.prog w = .ok (.enter 95 args) w := enters_of Tryz.func95 (by kernel_rfl) rfl
theorem ent_stays1 : ∀ args w, (callFunc 94 args).run Tryz.prog w = .ok (.enter 94 args) w := enters_of Tryz.func94 (by kernel_rfl) rfl
theorem aggE : AggTy Tryz.prog 84 3 := ⟨⟨_, Tryz.underlying84, rfl⟩, by kernel_rfl⟩
theorem above_mem_len {p q : Tx} (h : q ∈ aboveP p) : q.length ≤ p.length := by
  have := (mem_above.1 h).length_le
  simp at this; omega
set_option maxHeartbeats 4000000 in
set_option maxRecDepth 100000 in
theorem stays_any (b1 b2 b3 : Nat) (S : List Mb) (p : Tx) (hp : p.length ≤ 1000000) (w : World) (h : EffIn w b1 b2 b3 S) :
    Calls Tryz.prog 48 #[.agg #[.map (some b1), .map (some b2), .map (some b3)], .string ⟨p.toArray⟩] w fun e w' => e = .returned (.bool (staysC S p)) ∧ Below w.heap.size w w' := by
  rw [← stays_eq]
  have HEF : Keep (∀ wx, Below w.heap.size w wx → EffIn wx b1 b2 b3 S) := ⟨fun wx hb => h.below hb⟩
  have HAL : Keep (∀ q ∈ aboveP p, q.length ≤ 1000000) := ⟨fun q hq => Nat.le_trans (above_mem_len hq) hp⟩
  have HAB := Keep.keep (fun wx => above_any p hp wx)
  have HLO : Keep (∀ wx, Below w.heap.size w wx → (Instr.lookup 73 (.map (some b3)) (.string ⟨p.toArray⟩) false).run Tryz.prog wx = .ok (.int .i64 (overE S p)) wx ∧ (Instr.lookup 82 (.map (some b2)) (.string ⟨#[]⟩) false).run Tryz.prog wx = .ok (.bool (markE S [])) wx) := ⟨fun wx hb => ⟨(h.below hb).lookO hp, (h.below hb).lookM (p := []) (by simp)⟩⟩
  have HHD : Keep (∀ wx, Below w.heap.size w wx → Calls Tryz.prog 95 #[.agg #[.map (some b1), .map (some b2), .map (some b3)], .string ⟨p.toArray⟩] wx fun e w' => e = .returned (.bool (hidesE S p)) ∧ Below wx.heap.size wx w') := ⟨fun wx hb => hides_any b1 b2 b3 S p hp wx (h.below hb)⟩
  have HC1 : Keep (∀ wx v, Below w.heap.size w wx → RdS wx (· < wx.heap.size) v (aboveP p) → Calls Tryz.prog 44 #[v, .func (.func 95) #[.agg #[.map (some b1), .map (some b2), .map (some b3)]] #[]] wx fun e w' => e = .returned (.bool ((aboveP p).any (hidesE S))) ∧ Below wx.heap.size wx w') :=
    ⟨fun wx v hb hv => cfuncC 95 _ _ (hidesE S) v (aboveP p) wx ent_hides (fun wy hy x hx => by
      have := hides_any b1 b2 b3 S x (HAL.out x hx) wy ((h.below hb).below hy)
      simpa using this) hv⟩
  have HC2 : Keep (∀ wx v b0, Below w.heap.size w wx → Row wx b0 84 #[.map (some b1), .map (some b2), .map (some b3)] → RdS wx (· < wx.heap.size) v (aboveP p) → Calls Tryz.prog 44 #[v, .func (.func 94) #[] #[.pointer (some ⟨b0, 0, none⟩)]] wx fun e w' => e = .returned (.bool ((aboveP p).any (markE S))) ∧ Below wx.heap.size wx w') :=
    ⟨fun wx v b0 hb hr hv => cfuncC 94 _ _ (markE S) v (aboveP p) wx ent_stays1 (fun wy hy x hx => by
      have := stays1_any b1 b2 b3 b0 S x (HAL.out x hx) wy ((h.below hb).below hy) (hr.below hy hr.lt)
      simpa using this) hv⟩
  have HX : Keep (staysE S p = (p != [] && overE S p == 0 && !markE S [] && !hidesE S p && !(aboveP p).any (hidesE S) && !(aboveP p).any (markE S))) := ⟨rfl⟩
  have HSZ : Keep ((#[.map (some b1), .map (some b2), .map (some b3)] : Array Value).size = 3) := ⟨rfl⟩
  generalize staysE S p = out at *
  generalize markE S [] = k2 at *
  generalize hidesE S p = k3 at *
  generalize (aboveP p).any (hidesE S) = k4 at *
  generalize (aboveP p).any (markE S) = k5 at *
  obtain ⟨k1, h1⟩ : ∃ b, (overE S p == 0) = b := ⟨_, rfl⟩
  rw [h1] at HX
  generalize overE S p = ov at *
  generalize aboveP p = ab at *
  have hpe : (p != []) = !p.isEmpty := by cases p <;> rfl
  rw [hpe] at HX
  obtain ⟨k0, h0⟩ : ∃ b, p.isEmpty = b := ⟨_, rfl⟩
  rw [h0] at HX
  clear hpe
  clear h
  go_enter Tryz.func48, Tryz.ntmps48
  go_wp2_with fail
  refine calls_at (R := fun wq => Hp NoM w wq [rowA w.heap.size 84 #[.map (some b1), .map (some b2), .map (some b3)]]) ((Hp.begin NoM w).newRow _ _) ?_
  intro w1 H1
  refine (HAB.out w1).mono ?_
  rintro e w2 ⟨va, rfl, ho, hb2⟩
  have H2 := Keep.keep (H1.out.call hb2)
  have HVA : Keep (RdS w2 (· < w2.heap.size) va ab) := ⟨(ownsV_reads ho).mono (fun b hb => hb.2.1)⟩
  obtain ⟨aa, ca, hva, -⟩ := (ownsV_reads ho).shape
  obtain ⟨b0, hb0⟩ : ∃ b0, w.heap.size = b0 := ⟨_, rfl⟩
  have HW2 := Keep.keep H2.out.below
  rw [hb0] at H2 ⊢
  have hrw := H2.out.row 0 rfl
  have HRW := Keep.keep hrw
  have c1 := hrw.cell (i := 1) rfl
  have c2 := hrw.cell (i := 2) rfl
  obtain ⟨hlo, hlm⟩ := HLO.out w2 HW2.out
  generalize ab.length = na at hva
  clear ho hb2 H1 hrw HAB
  subst hva
  cases k0
  case true =>
    go_wp2_with fail
    go_ret
    exact ⟨by rw [HX.out]; rfl, HW2.out⟩
  cases k1
  case false =>
    go_wp2_with fail
    go_ret
    exact ⟨by rw [HX.out]; rfl, HW2.out⟩
  cases k2
  case true =>
    go_wp2_with fail
    go_ret
    exact ⟨by rw [HX.out]; rfl, HW2.out⟩
  go_wp2_with (first | ((with_reducible refine arm_loadRow HRW.out aggE HSZ.out ?_ ?_); (focus rfl); simp only [Act.put, List.setIfInBounds_toArray, List.set_cons_succ, List.set_cons_zero]) | ((with_reducible refine arm_loadRowG ?_ HRW.out aggE HSZ.out ?_ ?_); (focus rfl); (focus rfl); simp only [Act.put, List.setIfInBounds_toArray, List.set_cons_succ, List.set_cons_zero]))
  refine (HHD.out w2 HW2.out).mono ?_
  rintro e w3 ⟨rfl, hb3⟩
  have HB3 := Keep.keep hb3
  have HW3 := Keep.keep (HW2.out.trans (hb3.mono HW2.out.size))
  have HRW3 := Keep.keep (HRW.out.below hb3 HRW.out.lt)
  clear hlo hlm c1 c2
  cases k3
  case true =>
    go_wp2_with fail
    go_ret
    exact ⟨by rw [HX.out]; rfl, HW3.out⟩
  go_wp2_with (first | ((with_reducible refine arm_loadRow HRW3.out aggE HSZ.out ?_ ?_); (focus rfl); simp only [Act.put, List.setIfInBounds_toArray, List.set_cons_succ, List.set_cons_zero]) | ((with_reducible refine arm_loadRowG ?_ HRW3.out aggE HSZ.out ?_ ?_); (focus rfl); (focus rfl); simp only [Act.put, List.setIfInBounds_toArray, List.set_cons_succ, List.set_cons_zero]))
  have HVA3 := Keep.keep ((HVA.out.below hb3 (fun b hb => hb)).mono (fun b hb => Nat.lt_of_lt_of_le hb hb3.size))
  refine (HC1.out w3 _ HW3.out HVA3.out).mono ?_
  rintro e w4 ⟨rfl, hb4⟩
  have HW4 := Keep.keep (HW3.out.trans (hb4.mono HW3.out.size))
  have HRW4 := Keep.keep (HRW3.out.below hb4 HRW3.out.lt)
  have HVA4 := Keep.keep ((HVA3.out.below hb4 (fun b hb => hb)).mono (fun b hb => Nat.lt_of_lt_of_le hb hb4.size))
  cases k4
  case true =>
    go_wp2_with fail
    go_ret
    exact ⟨by rw [HX.out]; rfl, HW4.out⟩
  go_wp2_with fail
  refine (HC2.out w4 _ _ HW4.out HRW4.out HVA4.out).mono ?_
  rintro e w5 ⟨rfl, hb5⟩
  have HW5 := Keep.keep (HW4.out.trans (hb5.mono HW4.out.size))
  clear hb3 hb4 hb5
  go_wp2_with fail
  go_ret
  exact ⟨by rw [HX.out]; cases k5 <;> rfl, HW5.out⟩
end Go.Proofs.YtmnknmpfkjhgbaaGreatDoor
/- A TREE's SIDE in memory: nodes, what is in each Dir, how many; the steps that make it. -/
namespace Go.Proofs.YtmnknmpfkjhgbaaGreatDoor
open Go.RowKit
/-- a node at every path -/
def NodesIs (w : World) (N : Nat → Prop) (M : List (Tx × Value)) (L : List Mb) : Prop := ∀ p, ∃ av dv, SM.look M p = (SM.look L p).map (fun n => .agg (ndC n av dv)) ∧ ∀ n, SM.look L p = some n → NdR w N n av dv
theorem look_snoc {L : List Mb} {x : Mb} (h : ∀ y ∈ L, y.1 ≠ x.1) (p : Tx) : SM.look (L ++ [x]) p = if p = x.1 then some x.2 else SM.look L p := by
  unfold SM.look
  rw [List.find?_append]
  by_cases e : p = x.1
  · subst e
    rw [if_pos rfl, List.find?_eq_none.2 (fun y hy => by simpa using h y hy)]
    simp
  · rw [if_neg e]
    have : ([x].find? fun y => y.1 == p) = none := by
      rw [List.find?_eq_none]
      intro y hy
      obtain rfl := List.mem_singleton.1 hy
      simpa using fun e' : y.1 = p => e e'.symm
    rw [this, Option.or_none]
theorem NodesIs.put {w : World} {N : Nat → Prop} {M : List (Tx × Value)} {L : List Mb} {x : Mb} {av dv : Value} (hs : SM.Srt M) (h : NodesIs w N M L) (hx : ∀ y ∈ L, y.1 ≠ x.1) (hn : NdR w N x.2 av dv) : NodesIs w N (SM.put M (x.1, .agg (ndC x.2 av dv))) (L ++ [x]) := fun p => by
  rw [hs.look_put, look_snoc hx]
  by_cases e : p = x.1
  · rw [if_pos e, if_pos e]
    exact ⟨av, dv, rfl, fun n hn' => by injection hn' with hn'; subst hn'; exact hn⟩
  · rw [if_neg e, if_neg e]
    exact h p
theorem NodesIs.loc {w w' : World} {N : Nat → Prop} {M : List (Tx × Value)} {L : List Mb} (h : NodesIs w N M L) (hb : ∀ b, N b → w'.heap[b]? = w.heap[b]?) : NodesIs w' N M L := fun p => by
  obtain ⟨av, dv, h1, h2⟩ := h p
  exact ⟨av, dv, h1, fun n hn => (h2 n hn).loc hb⟩
theorem NodesIs.mono {w : World} {N N' : Nat → Prop} {M : List (Tx × Value)} {L : List Mb} (h : NodesIs w N M L) (hb : ∀ b, N b → N' b) : NodesIs w N' M L := fun p => by
  obtain ⟨av, dv, h1, h2⟩ := h p
  exact ⟨av, dv, h1, fun n hn => (h2 n hn).mono hb⟩
/-- what is in each Dir -/
structure NamesIn (w : World) (base mb : Nat) (M : List (Tx × Value)) (L : List Mb) : Prop where
  map : MapS w 9 mb M
  own : ∀ d v, SM.look M d = some v → OwnS w base v ((kids d L).map (·.1))
  none : ∀ d, SM.look M d = none → kids d L = []
  apart : ∀ d d' v v' b, SM.look M d = some v → SM.look M d' = some v' → v.ownBlock = some b → v'.ownBlock = some b → d = d'
  ne : ∀ d v b, SM.look M d = some v → v.ownBlock = some b → b ≠ mb
theorem NamesIn.loc {w w' : World} {base mb : Nat} {M : List (Tx × Value)} {L : List Mb} (h : NamesIn w base mb M L) (hb : ∀ b, (b = mb ∨ ∃ d v, SM.look M d = some v ∧ v.ownBlock = some b) → w'.heap[b]? = w.heap[b]?) : NamesIn w' base mb M L :=
  ⟨h.map.loc (hb _ (.inl rfl)), fun d v hv => ownsRow_loc _ _ (fun b e => hb b (.inr ⟨d, v, hv, e⟩)) (h.own d v hv), h.none, h.apart, h.ne⟩
def namA (base mb : Nat) (M : List (Tx × Value)) (L : List Mb) : As := ⟨fun b => b = mb ∨ ∃ d v, SM.look M d = some v ∧ v.ownBlock = some b, fun w => NamesIn w base mb M L, fun _ _ h hp => hp.loc h⟩
/-- what stands at a Dir -/
theorem NamesIn.at {w : World} {base mb : Nat} {M : List (Tx × Value)} {L : List Mb} (h : NamesIn w base mb M L) (d : Tx) : OwnS w base ((SM.look M d).getD nilV) ((kids d L).map (·.1)) := by
  cases hl : SM.look M d with
  | none => rw [h.none d hl]; exact World.ownsRow_nil _ _ _ _
  | some v => exact h.own d v hl
theorem kids_snoc (d : Tx) (L : List Mb) (x : Mb) : kids d (L ++ [x]) = kids d L ++ (if parentP x.1 = d then [x] else []) := by
  unfold kids
  rw [List.filter_append]
  by_cases e : parentP x.1 = d
  · rw [if_pos e]; simp [e]
  · rw [if_neg e]; simp [e]
theorem NamesIn.put {w w1 w2 : World} {base mb : Nat} {M : List (Tx × Value)} {L : List Mb} {x : Mb} {v v' : Value} (h : NamesIn w base mb M L) (hm : mb < w.heap.size) (hv : (SM.look M (parentP x.1)).getD nilV = v) (ho : OwnS w1 base v' ((kids (parentP x.1) L).map (·.1) ++ [x.1])) (hg : Chg (fun j => v.ownBlock = some j) w.heap.size w w1) (hov : v'.ownBlock = v.ownBlock ∨ ∃ g, v'.ownBlock = some g ∧ w.heap.size ≤ g)
    (hmap : MapS w2 9 mb (SM.put M (parentP x.1, v'))) (hc : Chg (fun j => j = mb) w1.heap.size w1 w2) : NamesIn w2 base mb (SM.put M (parentP x.1, v')) (L ++ [x]) ∧ (∀ b, (∃ d u, SM.look (SM.put M (parentP x.1, v')) d = some u ∧ u.ownBlock = some b) → (∃ d u, SM.look M d = some u ∧ u.ownBlock = some b) ∨ w.heap.size ≤ b) := by
  have hlk : ∀ q u, SM.look (SM.put M (parentP x.1, v')) q = some u → (q = parentP x.1 ∧ u = v') ∨ (q ≠ parentP x.1 ∧ SM.look M q = some u) := fun q u hq => by
    rw [h.map.s.look_put] at hq
    split at hq
    · rename_i e; injection hq with hq; exact .inl ⟨e, hq.symm⟩
    · rename_i e; exact .inr ⟨e, hq⟩
  have hvb : ∀ b, v.ownBlock = some b → SM.look M (parentP x.1) = some v := fun b hb => by
    cases hl : SM.look M (parentP x.1) with
    | none => rw [hl] at hv; subst hv; cases hb
    | some u => rw [hl] at hv; rw [show u = v from hv]
  have hv'b : ∀ b, v'.ownBlock = some b → b ≠ mb ∧ (SM.look M (parentP x.1) = some v ∧ v.ownBlock = some b ∨ w.heap.size ≤ b) := fun b hb => by
    rcases hov with e | ⟨g, e, hge⟩
    · rw [e] at hb
      exact ⟨h.ne _ _ b (hvb b hb) hb, .inl ⟨hvb b hb, hb⟩⟩
    · rw [e] at hb; injection hb with hb
      exact ⟨by omega, .inr (by omega)⟩
  refine ⟨⟨hmap, fun q u hq => ?_, fun q hq => ?_, fun q q' u u' b h1 h2 h3 h4 => ?_, fun q u b hq hu => ?_⟩, ?_⟩
  · rcases hlk q u hq with ⟨rfl, rfl⟩ | ⟨hne, hq⟩
    · rw [kids_snoc, if_pos rfl, List.map_append]
      refine ownsRow_loc _ _ (fun b hb => hc.block b (World.ownsRow.lt ho b hb).2 (hv'b b hb).1) ?_
      exact ho
    · rw [kids_snoc, if_neg (fun e => hne e.symm), List.append_nil]
      have hq0 := h.own q u hq
      refine ownsRow_loc _ _ (fun b hb => ?_) hq0
      have hlt := (World.ownsRow.lt hq0 b hb).2
      have hs := hg.size
      rw [hc.block b (by omega) (h.ne q u b hq hb), hg.block b hlt (fun e => hne (h.apart q _ u v b hq (hvb b e) hb e))]
  · rw [h.map.s.look_put] at hq
    split at hq
    · cases hq
    · rename_i e
      rw [kids_snoc, if_neg (fun e' => e e'.symm), List.append_nil]
      exact h.none q hq
  · rcases hlk q u h1 with ⟨rfl, rfl⟩ | ⟨hne, hq⟩ <;> rcases hlk q' u' h2 with ⟨rfl, rfl⟩ | ⟨hne', hq'⟩
    · rfl
    · rcases (hv'b b h3).2 with ⟨g1, g2⟩ | g
      · exact h.apart _ _ _ _ b g1 hq' g2 h4
      · have := (World.ownsRow.lt (h.own _ _ hq') b h4).2; omega
    · rcases (hv'b b h4).2 with ⟨g1, g2⟩ | g
      · exact h.apart _ _ _ _ b hq g1 h3 g2
      · have := (World.ownsRow.lt (h.own _ _ hq) b h3).2; omega
    · exact h.apart _ _ _ _ b hq hq' h3 h4
  · rcases hlk q u hq with ⟨rfl, rfl⟩ | ⟨hne, hq⟩
    · exact (hv'b b hu).1
    · exact h.ne q u b hq hu
  · rintro b ⟨q, u, hq, hu⟩
    rcases hlk q u hq with ⟨rfl, rfl⟩ | ⟨hne, hq⟩
    · rcases (hv'b b hu).2 with ⟨g1, g2⟩ | g
      · exact .inl ⟨_, _, g1, g2⟩
      · exact .inr g
    · exact .inl ⟨_, _, hq, hu⟩
/-- how often each text stands in ks -/
def CntIs (Y : List (Tx × Value)) (ks : List Tx) : Prop := MapIs (.int .i64 0) Y (fun t => .int .i64 ((ks.count t : Nat) : Int))
theorem CntIs.put {Y : List (Tx × Value)} {ks : List Tx} (hs : SM.Srt Y) (h : CntIs Y ks) (p : Tx) : CntIs (SM.put Y (p, .int .i64 (((ks.count p : Nat) : Int) + 1))) (ks ++ [p]) :=
  MapIs.put hs h (fun q => by
    rw [List.count_append]
    by_cases e : q = p
    · subst e; rw [if_pos rfl]; simp
    · rw [if_neg e]
      have : [p].count q = 0 := by
        rw [List.count_eq_zero]
        simpa using e
      rw [this, Nat.add_zero])
/-- a side -/
structure SideIn (w : World) (N : Nat → Prop) (nb mb yb : Nat) (L : List Mb) : Prop where
  nodes : ∃ M, MapS w 9 nb M ∧ NodesIs w N M L
  names : ∃ M, MapS w 9 mb M ∧ ∀ d, RdS w N ((SM.look M d).getD nilV) ((kids d L).map (·.1))
  many : ∃ Y, MapS w 9 yb Y ∧ MapIs (.int .i64 0) Y (fun t => .int .i64 ((cntM L t : Nat) : Int))
theorem SideIn.lt {w : World} {N : Nat → Prop} {nb mb yb : Nat} {L : List Mb} (h : SideIn w N nb mb yb L) : nb < w.heap.size ∧ mb < w.heap.size ∧ yb < w.heap.size := by
  obtain ⟨_, h1, _⟩ := h.nodes
  obtain ⟨_, h2, _⟩ := h.names
  obtain ⟨_, h3, _⟩ := h.many
  exact ⟨h1.lt, h2.lt, h3.lt⟩
theorem SideIn.loc {w w' : World} {N : Nat → Prop} {nb mb yb : Nat} {L : List Mb} (h : SideIn w N nb mb yb L) (hb : ∀ b, (b = nb ∨ b = mb ∨ b = yb ∨ N b) → w'.heap[b]? = w.heap[b]?) : SideIn w' N nb mb yb L := by
  obtain ⟨_, h1, g1⟩ := h.nodes
  obtain ⟨_, h2, g2⟩ := h.names
  obtain ⟨_, h3, g3⟩ := h.many
  exact ⟨⟨_, h1.loc (hb _ (.inl rfl)), g1.loc (fun b e => hb b (.inr (.inr (.inr e))))⟩, ⟨_, h2.loc (hb _ (.inr (.inl rfl))), fun d => (g2 d).loc (fun b e => hb b (.inr (.inr (.inr e))))⟩, ⟨_, h3.loc (hb _ (.inr (.inr (.inl rfl)))), g3⟩⟩
theorem SideIn.mono {w : World} {N N' : Nat → Prop} {nb mb yb : Nat} {L : List Mb} (h : SideIn w N nb mb yb L) (hN : ∀ b, N b → N' b) : SideIn w N' nb mb yb L := by
  obtain ⟨_, h1, g1⟩ := h.nodes
  obtain ⟨_, h2, g2⟩ := h.names
  exact ⟨⟨_, h1, g1.mono hN⟩, ⟨_, h2, fun d => (g2 d).mono hN⟩, h.many⟩
theorem zeroSt (w : World) : (zeroValue 42).run Tryz.prog w = .ok nilV w := by kernel_rfl
theorem sideB (nb mb yb T : Nat) (f : FuncId) (w : World) : (Instr.build 110 #[(0, .map (some nb)), (1, .map (some mb)), (2, .map (some yb)), (3, .func (.func f) #[.pointer (some ⟨T, 0, none⟩)] #[])]).run Tryz.prog w = .ok (.agg #[.map (some nb), .map (some mb), .map (some yb), .func (.func f) #[.pointer (some ⟨T, 0, none⟩)] #[]]) w := by kernel_rfl
theorem aggS : AggTy Tryz.prog 110 4 := ⟨⟨_, Tryz.underlying110, rfl⟩, by kernel_rfl⟩
end Go.Proofs.YtmnknmpfkjhgbaaGreatDoor
/- differ.sign, Whiteout, Mark, none. -/
namespace Go.Proofs.YtmnknmpfkjhgbaaGreatDoor
open Go.RowKit
set_option maxHeartbeats 1000000 in
set_option maxRecDepth 100000 in
theorem sign_any (p : Tx) (w : World) : Calls Tryz.prog 52 #[.string ⟨p.toArray⟩] w fun e w' => e = .returned (.agg (mbC (signM p) nilV nilV)) ∧ Below w.heap.size w w' := by
  have hb0 : ∀ w, (Instr.build 41 #[]).run Tryz.prog w = .ok (.agg #[.string ⟨#[]⟩, .int .i64 0, .int .u32 0, .int .u32 0, .int .u32 0, .int .i64 0, .slice none 0 0, .slice none 0 0, .string ⟨#[]⟩]) w := fun w => by kernel_rfl
  have hb1 : ∀ w, (Instr.build 39 #[(0, .int .i64 2)]).run Tryz.prog w = .ok (.agg #[.int .i64 2, .int .u32 0, .int .u32 0, .int .u32 0, .int .i64 0, .slice none 0 0, .slice none 0 0, .string ⟨#[]⟩]) w := fun w => by kernel_rfl
  have hb2 : ∀ (p : Tx) w, (Instr.build 41 #[(0, .string ⟨p.toArray⟩), (1, .agg #[.int .i64 2, .int .u32 0, .int .u32 0, .int .u32 0, .int .i64 0, .slice none 0 0, .slice none 0 0, .string ⟨#[]⟩])]).run Tryz.prog w = .ok (.agg #[.string ⟨p.toArray⟩, .int .i64 2, .int .u32 0, .int .u32 0, .int .u32 0, .int .i64 0, .slice none 0 0, .slice none 0 0, .string ⟨#[]⟩]) w := fun p w => by kernel_rfl
  have hb3 := hb2 p
  have HNEW : Keep (∀ c : Array Value, Below w.heap.size w ((w.alloc (.cells #[.string ⟨#[]⟩, .int .i64 0, .int .u32 0, .int .u32 0, .int .u32 0, .int .i64 0, .slice none 0 0, .slice none 0 0, .string ⟨#[]⟩] 41)).setRow w.heap.size c)) := ⟨fun c => ((Chg.of_below (M := NoM) ((Below.refl w.heap.size w).alloc (Nat.le_refl _) _)).setRow (.inl (Nat.le_refl _)) _).below (fun _ _ h => h)⟩
  have HZ : Keep ((#[.string ⟨#[]⟩, .int .i64 0, .int .u32 0, .int .u32 0, .int .u32 0, .int .i64 0, .slice none 0 0, .slice none 0 0, .string ⟨#[]⟩] : Array Value).size = 9) := ⟨rfl⟩
  clear hb2
  by_cases e : p = []
  · have he : p.isEmpty = true := by rw [e]; rfl
    have HX : Keep (mbC (signM p) nilV nilV = #[.string ⟨#[]⟩, .int .i64 0, .int .u32 0, .int .u32 0, .int .u32 0, .int .i64 0, .slice none 0 0, .slice none 0 0, .string ⟨#[]⟩]) := ⟨by unfold signM; rw [if_pos e]; rfl⟩
    have HON : Keep ((#[.string ⟨#[]⟩, .int .i64 0, .int .u32 0, .int .u32 0, .int .u32 0, .int .i64 0, .slice none 0 0, .slice none 0 0, .string ⟨#[]⟩] : Array Value).all (·.oneCell') = true) := ⟨by simp [Value.oneCell']⟩
    rw [HX.out]
    clear e
    go_enter Tryz.func52, Tryz.ntmps52
    go_upto_region 1 with fail
    refine wp_world (R := fun w1 => Hp NoM w w1 [rowA w.heap.size 41 #[.string ⟨#[]⟩, .int .i64 0, .int .u32 0, .int .u32 0, .int .u32 0, .int .i64 0, .slice none 0 0, .slice none 0 0, .string ⟨#[]⟩]]) ((Hp.begin NoM w).newRow _ _) ?_
    intro w1 H1
    have HRW := Keep.keep (H1.out.row 0 rfl)
    have HB := Keep.keep ((Chg.of_below (M := NoM) H1.out.below))
    go_wp2_with ((with_reducible refine arm_storeRow HRW.out aggM HZ.out HZ.out HON.out ?_ ?_ ?_); (focus rfl); (focus rfl); simp only [Act.put])
    exact bodyPost_ret (results_row (p := 2) (ty := 41) rfl (HRW.out.setRow _) aggM HZ.out rfl) rfl ⟨rfl, (HB.out.setRow (.inl (Nat.le_refl _)) _).below (fun _ _ h => h)⟩
  · have he : p.isEmpty = false := by simpa using e
    have HX : Keep (mbC (signM p) nilV nilV = #[.string ⟨p.toArray⟩, .int .i64 2, .int .u32 0, .int .u32 0, .int .u32 0, .int .i64 0, .slice none 0 0, .slice none 0 0, .string ⟨#[]⟩]) := ⟨by unfold signM; rw [if_neg e]; rfl⟩
    have HSZ : Keep ((#[.string ⟨p.toArray⟩, .int .i64 2, .int .u32 0, .int .u32 0, .int .u32 0, .int .i64 0, .slice none 0 0, .slice none 0 0, .string ⟨#[]⟩] : Array Value).size = 9) := ⟨rfl⟩
    have HON : Keep ((#[.string ⟨p.toArray⟩, .int .i64 2, .int .u32 0, .int .u32 0, .int .u32 0, .int .i64 0, .slice none 0 0, .slice none 0 0, .string ⟨#[]⟩] : Array Value).all (·.oneCell') = true) := ⟨by simp [Value.oneCell']⟩
    rw [HX.out]
    clear e
    go_enter Tryz.func52, Tryz.ntmps52
    go_upto_region 1 with fail
    refine wp_world (R := fun w1 => Hp NoM w w1 [rowA w.heap.size 41 #[.string ⟨#[]⟩, .int .i64 0, .int .u32 0, .int .u32 0, .int .u32 0, .int .i64 0, .slice none 0 0, .slice none 0 0, .string ⟨#[]⟩]]) ((Hp.begin NoM w).newRow _ _) ?_
    intro w1 H1
    have HRW := Keep.keep (H1.out.row 0 rfl)
    have HB := Keep.keep ((Chg.of_below (M := NoM) H1.out.below))
    go_wp2_with ((with_reducible refine arm_storeRow HRW.out aggM HZ.out HSZ.out HON.out ?_ ?_ ?_); (focus rfl); (focus rfl); simp only [Act.put])
    exact bodyPost_ret (results_row (p := 2) (ty := 41) rfl (HRW.out.setRow _) aggM HSZ.out rfl) rfl ⟨rfl, (HB.out.setRow (.inl (Nat.le_refl _)) _).below (fun _ _ h => h)⟩
theorem signM_cells (p : Tx) : ∃ (q : Tx) (k : Int), mbC (signM p) nilV nilV = #[.string ⟨q.toArray⟩, .int .i64 k, .int .u32 0, .int .u32 0, .int .u32 0, .int .i64 0, .slice none 0 0, .slice none 0 0, .string ⟨#[]⟩] := by
  unfold signM
  split
  · exact ⟨[], 0, rfl⟩
  · exact ⟨p, 2, rfl⟩
set_option maxHeartbeats 1000000 in
set_option maxRecDepth 100000 in
theorem dwhite_any (p : Tx) (hp : p.length ≤ 1000000) (B : Nat) (w : World) (hB : B ≤ w.heap.size) (hM : Mx B w) : Calls Tryz.prog 17 #[.string ⟨p.toArray⟩] w fun e w' => e = .returned (.agg (mbC (whM p) nilV nilV)) ∧ Below w.heap.size w w' := by
  have HW : Keep (∀ wx, Below w.heap.size w wx → Calls Tryz.prog 54 #[.string ⟨p.toArray⟩] wx fun e w' => e = .returned (.string ⟨(whiteoutP p).toArray⟩) ∧ Below wx.heap.size wx w') := ⟨fun wx hb => white_any p hp B wx (Nat.le_trans hB hb.size) (hM.on (hb.mono hB))⟩
  have HS := Keep.keep (fun wx => sign_any (whiteoutP p) wx)
  unfold whM
  obtain ⟨q, k, hq⟩ := signM_cells (whiteoutP p)
  rw [hq] at HS ⊢
  clear hq hM hB
  generalize whiteoutP p = t at *
  have HZ : Keep ((#[.string ⟨#[]⟩, .int .i64 0, .int .u32 0, .int .u32 0, .int .u32 0, .int .i64 0, .slice none 0 0, .slice none 0 0, .string ⟨#[]⟩] : Array Value).size = 9) := ⟨rfl⟩
  have HSZ : Keep ((#[.string ⟨q.toArray⟩, .int .i64 k, .int .u32 0, .int .u32 0, .int .u32 0, .int .i64 0, .slice none 0 0, .slice none 0 0, .string ⟨#[]⟩] : Array Value).size = 9) := ⟨rfl⟩
  have HON : Keep ((#[.string ⟨q.toArray⟩, .int .i64 k, .int .u32 0, .int .u32 0, .int .u32 0, .int .i64 0, .slice none 0 0, .slice none 0 0, .string ⟨#[]⟩] : Array Value).all (·.oneCell') = true) := ⟨by simp [Value.oneCell']⟩
  go_enter Tryz.func17, Tryz.ntmps17
  go_wp2_with fail
  refine calls_at (R := fun w1 => Hp NoM w w1 [rowA w.heap.size 41 #[.string ⟨#[]⟩, .int .i64 0, .int .u32 0, .int .u32 0, .int .u32 0, .int .i64 0, .slice none 0 0, .slice none 0 0, .string ⟨#[]⟩]]) ((Hp.begin NoM w).newRow _ _) ?_
  intro w1 H1
  refine (HW.out w1 H1.out.below).mono ?_
  rintro e w2 ⟨rfl, hb2⟩
  have H2 := Keep.keep (H1.out.call hb2)
  clear hb2 H1
  go_wp2_with fail
  refine (HS.out w2).mono ?_
  rintro e w3 ⟨rfl, hb3⟩
  have H3 := Keep.keep (H2.out.call hb3)
  clear hb3 H2
  have HRW := Keep.keep (H3.out.row 0 rfl)
  have HB := Keep.keep ((Chg.of_below (M := NoM) H3.out.below))
  go_wp2_with ((with_reducible refine arm_storeRow HRW.out aggM HZ.out HSZ.out HON.out ?_ ?_ ?_); (focus rfl); (focus rfl); simp only [Act.put])
  exact bodyPost_ret (results_row (p := 2) (ty := 41) rfl (HRW.out.setRow _) aggM HSZ.out rfl) rfl ⟨rfl, (HB.out.setRow (.inl (Nat.le_refl _)) _).below (fun _ _ h => h)⟩
set_option maxHeartbeats 1000000 in
set_option maxRecDepth 100000 in
theorem dmark_any (p : Tx) (hp : p.length ≤ 1000000) (B : Nat) (w : World) (hB : B ≤ w.heap.size) (hM : Mx B w) : Calls Tryz.prog 16 #[.string ⟨p.toArray⟩] w fun e w' => e = .returned (.agg (mbC (mkM p) nilV nilV)) ∧ Below w.heap.size w w' := by
  have HW : Keep (∀ wx, Below w.heap.size w wx → Calls Tryz.prog 53 #[.string ⟨p.toArray⟩] wx fun e w' => e = .returned (.string ⟨(opaqueP p).toArray⟩) ∧ Below wx.heap.size wx w') := ⟨fun wx hb => opaq_any p hp B wx (Nat.le_trans hB hb.size) (hM.on (hb.mono hB))⟩
  have HS := Keep.keep (fun wx => sign_any (opaqueP p) wx)
  unfold mkM
  obtain ⟨q, k, hq⟩ := signM_cells (opaqueP p)
  rw [hq] at HS ⊢
  clear hq hM hB
  generalize opaqueP p = t at *
  have HZ : Keep ((#[.string ⟨#[]⟩, .int .i64 0, .int .u32 0, .int .u32 0, .int .u32 0, .int .i64 0, .slice none 0 0, .slice none 0 0, .string ⟨#[]⟩] : Array Value).size = 9) := ⟨rfl⟩
  have HSZ : Keep ((#[.string ⟨q.toArray⟩, .int .i64 k, .int .u32 0, .int .u32 0, .int .u32 0, .int .i64 0, .slice none 0 0, .slice none 0 0, .string ⟨#[]⟩] : Array Value).size = 9) := ⟨rfl⟩
  have HON : Keep ((#[.string ⟨q.toArray⟩, .int .i64 k, .int .u32 0, .int .u32 0, .int .u32 0, .int .i64 0, .slice none 0 0, .slice none 0 0, .string ⟨#[]⟩] : Array Value).all (·.oneCell') = true) := ⟨by simp [Value.oneCell']⟩
  go_enter Tryz.func16, Tryz.ntmps16
  go_wp2_with fail
  refine calls_at (R := fun w1 => Hp NoM w w1 [rowA w.heap.size 41 #[.string ⟨#[]⟩, .int .i64 0, .int .u32 0, .int .u32 0, .int .u32 0, .int .i64 0, .slice none 0 0, .slice none 0 0, .string ⟨#[]⟩]]) ((Hp.begin NoM w).newRow _ _) ?_
  intro w1 H1
  refine (HW.out w1 H1.out.below).mono ?_
  rintro e w2 ⟨rfl, hb2⟩
  have H2 := Keep.keep (H1.out.call hb2)
  clear hb2 H1
  go_wp2_with fail
  refine (HS.out w2).mono ?_
  rintro e w3 ⟨rfl, hb3⟩
  have H3 := Keep.keep (H2.out.call hb3)
  clear hb3 H2
  have HRW := Keep.keep (H3.out.row 0 rfl)
  have HB := Keep.keep ((Chg.of_below (M := NoM) H3.out.below))
  go_wp2_with ((with_reducible refine arm_storeRow HRW.out aggM HZ.out HSZ.out HON.out ?_ ?_ ?_); (focus rfl); (focus rfl); simp only [Act.put])
  exact bodyPost_ret (results_row (p := 2) (ty := 41) rfl (HRW.out.setRow _) aggM HSZ.out rfl) rfl ⟨rfl, (HB.out.setRow (.inl (Nat.le_refl _)) _).below (fun _ _ h => h)⟩
set_option maxHeartbeats 1000000 in
set_option maxRecDepth 100000 in
theorem dnone_any (T mb : Nat) (Bk : Nat → Prop) (f : Tx → Value × Value) (L : List Mb) (w : World) (h : TreeIn w T mb Bk f L) (hBk : ∀ b, Bk b → b < w.heap.size) :
    Calls Tryz.prog 78 #[.pointer (some ⟨T, 0, none⟩)] w fun e w' => e = .returned (.bool false) ∧ Below w.heap.size w w' := by
  have HG := Keep.keep (get_tree T mb Bk f L w h hBk [] (by simp))
  have hg : getT L [] = (ndDir, true) := rfl
  rw [hg] at HG
  clear h hBk hg
  go_enter Tryz.func78, Tryz.ntmps78
  go_wp2_with fail
  refine HG.out.mono ?_
  rintro e w1 ⟨av, dv, rfl, hn, hb⟩
  obtain ⟨aa, la, ca, ad, ld, cd, rfl, rfl⟩ := hn.shape
  have HB := Keep.keep hb
  clear hn hb HG
  unfold ndC strV ndDir
  dsimp only
  go_wp2_with fail
  go_ret
  exact ⟨rfl, HB.out.alloc HB.out.size _⟩
end Go.Proofs.YtmnknmpfkjhgbaaGreatDoor
/- slices.Equal OVER ATTRIBUTES; two attributes set side by side. -/
namespace Go.Proofs.YtmnknmpfkjhgbaaGreatDoor
open Go.RowKit
set_option maxRecDepth 100000 in
theorem neq_attr (x y : R2) (w : World) : (binOp .neq 92 (.agg #[.string ⟨x.1.toArray⟩, .string ⟨x.2.toArray⟩]) (.agg #[.string ⟨y.1.toArray⟩, .string ⟨y.2.toArray⟩])).run Tryz.prog w = .ok (.bool (!decide (x = y))) w := by
  obtain ⟨k, v⟩ := x
  obtain ⟨l, u⟩ := y
  have h := run_equalIn_struct (P := Tryz.prog) w 9999 92 #[.string ⟨k.toArray⟩, .string ⟨v.toArray⟩] #[.string ⟨l.toArray⟩, .string ⟨u.toArray⟩] (by kernel_rfl) (by kernel_rfl)
  have p0 := run_part_one (P := Tryz.prog) (e := 9) Tryz.underlying9 rfl #[.string ⟨k.toArray⟩, .string ⟨v.toArray⟩] 0 (.string ⟨k.toArray⟩) rfl
  have p1 := run_part_one (P := Tryz.prog) (e := 9) Tryz.underlying9 rfl #[.string ⟨k.toArray⟩, .string ⟨v.toArray⟩] 1 (.string ⟨v.toArray⟩) rfl
  have q0 := run_part_one (P := Tryz.prog) (e := 9) Tryz.underlying9 rfl #[.string ⟨l.toArray⟩, .string ⟨u.toArray⟩] 0 (.string ⟨l.toArray⟩) rfl
  have q1 := run_part_one (P := Tryz.prog) (e := 9) Tryz.underlying9 rfl #[.string ⟨l.toArray⟩, .string ⟨u.toArray⟩] 1 (.string ⟨u.toArray⟩) rfl
  simp only [Program.fieldsOf, Tryz.underlying92] at h
  rw [run_neq_struct]
  have e2 : ∀ (l m : List UInt8) (d : Nat) (w : World), (Op.equalIn (d + 1) 9 (.string ⟨l.toArray⟩) (.string ⟨m.toArray⟩)).run Tryz.prog w = .ok (l == m) w := fun l m d w => by
    rw [run_equalIn_string w d 9 _ _ Tryz.underlying9]
    congr 1
    rw [Bool.eq_iff_iff]
    simp
  have h2 : (Op.equalIn 10000 92 (.agg #[.string ⟨k.toArray⟩, .string ⟨v.toArray⟩]) (.agg #[.string ⟨l.toArray⟩, .string ⟨u.toArray⟩])).run Tryz.prog w = .ok (decide ((k, v) = (l, u))) w := by
    refine h.trans ?_
    by_cases e1 : k = l
    · by_cases e3 : v = u
      · subst e1 e3; simp [Op.eqFields, p0, p1, e2]
      · subst e1; simp [Op.eqFields, p0, p1, q0, q1, e2, e3]
    · simp [Op.eqFields, p0, q0, e2, e1]
  rw [h2]; rfl
set_option maxHeartbeats 1000000 in
set_option maxRecDepth 100000 in
theorem aequal_any (v1 v2 : Value) (l1 l2 : List R2) (w : World) (h1 : RdV w (· < w.heap.size) 2 v1 l1.length (rcells l1)) (h2 : RdV w (· < w.heap.size) 2 v2 l2.length (rcells l2)) :
    Calls Tryz.prog 97 #[v1, v2] w fun e w' => e = .returned (.bool (decide (l1 = l2))) ∧ Below w.heap.size w w' := by
  obtain ⟨a1, c1, rfl, hc1, hm1, g1⟩ := h1.shape
  obtain ⟨a2, c2, rfl, hc2, hm2, g2⟩ := h2.shape
  unfold maxLen at hm1 hm2
  have H1 := Keep.keep h1; have H2 := Keep.keep h2; have G1 := Keep.keep g1; have G2 := Keep.keep g2
  clear h1 h2 g1 g2
  by_cases hl : l1.length = l2.length
  · have HL := Keep.keep hl
    rw [← hl] at H2 hc2 ⊢
    clear hl
    obtain ⟨n, hn⟩ : ∃ n, l1.length = n := ⟨_, rfl⟩
    have HN := Keep.keep hn
    rw [hn] at H1 H2 hc1 hc2 HL ⊢
    clear hn
    go_enter Tryz.func97, Tryz.ntmps97
    go_wp2_with fail
    go_loopg [5, 13] n (fun g _ u13 wx => ∃ (k : Nat), k + g = n ∧ u13 = .int .i64 (k : Int) ∧ l1.take k = l2.take k ∧ Below w.heap.size w wx)
    case atStart => exact ⟨0, by omega, rfl, rfl, Below.refl _ _⟩
    case round =>
      obtain ⟨k, hkg, rfl, heq, hb⟩ := hrel
      have HEQ := Keep.keep heq; have HB := Keep.keep hb
      clear heq hb
      cases gk with
      | zero =>
        obtain rfl : k = n := by omega
        have HF : Keep (decide (l1 = l2) = true) := ⟨by
          have h := HEQ.out
          rw [List.take_of_length_le (by rw [HN.out]; exact Nat.le_refl _), List.take_of_length_le (by rw [← HL.out]; exact Nat.le_refl _)] at h
          exact decide_eq_true h⟩
        go_wp2_with fail
        go_ret
        exact ⟨by rw [HF.out]; rfl, HB.out⟩
      | succ g =>
        have hk : k < n := by omega
        have hk1 : k < l1.length := by rw [HN.out]; exact hk
        have hk2 : k < l2.length := by rw [← HL.out]; exact hk
        have hd : decide ((k : Int) < (n : Int)) = true := decide_eq_true (by omega)
        obtain ⟨b1, o1, rfl, hb1⟩ : ∃ b off, a1 = some ⟨b, off, none⟩ ∧ b < w.heap.size := by
          rcases G1.out with h | ⟨b, off, h, hb⟩
          · omega
          · exact ⟨b, off, h, hb⟩
        obtain ⟨b2, o2, rfl, hb2⟩ : ∃ b off, a2 = some ⟨b, off, none⟩ ∧ b < w.heap.size := by
          rcases G2.out with h | ⟨b, off, h, hb⟩
          · omega
          · exact ⟨b, off, h, hb⟩
        have hr1 := H1.out.below HB.out (fun b hb => hb)
        have hr2 := H2.out.below HB.out (fun b hb => hb)
        obtain ⟨s1, s2⟩ := rcells_get l1 k hk1
        obtain ⟨t1, t2⟩ := rcells_get l2 k hk2
        have x1 := hr1.cell b1 o1 _ _ rfl _ _ s1
        have x2 := hr1.cell b1 o1 _ _ rfl _ _ s2
        have y1 := hr2.cell b2 o2 _ _ rfl _ _ t1
        have y2 := hr2.cell b2 o2 _ _ rfl _ _ t2
        rw [← Nat.add_assoc] at x2 y2
        have HST : Keep (l1[k] = l2[k] → l1.take (k + 1) = l2.take (k + 1)) := ⟨fun e => by rw [List.take_succ_eq_append_getElem hk1, List.take_succ_eq_append_getElem hk2, HEQ.out, e]⟩
        have HNE : Keep (l1[k] ≠ l2[k] → decide (l1 = l2) = false) := ⟨fun e => decide_eq_false (fun h => e (by simp only [h]))⟩
        clear hr1 hr2 s1 s2 t1 t2
        generalize l1[k] = p at *
        generalize l2[k] = q at *
        have hneq := neq_attr p q
        unfold strV at x1 x2 y1 y2
        obtain ⟨pk, pv⟩ := p
        obtain ⟨qk, qv⟩ := q
        dsimp only at x1 x2 y1 y2 hneq
        by_cases e : ((pk, pv) : R2) = (qk, qv)
        · have HE := Keep.keep (HST.out e)
          rw [decide_eq_true e] at hneq
          clear e HST HNE
          go_upto_region 6 with fail
          (refine wp_region_quiet_lit (by kernel_rfl) (by kernel_rfl) ?_); (repeat (first | (fail) | go_big_quiet_step (fail))); (refine wpQuiet_nil ?_); (intro _ hwq); (obtain ⟨nq, hwq⟩ := hwq); (subst hwq)
          go_wp2_with fail
          go_roundg g
          case measure => omega
          case rel => exact ⟨k + 1, by omega, by simp, HE.out, below_drewN' HB.out _⟩
        · have HE := Keep.keep (HNE.out e)
          rw [decide_eq_false e] at hneq
          clear e HST HNE
          go_upto_region 6 with fail
          (refine wp_region_quiet_lit (by kernel_rfl) (by kernel_rfl) ?_); (repeat (first | (fail) | go_big_quiet_step (fail))); (refine wpQuiet_nil ?_); (intro _ hwq); (obtain ⟨nq, hwq⟩ := hwq); (subst hwq)
          go_wp2_with fail
          go_ret
          exact ⟨by rw [HE.out]; rfl, below_drewN' HB.out _⟩
  · have HE : Keep (decide (l1 = l2) = false) := ⟨decide_eq_false (fun e => hl (by rw [e]))⟩
    have hd : ((l1.length : Int) != (l2.length : Int)) = true := by simp; omega
    clear hl
    go_enter Tryz.func97, Tryz.ntmps97
    go_wp2_with fail
    go_ret
    exact ⟨by rw [HE.out]; rfl, Below.refl _ _⟩
end Go.Proofs.YtmnknmpfkjhgbaaGreatDoor
/- A REGION THAT DRAWS ITS ORDER, one fact an operation, each of all slots and of the memory; stores into boxes that the region itself makes. -/
namespace Go.Proofs.YtmnknmpfkjhgbaaGreatDoor
open Go.RowKit
theorem wp_region_spcF {P : Program} {ops : Array Oper} {id : Nat} {Q : Exit → Act → World → Prop} {a : Act} {w : World} (D : List (Option Nat)) (C : (Nat → Value) → World → Prop) (T : Nat → (Nat → Value) → World → Prop) (hm : P.follows .mixedOrders = true)
    (hD : ops.toList.map (·.dst) = D) (hB : inOrderB ops = true) (h0 : C (slot a) w.drew)
    (hs : ∀ i, i < ops.size → ∀ a1 w1, Fr a (D.filterMap (·)) a1 → C (slot a1) w1 → (∀ j, Region.waitsFor .any ops i j = true → T j (slot a1) w1) →
      wpOp P ops Q i (fun a2 w2 => ∃ v, a2 = a1.put (D.getD i none) v ∧ C (slot a2) w2 ∧ T i (slot a2) w2 ∧ ∀ j, j ≠ i → Region.waitsFor .any ops j i = false → T j (slot a1) w1 → T j (slot a2) w2) a1 w1)
    (he : ∀ a1 w1, a1 = (D.filterMap (·)).foldl (fun b d => b.put (some d) (slot a1 d)) a → C (slot a1) w1 → (∀ j, j < ops.size → T j (slot a1) w1) → Q .normal a1 w1) : (Code.region id ops true).wp P Q a w := by
  have hlen : D.length = ops.size := by rw [← hD]; simp
  have hget : ∀ i, i < ops.size → D.getD i none ∈ D := fun i hi => by
    rw [List.getD_eq_getElem?_getD, List.getElem?_eq_getElem (by omega)]
    exact List.getElem_mem _
  refine wp_region_fr (D.filterMap (·)) (fun done s w1 => C s w1 ∧ ∀ j, j < ops.size → done.getD j false = true → T j s w1) hm ⟨h0, fun j hj hd => ?_⟩ ?_ ?_
  · simp [Array.getD_eq_getD_getElem?, hj] at hd
  · intro done a1 w1 hF hI hz hcl i hi
    have hlt := ready_lt hi
    refine wpOp_mono ?_ (hs i hlt a1 w1 hF hI.1 (fun j hj => ?_))
    · rintro a2 w2 ⟨v, rfl, hC2, hT, hst⟩
      have hFr : Fr a (D.filterMap (·)) (a1.put (D.getD i none) v) := by
        cases hd : D.getD i none with
        | none => exact hF
        | some d =>
          refine hF.put d ?_ v
          rw [List.mem_filterMap]
          exact ⟨some d, hd ▸ hget i hlt, rfl⟩
      refine ⟨hFr, hC2, fun j hj hd => ?_⟩
      by_cases e : i = j
      · subst e; exact hT
      · have hd' := (getD_set_iff hd).resolve_left e
        refine hst j (Ne.symm e) ?_ (hI.2 j hj hd')
        rw [Bool.eq_false_iff]
        intro hw
        obtain ⟨ed, he1, he2, he3⟩ := waits_of (Array.getElem?_eq_getElem hj) hw
        have := hcl j _ (Array.getElem?_eq_getElem hj) hd' ed he1 he2
        rw [he3] at this
        have hr := (ready_at hi (Array.getElem?_eq_getElem hlt)).1
        rw [getD_both hr] at this; cases this
    · obtain ⟨e, he1, he2, he3⟩ := waits_of (Array.getElem?_eq_getElem hlt) hj
      have hdn := (ready_at hi (Array.getElem?_eq_getElem hlt)).2 e he1 he2
      rw [he3] at hdn
      have hjlt : j < ops.size := by
        rcases Nat.lt_or_ge j done.size with h | h
        · omega
        · simp [Array.getD_eq_getD_getElem?, Array.getElem?_eq_none h] at hdn
      exact hI.2 j hjlt hdn
  · intro done a1 w1 ha hI hz hr
    exact he a1 w1 ha hI.1 (fun j hj => hI.2 j hj (all_done hB hz hr j hj))
section
variable {P : Program} {ops : Array Oper} {Q : Exit → Act → World → Prop} {C : (Nat → Value) → World → Prop} {T : Nat → (Nat → Value) → World → Prop} {i d : Nat} {a1 : Act} {w1 w2 : World} {op : Op} {tp : TypeId} {pos : String} {af : Array Edge} {g : Option (Nat × Bool)} {v : Value}
theorem spcF_val (hi : ops[i]? = some ⟨some d, op, tp, pos, af, g⟩) (hg : Region.wanted (⟨some d, op, tp, pos, af, g⟩ : Oper) (yielded ops a1.tmps) = true)
    (hr : (execOp a1.eval (⟨some d, op, tp, pos, af, g⟩ : Oper)).run P w1 = .ok (.value v) w2) (hd : d < a1.tmps.size)
    (h : ∀ s : Nat → Value, s d = v → (∀ j, j ≠ d → s j = slot a1 j) → C s w2 ∧ T i s w2 ∧ ∀ j, j ≠ i → Region.waitsFor .any ops j i = false → T j (slot a1) w1 → T j s w2) :
    wpOp P ops Q i (fun a2 w2 => ∃ v, a2 = a1.put (some d) v ∧ C (slot a2) w2 ∧ T i (slot a2) w2 ∧ ∀ j, j ≠ i → Region.waitsFor .any ops j i = false → T j (slot a1) w1 → T j (slot a2) w2) a1 w1 := by
  unfold wpOp
  rw [hi]
  simp only
  rw [if_pos hg]
  refine .inl ?_
  unfold Oper.wp
  rw [hr]
  exact ⟨v, rfl, h _ (slot_put_same _ _ _ hd) (fun j hj => slot_put_ne _ _ _ _ (Ne.symm hj))⟩
theorem spcF_skip (hi : ops[i]? = some ⟨none, op, tp, pos, af, g⟩) (hg : Region.wanted (⟨none, op, tp, pos, af, g⟩ : Oper) (yielded ops a1.tmps) = true)
    (hr : (execOp a1.eval (⟨none, op, tp, pos, af, g⟩ : Oper)).run P w1 = .ok .skip w2)
    (h : C (slot a1) w2 ∧ T i (slot a1) w2 ∧ ∀ j, j ≠ i → Region.waitsFor .any ops j i = false → T j (slot a1) w1 → T j (slot a1) w2) :
    wpOp P ops Q i (fun a2 w2 => ∃ v, a2 = a1.put none v ∧ C (slot a2) w2 ∧ T i (slot a2) w2 ∧ ∀ j, j ≠ i → Region.waitsFor .any ops j i = false → T j (slot a1) w1 → T j (slot a2) w2) a1 w1 := by
  unfold wpOp
  rw [hi]
  simp only
  rw [if_pos hg]
  refine .inl ?_
  unfold Oper.wp
  rw [hr]
  exact ⟨undef, rfl, h⟩
end
end Go.Proofs.YtmnknmpfkjhgbaaGreatDoor
/- string(b) of what reads as bytes; []byte of a text that is written out. -/
namespace Go.Proofs.YtmnknmpfkjhgbaaGreatDoor
open Go.RowKit
def ints (l : List UInt8) : List Int := l.map fun c => (c.toNat : Int)
theorem ints_length (l : List UInt8) : (ints l).length = l.length := by simp [ints]
theorem bytesOf_ints (l : List UInt8) : Lib.bytesOf (ints l) = l := by simp [Lib.bytesOf, ints, Function.comp_def]
theorem Reads.bytesIn {w : World} {N : Nat → Prop} {p : Option Addr} {n c : Nat} {l : List UInt8} (h : Reads w N (.slice p n c) l) : n = l.length ∧ Lib.BytesIn w p n (ints l) := by
  obtain ⟨⟨a, cap, he, h1, h2, h3⟩, hc⟩ := h
  injection he with e1 e2 e3; subst e1 e2 e3
  refine ⟨rfl, fun hn => ?_⟩
  rcases h3 with h3 | ⟨b, off, rfl, _⟩
  · omega
  · refine ⟨b, off, rfl, fun i hi => ?_⟩
    rw [hc b off _ _ rfl i hi]
    simp [ints, List.getD_eq_getElem?_getD, hi]
/-- []byte of a text that is written out: the row that the walk leaves -/
theorem Reads.lit {w : World} (e : TypeId) (c : Array Value) (l : List UInt8) (fr : Nat × Nat) (g n : Nat) (hg : g = w.heap.size) (hc : c = (bcells l).toArray) (hn : n = l.length) (hm : l.length ≤ maxLen) : Reads (w.alloc (.cells c e fr)) (fun b => b = w.heap.size) (.slice (some ⟨g, 0, none⟩) n n) l := by
  subst hg hc hn
  refine ⟨⟨_, _, rfl, Nat.le_refl _, hm, .inr ⟨_, _, rfl, rfl⟩⟩, fun b off m cap he j hj => ?_⟩
  injection he with e1 _ _; injection e1 with e1; injection e1 with e1 e2 _; subst e1 e2
  rw [World.cell?_alloc_mark, Nat.zero_add]
  simpa using bcells_get l j hj
end Go.Proofs.YtmnknmpfkjhgbaaGreatDoor
/- bytes.Clone, bytes.Equal, string(b): on what reads as bytes. -/
namespace Go.Proofs.YtmnknmpfkjhgbaaGreatDoor
open Go.RowKit
theorem equal_any (v1 v2 : Value) (l1 l2 : List UInt8) (N1 N2 : Nat → Prop) (w : World) (h1 : Reads w N1 v1 l1) (h2 : Reads w N2 v2 l2) :
    Calls Tryz.prog 96 #[v1, v2] w fun e w' => e = .returned (.bool (l1 == l2)) ∧ w = w' := by
  obtain ⟨a, cap, hu, _⟩ := h1.shape
  obtain ⟨a2, cap2, hu2, _⟩ := h2.shape
  subst hu hu2
  refine (Tryz.bytes_Equal_all a a2 _ _ _ _ (ints l1) (ints l2) w (ints_length _) (ints_length _) h1.bytesIn.2 h2.bytesIn.2).mono ?_
  rintro e w' ⟨rfl, rfl⟩
  exact ⟨by rw [bytesOf_ints, bytesOf_ints], rfl⟩
end Go.Proofs.YtmnknmpfkjhgbaaGreatDoor

