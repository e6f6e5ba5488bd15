/- PARTS OF ONE PROOF, set in one file: ChMay, DifE, ChOf, ChPlain, MbDel, RfLaw. Each part tells its own conditions. -/
import Derived.RangeFuncNested
import Derived.RangeFuncBound
import Derived.Test.YtplafpokgpolkaaGreatDoorW1
/- change.May. -/
namespace Go.Proofs.YtplafpokgpolkaaGreatDoor
open Go.RowKit
def isDirM (S : List Mb) (q : Tx) : Bool := S.any (fun x => x.1 == q && decide (x.2.kind = 1))
/-- the map of the Dirs among S -/
def DirsIn (M : List (Tx × Value)) (S : List Mb) : Prop := ∀ q, (SM.look M q).getD (.int .i64 0) = .int .i64 (if isDirM S q = true then 1 else 0)
theorem isDirM_snoc (S : List Mb) (x : Mb) (q : Tx) : isDirM (S ++ [x]) q = (isDirM S q || (x.1 == q && decide (x.2.kind = 1))) := by unfold isDirM; simp [List.any_append]
theorem DirsIn.skip {M : List (Tx × Value)} {S : List Mb} {x : Mb} (h : DirsIn M S) (hk : x.2.kind ≠ 1) : DirsIn M (S ++ [x]) := fun q => by
  rw [h q, isDirM_snoc]; simp [hk]
theorem DirsIn.put {M : List (Tx × Value)} {S : List Mb} {x : Mb} (hs : SM.Srt M) (h : DirsIn M S) (hk : x.2.kind = 1) : DirsIn (SM.put M (x.1, .int .i64 1)) (S ++ [x]) := fun q => by
  rw [hs.look_put, isDirM_snoc]
  by_cases e : q = x.1
  · subst e; simp [hk]
  · rw [if_neg e, h q]
    have : (x.1 == q) = false := by simpa using fun e' : x.1 = q => e e'.symm
    simp [this]
theorem zeroI (w : World) : (zeroValue 3).run Tryz.prog w = .ok (.int .i64 0) w := by kernel_rfl
theorem ent_may1 : ∀ args w, (callFunc 74 args).run Tryz.prog w = .ok (.enter 74 args) w := enters_of Tryz.func74 (by kernel_rfl) rfl
set_option maxHeartbeats 1000000 in
set_option maxRecDepth 100000 in
theorem may1_any (q : Tx) (hq : q.length ≤ 1000000) (b3 mb : Nat) (M : List (Tx × Value)) (S : List Mb) (w : World) (hc : w.cell? ⟨b3, 0, none⟩ = some (.map (some mb))) (hM : MapS w 9 mb M) (hD : DirsIn M S) :
    Calls Tryz.prog 74 #[.string ⟨q.toArray⟩, .pointer (some ⟨b3, 0, none⟩)] w fun e w' => e = .returned (.bool (!isDirM S q)) ∧ Below w.heap.size w w' := by
  have hlk := hM.look1 Tryz.underlying9 Tryz.underlying91 (zeroI w) (p := q) (by unfold maxLen; omega)
  rw [hD q] at hlk
  generalize isDirM S q = b at *
  clear hM hD
  cases b with
  | true =>
    have hlk : (Instr.lookup 91 (.map (some mb)) (.string ⟨q.toArray⟩) false).run Tryz.prog w = .ok (.int .i64 1) w := hlk
    go_enter Tryz.func74, Tryz.ntmps74
    go_wp2_with fail
    go_ret
    exact ⟨rfl, Below.refl _ _⟩
  | false =>
    have hlk : (Instr.lookup 91 (.map (some mb)) (.string ⟨q.toArray⟩) false).run Tryz.prog w = .ok (.int .i64 0) w := hlk
    go_enter Tryz.func74, Tryz.ntmps74
    go_wp2_with fail
    go_ret
    exact ⟨rfl, Below.refl _ _⟩
theorem mayFrom_end (S : List Mb) (k : Nat) (hk : k = S.length) : mayFrom S k (S.drop k) = if 4096 < S.length then 42 else 0 := by
  subst hk; rw [List.drop_length]; rfl
theorem mayFrom_step {S : List Mb} {k : Nat} (hk : k < S.length) : mayFrom S k (S.drop k) = if errC S k S[k] ≠ 0 then errC S k S[k] else mayFrom S (k + 1) (S.drop (k + 1)) := by
  rw [List.drop_eq_getElem_cons hk]; rfl
/-- ARM: a load that is known, under a guard that holds -/
theorem arm_loadMG {P : Program} {ops : Array Oper} {rest : List Oper} {a : Act} {w : World} {Q : Exit → Act → World → Prop} {tp ty : TypeId} {dst : Option Tmp} {x : Operand} {pos : String} {after : Array Edge} {g : Option (Nat × Bool)} {ad : Addr} {u : Value}
    (hwt : Region.wanted (⟨dst, .load ty x, tp, pos, after, g⟩ : Oper) (yielded ops a.tmps) = true) (hr : (Instr.loadAt ty (.pointer (some ad))).run P w = .ok u w) (hx : a.eval x = .pointer (some ad)) (h : wpList P ops Q rest (a.put dst u) w) : wpList P ops Q (⟨dst, .load ty x, tp, pos, after, g⟩ :: rest) a w := by
  refine Go.BigFrame.wpList_want hwt fun K hK => ?_
  unfold Oper.wp execOp
  simp only [hx, Sem.run_bind, Sem.run_pure, Result.andThen_ok, hr]
  exact hK _ _ h
set_option maxHeartbeats 4000000 in
set_option maxRecDepth 100000 in
theorem chmay_any (v : Value) (l : List Mv) (B : Nat) (w : World) (hT : Tabs B w) (hr : Mbs w (· < w.heap.size) (· < w.heap.size) v l) (hs : ∀ x ∈ l, Sm x.1) (hl : l.length ≤ 1000000) :
    Calls Tryz.prog 36 #[v] w fun e w' => e = .returned (.int .i64 (mayC (l.map (·.1)))) ∧ Below w.heap.size w w' := by
  obtain ⟨a, cap, hv, hcap, hmx, h3⟩ := hr.rd.shape
  have HR := Keep.keep hr; have H3 := Keep.keep h3; have HT := Keep.keep hT; have HS := Keep.keep hs
  unfold maxLen at hmx
  clear hr h3 hT hs
  subst hv
  obtain ⟨S, hS⟩ : ∃ S, l.map (·.1) = S := ⟨_, rfl⟩
  have HSL : Keep (S.length = l.length) := ⟨by rw [← hS, List.length_map]⟩
  rw [hS]
  obtain ⟨out, hout⟩ : ∃ out, mayC S = out := ⟨_, rfl⟩
  have HOUT : Keep (mayFrom S 0 (S.drop 0) = out) := ⟨hout⟩
  rw [hout]
  have HSS := Keep.keep hS
  clear hout hS
  have hmm := @run_makeMap Tryz.prog
  go_enter Tryz.func36, Tryz.ntmps36
  go_upto_region 2 with fail
  refine wp_world (R := fun w1 => Hp NoM w w1 [msA 9 w.heap.size [], rowA (w.heap.size + 1) 91 #[.map (some w.heap.size)]]) ?_ ?_
  · have := ((Hp.begin NoM w).newMap 9).newRow 91 #[.map (some w.heap.size)]
    simpa using this
  intro w1 H1
  obtain ⟨b0, hb0⟩ : ∃ b0, w.heap.size = b0 := ⟨_, rfl⟩
  rw [hb0] at H1 ⊢
  clear hmm
  go_wp2_with fail
  go_loopg [12] l.length (fun g u12 wx => ∃ (k : Nat) (M : List (Tx × Value)), k + g = l.length ∧ u12 = .int .i64 (k : Int) ∧ mayFrom S k (S.drop k) = out ∧ DirsIn M (S.take k) ∧ M.length ≤ k ∧ Hp NoM w wx [msA 9 b0 M, rowA (b0 + 1) 91 #[.map (some b0)]])
  case atStart => exact ⟨0, [], by omega, rfl, HOUT.out, fun q => rfl, Nat.le_refl _, H1.out⟩
  case round =>
    obtain ⟨k, M, hkg, rfl, hmf, hdi, hml, HH⟩ := hrel
    have HMF := Keep.keep hmf; have HDI := Keep.keep hdi; have HHH := Keep.keep HH
    clear hmf hdi HH H1
    cases gk with
    | zero =>
      obtain rfl : k = l.length := by omega
      have HE : Keep (out = if 4096 < l.length then 42 else 0) := ⟨by rw [← HMF.out, mayFrom_end S _ HSL.out.symm, HSL.out]⟩
      by_cases hbig : 4096 < l.length
      · have hd : decide (4096 < (l.length : Int)) = true := decide_eq_true (by omega)
        go_wp2_with fail
        go_ret
        exact ⟨by rw [HE.out, if_pos hbig]; rfl, HHH.out.below⟩
      · have hd : decide (4096 < (l.length : Int)) = false := decide_eq_false (by omega)
        go_wp2_with fail
        go_ret
        exact ⟨by rw [HE.out, if_neg hbig]; rfl, HHH.out.below⟩
    | succ g =>
      have hk : k < l.length := by omega
      obtain ⟨b, off, rfl, hbl⟩ : ∃ b off, a = some ⟨b, off, none⟩ ∧ b < w.heap.size := by
        rcases H3.out with h | ⟨b, off, h, hb⟩
        · omega
        · exact ⟨b, off, h, hb⟩
      have hrx := HR.out.below HHH.out.below (fun b hb => hb) (fun b hb => hb)
      have hld := hrx.load hk
      have hkS : k < S.length := by rw [HSL.out]; exact hk
      have hSk : S[k] = l[k].1 := by simp [← HSS.out]
      have HSTEP : Keep (out = if errC S k l[k].1 ≠ 0 then errC S k l[k].1 else mayFrom S (k + 1) (S.drop (k + 1))) := ⟨by rw [← HMF.out, mayFrom_step hkS, hSk]⟩
      have HTK : Keep (S.take (k + 1) = S.take k ++ [l[k].1]) := ⟨by rw [List.take_succ_eq_append_getElem hkS, hSk]⟩
      have hsx := HS.out l[k] (List.getElem_mem hk)
      have HND := Keep.keep (HR.out.nd l[k] (List.getElem_mem hk))
      have HPV : Keep (∀ j, k = j + 1 → ∃ pp : Tx, notUp S k l[k].1 = !Op.bytesLess pp l[k].1.1 ∧ ∀ wx, Below w.heap.size w wx → wx.cell? ⟨b, off + j * 9, none⟩ = some (.string ⟨pp.toArray⟩)) := ⟨fun j hj => by
        have hj2 : j < l.length := by omega
        refine ⟨l[j].1.1, ?_, fun wx hb => (HR.out.below hb (fun b hb => hb) (fun b hb => hb)).cell hj2 0 (by decide) rfl⟩
        have hjS : S[j]? = some l[j].1 := by rw [← HSS.out, List.getElem?_map, List.getElem?_eq_getElem hj2]; rfl
        subst hj
        unfold notUp
        simp only
        rw [hjS]
        simp only
        rw [less_lt, Bool.eq_iff_iff]
        simp [List.not_lt]⟩
      have HNU : Keep (k = 0 → notUp S k l[k].1 = false) := ⟨fun e => by
        generalize l[k].1 = z
        subst e; rfl⟩
      clear hrx hSk hkS
      have HERR : Keep (errC S k l[k].1 = if (!mayT ([97], l[k].1.2) || notUp S k l[k].1) = true then 1 else if cls l[k].1 < 1 ∨ 3 < cls l[k].1 then 32 else if cls l[k].1 ≠ 1 ∧ bareB l[k].1.2 = false then 31 else if (aboveP l[k].1.1).any (fun q => !isDirM (S.take k) q) = true then 33 else 0) := ⟨rfl⟩
      generalize l[k] = x at *
      obtain ⟨⟨xp, ⟨kind, mode, uid, gid, time, attrs, data, link⟩⟩, av, dv⟩ := x
      obtain ⟨aa, la, ca, ad, ld, cd, e1, e2⟩ := HND.out.shape
      dsimp only at e1 e2 hsx HTK HERR HSTEP HPV HNU
      have hxp := hsx.p
      dsimp only at hxp
      subst e1 e2
      have HMC : Keep (mcell ((xp, ⟨kind, mode, uid, gid, time, attrs, data, link⟩), .slice aa la ca, .slice ad ld cd) = #[.string ⟨xp.toArray⟩, .int .i64 kind, .int .u32 mode, .int .u32 uid, .int .u32 gid, .int .i64 time, .slice aa la ca, .slice ad ld cd, .string ⟨link.toArray⟩]) := ⟨rfl⟩
      rw [HMC.out] at hld
      have hbm : ∀ w, (Instr.build 32 #[(0, .string ⟨#[97]⟩), (1, .agg #[.int .i64 kind, .int .u32 mode, .int .u32 uid, .int .u32 gid, .int .i64 time, .slice aa la ca, .slice ad ld cd, .string ⟨link.toArray⟩])]).run Tryz.prog w = .ok (.agg (mbC ([97], ⟨kind, mode, uid, gid, time, attrs, data, link⟩) (.slice aa la ca) (.slice ad ld cd))) w := fun w => buildM ([97], ⟨kind, mode, uid, gid, time, attrs, data, link⟩) (.slice aa la ca) (.slice ad ld cd) w
      have HCL := Keep.keep (fun wx (hb : Below w.heap.size w wx) => class_any xp (by omega) B wx (Nat.le_trans HT.out.b hb.size) (HT.out.m.on (hb.mono HT.out.b)) (HT.out.c.on (hb.mono HT.out.b)))
      have HNX : Keep (∀ wx, Below w.heap.size w wx → NdR wx (· < wx.heap.size) ⟨kind, mode, uid, gid, time, attrs, data, link⟩ (.slice aa la ca) (.slice ad ld cd)) := ⟨fun wx hb => (HND.out.below hb (fun b hb => hb)).mono (fun b hb' => Nat.lt_of_lt_of_le hb' hb.size)⟩
      have HTM : Keep (∀ wx, Below w.heap.size w wx → Calls Tryz.prog 75 #[.agg (mbC ([97], ⟨kind, mode, uid, gid, time, attrs, data, link⟩) (.slice aa la ca) (.slice ad ld cd))] wx fun e w' => e = .returned (.bool (mayT ([97], ⟨kind, mode, uid, gid, time, attrs, data, link⟩))) ∧ Below wx.heap.size wx w') :=
        ⟨fun wx h => may_any' ([97], ⟨kind, mode, uid, gid, time, attrs, data, link⟩) _ _ ⟨by simp, hsx.l, hsx.d, hsx.a, hsx.n, hsx.k⟩ B wx (Nat.le_trans HT.out.b h.size) (HT.out.m.on (h.mono HT.out.b)) (HT.out.c.on (h.mono HT.out.b)) (HT.out.t.on (h.mono HT.out.b)) (HNX.out wx h)⟩
      have HBR : Keep (∀ wx, Below w.heap.size w wx → Calls Tryz.prog 76 #[.agg (ndC ⟨kind, mode, uid, gid, time, attrs, data, link⟩ (.slice aa la ca) (.slice ad ld cd))] wx fun e w' => e = .returned (.bool (bareB ⟨kind, mode, uid, gid, time, attrs, data, link⟩)) ∧ Below wx.heap.size wx w') := ⟨fun wx hb => bare_any ⟨kind, mode, uid, gid, time, attrs, data, link⟩ _ _ wx (HNX.out wx hb)⟩
      have HNC : Keep (ndC ⟨kind, mode, uid, gid, time, attrs, data, link⟩ (.slice aa la ca) (.slice ad ld cd) = #[.int .i64 kind, .int .u32 mode, .int .u32 uid, .int .u32 gid, .int .i64 time, .slice aa la ca, .slice ad ld cd, .string ⟨link.toArray⟩]) := ⟨rfl⟩
      rw [HNC.out] at HBR
      have HAB := Keep.keep (fun wx => above_any xp (by omega) wx)
      have HCF : Keep (∀ wx v b3 mb, wx.cell? ⟨b3, 0, none⟩ = some (.map (some mb)) → MapS wx 9 mb M → RdS wx (· < wx.heap.size) v (aboveP xp) → Calls Tryz.prog 77 #[v, .func (.func 74) #[] #[.pointer (some ⟨b3, 0, none⟩)]] wx fun e w' => e = .returned (.bool ((aboveP xp).any (fun q => !isDirM (S.take k) q))) ∧ Below wx.heap.size wx w') :=
        ⟨fun wx v b3 mb hc hm hv => cfuncC 74 #[] _ (fun q => !isDirM (S.take k) q) v (aboveP xp) wx ent_may1 (fun wy hy q hq => by
          have hql : q.length ≤ xp.length := by
            have := (mem_above.1 hq).length_le
            simp at this; omega
          have := may1_any q (by omega) b3 mb M (S.take k) wy (by rw [hy.cell (p := ⟨b3, 0, none⟩) (World.block_lt_of_cell? wx _ hc)]; exact hc) (hm.loc (hy.block _ hm.lt)) HDI.out
          simpa using this) hv⟩
      have hcls : cls (xp, ⟨kind, mode, uid, gid, time, attrs, data, link⟩) = (classP xp).1 := rfl
      rw [hcls] at HERR
      generalize errC S k (xp, ⟨kind, mode, uid, gid, time, attrs, data, link⟩) = er at *
      generalize mayT ([97], ⟨kind, mode, uid, gid, time, attrs, data, link⟩) = mt at *
      generalize bareB ⟨kind, mode, uid, gid, time, attrs, data, link⟩ = bb at *
      generalize (aboveP xp).any (fun q => !isDirM (S.take k) q) = an at *
      generalize notUp S k (xp, ⟨kind, mode, uid, gid, time, attrs, data, link⟩) = nu at *
      obtain ⟨⟨cl, tg⟩, hcp⟩ : ∃ c, classP xp = c := ⟨_, rfl⟩
      rw [hcp] at HCL HERR
      dsimp only at HCL HERR
      generalize aboveP xp = ab at *
      clear hcls hcp hsx
      go_wp2_with ((with_reducible refine arm_loadM hld ?_ ?_); (focus rfl); simp only [Act.put, List.setIfInBounds_toArray, List.set_cons_succ, List.set_cons_zero])
      refine calls_at (R := fun wq => Hp NoM w wq ([msA 9 b0 M, rowA (b0 + 1) 91 #[.map (some b0)]] ++ [rowA wr.heap.size 32 #[.string ⟨xp.toArray⟩, .int .i64 kind, .int .u32 mode, .int .u32 uid, .int .u32 gid, .int .i64 time, .slice aa la ca, .slice ad ld cd, .string ⟨link.toArray⟩]])) (HHH.out.newRow _ _) ?_
      intro w2 H2
      refine (HCL.out w2 H2.out.below).mono ?_
      rintro e w3 ⟨rfl, hb3⟩
      have H3' := Keep.keep (H2.out.call hb3)
      obtain ⟨b5, hb5⟩ : ∃ b5, wr.heap.size = b5 := ⟨_, rfl⟩
      rw [hb5] at H3' ⊢
      clear hb3 H2 HCL hld HHH
      go_upto_region 7 with fail
      have HXP : Keep (∀ wx, Below w3.heap.size w3 wx → wx.cell? ⟨b5, 0, none⟩ = some (.string ⟨xp.toArray⟩)) := ⟨fun wx hb => ((H3'.out.call hb).row 2 rfl).cell (i := 0) rfl⟩
      have HAG : Keep (∀ wx, Below w3.heap.size w3 wx → ∀ (j : Nat) (v : Value), ([.int .i64 kind, .int .u32 mode, .int .u32 uid, .int .u32 gid, .int .i64 time, .slice aa la ca, .slice ad ld cd, .string ⟨link.toArray⟩] : List Value)[j]? = some v → wx.cell? ⟨b5, 1 + j, none⟩ = some v) := ⟨fun wx hb j v hj => ((H3'.out.call hb).row 2 rfl).cell (i := 1 + j) (by rw [Nat.add_comm]; simpa using hj)⟩
      have HI8 : Keep ((Tryz.prog.info? 30).map (·.size) = some ([.int .i64 kind, .int .u32 mode, .int .u32 uid, .int .u32 gid, .int .i64 time, .slice aa la ca, .slice ad ld cd, .string ⟨link.toArray⟩] : List Value).length) := ⟨by kernel_rfl⟩
      have HTM' : Keep (∀ wx, Below w3.heap.size w3 wx → Calls Tryz.prog 75 #[.agg (mbC ([97], ⟨kind, mode, uid, gid, time, attrs, data, link⟩) (.slice aa la ca) (.slice ad ld cd))] wx fun e w' => e = .returned (.bool mt) ∧ Below wx.heap.size wx w') := ⟨fun wx hb => HTM.out wx (H3'.out.call hb).below⟩
      cases mt with
      | false =>
        have HE1 : Keep (out = 1) := ⟨by rw [HSTEP.out, HERR.out]; rfl⟩
        refine wp_region_cls (fun w' => Below w3.heap.size w3 w') (by kernel_rfl) (by kernel_rfl) (Below.refl _ _).drew ?_
        repeat (first
          | ((with_reducible refine cls_agg ?_ HAG.out Tryz.underlying30 rfl HI8.out ?_ ?_); (focus rfl); (focus rfl); simp only [Act.put, List.setIfInBounds_toArray, List.set_cons_succ, List.set_cons_zero])
          | ((with_reducible refine cls_cell ?_ HXP.out (run_isAgg_plain Tryz.underlying9 rfl) ?_ ?_); (focus rfl); (focus rfl); simp only [Act.put, List.setIfInBounds_toArray, List.set_cons_succ, List.set_cons_zero])
          | ((with_reducible refine cls_call (f := 75) ?_ (Go.Proofs.enters_of Tryz.func75 (by kernel_rfl) rfl) ?_ (fun w1 hw1 => (HTM'.out w1 hw1).mono (fun e w2 he => ⟨he.1, hw1.trans (he.2.mono hw1.size)⟩)) ?_); (focus rfl); (focus (first | exact Array.map_empty | (simp only [List.map_toArray, List.map_cons, List.map_nil]; rfl))); simp only [Act.put, List.setIfInBounds_toArray, List.set_cons_succ, List.set_cons_zero])
          | (first | go_big_quiet_step (fail) | (go_big_quiet_want; go_big_quiet_op; (refine ⟨_, fun _ _ => rfl, ?_⟩); go_big_quiet_on)))
        (refine wpQuiet_nil ?_); intro w4 hw4
        have HB4 := Keep.keep (H3'.out.call hw4).below
        clear hw4
        go_wp2_with fail
        go_ret
        exact ⟨by rw [HE1.out]; rfl, by first | exact HB4.out | (rw [← hb0]; exact HB4.out)⟩
      | true =>
        have HOE : Keep (∀ c : Int, er = c → c ≠ 0 → out = c) := ⟨fun c h1 h2 => by rw [HSTEP.out, h1, if_pos h2]⟩
        have HNF : Keep (nu = false → er = if cl < 1 ∨ 3 < cl then 32 else if cl ≠ 1 ∧ bb = false then 31 else if an = true then 33 else 0) := ⟨fun h => by rw [HERR.out, h]; rfl⟩
        have HNT : Keep (nu = true → out = 1) := ⟨fun h => by rw [HSTEP.out, HERR.out, h]; rfl⟩
        rcases Nat.eq_zero_or_pos k with hk0 | hk0
        focus
          have HE := Keep.keep (HNF.out (HNU.out hk0))
          have hd : decide (0 < (k : Int)) = false := decide_eq_false (by omega)
          have hd2 : decide (0 < k) = false := decide_eq_false (by omega)
          clear hk0
          refine wp_region_cls (fun w' => Below w3.heap.size w3 w') (by kernel_rfl) (by kernel_rfl) (Below.refl _ _).drew ?_
          repeat (first
            | ((with_reducible refine cls_agg ?_ HAG.out Tryz.underlying30 rfl HI8.out ?_ ?_); (focus rfl); (focus rfl); simp only [Act.put, List.setIfInBounds_toArray, List.set_cons_succ, List.set_cons_zero])
            | ((with_reducible refine cls_cell ?_ HXP.out (run_isAgg_plain Tryz.underlying9 rfl) ?_ ?_); (focus rfl); (focus rfl); simp only [Act.put, List.setIfInBounds_toArray, List.set_cons_succ, List.set_cons_zero])
            | ((with_reducible refine cls_call (f := 75) ?_ (Go.Proofs.enters_of Tryz.func75 (by kernel_rfl) rfl) ?_ (fun w1 hw1 => (HTM'.out w1 hw1).mono (fun e w2 he => ⟨he.1, hw1.trans (he.2.mono hw1.size)⟩)) ?_); (focus rfl); (focus (first | exact Array.map_empty | (simp only [List.map_toArray, List.map_cons, List.map_nil]; rfl))); simp only [Act.put, List.setIfInBounds_toArray, List.set_cons_succ, List.set_cons_zero])
            | (first | go_big_quiet_step (fail) | (go_big_quiet_want; go_big_quiet_op; (refine ⟨_, fun _ _ => rfl, ?_⟩); go_big_quiet_on)))
          (refine wpQuiet_nil ?_); intro w4 hw4
        rotate_left
        focus
          obtain ⟨j, hj⟩ : ∃ j, k = j + 1 := ⟨k - 1, by omega⟩
          obtain ⟨pp, hnu, hpc⟩ := HPV.out j hj
          have HPC : Keep (∀ wx, Below w3.heap.size w3 wx → wx.cell? ⟨b, off + j * 9, none⟩ = some (.string ⟨pp.toArray⟩)) := ⟨fun wx hb => hpc wx (H3'.out.call hb).below⟩
          have hkj : ((k : Int) - 1) = (j : Int) := by omega
          have hd : decide (0 < (k : Int)) = true := decide_eq_true (by omega)
          have hd2 : decide (0 < k) = true := decide_eq_true (by omega)
          clear hk0
          have HNUJ := Keep.keep hnu
          have hjl : j < l.length := by omega
          clear hnu hpc hj
          cases hbl2 : Op.bytesLess pp xp
          case false =>
            have HO1 := Keep.keep (HNT.out (by rw [HNUJ.out, hbl2]; rfl))
            refine wp_region_cls (fun w' => Below w3.heap.size w3 w') (by kernel_rfl) (by kernel_rfl) (Below.refl _ _).drew ?_
            repeat (first
              | ((with_reducible refine cls_agg ?_ HAG.out Tryz.underlying30 rfl HI8.out ?_ ?_); (focus rfl); (focus rfl); simp only [Act.put, List.setIfInBounds_toArray, List.set_cons_succ, List.set_cons_zero])
              | ((with_reducible refine cls_cell ?_ HPC.out (run_isAgg_plain Tryz.underlying9 rfl) ?_ ?_); (focus rfl); (focus rfl); simp only [Act.put, List.setIfInBounds_toArray, List.set_cons_succ, List.set_cons_zero])
              | ((with_reducible refine cls_cell ?_ HXP.out (run_isAgg_plain Tryz.underlying9 rfl) ?_ ?_); (focus rfl); (focus rfl); simp only [Act.put, List.setIfInBounds_toArray, List.set_cons_succ, List.set_cons_zero])
              | ((with_reducible refine cls_call (f := 75) ?_ (Go.Proofs.enters_of Tryz.func75 (by kernel_rfl) rfl) ?_ (fun w1 hw1 => (HTM'.out w1 hw1).mono (fun e w2 he => ⟨he.1, hw1.trans (he.2.mono hw1.size)⟩)) ?_); (focus rfl); (focus (first | exact Array.map_empty | (simp only [List.map_toArray, List.map_cons, List.map_nil]; rfl))); simp only [Act.put, List.setIfInBounds_toArray, List.set_cons_succ, List.set_cons_zero])
              | (first | go_big_quiet_step (fail) | (go_big_quiet_want; go_big_quiet_op; (refine ⟨_, fun _ _ => rfl, ?_⟩); go_big_quiet_on)))
            (refine wpQuiet_nil ?_); intro w4 hw4
            have HB4 := Keep.keep (H3'.out.call hw4).below
            clear hw4
            go_wp2_with fail
            go_ret
            exact ⟨by rw [HO1.out]; rfl, by first | exact HB4.out | (rw [← hb0]; exact HB4.out)⟩
          have HE := Keep.keep (HNF.out (by rw [HNUJ.out, hbl2]; rfl))
          refine wp_region_cls (fun w' => Below w3.heap.size w3 w') (by kernel_rfl) (by kernel_rfl) (Below.refl _ _).drew ?_
          repeat (first
            | ((with_reducible refine cls_agg ?_ HAG.out Tryz.underlying30 rfl HI8.out ?_ ?_); (focus rfl); (focus rfl); simp only [Act.put, List.setIfInBounds_toArray, List.set_cons_succ, List.set_cons_zero])
            | ((with_reducible refine cls_cell ?_ HPC.out (run_isAgg_plain Tryz.underlying9 rfl) ?_ ?_); (focus rfl); (focus rfl); simp only [Act.put, List.setIfInBounds_toArray, List.set_cons_succ, List.set_cons_zero])
            | ((with_reducible refine cls_cell ?_ HXP.out (run_isAgg_plain Tryz.underlying9 rfl) ?_ ?_); (focus rfl); (focus rfl); simp only [Act.put, List.setIfInBounds_toArray, List.set_cons_succ, List.set_cons_zero])
            | ((with_reducible refine cls_call (f := 75) ?_ (Go.Proofs.enters_of Tryz.func75 (by kernel_rfl) rfl) ?_ (fun w1 hw1 => (HTM'.out w1 hw1).mono (fun e w2 he => ⟨he.1, hw1.trans (he.2.mono hw1.size)⟩)) ?_); (focus rfl); (focus (first | exact Array.map_empty | (simp only [List.map_toArray, List.map_cons, List.map_nil]; rfl))); simp only [Act.put, List.setIfInBounds_toArray, List.set_cons_succ, List.set_cons_zero])
            | (first | go_big_quiet_step (fail) | (go_big_quiet_want; go_big_quiet_op; (refine ⟨_, fun _ _ => rfl, ?_⟩); go_big_quiet_on)))
          (refine wpQuiet_nil ?_); intro w4 hw4
          clear hkj hbl2 HNUJ HPC hjl
        all_goals
          have H4 := Keep.keep (H3'.out.call hw4)
          have HB4 := Keep.keep (H3'.out.call hw4).below
          clear hw4 hd hd2
          by_cases z1 : cl < 1
          · have d1 : decide (cl < 1) = true := decide_eq_true z1
            have HX : Keep (out = 32) := ⟨HOE.out 32 (by rw [HE.out, if_pos (.inl z1)]) (by decide)⟩
            go_wp2_with fail
            go_ret
            exact ⟨by rw [HX.out]; rfl, by first | exact HB4.out | (rw [← hb0]; exact HB4.out)⟩
          by_cases z3 : 3 < cl
          · have d1 : decide (cl < 1) = false := decide_eq_false z1
            have d3 : decide (3 < cl) = true := decide_eq_true z3
            have HX : Keep (out = 32) := ⟨HOE.out 32 (by rw [HE.out, if_pos (.inr z3)]) (by decide)⟩
            go_wp2_with fail
            go_ret
            exact ⟨by rw [HX.out]; rfl, by first | exact HB4.out | (rw [← hb0]; exact HB4.out)⟩
          have HE2 : Keep (er = if cl ≠ 1 ∧ bb = false then 31 else if an = true then 33 else 0) := ⟨by rw [HE.out, if_neg (fun h => h.elim z1 z3)]⟩
          have d1 : decide (cl < 1) = false := decide_eq_false z1
          have d3 : decide (3 < cl) = false := decide_eq_false z3
          by_cases zc : cl = 1
          focus
            have hne : (cl != 1) = false := by rw [zc]; rfl
            have HE3 : Keep (er = if an = true then 33 else 0) := ⟨by rw [HE2.out, if_neg (fun h => h.1 zc)]⟩
            go_upto_region 13 with fail
          rotate_left
          focus
            have hne : (cl != 1) = true := by simpa using zc
            have hla : (Instr.loadAt 30 (.pointer (some ⟨b5, 1, none⟩))).run Tryz.prog w4 = .ok (.agg #[.int .i64 kind, .int .u32 mode, .int .u32 uid, .int .u32 gid, .int .i64 time, .slice aa la ca, .slice ad ld cd, .string ⟨link.toArray⟩]) w4 := by
              have := run_loadAt_mid (P := Tryz.prog) w4 b5 1 30 [.int .i64 kind, .int .u32 mode, .int .u32 uid, .int .u32 gid, .int .i64 time, .slice aa la ca, .slice ad ld cd, .string ⟨link.toArray⟩] _ (fun j z hj => ((H4.out.row 2 rfl).cell (i := 1 + j) (by rw [Nat.add_comm]; simpa using hj))) Tryz.underlying30 rfl (by kernel_rfl)
              simpa using this
            go_wp2_with ((with_reducible refine arm_loadMG ?_ hla ?_ ?_); (focus rfl); (focus rfl); simp only [Act.put, List.setIfInBounds_toArray, List.set_cons_succ, List.set_cons_zero])
            refine (HBR.out w4 HB4.out).mono ?_
            rintro e w5 ⟨rfl, hb5'⟩
            have H5 := Keep.keep (H4.out.call hb5')
            clear hb5' hla
            cases bb
            case false =>
              have HX : Keep (out = 31) := ⟨HOE.out 31 (by rw [HE2.out, if_pos ⟨zc, rfl⟩]) (by decide)⟩
              have HB5 := Keep.keep H5.out.below
              go_wp2_with fail
              go_ret
              exact ⟨by rw [HX.out]; rfl, by first | exact HB5.out | (rw [← hb0]; exact HB5.out)⟩
            have HE3 : Keep (er = if an = true then 33 else 0) := ⟨by rw [HE2.out, if_neg (fun h => by cases h.2)]⟩
            clear H4
            have H4 := H5
            go_upto_region 13 with fail
        all_goals
          clear HB4
          refine wp_world (R := fun wz => Hp NoM w wz ([msA 9 b0 M, rowA (b0 + 1) 91 #[.map (some b0)]] ++ [rowA b5 32 #[.string ⟨xp.toArray⟩, .int .i64 kind, .int .u32 mode, .int .u32 uid, .int .u32 gid, .int .i64 time, .slice aa la ca, .slice ad ld cd, .string ⟨link.toArray⟩]])) H4.out ?_
          intro w6 H6
          have c0 := (H6.out.row 2 rfl).cell (i := 0) rfl
          clear H4
          go_wp2_with fail
          refine (HAB.out w6).mono ?_
          rintro e w7 ⟨va, rfl, hoa, hb7⟩
          have H7 := Keep.keep (H6.out.call hb7)
          have HVA : Keep (RdS w7 (· < w7.heap.size) va ab) := ⟨(ownsV_reads hoa).mono (fun b hb => hb.2.1)⟩
          obtain ⟨a7, c7, hva, -⟩ := (ownsV_reads hoa).shape
          generalize ab.length = na at hva
          subst hva
          have HC7 := Keep.keep (HCF.out w7 _ (b0 + 1) b0 ((H7.out.row 1 rfl).cell (i := 0) rfl) (H7.out.get 0 rfl) HVA.out)
          clear hoa hb7 c0 H6
          go_wp2_with fail
          refine HC7.out.mono ?_
          rintro e w8 ⟨rfl, hb8⟩
          have H8 := Keep.keep (H7.out.call hb8)
          clear hb8 HC7 HVA H7
          cases an with
          | true =>
            have HX : Keep (out = 33) := ⟨HOE.out 33 (by rw [HE3.out, if_pos rfl]) (by decide)⟩
            have HB8 := Keep.keep H8.out.below
            go_wp2_with fail
            go_ret
            exact ⟨by rw [HX.out]; rfl, by first | exact HB8.out | (rw [← hb0]; exact HB8.out)⟩
          | false =>
            have HMF2 : Keep (mayFrom S (k + 1) (S.drop (k + 1)) = out) := ⟨by rw [HSTEP.out, HE3.out, if_neg (by decide)]⟩
            have k1 := (H8.out.row 2 rfl).cell (i := 1) rfl
            have c0 := (H8.out.row 2 rfl).cell (i := 0) rfl
            have c3 := (H8.out.row 1 rfl).cell (i := 0) rfl
            have hm8 : MapS w8 9 b0 M := H8.out.get 0 rfl
            have HM8 := Keep.keep hm8
            clear hm8
            by_cases zk : kind = 1
            · have hzk : (kind == 1) = true := by rw [zk]; rfl
              have HD2 : Keep (DirsIn (SM.put M (xp, .int .i64 1)) (S.take (k + 1))) := ⟨by rw [HTK.out]; exact DirsIn.put (x := (xp, ⟨kind, mode, uid, gid, time, attrs, data, link⟩)) HM8.out.s HDI.out zk⟩
              have HL2 : Keep ((SM.put M (xp, .int .i64 1)).length ≤ k + 1) := ⟨by rw [HM8.out.s.length_put]; split <;> omega⟩
              go_wp2_with (first | (with_reducible refine arm_sRange ?_) | (with_reducible refine arm_sNext ?_) | (with_reducible refine arm_sDel ?_) | (with_reducible refine arm_sPut ?_) | (with_reducible refine arm_sIns ?_))
              refine StM.out ?_
              refine arm_putS Tryz.underlying9 Tryz.underlying91 HM8.out (p := xp) (by unfold maxLen; omega) (by unfold maxLen; omega) rfl rfl rfl ?_
              intro w9 hm9 hc9
              have H9 := Keep.keep (H8.out.upd 0 rfl (msA 9 b0 (SM.put M (xp, .int .i64 1))) hc9 hm9 (fun b hb => .inl hb))
              clear hm9 hc9 H8 HM8 k1 c0 c3
              simp only [Act.put]
              go_wp2_with fail
              go_roundg g
              case measure => omega
              case rel => exact ⟨k + 1, _, by omega, by simp, HMF2.out, HD2.out, HL2.out, H9.out.init⟩
            · have hzk : (kind == 1) = false := by simpa using zk
              have HD2 : Keep (DirsIn M (S.take (k + 1))) := ⟨by rw [HTK.out]; exact HDI.out.skip zk⟩
              clear HM8
              go_wp2_with fail
              go_roundg g
              case measure => omega
              case rel => exact ⟨k + 1, M, by omega, by simp, HMF2.out, HD2.out, by omega, H8.out.init⟩
end Go.Proofs.YtplafpokgpolkaaGreatDoor
/- CHANGESETS, plainly: what a changeset's maps tell; what stays. -/
namespace Go.Proofs.YtplafpokgpolkaaGreatDoor
def goneE (S : List Mb) (t : Tx) : Bool := S.any fun m => decide (cls m = 2) && tgt m == t
def markE (S : List Mb) (t : Tx) : Bool := S.any fun m => decide (cls m = 3) && tgt m == t
def overE (S : List Mb) (t : Tx) : Int := if (S.any fun m => decide (cls m = 1) && decide (m.2.kind ≠ 1) && tgt m == t) = true then 2 else if (S.any fun m => decide (cls m = 1) && decide (m.2.kind = 1) && tgt m == t) = true then 1 else 0
def hidesE (S : List Mb) (p : Tx) : Bool := goneE S p || decide (overE S p = 2)
def staysE (S : List Mb) (p : Tx) : Bool := p != [] && decide (overE S p = 0) && !markE S [] && !hidesE S p && !(aboveP p).any (hidesE S) && !(aboveP p).any (markE S)
theorem over_two {S : List Mb} {t : Tx} : overE S t = 2 ↔ ∃ m ∈ S, cls m = 1 ∧ m.2.kind ≠ 1 ∧ tgt m = t := by
  unfold overE
  split
  · rename_i h
    simp only [List.any_eq_true, Bool.and_eq_true, decide_eq_true_eq, beq_iff_eq, and_assoc] at h
    exact ⟨fun _ => h, fun _ => rfl⟩
  · rename_i h
    have hn : ¬ ∃ m ∈ S, cls m = 1 ∧ m.2.kind ≠ 1 ∧ tgt m = t := by
      rintro ⟨m, hm, a, b, c⟩
      exact h (List.any_eq_true.2 ⟨m, hm, by simp [a, b, c]⟩)
    split <;> exact ⟨fun e => by omega, fun e => (hn e).elim⟩
theorem over_zero {S : List Mb} {t : Tx} : overE S t = 0 ↔ ¬ ∃ m ∈ S, cls m = 1 ∧ tgt m = t := by
  unfold overE
  split
  · rename_i h
    simp only [List.any_eq_true, Bool.and_eq_true, decide_eq_true_eq, beq_iff_eq, and_assoc] at h
    obtain ⟨m, hm, a, _, c⟩ := h
    exact ⟨fun e => by omega, fun e => (e ⟨m, hm, a, c⟩).elim⟩
  · rename_i h
    split
    · rename_i h2
      simp only [List.any_eq_true, Bool.and_eq_true, decide_eq_true_eq, beq_iff_eq, and_assoc] at h2
      obtain ⟨m, hm, a, _, c⟩ := h2
      exact ⟨fun e => by omega, fun e => (e ⟨m, hm, a, c⟩).elim⟩
    · rename_i h2
      refine ⟨fun _ => ?_, fun _ => rfl⟩
      rintro ⟨m, hm, a, c⟩
      by_cases hk : m.2.kind = 1
      · exact h2 (List.any_eq_true.2 ⟨m, hm, by simp [a, hk, c]⟩)
      · exact h (List.any_eq_true.2 ⟨m, hm, by simp [a, hk, c]⟩)
theorem gone_iff {S : List Mb} {t : Tx} : goneE S t = true ↔ ∃ m ∈ S, cls m = 2 ∧ tgt m = t := by unfold goneE; simp [List.any_eq_true]
theorem mark_iff {S : List Mb} {t : Tx} : markE S t = true ↔ ∃ m ∈ S, cls m = 3 ∧ tgt m = t := by unfold markE; simp [List.any_eq_true]
theorem hides_iff {S : List Mb} {t : Tx} : hidesE S t = true ↔ ∃ m ∈ S, tgt m = t ∧ (cls m = 2 ∨ (cls m = 1 ∧ m.2.kind ≠ 1)) := by
  unfold hidesE
  rw [Bool.or_eq_true, decide_eq_true_eq, gone_iff, over_two]
  constructor
  · rintro (⟨m, hm, a, b⟩ | ⟨m, hm, a, b, c⟩)
    · exact ⟨m, hm, b, .inl a⟩
    · exact ⟨m, hm, c, .inr ⟨a, b⟩⟩
  · rintro ⟨m, hm, a, b | b⟩
    · exact .inl ⟨m, hm, b, a⟩
    · exact .inr ⟨m, hm, b.1, b.2, a⟩
theorem tgt_ne {m : Mb} (h : cls m = 1 ∨ cls m = 2) : tgt m ≠ [] := by
  rcases at_of (m := m) (by omega) with ⟨_, ht, _, h0⟩ | ⟨_, _, h0, _⟩ | ⟨hk, _⟩
  · rw [ht]; exact h0
  · exact h0
  · omega
/-- the maps tell what the Members do -/
theorem stays_eq (S : List Mb) (p : Tx) : staysE S p = staysC S p := by
  rw [Bool.eq_iff_iff]
  unfold staysE staysC
  simp only [Bool.and_eq_true, bne_iff_ne, decide_eq_true_eq, Bool.not_eq_true', List.all_eq_true, over_zero, ← Bool.not_eq_true, hides_iff, mark_iff, List.any_eq_true]
  constructor
  · rintro ⟨⟨⟨⟨⟨h0, h1⟩, h2⟩, h3⟩, h4⟩, h5⟩
    refine ⟨h0, fun m hm h => ?_⟩
    unfold hits at h
    simp only [Bool.or_eq_true, Bool.and_eq_true, decide_eq_true_eq, beq_iff_eq] at h
    rcases h with (⟨hc, h | ⟨hk, h⟩⟩ | ⟨hc, h | h⟩) | ⟨hc, h⟩
    · exact h1 ⟨m, hm, hc, h⟩
    · exact h4 ⟨tgt m, (under_above (tgt_ne (.inl hc))).1 h, m, hm, rfl, .inr ⟨hc, hk⟩⟩
    · exact h3 ⟨m, hm, h, .inl hc⟩
    · exact h4 ⟨tgt m, (under_above (tgt_ne (.inr hc))).1 h, m, hm, rfl, .inl hc⟩
    · by_cases ht : tgt m = []
      · exact h2 ⟨m, hm, hc, ht⟩
      · exact h5 ⟨tgt m, (under_above ht).1 h, m, hm, hc, rfl⟩
  · rintro ⟨h0, h⟩
    have hf : ∀ m ∈ S, ∀ t, tgt m = t → (cls m = 1 ∧ (t = p ∨ (m.2.kind ≠ 1 ∧ underP t p = true))) ∨ (cls m = 2 ∧ (t = p ∨ underP t p = true)) ∨ (cls m = 3 ∧ underP t p = true) → False := by
      rintro m hm t rfl e
      refine h m hm ?_
      unfold hits
      simp only [Bool.or_eq_true, Bool.and_eq_true, decide_eq_true_eq, beq_iff_eq, or_assoc]
      exact e
    refine ⟨⟨⟨⟨⟨h0, ?_⟩, ?_⟩, ?_⟩, ?_⟩, ?_⟩
    · rintro ⟨m, hm, a, b⟩
      exact hf m hm _ b (.inl ⟨a, .inl rfl⟩)
    · rintro ⟨m, hm, a, b⟩
      exact hf m hm _ b (.inr (.inr ⟨a, by rw [under_nil]; simp [h0]⟩))
    · rintro ⟨m, hm, a, b | ⟨b, _⟩⟩
      · exact hf m hm _ a (.inr (.inl ⟨b, .inl rfl⟩))
      · exact hf m hm _ a (.inl ⟨b, .inl rfl⟩)
    · rintro ⟨q, hq, m, hm, a, b⟩
      have hq0 : q ≠ [] := by rw [← a]; exact tgt_ne (by rcases b with b | ⟨b, _⟩ <;> omega)
      have hu := (under_above hq0).2 hq
      rcases b with b | ⟨b, c⟩
      · exact hf m hm q a (.inr (.inl ⟨b, .inr hu⟩))
      · exact hf m hm q a (.inl ⟨b, .inr ⟨c, hu⟩⟩)
    · rintro ⟨q, hq, m, hm, a, b⟩
      by_cases hq0 : q = []
      · exact hf m hm q b (.inr (.inr ⟨a, by rw [hq0, under_nil]; simp [h0]⟩))
      · exact hf m hm q b (.inr (.inr ⟨a, (under_above hq0).2 hq⟩))
end Go.Proofs.YtplafpokgpolkaaGreatDoor
/- change.of: what Members do, as three maps; hides, stays. -/
namespace Go.Proofs.YtplafpokgpolkaaGreatDoor
open Go.RowKit
theorem goneE_snoc (S : List Mb) (x : Mb) (t : Tx) : goneE (S ++ [x]) t = (goneE S t || (decide (cls x = 2) && tgt x == t)) := by unfold goneE; simp [List.any_append]
theorem markE_snoc (S : List Mb) (x : Mb) (t : Tx) : markE (S ++ [x]) t = (markE S t || (decide (cls x = 3) && tgt x == t)) := by unfold markE; simp [List.any_append]
theorem overE_snoc (S : List Mb) (x : Mb) (t : Tx) : overE (S ++ [x]) t = if cls x = 1 ∧ tgt x = t then (if x.2.kind = 1 then max (overE S t) 1 else 2) else overE S t := by
  unfold overE
  rw [List.any_append, List.any_append]
  generalize (S.any fun m => decide (cls m = 1) && decide (m.2.kind ≠ 1) && tgt m == t) = b1
  generalize (S.any fun m => decide (cls m = 1) && decide (m.2.kind = 1) && tgt m == t) = b2
  by_cases h1 : cls x = 1 <;> by_cases h2 : tgt x = t <;> by_cases h3 : x.2.kind = 1 <;> cases b1 <;> cases b2 <;> simp [h1, h2, h3] <;> decide
/-- what a map tells, at every key -/
def MapIs (z : Value) (M : List (Tx × Value)) (f : Tx → Value) : Prop := ∀ t, (SM.look M t).getD z = f t
theorem MapIs.put {z v : Value} {M : List (Tx × Value)} {f f' : Tx → Value} {p : Tx} (hs : SM.Srt M) (h : MapIs z M f) (hf : ∀ q, f' q = if q = p then v else f q) : MapIs z (SM.put M (p, v)) f' := fun q => by
  rw [hs.look_put, hf]
  by_cases e : q = p
  · rw [if_pos e, if_pos e]; rfl
  · rw [if_neg e, if_neg e]; exact h q
theorem MapIs.same {z : Value} {M : List (Tx × Value)} {f f' : Tx → Value} (h : MapIs z M f) (hf : ∀ q, f' q = f q) : MapIs z M f' := fun q => by rw [h q, hf]
def gonV (S : List Mb) (t : Tx) : Value := .bool (goneE S t)
def mrkV (S : List Mb) (t : Tx) : Value := .bool (markE S t)
def ovrV (S : List Mb) (t : Tx) : Value := .int .i64 (overE S t)
structure EffIn (w : World) (b1 b2 b3 : Nat) (S : List Mb) : Prop where
  g : ∃ M, MapS w 9 b1 M ∧ MapIs (.bool false) M (gonV S)
  m : ∃ M, MapS w 9 b2 M ∧ MapIs (.bool false) M (mrkV S)
  o : ∃ M, MapS w 9 b3 M ∧ MapIs (.int .i64 0) M (ovrV S)
theorem EffIn.lt {w : World} {b1 b2 b3 : Nat} {S : List Mb} (h : EffIn w b1 b2 b3 S) : b1 < w.heap.size ∧ b2 < w.heap.size ∧ b3 < w.heap.size := by
  obtain ⟨_, h1, _⟩ := h.g
  obtain ⟨_, h2, _⟩ := h.m
  obtain ⟨_, h3, _⟩ := h.o
  exact ⟨h1.lt, h2.lt, h3.lt⟩
theorem EffIn.loc {w w' : World} {b1 b2 b3 : Nat} {S : List Mb} (h : EffIn w b1 b2 b3 S) (hb : ∀ b, b = b1 ∨ b = b2 ∨ b = b3 → w'.heap[b]? = w.heap[b]?) : EffIn w' b1 b2 b3 S := by
  obtain ⟨_, h1, g1⟩ := h.g
  obtain ⟨_, h2, g2⟩ := h.m
  obtain ⟨_, h3, g3⟩ := h.o
  exact ⟨⟨_, h1.loc (hb _ (.inl rfl)), g1⟩, ⟨_, h2.loc (hb _ (.inr (.inl rfl))), g2⟩, ⟨_, h3.loc (hb _ (.inr (.inr rfl))), g3⟩⟩
theorem EffIn.below {w w' : World} {b1 b2 b3 : Nat} {S : List Mb} (h : EffIn w b1 b2 b3 S) (hb : Below w.heap.size w w') : EffIn w' b1 b2 b3 S := h.loc (fun b hb' => hb.block b (by
  have := h.lt
  rcases hb' with rfl | rfl | rfl <;> omega))
theorem zeroB (w : World) : (zeroValue 4).run Tryz.prog w = .ok (.bool false) w := by kernel_rfl
theorem EffIn.lookG {w : World} {b1 b2 b3 : Nat} {S : List Mb} (h : EffIn w b1 b2 b3 S) {p : Tx} (hp : p.length ≤ 1000000) : (Instr.lookup 90 (.map (some b1)) (.string ⟨p.toArray⟩) false).run Tryz.prog w = .ok (.bool (goneE S p)) w := by
  obtain ⟨_, h1, g1⟩ := h.g
  have := h1.look1 Tryz.underlying9 Tryz.underlying90 (zeroB w) (p := p) (by unfold maxLen; omega)
  rw [g1 p] at this; exact this
theorem EffIn.lookM {w : World} {b1 b2 b3 : Nat} {S : List Mb} (h : EffIn w b1 b2 b3 S) {p : Tx} (hp : p.length ≤ 1000000) : (Instr.lookup 90 (.map (some b2)) (.string ⟨p.toArray⟩) false).run Tryz.prog w = .ok (.bool (markE S p)) w := by
  obtain ⟨_, h1, g1⟩ := h.m
  have := h1.look1 Tryz.underlying9 Tryz.underlying90 (zeroB w) (p := p) (by unfold maxLen; omega)
  rw [g1 p] at this; exact this
theorem EffIn.lookO {w : World} {b1 b2 b3 : Nat} {S : List Mb} (h : EffIn w b1 b2 b3 S) {p : Tx} (hp : p.length ≤ 1000000) : (Instr.lookup 91 (.map (some b3)) (.string ⟨p.toArray⟩) false).run Tryz.prog w = .ok (.int .i64 (overE S p)) w := by
  obtain ⟨_, h1, g1⟩ := h.o
  have := h1.look1 Tryz.underlying9 Tryz.underlying91 (zeroI w) (p := p) (by unfold maxLen; omega)
  rw [g1 p] at this; exact this
set_option maxHeartbeats 1000000 in
set_option maxRecDepth 100000 in
theorem hides_any (b1 b2 b3 : Nat) (S : List Mb) (p : Tx) (hp : p.length ≤ 1000000) (w : World) (h : EffIn w b1 b2 b3 S) :
    Calls Tryz.prog 104 #[.agg #[.map (some b1), .map (some b2), .map (some b3)], .string ⟨p.toArray⟩] w fun e w' => e = .returned (.bool (hidesE S p)) ∧ Below w.heap.size w w' := by
  have hE := h.below ((Below.refl w.heap.size w).alloc (Nat.le_refl _) (.cells #[.map (some b1), .map (some b2), .map (some b3)] 93))
  have hg := hE.lookG hp
  have ho := hE.lookO hp
  have HX : Keep (hidesE S p = (goneE S p || overE S p == 2)) := ⟨rfl⟩
  generalize hidesE S p = out at *
  generalize goneE S p = b at *
  obtain ⟨b4, h4⟩ : ∃ b, (overE S p == 2) = b := ⟨_, rfl⟩
  rw [h4] at HX
  generalize overE S p = o at *
  clear h hE
  cases b with
  | true =>
    go_enter Tryz.func104, Tryz.ntmps104
    go_wp2_with fail
    go_ret
    exact ⟨by rw [HX.out]; rfl, (Below.refl _ _).alloc (Nat.le_refl _) _⟩
  | false =>
    go_enter Tryz.func104, Tryz.ntmps104
    go_wp2_with fail
    go_ret
    exact ⟨by rw [HX.out]; rfl, (Below.refl _ _).alloc (Nat.le_refl _) _⟩
set_option maxHeartbeats 1000000 in
set_option maxRecDepth 100000 in
theorem stays1_any (b1 b2 b3 b0 : Nat) (S : List Mb) (p : Tx) (hp : p.length ≤ 1000000) (w : World) (h : EffIn w b1 b2 b3 S) (hr : Row w b0 93 #[.map (some b1), .map (some b2), .map (some b3)]) :
    Calls Tryz.prog 103 #[.string ⟨p.toArray⟩, .pointer (some ⟨b0, 0, none⟩)] w fun e w' => e = .returned (.bool (markE S p)) ∧ Below w.heap.size w w' := by
  have hm := h.lookM hp
  have c1 := hr.cell (i := 1) rfl
  generalize markE S p = b at *
  clear h hr
  go_enter Tryz.func103, Tryz.ntmps103
  go_wp2_with fail
  go_ret
  exact ⟨rfl, Below.refl _ _⟩
theorem ent_hides : ∀ args w, (callFunc 104 args).run Tryz.prog w = .ok (.enter 104 args) w := enters_of Tryz.func104 (by kernel_rfl) rfl
theorem ent_stays1 : ∀ args w, (callFunc 103 args).run Tryz.prog w = .ok (.enter 103 args) w := enters_of Tryz.func103 (by kernel_rfl) rfl
theorem aggE : AggTy Tryz.prog 93 3 := ⟨⟨_, Tryz.underlying93, rfl⟩, by kernel_rfl⟩
theorem above_mem_len {p q : Tx} (h : q ∈ aboveP p) : q.length ≤ p.length := by
  have := (mem_above.1 h).length_le
  simp at this; omega
set_option maxHeartbeats 4000000 in
set_option maxRecDepth 100000 in
theorem stays_any (b1 b2 b3 : Nat) (S : List Mb) (p : Tx) (hp : p.length ≤ 1000000) (w : World) (h : EffIn w b1 b2 b3 S) :
    Calls Tryz.prog 64 #[.agg #[.map (some b1), .map (some b2), .map (some b3)], .string ⟨p.toArray⟩] w fun e w' => e = .returned (.bool (staysC S p)) ∧ Below w.heap.size w w' := by
  rw [← stays_eq]
  have HEF : Keep (∀ wx, Below w.heap.size w wx → EffIn wx b1 b2 b3 S) := ⟨fun wx hb => h.below hb⟩
  have HAL : Keep (∀ q ∈ aboveP p, q.length ≤ 1000000) := ⟨fun q hq => Nat.le_trans (above_mem_len hq) hp⟩
  have HAB := Keep.keep (fun wx => above_any p hp wx)
  have HLO : Keep (∀ wx, Below w.heap.size w wx → (Instr.lookup 91 (.map (some b3)) (.string ⟨p.toArray⟩) false).run Tryz.prog wx = .ok (.int .i64 (overE S p)) wx ∧ (Instr.lookup 90 (.map (some b2)) (.string ⟨#[]⟩) false).run Tryz.prog wx = .ok (.bool (markE S [])) wx) := ⟨fun wx hb => ⟨(h.below hb).lookO hp, (h.below hb).lookM (p := []) (by simp)⟩⟩
  have HHD : Keep (∀ wx, Below w.heap.size w wx → Calls Tryz.prog 104 #[.agg #[.map (some b1), .map (some b2), .map (some b3)], .string ⟨p.toArray⟩] wx fun e w' => e = .returned (.bool (hidesE S p)) ∧ Below wx.heap.size wx w') := ⟨fun wx hb => hides_any b1 b2 b3 S p hp wx (h.below hb)⟩
  have HC1 : Keep (∀ wx v, Below w.heap.size w wx → RdS wx (· < wx.heap.size) v (aboveP p) → Calls Tryz.prog 77 #[v, .func (.func 104) #[.agg #[.map (some b1), .map (some b2), .map (some b3)]] #[]] wx fun e w' => e = .returned (.bool ((aboveP p).any (hidesE S))) ∧ Below wx.heap.size wx w') :=
    ⟨fun wx v hb hv => cfuncC 104 _ _ (hidesE S) v (aboveP p) wx ent_hides (fun wy hy x hx => by
      have := hides_any b1 b2 b3 S x (HAL.out x hx) wy ((h.below hb).below hy)
      simpa using this) hv⟩
  have HC2 : Keep (∀ wx v b0, Below w.heap.size w wx → Row wx b0 93 #[.map (some b1), .map (some b2), .map (some b3)] → RdS wx (· < wx.heap.size) v (aboveP p) → Calls Tryz.prog 77 #[v, .func (.func 103) #[] #[.pointer (some ⟨b0, 0, none⟩)]] wx fun e w' => e = .returned (.bool ((aboveP p).any (markE S))) ∧ Below wx.heap.size wx w') :=
    ⟨fun wx v b0 hb hr hv => cfuncC 103 _ _ (markE S) v (aboveP p) wx ent_stays1 (fun wy hy x hx => by
      have := stays1_any b1 b2 b3 b0 S x (HAL.out x hx) wy ((h.below hb).below hy) (hr.below hy hr.lt)
      simpa using this) hv⟩
  have HX : Keep (staysE S p = (p != [] && overE S p == 0 && !markE S [] && !hidesE S p && !(aboveP p).any (hidesE S) && !(aboveP p).any (markE S))) := ⟨rfl⟩
  have HSZ : Keep ((#[.map (some b1), .map (some b2), .map (some b3)] : Array Value).size = 3) := ⟨rfl⟩
  generalize staysE S p = out at *
  generalize markE S [] = k2 at *
  generalize hidesE S p = k3 at *
  generalize (aboveP p).any (hidesE S) = k4 at *
  generalize (aboveP p).any (markE S) = k5 at *
  obtain ⟨k1, h1⟩ : ∃ b, (overE S p == 0) = b := ⟨_, rfl⟩
  rw [h1] at HX
  generalize overE S p = ov at *
  generalize aboveP p = ab at *
  have hpe : (p != []) = !p.isEmpty := by cases p <;> rfl
  rw [hpe] at HX
  obtain ⟨k0, h0⟩ : ∃ b, p.isEmpty = b := ⟨_, rfl⟩
  rw [h0] at HX
  clear hpe
  clear h
  go_enter Tryz.func64, Tryz.ntmps64
  go_wp2_with fail
  refine calls_at (R := fun wq => Hp NoM w wq [rowA w.heap.size 93 #[.map (some b1), .map (some b2), .map (some b3)]]) ((Hp.begin NoM w).newRow _ _) ?_
  intro w1 H1
  refine (HAB.out w1).mono ?_
  rintro e w2 ⟨va, rfl, ho, hb2⟩
  have H2 := Keep.keep (H1.out.call hb2)
  have HVA : Keep (RdS w2 (· < w2.heap.size) va ab) := ⟨(ownsV_reads ho).mono (fun b hb => hb.2.1)⟩
  obtain ⟨aa, ca, hva, -⟩ := (ownsV_reads ho).shape
  obtain ⟨b0, hb0⟩ : ∃ b0, w.heap.size = b0 := ⟨_, rfl⟩
  have HW2 := Keep.keep H2.out.below
  rw [hb0] at H2 ⊢
  have hrw := H2.out.row 0 rfl
  have HRW := Keep.keep hrw
  have c1 := hrw.cell (i := 1) rfl
  have c2 := hrw.cell (i := 2) rfl
  obtain ⟨hlo, hlm⟩ := HLO.out w2 HW2.out
  generalize ab.length = na at hva
  clear ho hb2 H1 hrw HAB
  subst hva
  cases k0
  case true =>
    go_wp2_with fail
    go_ret
    exact ⟨by rw [HX.out]; rfl, HW2.out⟩
  cases k1
  case false =>
    go_wp2_with fail
    go_ret
    exact ⟨by rw [HX.out]; rfl, HW2.out⟩
  cases k2
  case true =>
    go_wp2_with fail
    go_ret
    exact ⟨by rw [HX.out]; rfl, HW2.out⟩
  go_wp2_with (first | ((with_reducible refine arm_loadRow HRW.out aggE HSZ.out ?_ ?_); (focus rfl); simp only [Act.put, List.setIfInBounds_toArray, List.set_cons_succ, List.set_cons_zero]) | ((with_reducible refine arm_loadRowG ?_ HRW.out aggE HSZ.out ?_ ?_); (focus rfl); (focus rfl); simp only [Act.put, List.setIfInBounds_toArray, List.set_cons_succ, List.set_cons_zero]))
  refine (HHD.out w2 HW2.out).mono ?_
  rintro e w3 ⟨rfl, hb3⟩
  have HB3 := Keep.keep hb3
  have HW3 := Keep.keep (HW2.out.trans (hb3.mono HW2.out.size))
  have HRW3 := Keep.keep (HRW.out.below hb3 HRW.out.lt)
  clear hlo hlm c1 c2
  cases k3
  case true =>
    go_wp2_with fail
    go_ret
    exact ⟨by rw [HX.out]; rfl, HW3.out⟩
  go_wp2_with (first | ((with_reducible refine arm_loadRow HRW3.out aggE HSZ.out ?_ ?_); (focus rfl); simp only [Act.put, List.setIfInBounds_toArray, List.set_cons_succ, List.set_cons_zero]) | ((with_reducible refine arm_loadRowG ?_ HRW3.out aggE HSZ.out ?_ ?_); (focus rfl); (focus rfl); simp only [Act.put, List.setIfInBounds_toArray, List.set_cons_succ, List.set_cons_zero]))
  have HVA3 := Keep.keep ((HVA.out.below hb3 (fun b hb => hb)).mono (fun b hb => Nat.lt_of_lt_of_le hb hb3.size))
  refine (HC1.out w3 _ HW3.out HVA3.out).mono ?_
  rintro e w4 ⟨rfl, hb4⟩
  have HW4 := Keep.keep (HW3.out.trans (hb4.mono HW3.out.size))
  have HRW4 := Keep.keep (HRW3.out.below hb4 HRW3.out.lt)
  have HVA4 := Keep.keep ((HVA3.out.below hb4 (fun b hb => hb)).mono (fun b hb => Nat.lt_of_lt_of_le hb hb4.size))
  cases k4
  case true =>
    go_wp2_with fail
    go_ret
    exact ⟨by rw [HX.out]; rfl, HW4.out⟩
  go_wp2_with fail
  refine (HC2.out w4 _ _ HW4.out HRW4.out HVA4.out).mono ?_
  rintro e w5 ⟨rfl, hb5⟩
  have HW5 := Keep.keep (HW4.out.trans (hb5.mono HW4.out.size))
  clear hb3 hb4 hb5
  go_wp2_with fail
  go_ret
  exact ⟨by rw [HX.out]; cases k5 <;> rfl, HW5.out⟩
end Go.Proofs.YtplafpokgpolkaaGreatDoor
/- change.of, Plain. -/
namespace Go.Proofs.YtplafpokgpolkaaGreatDoor
open Go.RowKit
theorem buildE (b1 b2 b3 : Nat) (w : World) : (Instr.build 93 #[(0, .map (some b1)), (1, .map (some b2)), (2, .map (some b3))]).run Tryz.prog w = .ok (.agg #[.map (some b1), .map (some b2), .map (some b3)]) w := by kernel_rfl
theorem tgt_len (p : Tx) : (classP p).2.length ≤ p.length := by
  rcases told p with ⟨hc, _⟩ | ⟨hc, _, _⟩ | ⟨t, hc, _, _, hl⟩ | ⟨t, hc, _, _, hl⟩ | ⟨hc, _, _⟩
  · rw [hc]; simp
  · rw [hc]; exact Nat.le_refl _
  · rw [hc]; exact hl
  · rw [hc]; exact hl
  · rw [hc]; simp
set_option maxHeartbeats 4000000 in
set_option maxRecDepth 100000 in
theorem of_any (v : Value) (l : List Mv) (B : Nat) (w : World) (hT : Tabs B w) (hr : Mbs w (· < w.heap.size) (· < w.heap.size) v l) (hs : ∀ x ∈ l, Sm x.1) (hl : l.length ≤ 1000000) :
    Calls Tryz.prog 63 #[v] w fun e w' => ∃ b1 b2 b3, e = .returned (.agg #[.map (some b1), .map (some b2), .map (some b3)]) ∧ EffIn w' b1 b2 b3 (l.map (·.1)) ∧ (w.heap.size ≤ b1 ∧ w.heap.size ≤ b2 ∧ w.heap.size ≤ b3) ∧ Below w.heap.size w w' := by
  obtain ⟨a, cap, hv, hcap, hmx, h3⟩ := hr.rd.shape
  have HR := Keep.keep hr; have H3 := Keep.keep h3; have HT := Keep.keep hT; have HS := Keep.keep hs
  unfold maxLen at hmx
  clear hr h3 hT hs
  subst hv
  have hmm := @run_makeMap Tryz.prog
  have hbe := buildE
  obtain ⟨S, hS⟩ : ∃ S, l.map (·.1) = S := ⟨_, rfl⟩
  have HSL : Keep (S.length = l.length) := ⟨by rw [← hS, List.length_map]⟩
  have HSS := Keep.keep hS
  rw [hS]
  clear hS
  go_enter Tryz.func63, Tryz.ntmps63
  go_upto_region 2 with fail
  obtain ⟨b0, hb0⟩ : ∃ b0, w.heap.size = b0 := ⟨_, rfl⟩
  refine wp_world (R := fun w1 => Hp NoM w w1 [rowA b0 93 #[.map none, .map none, .map none], msA 9 (b0 + 1) [], msA 9 (b0 + 2) [], msA 9 (b0 + 3) [], rowA (b0 + 4) 93 #[.map (some (b0 + 1)), .map (some (b0 + 2)), .map (some (b0 + 3))]]) ?_ ?_
  · have h1 := ((((Hp.begin NoM w).newRow 93 #[.map none, .map none, .map none]).newMap 9).newMap 9).newMap 9
    have h2 := h1.newRow 93 #[.map (some (b0 + 1)), .map (some (b0 + 2)), .map (some (b0 + 3))]
    simpa [hb0, Nat.add_assoc] using h2
  intro w1 H1
  clear hmm hbe
  go_wp2_with fail
  go_loopg [14] l.length (fun g u14 wx => ∃ (k : Nat) (M1 M2 M3 : List (Tx × Value)), k + g = l.length ∧ u14 = .int .i64 (k : Int) ∧ M1.length ≤ k ∧ M2.length ≤ k ∧ M3.length ≤ k ∧ MapIs (.bool false) M1 (gonV (S.take k)) ∧ MapIs (.bool false) M2 (mrkV (S.take k)) ∧ MapIs (.int .i64 0) M3 (ovrV (S.take k)) ∧
    Hp NoM w wx [rowA b0 93 #[.map none, .map none, .map none], msA 9 (b0 + 1) M1, msA 9 (b0 + 2) M2, msA 9 (b0 + 3) M3, rowA (b0 + 4) 93 #[.map (some (b0 + 1)), .map (some (b0 + 2)), .map (some (b0 + 3))]])
  case atStart => exact ⟨0, [], [], [], by omega, rfl, Nat.le_refl _, Nat.le_refl _, Nat.le_refl _, fun q => rfl, fun q => rfl, fun q => rfl, H1.out⟩
  case round =>
    obtain ⟨k, M1, M2, M3, hkg, rfl, hl1, hl2, hl3, hg, hm, ho, hH⟩ := hrel
    have HG := Keep.keep hg; have HM := Keep.keep hm; have HO := Keep.keep ho; have HH := Keep.keep hH
    clear hg hm ho hH H1
    cases gk with
    | zero =>
      obtain rfl : k = l.length := by omega
      have HTK : Keep (S.take l.length = S) := ⟨by rw [← HSL.out, List.take_length]⟩
      rw [HTK.out] at HG HM HO
      have HRA := Keep.keep (HH.out.row 4 rfl)
      have HRB := Keep.keep (HH.out.row 0 rfl)
      have HSA : Keep ((#[.map (some (b0 + 1)), .map (some (b0 + 2)), .map (some (b0 + 3))] : Array Value).size = 3) := ⟨rfl⟩
      have HSB : Keep ((#[.map none, .map none, .map none] : Array Value).size = 3) := ⟨rfl⟩
      have HON : Keep ((#[.map (some (b0 + 1)), .map (some (b0 + 2)), .map (some (b0 + 3))] : Array Value).all (·.oneCell') = true) := ⟨by simp [Value.oneCell']⟩
      go_wp2_with (first | ((with_reducible refine arm_loadRow HRA.out aggE HSA.out ?_ ?_); (focus rfl); simp only [Act.put, List.setIfInBounds_toArray, List.set_cons_succ, List.set_cons_zero]) | ((with_reducible refine arm_storeRow HRB.out aggE HSB.out HSA.out HON.out ?_ ?_ ?_); (focus rfl); (focus rfl); simp only [Act.put]))
      have hoth : ∀ b, b ≠ b0 → (wr.setRow b0 #[.map (some (b0 + 1)), .map (some (b0 + 2)), .map (some (b0 + 3))]).heap[b]? = wr.heap[b]? := fun b hb => Go.setRow_other wr b0 b _ hb
      refine bodyPost_ret (results_row (p := 2) (ty := 93) rfl (HRB.out.setRow _) aggE HSA.out rfl) rfl ⟨b0 + 1, b0 + 2, b0 + 3, rfl, ⟨⟨M1, MapS.loc (HH.out.get 1 rfl) (hoth _ (by omega)), HG.out⟩, ⟨M2, MapS.loc (HH.out.get 2 rfl) (hoth _ (by omega)), HM.out⟩, ⟨M3, MapS.loc (HH.out.get 3 rfl) (hoth _ (by omega)), HO.out⟩⟩, by omega, ?_⟩
      exact ((Chg.of_below (M := NoM) HH.out.below).setRow (.inl (by omega)) _).below (fun _ _ h => h)
    | succ g =>
      have hk : k < l.length := by omega
      obtain ⟨b, off, rfl, hbl⟩ : ∃ b off, a = some ⟨b, off, none⟩ ∧ b < w.heap.size := by
        rcases H3.out with h | ⟨b, off, h, hb⟩
        · omega
        · exact ⟨b, off, h, hb⟩
      have hrx := HR.out.below HH.out.below (fun b hb => hb) (fun b hb => hb)
      have hld := hrx.load hk
      have hkS : k < S.length := by rw [HSL.out]; exact hk
      have hSk : S[k] = l[k].1 := by simp [← HSS.out]
      have HTK : Keep (S.take (k + 1) = S.take k ++ [l[k].1]) := ⟨by rw [List.take_succ_eq_append_getElem hkS, hSk]⟩
      have hsx := HS.out l[k] (List.getElem_mem hk)
      have hnd := HR.out.nd l[k] (List.getElem_mem hk)
      clear hrx hSk hkS
      generalize l[k] = x at *
      obtain ⟨⟨xp, ⟨kind, mode, uid, gid, time, attrs, data, link⟩⟩, av, dv⟩ := x
      obtain ⟨aa, la, ca, ad, ld, cd, e1, e2⟩ := hnd.shape
      dsimp only at e1 e2 hsx HTK
      have hxp := hsx.p
      dsimp only at hxp
      subst e1 e2
      unfold mcell mbC strV at hld
      dsimp only at hld
      have htl := tgt_len xp
      have HGS := Keep.keep (fun t => goneE_snoc (S.take k) (xp, ⟨kind, mode, uid, gid, time, attrs, data, link⟩) t)
      have HMS := Keep.keep (fun t => markE_snoc (S.take k) (xp, ⟨kind, mode, uid, gid, time, attrs, data, link⟩) t)
      have HOS := Keep.keep (fun t => overE_snoc (S.take k) (xp, ⟨kind, mode, uid, gid, time, attrs, data, link⟩) t)
      rw [← HTK.out] at HGS HMS HOS
      have HCL := Keep.keep (fun wx (hb : Below w.heap.size w wx) => class_any xp (by omega) B wx (Nat.le_trans HT.out.b hb.size) (HT.out.m.on (hb.mono HT.out.b)) (HT.out.c.on (hb.mono HT.out.b)))
      have hcls : cls (xp, ⟨kind, mode, uid, gid, time, attrs, data, link⟩) = (classP xp).1 := rfl
      have htgt : tgt (xp, ⟨kind, mode, uid, gid, time, attrs, data, link⟩) = (classP xp).2 := rfl
      rw [hcls, htgt] at HGS HMS HOS
      obtain ⟨⟨cl, tg⟩, hcp⟩ : ∃ c, classP xp = c := ⟨_, rfl⟩
      rw [hcp] at HCL htl HGS HMS HOS
      dsimp only at HCL htl HGS HMS HOS
      clear hnd hsx hcls htgt hcp HTK
      go_wp2_with ((with_reducible refine arm_loadM hld ?_ ?_); (focus rfl); simp only [Act.put, List.setIfInBounds_toArray, List.set_cons_succ, List.set_cons_zero])
      refine calls_at (R := fun wq => Hp NoM w wq ([rowA b0 93 #[.map none, .map none, .map none], msA 9 (b0 + 1) M1, msA 9 (b0 + 2) M2, msA 9 (b0 + 3) M3, rowA (b0 + 4) 93 #[.map (some (b0 + 1)), .map (some (b0 + 2)), .map (some (b0 + 3))]] ++ [rowA wr.heap.size 32 #[.string ⟨xp.toArray⟩, .int .i64 kind, .int .u32 mode, .int .u32 uid, .int .u32 gid, .int .i64 time, .slice aa la ca, .slice ad ld cd, .string ⟨link.toArray⟩]])) (HH.out.newRow _ _) ?_
      intro w2 H2
      refine (HCL.out w2 H2.out.below).mono ?_
      rintro e w3 ⟨rfl, hb3⟩
      have H3' := Keep.keep (H2.out.call hb3)
      obtain ⟨b5, hb5⟩ : ∃ b5, wr.heap.size = b5 := ⟨_, rfl⟩
      rw [hb5] at H3' ⊢
      have c0 := (H3'.out.row 4 rfl).cell (i := 0) rfl
      have c1 := (H3'.out.row 4 rfl).cell (i := 1) rfl
      have c2 := (H3'.out.row 4 rfl).cell (i := 2) rfl
      have k1 := (H3'.out.row 5 rfl).cell (i := 1) rfl
      have hm1 : MapS w3 9 (b0 + 1) M1 := H3'.out.get 1 rfl
      have hm2 : MapS w3 9 (b0 + 2) M2 := H3'.out.get 2 rfl
      have hm3 : MapS w3 9 (b0 + 3) M3 := H3'.out.get 3 rfl
      have HM1 := Keep.keep hm1; have HM2 := Keep.keep hm2; have HM3 := Keep.keep hm3
      have htl2 : tg.length ≤ maxLen := by unfold maxLen; omega
      clear hb3 H2 HCL HH hm1 hm2 hm3 hld
      by_cases z2 : cl = 2
      · have h2 : (cl == 2) = true := by rw [z2]; rfl
        go_wp2_with (first | (with_reducible refine arm_sRange ?_) | (with_reducible refine arm_sNext ?_) | (with_reducible refine arm_sDel ?_) | (with_reducible refine arm_sPut ?_) | (with_reducible refine arm_sIns ?_))
        refine StM.out ?_
        refine arm_putS Tryz.underlying9 Tryz.underlying90 HM1.out (p := tg) htl2 (by unfold maxLen; omega) rfl rfl rfl ?_
        intro w4 hm4 hc4
        have H5 := Keep.keep (H3'.out.upd 1 rfl (msA 9 (b0 + 1) (SM.put M1 (tg, .bool true))) hc4 hm4 (fun b hb => .inl hb))
        have HL : Keep ((SM.put M1 (tg, .bool true)).length ≤ k + 1) := ⟨by rw [HM1.out.s.length_put]; split <;> omega⟩
        have HG5 := Keep.keep (HG.out.put (f' := gonV (S.take (k + 1))) (v := .bool true) (p := tg) HM1.out.s (fun q => by
          unfold gonV; rw [HGS.out q, z2]; by_cases e : q = tg
          · subst e; simp
          · have e2 : ¬ tg = q := fun h => e h.symm
            rw [if_neg e]; simp [e2]))
        have HM5 := Keep.keep (HM.out.same (f' := mrkV (S.take (k + 1))) (fun q => by unfold mrkV; rw [HMS.out q, z2]; simp))
        have HO5 := Keep.keep (HO.out.same (f' := ovrV (S.take (k + 1))) (fun q => by unfold ovrV; rw [HOS.out q, z2]; simp))
        clear hm4 hc4 H3' HM1 HM2 HM3 HGS HMS HOS HG HM HO
        simp only [Act.put]
        go_wp2_with fail
        go_roundg g
        case measure => omega
        case rel => exact ⟨k + 1, SM.put M1 (tg, .bool true), M2, M3, by omega, by simp, HL.out, by omega, by omega, HG5.out, HM5.out, HO5.out, H5.out.init⟩
      · have h2 : (cl == 2) = false := by simpa using z2
        by_cases z3 : cl = 3
        · have h3 : (cl == 3) = true := by rw [z3]; rfl
          go_wp2_with (first | (with_reducible refine arm_sRange ?_) | (with_reducible refine arm_sNext ?_) | (with_reducible refine arm_sDel ?_) | (with_reducible refine arm_sPut ?_) | (with_reducible refine arm_sIns ?_))
          refine StM.out ?_
          refine arm_putS Tryz.underlying9 Tryz.underlying90 HM2.out (p := tg) htl2 (by unfold maxLen; omega) rfl rfl rfl ?_
          intro w4 hm4 hc4
          have H5 := Keep.keep (H3'.out.upd 2 rfl (msA 9 (b0 + 2) (SM.put M2 (tg, .bool true))) hc4 hm4 (fun b hb => .inl hb))
          have HL : Keep ((SM.put M2 (tg, .bool true)).length ≤ k + 1) := ⟨by rw [HM2.out.s.length_put]; split <;> omega⟩
          have HG5 := Keep.keep (HG.out.same (f' := gonV (S.take (k + 1))) (fun q => by unfold gonV; rw [HGS.out q, z3]; simp))
          have HM5 := Keep.keep (HM.out.put (f' := mrkV (S.take (k + 1))) (v := .bool true) (p := tg) HM2.out.s (fun q => by
            unfold mrkV; rw [HMS.out q, z3]; by_cases e : q = tg
            · subst e; simp
            · have e2 : ¬ tg = q := fun h => e h.symm
              rw [if_neg e]; simp [e2]))
          have HO5 := Keep.keep (HO.out.same (f' := ovrV (S.take (k + 1))) (fun q => by unfold ovrV; rw [HOS.out q, z3]; simp))
          clear hm4 hc4 H3' HM1 HM2 HM3 HGS HMS HOS HG HM HO
          simp only [Act.put]
          go_wp2_with fail
          go_roundg g
          case measure => omega
          case rel => exact ⟨k + 1, M1, SM.put M2 (tg, .bool true), M3, by omega, by simp, by omega, HL.out, by omega, HG5.out, HM5.out, HO5.out, H5.out.init⟩
        · have h3 : (cl == 3) = false := by simpa using z3
          have HG5 := Keep.keep (HG.out.same (f' := gonV (S.take (k + 1))) (fun q => by unfold gonV; rw [HGS.out q]; simp [z2]))
          have HM5 := Keep.keep (HM.out.same (f' := mrkV (S.take (k + 1))) (fun q => by unfold mrkV; rw [HMS.out q]; simp [z3]))
          by_cases z1 : cl = 1
          · have h1 : (cl == 1) = true := by rw [z1]; rfl
            have hlk := HM3.out.look1 Tryz.underlying9 Tryz.underlying91 (zeroI w3) (p := tg) htl2
            rw [HO.out tg] at hlk
            unfold ovrV at hlk
            by_cases zk : kind = 1
            · have h4 : (kind == 1) = true := by rw [zk]; rfl
              go_wp2_with (first | (with_reducible refine arm_sRange ?_) | (with_reducible refine arm_sNext ?_) | (with_reducible refine arm_sDel ?_) | (with_reducible refine arm_sPut ?_) | (with_reducible refine arm_sIns ?_))
              refine StM.out ?_
              refine arm_putS Tryz.underlying9 Tryz.underlying91 HM3.out (p := tg) (u := .int .i64 (max (overE (S.take k) tg) 1)) htl2 (by unfold maxLen; omega) rfl rfl rfl ?_
              intro w4 hm4 hc4
              have H5 := Keep.keep (H3'.out.upd 3 rfl (msA 9 (b0 + 3) (SM.put M3 (tg, .int .i64 (max (overE (S.take k) tg) 1)))) hc4 hm4 (fun b hb => .inl hb))
              have HL : Keep ((SM.put M3 (tg, .int .i64 (max (overE (S.take k) tg) 1))).length ≤ k + 1) := ⟨by rw [HM3.out.s.length_put]; split <;> omega⟩
              have HO5 := Keep.keep (HO.out.put (f' := ovrV (S.take (k + 1))) (v := .int .i64 (max (overE (S.take k) tg) 1)) (p := tg) HM3.out.s (fun q => by
                unfold ovrV; rw [HOS.out q, z1, zk]; by_cases e : q = tg
                · subst e; simp
                · have e2 : ¬ tg = q := fun h => e h.symm
                  rw [if_neg e]; simp [e2]))
              clear hm4 hc4 H3' HM1 HM2 HM3 HGS HMS HOS HG HM HO hlk
              simp only [Act.put]
              go_wp2_with fail
              go_roundg g
              case measure => omega
              case rel => exact ⟨k + 1, M1, M2, _, by omega, by simp, by omega, by omega, HL.out, HG5.out, HM5.out, HO5.out, H5.out.init⟩
            · have h4 : (kind == 1) = false := by simpa using zk
              go_wp2_with (first | (with_reducible refine arm_sRange ?_) | (with_reducible refine arm_sNext ?_) | (with_reducible refine arm_sDel ?_) | (with_reducible refine arm_sPut ?_) | (with_reducible refine arm_sIns ?_))
              refine StM.out ?_
              refine arm_putS Tryz.underlying9 Tryz.underlying91 HM3.out (p := tg) (u := .int .i64 2) htl2 (by unfold maxLen; omega) rfl rfl rfl ?_
              intro w4 hm4 hc4
              have H5 := Keep.keep (H3'.out.upd 3 rfl (msA 9 (b0 + 3) (SM.put M3 (tg, .int .i64 2))) hc4 hm4 (fun b hb => .inl hb))
              have HL : Keep ((SM.put M3 (tg, .int .i64 2)).length ≤ k + 1) := ⟨by rw [HM3.out.s.length_put]; split <;> omega⟩
              have HO5 := Keep.keep (HO.out.put (f' := ovrV (S.take (k + 1))) (v := .int .i64 2) (p := tg) HM3.out.s (fun q => by
                unfold ovrV; rw [HOS.out q, z1]; by_cases e : q = tg
                · subst e; simp [zk]
                · have e2 : ¬ tg = q := fun h => e h.symm
                  rw [if_neg e]; simp [e2]))
              clear hm4 hc4 H3' HM1 HM2 HM3 HGS HMS HOS HG HM HO hlk
              simp only [Act.put]
              go_wp2_with fail
              go_roundg g
              case measure => omega
              case rel => exact ⟨k + 1, M1, M2, _, by omega, by simp, by omega, by omega, HL.out, HG5.out, HM5.out, HO5.out, H5.out.init⟩
          · have h1 : (cl == 1) = false := by simpa using z1
            have HO5 := Keep.keep (HO.out.same (f' := ovrV (S.take (k + 1))) (fun q => by unfold ovrV; rw [HOS.out q]; simp [z1]))
            clear HM1 HM2 HM3 HGS HMS HOS HG HM HO
            go_wp2_with fail
            go_roundg g
            case measure => omega
            case rel => exact ⟨k + 1, M1, M2, M3, by omega, by simp, by omega, by omega, by omega, HG5.out, HM5.out, HO5.out, H3'.out.init⟩
end Go.Proofs.YtplafpokgpolkaaGreatDoor
/- slices.DeleteFunc over Members of one's own; the predicate is a closure. -/
namespace Go.Proofs.YtplafpokgpolkaaGreatDoor
open Go.RowKit
set_option maxRecDepth 100000 in
theorem run_clear_mbs (w : World) (b o n c : Nat) (hn : 0 < n) (hc : ∀ j, j < n * 9 → (w.cell? ⟨b, o + j, none⟩).isSome = true) (hf : ∀ j, j < n * 9 → w.frozen? ⟨b, o + j, none⟩ = false) :
    ∃ cs : List Value, cs.length = n * 9 ∧ ∀ ty, (Builtin.clear_ #[35] ty #[.slice (some ⟨b, o, none⟩) n c]).run Tryz.prog w = .ok (.tuple #[]) (w.setCells b o cs) := by
  have hz : ∀ w, (zeroValue 32).run Tryz.prog w = .ok (.agg (mbC ([], nd0) nilV nilV)) w := fun w => by kernel_rfl
  obtain ⟨Z, hZ⟩ : ∃ Z : Array Value, mbC ([], nd0) nilV nilV = Z := ⟨_, rfl⟩
  have hZs : Z.size = 9 := by rw [← hZ]; rfl
  have hZ1 : ∀ i, (h : i < Z.size) → Z[i].oneCell' = true := by
    have : (mbC ([], nd0) nilV nilV).all (·.oneCell') = true := by simp [mbC, strV, nilV, Value.oneCell']
    rw [hZ] at this
    intro i h
    exact (Array.all_eq_true.1 this) i h
  rw [hZ] at hz
  have hcl : (Value.agg Z).cells = Z := rfl
  have hl : (Builtin.zeroCells Z n).toList.length = n * 9 := by simp [Builtin.zeroCells, hZs]
  refine ⟨_, hl, fun ty => ?_⟩
  have hst := run_storeCells_cells (P := Tryz.prog) b o (Builtin.zeroCells Z n).toList 0 w (by rw [hl]; simpa using hc) (by rw [hl]; simpa using hf) (by
    intro v hv
    simp only [Builtin.zeroCells, Array.toList_map, List.mem_map] at hv
    obtain ⟨i, _, rfl⟩ := hv
    have hi : i % Z.size < Z.size := Nat.mod_lt _ (by omega)
    rw [getElem!_pos Z _ hi]
    exact hZ1 _ hi)
  simp only [Nat.add_zero] at hst
  obtain ⟨m, rfl⟩ : ∃ m, n = m + 1 := ⟨n - 1, by omega⟩
  simp [Builtin.clear_, run_underlying Tryz.underlying35, hz, hcl, hst]
def kpM (p : Mb → Bool) (l : List Mv) (j : Nat) : List Mv := (l.take j).filter fun x => !p x.1
theorem kpM_le (p : Mb → Bool) (l : List Mv) (j : Nat) : (kpM p l j).length ≤ j := Nat.le_trans (List.length_filter_le _ _) (by rw [List.length_take]; omega)
theorem kpM_succ (p : Mb → Bool) (l : List Mv) (j : Nat) (hj : j < l.length) : kpM p l (j + 1) = if p l[j].1 then kpM p l j else kpM p l j ++ [l[j]] := by
  unfold kpM
  rw [List.take_succ_eq_append_getElem hj, List.filter_append]
  cases h : p l[j].1
  · rw [List.filter_cons_of_pos (by simp [h])]; rfl
  · rw [List.filter_cons_of_neg (by simp [h])]; simp
theorem kpM_all (p : Mb → Bool) (l : List Mv) : kpM p l l.length = l.filter fun x => !p x.1 := by unfold kpM; rw [List.take_length]
/-- the row while it is done -/
structure DFM (p : Mb → Bool) (l ls : List Mv) (j : Nat) : Prop where
  sz : ls.length = l.length
  pre : ls.take (kpM p l j).length = kpM p l j
  post : ∀ m, j ≤ m → m < l.length → ls[m]? = l[m]?
theorem DFM.skip {p : Mb → Bool} {l ls : List Mv} {j : Nat} (h : DFM p l ls j) (hj : j < l.length) (hp : p l[j].1 = true) : DFM p l ls (j + 1) := by
  have hk := kpM_succ p l j hj
  rw [if_pos hp] at hk
  exact ⟨h.sz, by rw [hk]; exact h.pre, fun m hm hl => h.post m (by omega) hl⟩
theorem DFM.put {p : Mb → Bool} {l ls : List Mv} {j : Nat} (h : DFM p l ls j) (hj : j < l.length) (hp : p l[j].1 = false) : DFM p l (ls.set (kpM p l j).length l[j]) (j + 1) := by
  have hk := kpM_succ p l j hj
  rw [if_neg (by rw [hp]; decide)] at hk
  have hle := kpM_le p l j
  have hs := h.sz
  refine ⟨by simp [hs], ?_, fun m hm hml => ?_⟩
  · rw [hk, List.length_append, List.length_singleton, List.take_succ_eq_append_getElem (by rw [List.length_set]; omega), List.getElem_set_self, List.take_set_of_le (Nat.le_refl _), h.pre]
  · rw [List.getElem?_set_ne (by omega)]
    exact h.post m (by omega) hml
theorem layAt_take (cs xs : List Value) (j : Nat) (h : j + cs.length ≤ xs.length) : (layAt xs j cs).take j = xs.take j := by
  apply List.ext_getElem?
  intro i
  rw [List.getElem?_take, List.getElem?_take]
  split
  · rw [layAt_get _ _ _ _ h, if_neg (by omega)]
  · rfl
theorem owns_take {w : World} {base g n cap k : Nat} {e : TypeId} {xs ys : List Value} (h : w.ownsRow base e 9 (.slice (some ⟨g, 0, none⟩) n cap) n xs) (hk : k ≤ n) (hy : xs.take (k * 9) = ys) : w.ownsRow base e 9 (.slice (some ⟨g, 0, none⟩) k cap) k ys := by
  obtain ⟨h0, h⟩ := h
  rcases h with ⟨h1, _⟩ | ⟨g', cap', cur, h1, h2, h3, h4, h5, h6, h7⟩
  · cases h1
  · injection h1 with e1 e2 e3; injection e1 with e1; injection e1 with e1 _ _; subst e1 e3
    refine ⟨by rw [← hy, List.length_take]; omega, .inr ⟨g, cap, cur, rfl, h2, h3, by omega, h5, h6, ?_⟩⟩
    rw [← hy, ← h7, List.take_take, Nat.min_eq_left (by omega)]
theorem slice_mfrom_at (g n cap i : Nat) (hi : i ≤ n) (_hn : n ≤ cap) (hc : i < cap) (w : World) : (Instr.slice 35 (.slice (some ⟨g, 0, none⟩) n cap) (some (.int .i64 (i : Int))) none none).run Tryz.prog w = .ok (.slice (some ⟨g, i * 9, none⟩) (n - i) (cap - i)) w := by
  have he : Tryz.prog.elem 35 = 32 := by simp [Program.elem, Tryz.underlying35]
  have hs : ∀ w, (sizeOf 32).run Tryz.prog w = .ok 9 w := fun w => by kernel_rfl
  have hci : cap ≠ i := by omega
  rw [run_slice_l w 35 _ n cap (by rw [he]; exact Tryz.underlying35) .i64 (i : Int) (by omega) (by omega), he, hs]
  simp [Result.andThen, sliced, hci, Addr.add_mid]
theorem own_loadAt {base g cap n k : Nat} {w : World} {l : List Mv} (h : w.ownsRow base 32 9 (.slice (some ⟨g, 0, none⟩) n cap) n (mcells l)) (hn : n = l.length) {x : Mv} (hx : l[k]? = some x) : (Instr.loadAt 32 (.pointer (some ⟨g, k * 9, none⟩))).run Tryz.prog w = .ok (.agg (mcell x)) w := by
  have hk := (List.getElem?_eq_some_iff.1 hx).1
  have := run_loadAt_mid (P := Tryz.prog) w g (k * 9) 32 (mcell x).toList _ (fun j z hj => by
    have hlt := (List.getElem?_eq_some_iff.1 hj).1
    rw [mcell_len] at hlt
    rw [h.cellAt _ (by omega), mcells_at _ _ _ hlt, hx]
    exact hj) Tryz.underlying32 rfl (by rw [mcell_len]; exact aggM.i)
  simpa using this
theorem arm_setMb {ops : Array Oper} {rest : List Oper} {a : Act} {w : World} {Q : Exit → Act → World → Prop} {tp : TypeId} {dst : Option Tmp} {x y : Operand} {pos : String} {after : Array Edge} {base g cap n k : Nat} {ls : List Mv} (m : Mv)
    (ho : w.ownsRow base 32 9 (.slice (some ⟨g, 0, none⟩) n cap) n (mcells ls)) (hn : n = ls.length) (hk : k < ls.length) (h1 : (mcell m).all (·.oneCell') = true) (hx : a.eval x = .pointer (some ⟨g, k * 9, none⟩)) (hy : a.eval y = .agg (mcell m))
    (h : ∀ w', w'.ownsRow base 32 9 (.slice (some ⟨g, 0, none⟩) n cap) n (mcells (ls.set k m)) → w.grownBy w' (some g) → wpList Tryz.prog ops Q rest (a.put dst undef) w') :
    wpList Tryz.prog ops Q (⟨dst, .store 32 x y, tp, pos, after, none⟩ :: rest) a w :=
  wpList_skip rfl (run_swap hx hy (owns_there ho hn hk) h1) (h _ (owns_setMb ho m hk).1 (owns_setMb ho m hk).2)
theorem arm_sSt {P : Program} {ops : Array Oper} {rest : List Oper} {a : Act} {w : World} {Q : Exit → Act → World → Prop} {tp t : TypeId} {dst : Option Tmp} {x y : Operand} {pos : String} {after : Array Edge} (h : StM P ops rest a w Q ⟨dst, .store t x y, tp, pos, after, none⟩) : wpList P ops Q (⟨dst, .store t x y, tp, pos, after, none⟩ :: rest) a w := by cases h; assumption
set_option maxHeartbeats 4000000 in
set_option maxRecDepth 100000 in
theorem dfuncM (F : FuncId) (cs : Array Value) (p : Mb → Bool) (v : Value) (l : List Mv) (base : Nat) (K : Nat → Prop) (w : World) (hent : ∀ args w, (callFunc F args).run Tryz.prog w = .ok (.enter F args) w) (_hB : base ≤ w.heap.size) (hl : l.length ≤ 1000000000000)
    (hf : ∀ wx, Chg (fun b => v.ownBlock = some b) w.heap.size w wx → ∀ x ∈ l, Calls Tryz.prog F (#[.agg (mcell x)] ++ cs) wx fun e w' => e = .returned (.bool (p x.1)) ∧ Below wx.heap.size wx w') (h : RowM base K w v l) :
    Calls Tryz.prog 101 #[v, .func (.func F) #[] cs] w fun e w' => ∃ v', e = .returned v' ∧ RowM base K w' v' (l.filter fun x => !p x.1) ∧ v'.ownBlock = v.ownBlock ∧ Chg (fun b => v.ownBlock = some b) w.heap.size w w' := by
  have HI := Keep.keep (ifuncM F cs p v l w hent (fun wx hb x hx => hf wx (.of_below hb) x hx) (h.mbs.mono (fun b hb => hb.2) (fun b hb => hb.2.1)))
  have HF := Keep.keep hf
  have HM := Keep.keep h
  obtain ⟨hlen, hcase⟩ := h.own
  have HCASE := Keep.keep hcase
  clear hf hlen hcase
  by_cases hall : ∀ x ∈ l, p x.1 = false
  · have hi : idxM p l = -1 := idxM_none (fun j hj => hall _ (List.getElem_mem hj))
    have hfl : (l.filter fun x => !p x.1) = l := List.filter_eq_self.2 (fun x hx => by simp [hall x hx])
    obtain ⟨a, cap, rfl, -⟩ := (ownsV_reads HM.out.own).shape
    rw [hi] at HI
    rw [hfl]
    clear hi hfl hall h
    go_enter Tryz.func101, Tryz.ntmps101
    go_wp2_with fail
    refine HI.out.mono ?_
    rintro e w1 ⟨rfl, hb⟩
    have HB := Keep.keep hb
    clear hb
    go_wp2_with fail
    go_ret
    exact ⟨_, rfl, HM.out.below HB.out, rfl, .of_below HB.out⟩
  · obtain ⟨i, hi, hpi, hno⟩ : ∃ i, ∃ h : i < l.length, p l[i].1 = true ∧ ∀ j, (hj : j < i) → p (l[j]'(by omega)).1 = false := by
      cases hx : l.findIdx? (fun x => p x.1) with
      | none => exact absurd (fun x hx' => by simpa using List.findIdx?_eq_none_iff.1 hx x hx') hall
      | some i =>
        obtain ⟨h1, h2, h3⟩ := List.findIdx?_eq_some_iff_getElem.1 hx
        exact ⟨i, h1, h2, fun j hj => by simpa using h3 j hj⟩
    have hidx := idxM_hit hi hpi hno
    rw [hidx] at HI
    rcases HCASE.out with ⟨_, h0⟩ | ⟨g, cap, cur, rfl, hbase, hrow, hn, hmx, hsz, htk⟩
    · omega
    have hkp : kpM p l i = l.take i := by
      unfold kpM
      rw [List.filter_eq_self]
      intro x hx
      obtain ⟨j, hj, rfl⟩ := List.mem_iff_getElem.1 hx
      rw [List.length_take] at hj
      simp [hno j (by omega)]
    have hkl : (kpM p l i).length = i := by rw [hkp, List.length_take]; omega
    have hk1 := kpM_succ p l i hi
    rw [if_pos hpi] at hk1
    have HDF : Keep (DFM p l l (i + 1)) := ⟨⟨rfl, by rw [hk1, hkl, hkp], fun m _ _ => rfl⟩⟩
    have HKL : Keep ((kpM p l (i + 1)).length = i) := ⟨by rw [hk1]; exact hkl⟩
    have HTOT : Keep ((kpM p l l.length).length < l.length) := ⟨by
      rw [kpM_all]
      refine Nat.lt_of_le_of_ne (List.length_filter_le _ _) (fun e => ?_)
      have := List.length_filter_eq_length_iff.1 e l[i] (List.getElem_mem hi)
      simp [hpi] at this⟩
    have HGW : Keep (base ≤ g ∧ g < w.heap.size ∧ l.length ≤ cap ∧ cap ≤ maxLen) := ⟨hbase, (Array.getElem?_eq_some_iff.1 hrow).1, hn, hmx⟩
    unfold maxLen at hmx
    clear hidx hpi hno hall hkp hkl hk1 hsz htk hrow hbase HCASE h cur
    have hbig : l.length ≤ 9223372036854775807 := by omega
    go_enter Tryz.func101, Tryz.ntmps101
    go_wp2_with fail
    refine HI.out.mono ?_
    rintro e w1 ⟨rfl, hb⟩
    have HB := Keep.keep hb
    clear hb HI
    have hne : ((i : Int) == -1) = false := by rw [beq_eq_false_iff_ne]; omega
    go_wp2_with fail
    go_loopg [5, 6] (l.length - (i + 1)) (fun q u5 u6 wx => ∃ (j : Nat) (ls : List Mv), j + q = l.length ∧ u6 = .int .i64 (j : Int) ∧ u5 = .int .i64 ((kpM p l j).length : Int) ∧ wx.ownsRow base 32 9 (.slice (some ⟨g, 0, none⟩) l.length cap) l.length (mcells ls) ∧ DFM p l ls j ∧ Chg (fun b => b = g) w.heap.size w wx)
    case atStart => exact ⟨i + 1, l, by omega, by simp, by rw [HKL.out], (HM.out.below HB.out).own, HDF.out, .of_below HB.out⟩
    case round =>
      obtain ⟨j, ls, hjq, rfl, rfl, hown, hdf, hch⟩ := hrel
      have HO := Keep.keep hown; have HD := Keep.keep hdf; have HC := Keep.keep hch
      have hle := kpM_le p l j
      clear hown hdf hch
      cases gk with
      | zero =>
        obtain rfl : j = l.length := by omega
        have HFL : Keep (kpM p l l.length = l.filter fun x => !p x.1) := ⟨kpM_all p l⟩
        have htot := HTOT.out
        generalize hkk : (kpM p l l.length).length = i2 at *
        have HKK := Keep.keep hkk
        have hsz := HD.out.sz
        have hsl := slice_mfrom_at g l.length cap i2 (by omega) HGW.out.2.2.1 (by have := HGW.out.2.2.1; omega) wr
        obtain ⟨zs, hzl, hcl⟩ := run_clear_mbs wr g (i2 * 9) (l.length - i2) (cap - i2) (by omega) (fun m hm => by
          rw [HO.out.cellAt _ (by omega), List.getElem?_eq_getElem (by rw [mcells_length]; omega)]; rfl) (fun m hm => HO.out.frozenAt _)
        have hown2 := owns_setCells zs _ wr (i2 * 9) HO.out
        have hown3 := owns_take (k := i2) hown2.1 (by omega) (by rw [layAt_take _ _ _ (by rw [mcells_length]; omega), ← mcells_take, ← HKK.out, HD.out.pre])
        have HO3 := Keep.keep hown3
        have HC3 : Keep (Chg (fun b => b = g) w.heap.size w (wr.setCells g (i2 * 9) zs)) := ⟨HC.out.trans (((chg_grown hown2.2).mono (Nat.le_refl _) (fun b e => by injection e with e; exact e.symm)).lower HC.out.size)⟩
        clear hown2 hown3 hzl hkk hsz
        generalize wr.setCells g (i2 * 9) zs = w9 at *
        have hst := slice_mto (some ⟨g, 0, none⟩) l.length cap i2 .i64 (by have := HGW.out.2.2.1; omega) w9
        go_wp2_with fail
        go_ret
        refine ⟨_, rfl, ⟨?_, fun x hx => ?_⟩, rfl, HC3.out.mono (Nat.le_refl _) (fun b hb => by rw [hb]; rfl)⟩
        · rw [← HFL.out, HKK.out]; exact HO3.out
        · have hx2 := (List.mem_filter.1 hx).1
          refine ((HM.out.nd x hx2).loc (fun b e => HC3.out.block b e.2.1 (fun e2 => e.2.2 (by rw [e2]; rfl)))).mono (fun b e => ⟨e.1, Nat.lt_of_lt_of_le e.2.1 HC3.out.size, e.2.2⟩)
      | succ q =>
        have hj : j < l.length := by omega
        have hlj : ls[j]? = some l[j] := by rw [HD.out.post j (Nat.le_refl _) hj, List.getElem?_eq_getElem hj]
        have hld := own_loadAt HO.out HD.out.sz.symm hlj
        have HCF := Keep.keep (fun wx (hc : Chg (fun b => (Value.slice (some ⟨g, 0, none⟩) l.length cap).ownBlock = some b) w.heap.size w wx) => HF.out wx hc l[j] (List.getElem_mem hj))
        have HSK := Keep.keep (fun h => HD.out.skip hj h)
        have HPU := Keep.keep (fun h => HD.out.put hj h)
        have HK1 := Keep.keep (kpM_succ p l j hj)
        have HND := Keep.keep (HM.out.nd l[j] (List.getElem_mem hj))
        have HKT : Keep ((kpM p l j).length < l.length) := ⟨by omega⟩
        generalize hkk : (kpM p l j).length = k at *
        have HKK := Keep.keep hkk
        clear hkk hlj
        generalize p l[j].1 = pk at *
        generalize l[j] = x at *
        have HONE := Keep.keep (mcell_one HND.out)
        obtain ⟨⟨xp, ⟨kind, mode, uid, gid, time, attrs, data, link⟩⟩, av, dv⟩ := x
        obtain ⟨aa, la, ca, ad, ld, cd, e1, e2⟩ := HND.out.shape
        dsimp only at e1 e2
        subst e1 e2
        have HMC : Keep (mcell (((xp, ⟨kind, mode, uid, gid, time, attrs, data, link⟩), .slice aa la ca, .slice ad ld cd) : Mv) = #[.string ⟨xp.toArray⟩, .int .i64 kind, .int .u32 mode, .int .u32 uid, .int .u32 gid, .int .i64 time, .slice aa la ca, .slice ad ld cd, .string ⟨link.toArray⟩]) := ⟨rfl⟩
        have HSZ : Keep ((#[.string ⟨xp.toArray⟩, .int .i64 kind, .int .u32 mode, .int .u32 uid, .int .u32 gid, .int .i64 time, .slice aa la ca, .slice ad ld cd, .string ⟨link.toArray⟩] : Array Value).size = 9) := ⟨rfl⟩
        rw [HMC.out] at hld HCF
        clear HND
        go_upto_region 8 with ((with_reducible refine arm_loadM hld ?_ ?_); (focus rfl); simp only [Act.put, List.setIfInBounds_toArray, List.set_cons_succ, List.set_cons_zero])
        refine wp_world (R := fun wq => Hp NoM wr wq [rowA wr.heap.size 32 #[.string ⟨xp.toArray⟩, .int .i64 kind, .int .u32 mode, .int .u32 uid, .int .u32 gid, .int .i64 time, .slice aa la ca, .slice ad ld cd, .string ⟨link.toArray⟩]]) ((Hp.begin NoM wr).newRow _ _) ?_
        intro w2 H2
        have HRV := Keep.keep (H2.out.row 0 rfl)
        have HC2 := Keep.keep (HC.out.trans ((Chg.of_below (M := fun b => b = g) H2.out.below).lower HC.out.size))
        obtain ⟨b7, hb7⟩ : ∃ b7, wr.heap.size = b7 := ⟨_, rfl⟩
        have HB7 := Keep.keep hb7
        rw [hb7] at HRV ⊢
        clear hb7 hld
        go_wp2_with ((with_reducible refine arm_loadRow HRV.out aggM HSZ.out ?_ ?_); (focus rfl); simp only [Act.put, List.setIfInBounds_toArray, List.set_cons_succ, List.set_cons_zero])
        refine (HCF.out w2 (HC2.out.mono (Nat.le_refl _) (fun b hb => by rw [hb]; rfl))).mono ?_
        rintro e w3 ⟨rfl, hb3⟩
        have HB3 := Keep.keep (H2.out.below.trans (hb3.mono H2.out.below.size))
        have HRV3 := Keep.keep (HRV.out.below hb3 HRV.out.lt)
        have HO3 := Keep.keep (ownsRow_loc _ _ (fun b hb => HB3.out.block b (ownsV_lt HO.out b hb).2) HO.out)
        have HC3 := Keep.keep (HC2.out.trans ((Chg.of_below (M := fun b => b = g) hb3).lower HC2.out.size))
        clear hb3 HRV HCF
        cases pk with
        | true =>
          have HX := Keep.keep (HSK.out rfl)
          have HL : Keep ((kpM p l (j + 1)).length = k) := ⟨by rw [HK1.out, if_pos rfl]; exact HKK.out⟩
          go_wp2_with fail
          go_roundg q
          case measure => omega
          case rel => exact ⟨j + 1, ls, by omega, by simp, by rw [HL.out], HO3.out, HX.out, HC3.out⟩
        | false =>
          have HX := Keep.keep (HPU.out rfl)
          have HL : Keep ((kpM p l (j + 1)).length = k + 1) := ⟨by rw [HK1.out, if_neg (by decide), List.length_append, HKK.out]; rfl⟩
          have hkt := HKT.out
          clear HPU HSK
          go_upto_region 9 with fail
          go_wp2_with (first | ((with_reducible refine arm_loadRow HRV3.out aggM HSZ.out ?_ ?_); (focus rfl); simp only [Act.put, List.setIfInBounds_toArray, List.set_cons_succ, List.set_cons_zero]) | (with_reducible refine arm_sSt ?_))
          refine StM.out ?_
          refine arm_setMb (((xp, ⟨kind, mode, uid, gid, time, attrs, data, link⟩), .slice aa la ca, .slice ad ld cd) : Mv) HO3.out HD.out.sz.symm (by rw [HD.out.sz]; exact hkt) HONE.out rfl rfl ?_
          intro w4 ho4 hg4
          have HO4 := Keep.keep ho4
          have HC4 := Keep.keep (HC3.out.trans (((chg_grown hg4).mono (Nat.le_refl _) (fun b e => by injection e with e; exact e.symm)).lower HC3.out.size))
          clear ho4 hg4
          simp only [Act.put]
          go_wp2_with fail
          go_roundg q
          case measure => omega
          case rel => exact ⟨j + 1, _, by omega, by simp, by rw [HL.out]; simp, HO4.out, HX.out, HC4.out⟩
end Go.Proofs.YtplafpokgpolkaaGreatDoor
/- A RANGE OVER A FUNCTION IN A LAW: whose loop variable is a box of its own; quiet regions in its body; the memory as a list of assertions. -/
namespace Go.Proofs.YtplafpokgpolkaaGreatDoor
open Go.RowKit
theorem Hp.grownBy {w X Y : World} {row : Option Nat} {ls : List As} (h : Hp NoM w X ls) (hg : X.grownBy Y row) (hr : ∀ r, row = some r → w.heap.size ≤ r ∧ ∀ A ∈ ls, ¬ A.blk r) : Hp NoM w Y ls := by
  refine ⟨⟨hg.os.trans h.c.os, hg.tape.trans h.c.tape, hg.output.trans h.c.output, Nat.le_trans h.c.size hg.size, fun k hk hm => ?_⟩, fun A hA => ?_, h.d⟩
  · have := h.c.size
    rw [hg.block k (by omega) (fun e => by have := (hr k e.symm).1; omega)]
    exact h.c.block k hk hm
  · have := h.p A hA
    exact ⟨A.loc X Y (fun b hb => hg.block b (this.2 b hb).2 (fun e => (hr b e.symm).2 A hA hb)) this.1, fun b hb => ⟨(this.2 b hb).1, Nat.lt_of_lt_of_le (this.2 b hb).2 hg.size⟩⟩
end Go.Proofs.YtplafpokgpolkaaGreatDoor
