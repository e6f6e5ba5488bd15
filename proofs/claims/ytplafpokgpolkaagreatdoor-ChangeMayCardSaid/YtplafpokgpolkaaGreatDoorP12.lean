/- PARTS OF ONE PROOF, set in one file: ChMay, DifM, DifE, ChOf, ChPlain. Each part tells its own conditions. -/
import Derived.Test.YtplafpokgpolkaaGreatDoorP6
import Derived.Test.YtplafpokgpolkaaGreatDoorP7
import Derived.Test.YtplafpokgpolkaaGreatDoorP8
import Derived.Test.YtplafpokgpolkaaGreatDoorP11
/- change.May. -/
namespace Go.Proofs.YtplafpokgpolkaaGreatDoor
open Go.RowKit
def isDirM (S : List Mb) (q : Tx) : Bool := S.any (fun x => x.1 == q && decide (x.2.kind = 1))
/-- the map of the Dirs among S -/
def DirsIn (M : List (Tx × Value)) (S : List Mb) : Prop := ∀ q, (SM.look M q).getD (.int .i64 0) = .int .i64 (if isDirM S q = true then 1 else 0)
theorem isDirM_snoc (S : List Mb) (x : Mb) (q : Tx) : isDirM (S ++ [x]) q = (isDirM S q || (x.1 == q && decide (x.2.kind = 1))) := by unfold isDirM; simp [List.any_append]
theorem DirsIn.skip {M : List (Tx × Value)} {S : List Mb} {x : Mb} (h : DirsIn M S) (hk : x.2.kind ≠ 1) : DirsIn M (S ++ [x]) := fun q => by
  rw [h q, isDirM_snoc]; simp [hk]
theorem DirsIn.put {M : List (Tx × Value)} {S : List Mb} {x : Mb} (hs : SM.Srt M) (h : DirsIn M S) (hk : x.2.kind = 1) : DirsIn (SM.put M (x.1, .int .i64 1)) (S ++ [x]) := fun q => by
  rw [hs.look_put, isDirM_snoc]
  by_cases e : q = x.1
  · subst e; simp [hk]
  · rw [if_neg e, h q]
    have : (x.1 == q) = false := by simpa using fun e' : x.1 = q => e e'.symm
    simp [this]
theorem zeroI (w : World) : (zeroValue 3).run Tryz.prog w = .ok (.int .i64 0) w := by kernel_rfl
theorem ent_may1 : ∀ args w, (callFunc 74 args).run Tryz.prog w = .ok (.enter 74 args) w := enters_of Tryz.func74 (by kernel_rfl) rfl
set_option maxHeartbeats 1000000 in
set_option maxRecDepth 100000 in
theorem may1_any (q : Tx) (hq : q.length ≤ 1000000) (b3 mb : Nat) (M : List (Tx × Value)) (S : List Mb) (w : World) (hc : w.cell? ⟨b3, 0, none⟩ = some (.map (some mb))) (hM : MapS w 9 mb M) (hD : DirsIn M S) :
    Calls Tryz.prog 74 #[.string ⟨q.toArray⟩, .pointer (some ⟨b3, 0, none⟩)] w fun e w' => e = .returned (.bool (!isDirM S q)) ∧ Below w.heap.size w w' := by
  have hlk := hM.look1 Tryz.underlying9 Tryz.underlying91 (zeroI w) (p := q) (by unfold maxLen; omega)
  rw [hD q] at hlk
  generalize isDirM S q = b at *
  clear hM hD
  cases b with
  | true =>
    have hlk : (Instr.lookup 91 (.map (some mb)) (.string ⟨q.toArray⟩) false).run Tryz.prog w = .ok (.int .i64 1) w := hlk
    go_enter Tryz.func74, Tryz.ntmps74
    go_wp2_with fail
    go_ret
    exact ⟨rfl, Below.refl _ _⟩
  | false =>
    have hlk : (Instr.lookup 91 (.map (some mb)) (.string ⟨q.toArray⟩) false).run Tryz.prog w = .ok (.int .i64 0) w := hlk
    go_enter Tryz.func74, Tryz.ntmps74
    go_wp2_with fail
    go_ret
    exact ⟨rfl, Below.refl _ _⟩
theorem mayFrom_end (S : List Mb) (k : Nat) (hk : k = S.length) : mayFrom S k (S.drop k) = if 4096 < S.length then 42 else 0 := by
  subst hk; rw [List.drop_length]; rfl
theorem mayFrom_step {S : List Mb} {k : Nat} (hk : k < S.length) : mayFrom S k (S.drop k) = if errC S k S[k] ≠ 0 then errC S k S[k] else mayFrom S (k + 1) (S.drop (k + 1)) := by
  rw [List.drop_eq_getElem_cons hk]; rfl
/-- ARM: a load that is known, under a guard that holds -/
theorem arm_loadMG {P : Program} {ops : Array Oper} {rest : List Oper} {a : Act} {w : World} {Q : Exit → Act → World → Prop} {tp ty : TypeId} {dst : Option Tmp} {x : Operand} {pos : String} {after : Array Edge} {g : Option (Nat × Bool)} {ad : Addr} {u : Value}
    (hwt : Region.wanted (⟨dst, .load ty x, tp, pos, after, g⟩ : Oper) (yielded ops a.tmps) = true) (hr : (Instr.loadAt ty (.pointer (some ad))).run P w = .ok u w) (hx : a.eval x = .pointer (some ad)) (h : wpList P ops Q rest (a.put dst u) w) : wpList P ops Q (⟨dst, .load ty x, tp, pos, after, g⟩ :: rest) a w := by
  refine Go.BigFrame.wpList_want hwt fun K hK => ?_
  unfold Oper.wp execOp
  simp only [hx, Sem.run_bind, Sem.run_pure, Result.andThen_ok, hr]
  exact hK _ _ h
set_option maxHeartbeats 4000000 in
set_option maxRecDepth 100000 in
theorem chmay_any (v : Value) (l : List Mv) (B : Nat) (w : World) (hT : Tabs B w) (hr : Mbs w (· < w.heap.size) (· < w.heap.size) v l) (hs : ∀ x ∈ l, Sm x.1) (hl : l.length ≤ 1000000) :
    Calls Tryz.prog 36 #[v] w fun e w' => e = .returned (.int .i64 (mayC (l.map (·.1)))) ∧ Below w.heap.size w w' := by
  obtain ⟨a, cap, hv, hcap, hmx, h3⟩ := hr.rd.shape
  have HR := Keep.keep hr; have H3 := Keep.keep h3; have HT := Keep.keep hT; have HS := Keep.keep hs
  unfold maxLen at hmx
  clear hr h3 hT hs
  subst hv
  obtain ⟨S, hS⟩ : ∃ S, l.map (·.1) = S := ⟨_, rfl⟩
  have HSL : Keep (S.length = l.length) := ⟨by rw [← hS, List.length_map]⟩
  rw [hS]
  obtain ⟨out, hout⟩ : ∃ out, mayC S = out := ⟨_, rfl⟩
  have HOUT : Keep (mayFrom S 0 (S.drop 0) = out) := ⟨hout⟩
  rw [hout]
  have HSS := Keep.keep hS
  clear hout hS
  have hmm := @run_makeMap Tryz.prog
  go_enter Tryz.func36, Tryz.ntmps36
  go_upto_region 2 with fail
  refine wp_world (R := fun w1 => Hp NoM w w1 [msA 9 w.heap.size [], rowA (w.heap.size + 1) 91 #[.map (some w.heap.size)]]) ?_ ?_
  · have := ((Hp.begin NoM w).newMap 9).newRow 91 #[.map (some w.heap.size)]
    simpa using this
  intro w1 H1
  obtain ⟨b0, hb0⟩ : ∃ b0, w.heap.size = b0 := ⟨_, rfl⟩
  rw [hb0] at H1 ⊢
  clear hmm
  go_wp2_with fail
  go_loopg [12] l.length (fun g u12 wx => ∃ (k : Nat) (M : List (Tx × Value)), k + g = l.length ∧ u12 = .int .i64 (k : Int) ∧ mayFrom S k (S.drop k) = out ∧ DirsIn M (S.take k) ∧ M.length ≤ k ∧ Hp NoM w wx [msA 9 b0 M, rowA (b0 + 1) 91 #[.map (some b0)]])
  case atStart => exact ⟨0, [], by omega, rfl, HOUT.out, fun q => rfl, Nat.le_refl _, H1.out⟩
  case round =>
    obtain ⟨k, M, hkg, rfl, hmf, hdi, hml, HH⟩ := hrel
    have HMF := Keep.keep hmf; have HDI := Keep.keep hdi; have HHH := Keep.keep HH
    clear hmf hdi HH H1
    cases gk with
    | zero =>
      obtain rfl : k = l.length := by omega
      have HE : Keep (out = if 4096 < l.length then 42 else 0) := ⟨by rw [← HMF.out, mayFrom_end S _ HSL.out.symm, HSL.out]⟩
      by_cases hbig : 4096 < l.length
      · have hd : decide (4096 < (l.length : Int)) = true := decide_eq_true (by omega)
        go_wp2_with fail
        go_ret
        exact ⟨by rw [HE.out, if_pos hbig]; rfl, HHH.out.below⟩
      · have hd : decide (4096 < (l.length : Int)) = false := decide_eq_false (by omega)
        go_wp2_with fail
        go_ret
        exact ⟨by rw [HE.out, if_neg hbig]; rfl, HHH.out.below⟩
    | succ g =>
      have hk : k < l.length := by omega
      obtain ⟨b, off, rfl, hbl⟩ : ∃ b off, a = some ⟨b, off, none⟩ ∧ b < w.heap.size := by
        rcases H3.out with h | ⟨b, off, h, hb⟩
        · omega
        · exact ⟨b, off, h, hb⟩
      have hrx := HR.out.below HHH.out.below (fun b hb => hb) (fun b hb => hb)
      have hld := hrx.load hk
      have hkS : k < S.length := by rw [HSL.out]; exact hk
      have hSk : S[k] = l[k].1 := by simp [← HSS.out]
      have HSTEP : Keep (out = if errC S k l[k].1 ≠ 0 then errC S k l[k].1 else mayFrom S (k + 1) (S.drop (k + 1))) := ⟨by rw [← HMF.out, mayFrom_step hkS, hSk]⟩
      have HTK : Keep (S.take (k + 1) = S.take k ++ [l[k].1]) := ⟨by rw [List.take_succ_eq_append_getElem hkS, hSk]⟩
      have hsx := HS.out l[k] (List.getElem_mem hk)
      have HND := Keep.keep (HR.out.nd l[k] (List.getElem_mem hk))
      have HPV : Keep (∀ j, k = j + 1 → ∃ pp : Tx, notUp S k l[k].1 = !Op.bytesLess pp l[k].1.1 ∧ ∀ wx, Below w.heap.size w wx → wx.cell? ⟨b, off + j * 9, none⟩ = some (.string ⟨pp.toArray⟩)) := ⟨fun j hj => by
        have hj2 : j < l.length := by omega
        refine ⟨l[j].1.1, ?_, fun wx hb => (HR.out.below hb (fun b hb => hb) (fun b hb => hb)).cell hj2 0 (by decide) rfl⟩
        have hjS : S[j]? = some l[j].1 := by rw [← HSS.out, List.getElem?_map, List.getElem?_eq_getElem hj2]; rfl
        subst hj
        unfold notUp
        simp only
        rw [hjS]
        simp only
        rw [less_lt, Bool.eq_iff_iff]
        simp [List.not_lt]⟩
      have HNU : Keep (k = 0 → notUp S k l[k].1 = false) := ⟨fun e => by
        generalize l[k].1 = z
        subst e; rfl⟩
      clear hrx hSk hkS
      have HERR : Keep (errC S k l[k].1 = if (!mayT ([97], l[k].1.2) || notUp S k l[k].1) = true then 1 else if cls l[k].1 < 1 ∨ 3 < cls l[k].1 then 32 else if cls l[k].1 ≠ 1 ∧ bareB l[k].1.2 = false then 31 else if (aboveP l[k].1.1).any (fun q => !isDirM (S.take k) q) = true then 33 else 0) := ⟨rfl⟩
      generalize l[k] = x at *
      obtain ⟨⟨xp, ⟨kind, mode, uid, gid, time, attrs, data, link⟩⟩, av, dv⟩ := x
      obtain ⟨aa, la, ca, ad, ld, cd, e1, e2⟩ := HND.out.shape
      dsimp only at e1 e2 hsx HTK HERR HSTEP HPV HNU
      have hxp := hsx.p
      dsimp only at hxp
      subst e1 e2
      have HMC : Keep (mcell ((xp, ⟨kind, mode, uid, gid, time, attrs, data, link⟩), .slice aa la ca, .slice ad ld cd) = #[.string ⟨xp.toArray⟩, .int .i64 kind, .int .u32 mode, .int .u32 uid, .int .u32 gid, .int .i64 time, .slice aa la ca, .slice ad ld cd, .string ⟨link.toArray⟩]) := ⟨rfl⟩
      rw [HMC.out] at hld
      have hbm : ∀ w, (Instr.build 32 #[(0, .string ⟨#[97]⟩), (1, .agg #[.int .i64 kind, .int .u32 mode, .int .u32 uid, .int .u32 gid, .int .i64 time, .slice aa la ca, .slice ad ld cd, .string ⟨link.toArray⟩])]).run Tryz.prog w = .ok (.agg (mbC ([97], ⟨kind, mode, uid, gid, time, attrs, data, link⟩) (.slice aa la ca) (.slice ad ld cd))) w := fun w => buildM ([97], ⟨kind, mode, uid, gid, time, attrs, data, link⟩) (.slice aa la ca) (.slice ad ld cd) w
      have HCL := Keep.keep (fun wx (hb : Below w.heap.size w wx) => class_any xp (by omega) B wx (Nat.le_trans HT.out.b hb.size) (HT.out.m.on (hb.mono HT.out.b)) (HT.out.c.on (hb.mono HT.out.b)))
      have HNX : Keep (∀ wx, Below w.heap.size w wx → NdR wx (· < wx.heap.size) ⟨kind, mode, uid, gid, time, attrs, data, link⟩ (.slice aa la ca) (.slice ad ld cd)) := ⟨fun wx hb => (HND.out.below hb (fun b hb => hb)).mono (fun b hb' => Nat.lt_of_lt_of_le hb' hb.size)⟩
      have HTM : Keep (∀ wx, Below w.heap.size w wx → Calls Tryz.prog 75 #[.agg (mbC ([97], ⟨kind, mode, uid, gid, time, attrs, data, link⟩) (.slice aa la ca) (.slice ad ld cd))] wx fun e w' => e = .returned (.bool (mayT ([97], ⟨kind, mode, uid, gid, time, attrs, data, link⟩))) ∧ Below wx.heap.size wx w') :=
        ⟨fun wx h => may_any' ([97], ⟨kind, mode, uid, gid, time, attrs, data, link⟩) _ _ ⟨by simp, hsx.l, hsx.d, hsx.a, hsx.n, hsx.k⟩ B wx (Nat.le_trans HT.out.b h.size) (HT.out.m.on (h.mono HT.out.b)) (HT.out.c.on (h.mono HT.out.b)) (HT.out.t.on (h.mono HT.out.b)) (HNX.out wx h)⟩
      have HBR : Keep (∀ wx, Below w.heap.size w wx → Calls Tryz.prog 76 #[.agg (ndC ⟨kind, mode, uid, gid, time, attrs, data, link⟩ (.slice aa la ca) (.slice ad ld cd))] wx fun e w' => e = .returned (.bool (bareB ⟨kind, mode, uid, gid, time, attrs, data, link⟩)) ∧ Below wx.heap.size wx w') := ⟨fun wx hb => bare_any ⟨kind, mode, uid, gid, time, attrs, data, link⟩ _ _ wx (HNX.out wx hb)⟩
      have HNC : Keep (ndC ⟨kind, mode, uid, gid, time, attrs, data, link⟩ (.slice aa la ca) (.slice ad ld cd) = #[.int .i64 kind, .int .u32 mode, .int .u32 uid, .int .u32 gid, .int .i64 time, .slice aa la ca, .slice ad ld cd, .string ⟨link.toArray⟩]) := ⟨rfl⟩
      rw [HNC.out] at HBR
      have HAB := Keep.keep (fun wx => above_any xp (by omega) wx)
      have HCF : Keep (∀ wx v b3 mb, wx.cell? ⟨b3, 0, none⟩ = some (.map (some mb)) → MapS wx 9 mb M → RdS wx (· < wx.heap.size) v (aboveP xp) → Calls Tryz.prog 77 #[v, .func (.func 74) #[] #[.pointer (some ⟨b3, 0, none⟩)]] wx fun e w' => e = .returned (.bool ((aboveP xp).any (fun q => !isDirM (S.take k) q))) ∧ Below wx.heap.size wx w') :=
        ⟨fun wx v b3 mb hc hm hv => cfuncC 74 #[] _ (fun q => !isDirM (S.take k) q) v (aboveP xp) wx ent_may1 (fun wy hy q hq => by
          have hql : q.length ≤ xp.length := by
            have := (mem_above.1 hq).length_le
            simp at this; omega
          have := may1_any q (by omega) b3 mb M (S.take k) wy (by rw [hy.cell (p := ⟨b3, 0, none⟩) (World.block_lt_of_cell? wx _ hc)]; exact hc) (hm.loc (hy.block _ hm.lt)) HDI.out
          simpa using this) hv⟩
      have hcls : cls (xp, ⟨kind, mode, uid, gid, time, attrs, data, link⟩) = (classP xp).1 := rfl
      rw [hcls] at HERR
      generalize errC S k (xp, ⟨kind, mode, uid, gid, time, attrs, data, link⟩) = er at *
      generalize mayT ([97], ⟨kind, mode, uid, gid, time, attrs, data, link⟩) = mt at *
      generalize bareB ⟨kind, mode, uid, gid, time, attrs, data, link⟩ = bb at *
      generalize (aboveP xp).any (fun q => !isDirM (S.take k) q) = an at *
      generalize notUp S k (xp, ⟨kind, mode, uid, gid, time, attrs, data, link⟩) = nu at *
      obtain ⟨⟨cl, tg⟩, hcp⟩ : ∃ c, classP xp = c := ⟨_, rfl⟩
      rw [hcp] at HCL HERR
      dsimp only at HCL HERR
      generalize aboveP xp = ab at *
      clear hcls hcp hsx
      go_wp2_with ((with_reducible refine arm_loadM hld ?_ ?_); (focus rfl); simp only [Act.put, List.setIfInBounds_toArray, List.set_cons_succ, List.set_cons_zero])
      refine calls_at (R := fun wq => Hp NoM w wq ([msA 9 b0 M, rowA (b0 + 1) 91 #[.map (some b0)]] ++ [rowA wr.heap.size 32 #[.string ⟨xp.toArray⟩, .int .i64 kind, .int .u32 mode, .int .u32 uid, .int .u32 gid, .int .i64 time, .slice aa la ca, .slice ad ld cd, .string ⟨link.toArray⟩]])) (HHH.out.newRow _ _) ?_
      intro w2 H2
      refine (HCL.out w2 H2.out.below).mono ?_
      rintro e w3 ⟨rfl, hb3⟩
      have H3' := Keep.keep (H2.out.call hb3)
      obtain ⟨b5, hb5⟩ : ∃ b5, wr.heap.size = b5 := ⟨_, rfl⟩
      rw [hb5] at H3' ⊢
      clear hb3 H2 HCL hld HHH
      go_upto_region 7 with fail
      have HXP : Keep (∀ wx, Below w3.heap.size w3 wx → wx.cell? ⟨b5, 0, none⟩ = some (.string ⟨xp.toArray⟩)) := ⟨fun wx hb => ((H3'.out.call hb).row 2 rfl).cell (i := 0) rfl⟩
      have HAG : Keep (∀ wx, Below w3.heap.size w3 wx → ∀ (j : Nat) (v : Value), ([.int .i64 kind, .int .u32 mode, .int .u32 uid, .int .u32 gid, .int .i64 time, .slice aa la ca, .slice ad ld cd, .string ⟨link.toArray⟩] : List Value)[j]? = some v → wx.cell? ⟨b5, 1 + j, none⟩ = some v) := ⟨fun wx hb j v hj => ((H3'.out.call hb).row 2 rfl).cell (i := 1 + j) (by rw [Nat.add_comm]; simpa using hj)⟩
      have HI8 : Keep ((Tryz.prog.info? 30).map (·.size) = some ([.int .i64 kind, .int .u32 mode, .int .u32 uid, .int .u32 gid, .int .i64 time, .slice aa la ca, .slice ad ld cd, .string ⟨link.toArray⟩] : List Value).length) := ⟨by kernel_rfl⟩
      have HTM' : Keep (∀ wx, Below w3.heap.size w3 wx → Calls Tryz.prog 75 #[.agg (mbC ([97], ⟨kind, mode, uid, gid, time, attrs, data, link⟩) (.slice aa la ca) (.slice ad ld cd))] wx fun e w' => e = .returned (.bool mt) ∧ Below wx.heap.size wx w') := ⟨fun wx hb => HTM.out wx (H3'.out.call hb).below⟩
      cases mt with
      | false =>
        have HE1 : Keep (out = 1) := ⟨by rw [HSTEP.out, HERR.out]; rfl⟩
        refine wp_region_cls (fun w' => Below w3.heap.size w3 w') (by kernel_rfl) (by kernel_rfl) (Below.refl _ _).drew ?_
        repeat (first
          | ((with_reducible refine cls_agg ?_ HAG.out Tryz.underlying30 rfl HI8.out ?_ ?_); (focus rfl); (focus rfl); simp only [Act.put, List.setIfInBounds_toArray, List.set_cons_succ, List.set_cons_zero])
          | ((with_reducible refine cls_cell ?_ HXP.out (run_isAgg_plain Tryz.underlying9 rfl) ?_ ?_); (focus rfl); (focus rfl); simp only [Act.put, List.setIfInBounds_toArray, List.set_cons_succ, List.set_cons_zero])
          | ((with_reducible refine cls_call (f := 75) ?_ (Go.Proofs.enters_of Tryz.func75 (by kernel_rfl) rfl) ?_ (fun w1 hw1 => (HTM'.out w1 hw1).mono (fun e w2 he => ⟨he.1, hw1.trans (he.2.mono hw1.size)⟩)) ?_); (focus rfl); (focus (first | exact Array.map_empty | (simp only [List.map_toArray, List.map_cons, List.map_nil]; rfl))); simp only [Act.put, List.setIfInBounds_toArray, List.set_cons_succ, List.set_cons_zero])
          | (first | go_big_quiet_step (fail) | (go_big_quiet_want; go_big_quiet_op; (refine ⟨_, fun _ _ => rfl, ?_⟩); go_big_quiet_on)))
        (refine wpQuiet_nil ?_); intro w4 hw4
        have HB4 := Keep.keep (H3'.out.call hw4).below
        clear hw4
        go_wp2_with fail
        go_ret
        exact ⟨by rw [HE1.out]; rfl, by first | exact HB4.out | (rw [← hb0]; exact HB4.out)⟩
      | true =>
        have HOE : Keep (∀ c : Int, er = c → c ≠ 0 → out = c) := ⟨fun c h1 h2 => by rw [HSTEP.out, h1, if_pos h2]⟩
        have HNF : Keep (nu = false → er = if cl < 1 ∨ 3 < cl then 32 else if cl ≠ 1 ∧ bb = false then 31 else if an = true then 33 else 0) := ⟨fun h => by rw [HERR.out, h]; rfl⟩
        have HNT : Keep (nu = true → out = 1) := ⟨fun h => by rw [HSTEP.out, HERR.out, h]; rfl⟩
        rcases Nat.eq_zero_or_pos k with hk0 | hk0
        focus
          have HE := Keep.keep (HNF.out (HNU.out hk0))
          have hd : decide (0 < (k : Int)) = false := decide_eq_false (by omega)
          have hd2 : decide (0 < k) = false := decide_eq_false (by omega)
          clear hk0
          refine wp_region_cls (fun w' => Below w3.heap.size w3 w') (by kernel_rfl) (by kernel_rfl) (Below.refl _ _).drew ?_
          repeat (first
            | ((with_reducible refine cls_agg ?_ HAG.out Tryz.underlying30 rfl HI8.out ?_ ?_); (focus rfl); (focus rfl); simp only [Act.put, List.setIfInBounds_toArray, List.set_cons_succ, List.set_cons_zero])
            | ((with_reducible refine cls_cell ?_ HXP.out (run_isAgg_plain Tryz.underlying9 rfl) ?_ ?_); (focus rfl); (focus rfl); simp only [Act.put, List.setIfInBounds_toArray, List.set_cons_succ, List.set_cons_zero])
            | ((with_reducible refine cls_call (f := 75) ?_ (Go.Proofs.enters_of Tryz.func75 (by kernel_rfl) rfl) ?_ (fun w1 hw1 => (HTM'.out w1 hw1).mono (fun e w2 he => ⟨he.1, hw1.trans (he.2.mono hw1.size)⟩)) ?_); (focus rfl); (focus (first | exact Array.map_empty | (simp only [List.map_toArray, List.map_cons, List.map_nil]; rfl))); simp only [Act.put, List.setIfInBounds_toArray, List.set_cons_succ, List.set_cons_zero])
            | (first | go_big_quiet_step (fail) | (go_big_quiet_want; go_big_quiet_op; (refine ⟨_, fun _ _ => rfl, ?_⟩); go_big_quiet_on)))
          (refine wpQuiet_nil ?_); intro w4 hw4
        rotate_left
        focus
          obtain ⟨j, hj⟩ : ∃ j, k = j + 1 := ⟨k - 1, by omega⟩
          obtain ⟨pp, hnu, hpc⟩ := HPV.out j hj
          have HPC : Keep (∀ wx, Below w3.heap.size w3 wx → wx.cell? ⟨b, off + j * 9, none⟩ = some (.string ⟨pp.toArray⟩)) := ⟨fun wx hb => hpc wx (H3'.out.call hb).below⟩
          have hkj : ((k : Int) - 1) = (j : Int) := by omega
          have hd : decide (0 < (k : Int)) = true := decide_eq_true (by omega)
          have hd2 : decide (0 < k) = true := decide_eq_true (by omega)
          clear hk0
          have HNUJ := Keep.keep hnu
          have hjl : j < l.length := by omega
          clear hnu hpc hj
          cases hbl2 : Op.bytesLess pp xp
          case false =>
            have HO1 := Keep.keep (HNT.out (by rw [HNUJ.out, hbl2]; rfl))
            refine wp_region_cls (fun w' => Below w3.heap.size w3 w') (by kernel_rfl) (by kernel_rfl) (Below.refl _ _).drew ?_
            repeat (first
              | ((with_reducible refine cls_agg ?_ HAG.out Tryz.underlying30 rfl HI8.out ?_ ?_); (focus rfl); (focus rfl); simp only [Act.put, List.setIfInBounds_toArray, List.set_cons_succ, List.set_cons_zero])
              | ((with_reducible refine cls_cell ?_ HPC.out (run_isAgg_plain Tryz.underlying9 rfl) ?_ ?_); (focus rfl); (focus rfl); simp only [Act.put, List.setIfInBounds_toArray, List.set_cons_succ, List.set_cons_zero])
              | ((with_reducible refine cls_cell ?_ HXP.out (run_isAgg_plain Tryz.underlying9 rfl) ?_ ?_); (focus rfl); (focus rfl); simp only [Act.put, List.setIfInBounds_toArray, List.set_cons_succ, List.set_cons_zero])
              | ((with_reducible refine cls_call (f := 75) ?_ (Go.Proofs.enters_of Tryz.func75 (by kernel_rfl) rfl) ?_ (fun w1 hw1 => (HTM'.out w1 hw1).mono (fun e w2 he => ⟨he.1, hw1.trans (he.2.mono hw1.size)⟩)) ?_); (focus rfl); (focus (first | exact Array.map_empty | (simp only [List.map_toArray, List.map_cons, List.map_nil]; rfl))); simp only [Act.put, List.setIfInBounds_toArray, List.set_cons_succ, List.set_cons_zero])
              | (first | go_big_quiet_step (fail) | (go_big_quiet_want; go_big_quiet_op; (refine ⟨_, fun _ _ => rfl, ?_⟩); go_big_quiet_on)))
            (refine wpQuiet_nil ?_); intro w4 hw4
            have HB4 := Keep.keep (H3'.out.call hw4).below
            clear hw4
            go_wp2_with fail
            go_ret
            exact ⟨by rw [HO1.out]; rfl, by first | exact HB4.out | (rw [← hb0]; exact HB4.out)⟩
          have HE := Keep.keep (HNF.out (by rw [HNUJ.out, hbl2]; rfl))
          refine wp_region_cls (fun w' => Below w3.heap.size w3 w') (by kernel_rfl) (by kernel_rfl) (Below.refl _ _).drew ?_
          repeat (first
            | ((with_reducible refine cls_agg ?_ HAG.out Tryz.underlying30 rfl HI8.out ?_ ?_); (focus rfl); (focus rfl); simp only [Act.put, List.setIfInBounds_toArray, List.set_cons_succ, List.set_cons_zero])
            | ((with_reducible refine cls_cell ?_ HPC.out (run_isAgg_plain Tryz.underlying9 rfl) ?_ ?_); (focus rfl); (focus rfl); simp only [Act.put, List.setIfInBounds_toArray, List.set_cons_succ, List.set_cons_zero])
            | ((with_reducible refine cls_cell ?_ HXP.out (run_isAgg_plain Tryz.underlying9 rfl) ?_ ?_); (focus rfl); (focus rfl); simp only [Act.put, List.setIfInBounds_toArray, List.set_cons_succ, List.set_cons_zero])
            | ((with_reducible refine cls_call (f := 75) ?_ (Go.Proofs.enters_of Tryz.func75 (by kernel_rfl) rfl) ?_ (fun w1 hw1 => (HTM'.out w1 hw1).mono (fun e w2 he => ⟨he.1, hw1.trans (he.2.mono hw1.size)⟩)) ?_); (focus rfl); (focus (first | exact Array.map_empty | (simp only [List.map_toArray, List.map_cons, List.map_nil]; rfl))); simp only [Act.put, List.setIfInBounds_toArray, List.set_cons_succ, List.set_cons_zero])
            | (first | go_big_quiet_step (fail) | (go_big_quiet_want; go_big_quiet_op; (refine ⟨_, fun _ _ => rfl, ?_⟩); go_big_quiet_on)))
          (refine wpQuiet_nil ?_); intro w4 hw4
          clear hkj hbl2 HNUJ HPC hjl
        all_goals
          have H4 := Keep.keep (H3'.out.call hw4)
          have HB4 := Keep.keep (H3'.out.call hw4).below
          clear hw4 hd hd2
          by_cases z1 : cl < 1
          · have d1 : decide (cl < 1) = true := decide_eq_true z1
            have HX : Keep (out = 32) := ⟨HOE.out 32 (by rw [HE.out, if_pos (.inl z1)]) (by decide)⟩
            go_wp2_with fail
            go_ret
            exact ⟨by rw [HX.out]; rfl, by first | exact HB4.out | (rw [← hb0]; exact HB4.out)⟩
          by_cases z3 : 3 < cl
          · have d1 : decide (cl < 1) = false := decide_eq_false z1
            have d3 : decide (3 < cl) = true := decide_eq_true z3
            have HX : Keep (out = 32) := ⟨HOE.out 32 (by rw [HE.out, if_pos (.inr z3)]) (by decide)⟩
            go_wp2_with fail
            go_ret
            exact ⟨by rw [HX.out]; rfl, by first | exact HB4.out | (rw [← hb0]; exact HB4.out)⟩
          have HE2 : Keep (er = if cl ≠ 1 ∧ bb = false then 31 else if an = true then 33 else 0) := ⟨by rw [HE.out, if_neg (fun h => h.elim z1 z3)]⟩
          have d1 : decide (cl < 1) = false := decide_eq_false z1
          have d3 : decide (3 < cl) = false := decide_eq_false z3
          by_cases zc : cl = 1
          focus
            have hne : (cl != 1) = false := by rw [zc]; rfl
            have HE3 : Keep (er = if an = true then 33 else 0) := ⟨by rw [HE2.out, if_neg (fun h => h.1 zc)]⟩
            go_upto_region 13 with fail
          rotate_left
          focus
            have hne : (cl != 1) = true := by simpa using zc
            have hla : (Instr.loadAt 30 (.pointer (some ⟨b5, 1, none⟩))).run Tryz.prog w4 = .ok (.agg #[.int .i64 kind, .int .u32 mode, .int .u32 uid, .int .u32 gid, .int .i64 time, .slice aa la ca, .slice ad ld cd, .string ⟨link.toArray⟩]) w4 := by
              have := run_loadAt_mid (P := Tryz.prog) w4 b5 1 30 [.int .i64 kind, .int .u32 mode, .int .u32 uid, .int .u32 gid, .int .i64 time, .slice aa la ca, .slice ad ld cd, .string ⟨link.toArray⟩] _ (fun j z hj => ((H4.out.row 2 rfl).cell (i := 1 + j) (by rw [Nat.add_comm]; simpa using hj))) Tryz.underlying30 rfl (by kernel_rfl)
              simpa using this
            go_wp2_with ((with_reducible refine arm_loadMG ?_ hla ?_ ?_); (focus rfl); (focus rfl); simp only [Act.put, List.setIfInBounds_toArray, List.set_cons_succ, List.set_cons_zero])
            refine (HBR.out w4 HB4.out).mono ?_
            rintro e w5 ⟨rfl, hb5'⟩
            have H5 := Keep.keep (H4.out.call hb5')
            clear hb5' hla
            cases bb
            case false =>
              have HX : Keep (out = 31) := ⟨HOE.out 31 (by rw [HE2.out, if_pos ⟨zc, rfl⟩]) (by decide)⟩
              have HB5 := Keep.keep H5.out.below
              go_wp2_with fail
              go_ret
              exact ⟨by rw [HX.out]; rfl, by first | exact HB5.out | (rw [← hb0]; exact HB5.out)⟩
            have HE3 : Keep (er = if an = true then 33 else 0) := ⟨by rw [HE2.out, if_neg (fun h => by cases h.2)]⟩
            clear H4
            have H4 := H5
            go_upto_region 13 with fail
        all_goals
          clear HB4
          refine wp_world (R := fun wz => Hp NoM w wz ([msA 9 b0 M, rowA (b0 + 1) 91 #[.map (some b0)]] ++ [rowA b5 32 #[.string ⟨xp.toArray⟩, .int .i64 kind, .int .u32 mode, .int .u32 uid, .int .u32 gid, .int .i64 time, .slice aa la ca, .slice ad ld cd, .string ⟨link.toArray⟩]])) H4.out ?_
          intro w6 H6
          have c0 := (H6.out.row 2 rfl).cell (i := 0) rfl
          clear H4
          go_wp2_with fail
          refine (HAB.out w6).mono ?_
          rintro e w7 ⟨va, rfl, hoa, hb7⟩
          have H7 := Keep.keep (H6.out.call hb7)
          have HVA : Keep (RdS w7 (· < w7.heap.size) va ab) := ⟨(ownsV_reads hoa).mono (fun b hb => hb.2.1)⟩
          obtain ⟨a7, c7, hva, -⟩ := (ownsV_reads hoa).shape
          generalize ab.length = na at hva
          subst hva
          have HC7 := Keep.keep (HCF.out w7 _ (b0 + 1) b0 ((H7.out.row 1 rfl).cell (i := 0) rfl) (H7.out.get 0 rfl) HVA.out)
          clear hoa hb7 c0 H6
          go_wp2_with fail
          refine HC7.out.mono ?_
          rintro e w8 ⟨rfl, hb8⟩
          have H8 := Keep.keep (H7.out.call hb8)
          clear hb8 HC7 HVA H7
          cases an with
          | true =>
            have HX : Keep (out = 33) := ⟨HOE.out 33 (by rw [HE3.out, if_pos rfl]) (by decide)⟩
            have HB8 := Keep.keep H8.out.below
            go_wp2_with fail
            go_ret
            exact ⟨by rw [HX.out]; rfl, by first | exact HB8.out | (rw [← hb0]; exact HB8.out)⟩
          | false =>
            have HMF2 : Keep (mayFrom S (k + 1) (S.drop (k + 1)) = out) := ⟨by rw [HSTEP.out, HE3.out, if_neg (by decide)]⟩
            have k1 := (H8.out.row 2 rfl).cell (i := 1) rfl
            have c0 := (H8.out.row 2 rfl).cell (i := 0) rfl
            have c3 := (H8.out.row 1 rfl).cell (i := 0) rfl
            have hm8 : MapS w8 9 b0 M := H8.out.get 0 rfl
            have HM8 := Keep.keep hm8
            clear hm8
            by_cases zk : kind = 1
            · have hzk : (kind == 1) = true := by rw [zk]; rfl
              have HD2 : Keep (DirsIn (SM.put M (xp, .int .i64 1)) (S.take (k + 1))) := ⟨by rw [HTK.out]; exact DirsIn.put (x := (xp, ⟨kind, mode, uid, gid, time, attrs, data, link⟩)) HM8.out.s HDI.out zk⟩
              have HL2 : Keep ((SM.put M (xp, .int .i64 1)).length ≤ k + 1) := ⟨by rw [HM8.out.s.length_put]; split <;> omega⟩
              go_wp2_with (first | (with_reducible refine arm_sRange ?_) | (with_reducible refine arm_sNext ?_) | (with_reducible refine arm_sDel ?_) | (with_reducible refine arm_sPut ?_) | (with_reducible refine arm_sIns ?_))
              refine StM.out ?_
              refine arm_putS Tryz.underlying9 Tryz.underlying91 HM8.out (p := xp) (by unfold maxLen; omega) (by unfold maxLen; omega) rfl rfl rfl ?_
              intro w9 hm9 hc9
              have H9 := Keep.keep (H8.out.upd 0 rfl (msA 9 b0 (SM.put M (xp, .int .i64 1))) hc9 hm9 (fun b hb => .inl hb))
              clear hm9 hc9 H8 HM8 k1 c0 c3
              simp only [Act.put]
              go_wp2_with fail
              go_roundg g
              case measure => omega
              case rel => exact ⟨k + 1, _, by omega, by simp, HMF2.out, HD2.out, HL2.out, H9.out.init⟩
            · have hzk : (kind == 1) = false := by simpa using zk
              have HD2 : Keep (DirsIn M (S.take (k + 1))) := ⟨by rw [HTK.out]; exact HDI.out.skip zk⟩
              clear HM8
              go_wp2_with fail
              go_roundg g
              case measure => omega
              case rel => exact ⟨k + 1, M, by omega, by simp, HMF2.out, HD2.out, by omega, H8.out.init⟩
end Go.Proofs.YtplafpokgpolkaaGreatDoor
/- CHANGESETS, plainly: what leads from a tree to another one; members' places; counting. -/
namespace Go.Proofs.YtplafpokgpolkaaGreatDoor
theorem under_join {e b d : Tx} (hb : ∀ x ∈ b, x ≠ 47) (h0 : b ≠ []) : underP d (if e = [] then b else e ++ 47 :: b) = (e == d || underP d e) := by
  by_cases he : e = []
  · subst he
    rw [if_pos rfl]
    by_cases hd : d = []
    · subst hd; rw [under_nil]; simp [h0]
    · have h1 : underP d b = false := by
        rw [Bool.eq_false_iff]; intro h
        unfold underP at h
        simp [hd] at h
        obtain ⟨r, hr⟩ := h.2
        exact hb 47 (by rw [← hr]; simp) rfl
      have h2 : underP d [] = false := rfl
      rw [h1, h2]
      simpa using fun e : [] = d => hd e.symm
  · rw [if_neg he]
    by_cases hd : d = []
    · subst hd; rw [under_nil, under_nil]; simp [he]
    · have key : (d ++ [47] <+: e ++ 47 :: b) ↔ e = d ∨ d ++ [47] <+: e := by
        constructor
        · rintro ⟨r, hr⟩
          have hr : d ++ (47 :: r) = e ++ 47 :: b := by simpa using hr
          rcases List.append_eq_append_iff.1 hr with ⟨a, h1, h2⟩ | ⟨a, h1, h2⟩
          · cases a with
            | nil => exact .inl (by simpa using h1)
            | cons x t =>
              simp at h2
              obtain ⟨rfl, _⟩ := h2
              exact .inr ⟨t, by rw [h1]; simp⟩
          · cases a with
            | nil => exact .inl (by simpa using h1.symm)
            | cons x t =>
              simp at h2
              exact (hb 47 (by rw [h2.2]; simp) rfl).elim
        · rintro (rfl | ⟨r, hr⟩)
          · exact ⟨b, by simp⟩
          · exact ⟨r ++ 47 :: b, by rw [← hr]; simp⟩
      unfold underP
      rw [Bool.eq_iff_iff]
      simp [hd, he, key]
theorem markB_ne : markB ≠ [] ∧ ∀ x ∈ markB, x ≠ 47 := by decide
/-- where a Member stands -/
inductive At (m : Mb) : Prop
  | plain (hc : cls m = 1) (ht : tgt m = m.1) (hm : mayP m.1 = true) (h0 : m.1 ≠ [])
  | gone (hc : cls m = 2) (hm : mayP (tgt m) = true) (h0 : tgt m ≠ []) (hu : ∀ d, underP d m.1 = underP d (tgt m))
  | mark (hc : cls m = 3) (hm : mayP (tgt m) = true) (hu : ∀ d, underP d m.1 = (tgt m == d || underP d (tgt m)))
theorem at_of {m : Mb} (h : cls m = 1 ∨ cls m = 2 ∨ cls m = 3) : At m := by
  rcases told m.1 with ⟨hc, _⟩ | ⟨hc, hm, h0⟩ | ⟨t, hc, hw, hm, _⟩ | ⟨t, hc, ho, hm, _⟩ | ⟨hc, _, _⟩
  · unfold cls at h; rw [hc] at h; omega
  · exact .plain (by unfold cls; rw [hc]) (by unfold tgt; rw [hc]) hm h0
  · have ht : tgt m = t := by unfold tgt; rw [hc]
    have h1 : cls m = 2 := by unfold cls; rw [hc]
    have hp0 : m.1 ≠ [] := by
      intro e; rw [e] at hc; have h4 := kn_c4; rw [hc] at h4; cases h4
    have hg : ¬ (t.isEmpty || !mayP t) = true := by
      intro e
      unfold whiteoutP at hw
      rw [if_pos e] at hw
      exact hp0 hw.symm
    have h2 : mayP t = true ∧ t ≠ [] := by simpa [and_comm] using hg
    refine .gone h1 (by rw [ht]; exact h2.1) (by rw [ht]; exact h2.2) (fun d => ?_)
    have hbm := may_base h2.1 h2.2
    have hbn := mayN_ne hbm
    rw [ht, path_join h2.1 h2.2, under_join hbn.2 hbn.1]
    unfold whiteoutP at hw
    rw [if_neg hg, joinP_two] at hw
    rw [← hw]
    have e1 : (if parentP t = [] then whiteB ++ baseP t else if whiteB ++ baseP t = [] then parentP t else parentP t ++ 47 :: (whiteB ++ baseP t)) = if parentP t = [] then whiteB ++ baseP t else parentP t ++ 47 :: (whiteB ++ baseP t) := by
      rw [if_neg (c := whiteB ++ baseP t = []) (by simp [whiteB])]
    rw [e1, under_join (white_noSl hbn.2) (by simp [whiteB])]
  · have ht : tgt m = t := by unfold tgt; rw [hc]
    have h1 : cls m = 3 := by unfold cls; rw [hc]
    have hp0 : m.1 ≠ [] := by
      intro e; rw [e] at hc; have h4 := kn_c4; rw [hc] at h4; cases h4
    have hg : ¬ (!mayP t) = true := by
      intro e
      unfold opaqueP at ho
      rw [if_pos e] at ho
      exact hp0 ho.symm
    have h2 : mayP t = true := by simpa using hg
    refine .mark h1 (by rw [ht]; exact h2) (fun d => ?_)
    unfold opaqueP at ho
    rw [if_neg hg, joinP_two] at ho
    rw [ht, ← ho]
    have e1 : (if t = [] then markB else if markB = [] then t else t ++ 47 :: markB) = if t = [] then markB else t ++ 47 :: markB := by
      rw [if_neg (c := markB = []) markB_ne.1]
    rw [e1, under_join markB_ne.2 markB_ne.1]
  · unfold cls at h; rw [hc] at h; omega
/-- is t at c, or below -/
def hitT (c t : Tx) : Bool := t == c || underP c t
theorem hitT_iff {c t : Tx} (hc : c ≠ []) : hitT c t = true ↔ c ++ [47] <+: t ++ [47] := by
  unfold hitT underP
  simp only [Bool.or_eq_true, beq_iff_eq, Bool.and_eq_true, Bool.not_eq_true', List.isEmpty_eq_false_iff, List.isEmpty_iff, hc, false_or, List.isPrefixOf_iff_prefix]
  constructor
  · rintro (rfl | ⟨_, h⟩)
    · exact List.prefix_refl _
    · exact h.trans (List.prefix_append _ _)
  · rintro ⟨r, hr⟩
    rcases List.eq_nil_or_concat r with rfl | ⟨r, x, rfl⟩
    · left
      rw [List.append_nil] at hr
      exact (List.append_inj_left' hr rfl).symm
    · right
      rw [List.concat_eq_append, ← List.append_assoc] at hr
      have := List.append_inj_left' hr rfl
      refine ⟨fun e => ?_, ⟨r, this⟩⟩
      rw [e] at this
      simp at this
theorem noSl_pre : ∀ (b b' : Tx), (∀ x ∈ b, x ≠ 47) → (∀ x ∈ b', x ≠ 47) → b ++ [47] <+: b' ++ [47] → b = b'
  | [], [], _, _, _ => rfl
  | [], c :: b', _, h', h => by
    obtain ⟨r, hr⟩ := h
    simp at hr
    exact (h' c (by simp) hr.1.symm).elim
  | c :: b, [], h, _, hp => by
    obtain ⟨r, hr⟩ := hp
    simp at hr
  | c :: b, c' :: b', h, h', hp => by
    obtain ⟨r, hr⟩ := hp
    simp only [List.cons_append, List.append_assoc, List.cons.injEq] at hr
    have := noSl_pre b b' (fun x hx => h x (by simp [hx])) (fun x hx => h' x (by simp [hx])) ⟨r, by simpa using hr.2⟩
    rw [hr.1, this]
/-- of what a Dir has one alone is at t, or above -/
theorem hit_one {d c c' t : Tx} (hc : mayP c = true) (h0 : c ≠ []) (hd : parentP c = d) (hc' : mayP c' = true) (h0' : c' ≠ []) (hd' : parentP c' = d) (h : hitT c t = true) (h' : hitT c' t = true) : c = c' := by
  have key : ∀ {c c' : Tx}, mayP c = true → c ≠ [] → parentP c = d → mayP c' = true → c' ≠ [] → parentP c' = d → c ++ [47] <+: c' ++ [47] → c = c' := by
    intro c c' hc h0 hd hc' h0' hd' hp
    have e1 := path_join hc h0
    have e2 := path_join hc' h0'
    have n1 := mayN_ne (may_base hc h0)
    have n2 := mayN_ne (may_base hc' h0')
    rw [hd] at e1
    rw [hd'] at e2
    by_cases hdn : d = []
    · rw [if_pos hdn] at e1 e2
      rw [e1, e2] at hp ⊢
      exact noSl_pre _ _ n1.2 n2.2 hp
    · rw [if_neg hdn] at e1 e2
      rw [e1, e2] at hp ⊢
      obtain ⟨r, hr⟩ := hp
      have := noSl_pre _ _ n1.2 n2.2 ⟨r, by simpa using hr⟩
      rw [this]
  rw [hitT_iff h0] at h
  rw [hitT_iff h0'] at h'
  rcases Nat.le_total (c ++ [47]).length (c' ++ [47]).length with hl | hl
  · exact key hc h0 hd hc' h0' hd' (List.prefix_of_prefix_length_le h h' hl)
  · exact (key hc' h0' hd' hc h0 hd (List.prefix_of_prefix_length_le h' h hl)).symm
/-- what is below another one has that one, a Dir -/
theorem dir_above {L : List Mb} (h : WellL L) {c : Tx} (h0 : c ≠ []) : ∀ (n : Nat) (x : Mb), x.1.length = n → x ∈ L → underP c x.1 = true → ∃ y, SM.look L c = some y ∧ y.kind = 1 := by
  intro n
  induction n using Nat.strongRecOn with
  | ind n ih =>
    intro x hn hx hu
    obtain ⟨hp, hx0⟩ := h.path hx
    rw [under_rec hp hx0] at hu
    have hd := dirT_iff.1 (h.p x hx)
    rcases Bool.or_eq_true_iff.1 hu with hu | hu
    · have hu : parentP x.1 = c := by simpa using hu
      rw [hu] at hd
      exact hd.resolve_left h0
    · rcases hd with hd | ⟨y, hy, hk⟩
      · rw [hd] at hu; cases hu
      · exact ih (parentP x.1).length (by have := parent_lt hx0; omega) (parentP x.1, y) rfl (SM.look_mem hy) hu
theorem nodup_le {α : Type} : ∀ (l k : List α), l.Nodup → (∀ x ∈ l, x ∈ k) → l.length ≤ k.length
  | [], _, _, _ => Nat.zero_le _
  | a :: l, k, hn, hs => by
    obtain ⟨s, t, rfl⟩ := List.append_of_mem (hs a (by simp))
    have hn := List.nodup_cons.1 hn
    have := nodup_le l (s ++ t) hn.2 (fun x hx => by
      have h1 := hs x (by simp [hx])
      rcases List.mem_append.1 h1 with h1 | h1
      · exact List.mem_append_left _ h1
      · rcases List.mem_cons.1 h1 with rfl | h1
        · exact (hn.1 hx).elim
        · exact List.mem_append_right _ h1)
    simp at this ⊢; omega
theorem mb_nodup {L : List Mb} (h : SM.Srt L) : L.Nodup := List.Pairwise.of_map (fun x : Mb => x.1) (fun _ _ hab e => hab (by rw [e])) (srt_nodup h)
/-- S LEADS from A to B -/
structure Leads (A B S : List Mb) : Prop where
  v : ValidC S
  res : ∀ x, x ∈ B ↔ (x ∈ A ∧ staysC S x.1 = true) ∨ x ∈ plainC S
theorem grow_nodup : ∀ (n : Nat) (P : List Mb), P.length = n → ¬ (growT P).length < P.length → (P.map (·.1)).Nodup := by
  intro n
  induction n with
  | zero =>
    intro P h _
    obtain rfl := List.eq_nil_of_length_eq_zero h
    exact List.nodup_nil
  | succ n ih =>
    intro P h hl
    obtain ⟨Q, m, rfl⟩ : ∃ Q m, P = Q ++ [m] := ⟨P.dropLast, P.getLast (by intro e; rw [e] at h; cases h), (List.dropLast_concat_getLast _).symm⟩
    rw [growT_snoc, (growT_srt Q).length_put, List.length_append, List.length_singleton] at hl
    have h1 := growT_len Q
    have h2 : ¬ (SM.look (growT Q) m.1).isSome = true := by
      intro e; rw [if_pos e] at hl; omega
    rw [if_neg h2] at hl
    have hq := ih Q (by simpa using h) (by omega)
    rw [List.map_append, List.nodup_append]
    refine ⟨hq, by simp, fun a ha b hb e => ?_⟩
    obtain rfl : b = m.1 := by simpa using hb
    obtain ⟨x, hx, rfl⟩ := List.mem_map.1 ha
    have h3 : SM.look (growT Q) m.1 = none := by cases hc : SM.look (growT Q) m.1 with | none => rfl | some v => rw [hc] at h2; exact (h2 rfl).elim
    exact SM.look_none.1 h3 x ((mem_growT _ Q rfl hq x).2 hx) e
theorem leads_of {A B S : List Mb} (h : applyC A S = (0, some B)) : Leads A B S := by
  unfold applyC at h
  split at h
  · injection h with _ h; cases h
  · rename_i hm
    have hm : mayC S = 0 := by simpa using hm
    unfold newT at h
    split at h
    · cases h
    · split at h
      · cases h
      · rename_i hl
        split at h
        · cases h
        · split at h
          · cases h
          · have hB : growT (A.filter (fun m => staysC S m.1) ++ plainC S) = B := by
              injection h with _ h; injection h
            refine ⟨mayC_valid hm, fun x => ?_⟩
            rw [← hB, mem_growT _ _ rfl (grow_nodup _ _ rfl hl), List.mem_append, List.mem_filter]
end Go.Proofs.YtplafpokgpolkaaGreatDoor
/- CHANGESETS, plainly: what a changeset's maps tell; what stays. -/
namespace Go.Proofs.YtplafpokgpolkaaGreatDoor
def goneE (S : List Mb) (t : Tx) : Bool := S.any fun m => decide (cls m = 2) && tgt m == t
def markE (S : List Mb) (t : Tx) : Bool := S.any fun m => decide (cls m = 3) && tgt m == t
def overE (S : List Mb) (t : Tx) : Int := if (S.any fun m => decide (cls m = 1) && decide (m.2.kind ≠ 1) && tgt m == t) = true then 2 else if (S.any fun m => decide (cls m = 1) && decide (m.2.kind = 1) && tgt m == t) = true then 1 else 0
def hidesE (S : List Mb) (p : Tx) : Bool := goneE S p || decide (overE S p = 2)
def staysE (S : List Mb) (p : Tx) : Bool := p != [] && decide (overE S p = 0) && !markE S [] && !hidesE S p && !(aboveP p).any (hidesE S) && !(aboveP p).any (markE S)
theorem over_two {S : List Mb} {t : Tx} : overE S t = 2 ↔ ∃ m ∈ S, cls m = 1 ∧ m.2.kind ≠ 1 ∧ tgt m = t := by
  unfold overE
  split
  · rename_i h
    simp only [List.any_eq_true, Bool.and_eq_true, decide_eq_true_eq, beq_iff_eq, and_assoc] at h
    exact ⟨fun _ => h, fun _ => rfl⟩
  · rename_i h
    have hn : ¬ ∃ m ∈ S, cls m = 1 ∧ m.2.kind ≠ 1 ∧ tgt m = t := by
      rintro ⟨m, hm, a, b, c⟩
      exact h (List.any_eq_true.2 ⟨m, hm, by simp [a, b, c]⟩)
    split <;> exact ⟨fun e => by omega, fun e => (hn e).elim⟩
theorem over_zero {S : List Mb} {t : Tx} : overE S t = 0 ↔ ¬ ∃ m ∈ S, cls m = 1 ∧ tgt m = t := by
  unfold overE
  split
  · rename_i h
    simp only [List.any_eq_true, Bool.and_eq_true, decide_eq_true_eq, beq_iff_eq, and_assoc] at h
    obtain ⟨m, hm, a, _, c⟩ := h
    exact ⟨fun e => by omega, fun e => (e ⟨m, hm, a, c⟩).elim⟩
  · rename_i h
    split
    · rename_i h2
      simp only [List.any_eq_true, Bool.and_eq_true, decide_eq_true_eq, beq_iff_eq, and_assoc] at h2
      obtain ⟨m, hm, a, _, c⟩ := h2
      exact ⟨fun e => by omega, fun e => (e ⟨m, hm, a, c⟩).elim⟩
    · rename_i h2
      refine ⟨fun _ => ?_, fun _ => rfl⟩
      rintro ⟨m, hm, a, c⟩
      by_cases hk : m.2.kind = 1
      · exact h2 (List.any_eq_true.2 ⟨m, hm, by simp [a, hk, c]⟩)
      · exact h (List.any_eq_true.2 ⟨m, hm, by simp [a, hk, c]⟩)
theorem gone_iff {S : List Mb} {t : Tx} : goneE S t = true ↔ ∃ m ∈ S, cls m = 2 ∧ tgt m = t := by unfold goneE; simp [List.any_eq_true]
theorem mark_iff {S : List Mb} {t : Tx} : markE S t = true ↔ ∃ m ∈ S, cls m = 3 ∧ tgt m = t := by unfold markE; simp [List.any_eq_true]
theorem hides_iff {S : List Mb} {t : Tx} : hidesE S t = true ↔ ∃ m ∈ S, tgt m = t ∧ (cls m = 2 ∨ (cls m = 1 ∧ m.2.kind ≠ 1)) := by
  unfold hidesE
  rw [Bool.or_eq_true, decide_eq_true_eq, gone_iff, over_two]
  constructor
  · rintro (⟨m, hm, a, b⟩ | ⟨m, hm, a, b, c⟩)
    · exact ⟨m, hm, b, .inl a⟩
    · exact ⟨m, hm, c, .inr ⟨a, b⟩⟩
  · rintro ⟨m, hm, a, b | b⟩
    · exact .inl ⟨m, hm, b, a⟩
    · exact .inr ⟨m, hm, b.1, b.2, a⟩
theorem tgt_ne {m : Mb} (h : cls m = 1 ∨ cls m = 2) : tgt m ≠ [] := by
  rcases at_of (m := m) (by omega) with ⟨_, ht, _, h0⟩ | ⟨_, _, h0, _⟩ | ⟨hk, _⟩
  · rw [ht]; exact h0
  · exact h0
  · omega
/-- the maps tell what the Members do -/
theorem stays_eq (S : List Mb) (p : Tx) : staysE S p = staysC S p := by
  rw [Bool.eq_iff_iff]
  unfold staysE staysC
  simp only [Bool.and_eq_true, bne_iff_ne, decide_eq_true_eq, Bool.not_eq_true', List.all_eq_true, over_zero, ← Bool.not_eq_true, hides_iff, mark_iff, List.any_eq_true]
  constructor
  · rintro ⟨⟨⟨⟨⟨h0, h1⟩, h2⟩, h3⟩, h4⟩, h5⟩
    refine ⟨h0, fun m hm h => ?_⟩
    unfold hits at h
    simp only [Bool.or_eq_true, Bool.and_eq_true, decide_eq_true_eq, beq_iff_eq] at h
    rcases h with (⟨hc, h | ⟨hk, h⟩⟩ | ⟨hc, h | h⟩) | ⟨hc, h⟩
    · exact h1 ⟨m, hm, hc, h⟩
    · exact h4 ⟨tgt m, (under_above (tgt_ne (.inl hc))).1 h, m, hm, rfl, .inr ⟨hc, hk⟩⟩
    · exact h3 ⟨m, hm, h, .inl hc⟩
    · exact h4 ⟨tgt m, (under_above (tgt_ne (.inr hc))).1 h, m, hm, rfl, .inl hc⟩
    · by_cases ht : tgt m = []
      · exact h2 ⟨m, hm, hc, ht⟩
      · exact h5 ⟨tgt m, (under_above ht).1 h, m, hm, hc, rfl⟩
  · rintro ⟨h0, h⟩
    have hf : ∀ m ∈ S, ∀ t, tgt m = t → (cls m = 1 ∧ (t = p ∨ (m.2.kind ≠ 1 ∧ underP t p = true))) ∨ (cls m = 2 ∧ (t = p ∨ underP t p = true)) ∨ (cls m = 3 ∧ underP t p = true) → False := by
      rintro m hm t rfl e
      refine h m hm ?_
      unfold hits
      simp only [Bool.or_eq_true, Bool.and_eq_true, decide_eq_true_eq, beq_iff_eq, or_assoc]
      exact e
    refine ⟨⟨⟨⟨⟨h0, ?_⟩, ?_⟩, ?_⟩, ?_⟩, ?_⟩
    · rintro ⟨m, hm, a, b⟩
      exact hf m hm _ b (.inl ⟨a, .inl rfl⟩)
    · rintro ⟨m, hm, a, b⟩
      exact hf m hm _ b (.inr (.inr ⟨a, by rw [under_nil]; simp [h0]⟩))
    · rintro ⟨m, hm, a, b | ⟨b, _⟩⟩
      · exact hf m hm _ a (.inr (.inl ⟨b, .inl rfl⟩))
      · exact hf m hm _ a (.inl ⟨b, .inl rfl⟩)
    · rintro ⟨q, hq, m, hm, a, b⟩
      have hq0 : q ≠ [] := by rw [← a]; exact tgt_ne (by rcases b with b | ⟨b, _⟩ <;> omega)
      have hu := (under_above hq0).2 hq
      rcases b with b | ⟨b, c⟩
      · exact hf m hm q a (.inr (.inl ⟨b, .inr hu⟩))
      · exact hf m hm q a (.inl ⟨b, .inr ⟨c, hu⟩⟩)
    · rintro ⟨q, hq, m, hm, a, b⟩
      by_cases hq0 : q = []
      · exact hf m hm q b (.inr (.inr ⟨a, by rw [hq0, under_nil]; simp [h0]⟩))
      · exact hf m hm q b (.inr (.inr ⟨a, (under_above hq0).2 hq⟩))
end Go.Proofs.YtplafpokgpolkaaGreatDoor
/- change.of: what Members do, as three maps; hides, stays. -/
namespace Go.Proofs.YtplafpokgpolkaaGreatDoor
open Go.RowKit
theorem goneE_snoc (S : List Mb) (x : Mb) (t : Tx) : goneE (S ++ [x]) t = (goneE S t || (decide (cls x = 2) && tgt x == t)) := by unfold goneE; simp [List.any_append]
theorem markE_snoc (S : List Mb) (x : Mb) (t : Tx) : markE (S ++ [x]) t = (markE S t || (decide (cls x = 3) && tgt x == t)) := by unfold markE; simp [List.any_append]
theorem overE_snoc (S : List Mb) (x : Mb) (t : Tx) : overE (S ++ [x]) t = if cls x = 1 ∧ tgt x = t then (if x.2.kind = 1 then max (overE S t) 1 else 2) else overE S t := by
  unfold overE
  rw [List.any_append, List.any_append]
  generalize (S.any fun m => decide (cls m = 1) && decide (m.2.kind ≠ 1) && tgt m == t) = b1
  generalize (S.any fun m => decide (cls m = 1) && decide (m.2.kind = 1) && tgt m == t) = b2
  by_cases h1 : cls x = 1 <;> by_cases h2 : tgt x = t <;> by_cases h3 : x.2.kind = 1 <;> cases b1 <;> cases b2 <;> simp [h1, h2, h3] <;> decide
/-- what a map tells, at every key -/
def MapIs (z : Value) (M : List (Tx × Value)) (f : Tx → Value) : Prop := ∀ t, (SM.look M t).getD z = f t
theorem MapIs.put {z v : Value} {M : List (Tx × Value)} {f f' : Tx → Value} {p : Tx} (hs : SM.Srt M) (h : MapIs z M f) (hf : ∀ q, f' q = if q = p then v else f q) : MapIs z (SM.put M (p, v)) f' := fun q => by
  rw [hs.look_put, hf]
  by_cases e : q = p
  · rw [if_pos e, if_pos e]; rfl
  · rw [if_neg e, if_neg e]; exact h q
theorem MapIs.same {z : Value} {M : List (Tx × Value)} {f f' : Tx → Value} (h : MapIs z M f) (hf : ∀ q, f' q = f q) : MapIs z M f' := fun q => by rw [h q, hf]
def gonV (S : List Mb) (t : Tx) : Value := .bool (goneE S t)
def mrkV (S : List Mb) (t : Tx) : Value := .bool (markE S t)
def ovrV (S : List Mb) (t : Tx) : Value := .int .i64 (overE S t)
structure EffIn (w : World) (b1 b2 b3 : Nat) (S : List Mb) : Prop where
  g : ∃ M, MapS w 9 b1 M ∧ MapIs (.bool false) M (gonV S)
  m : ∃ M, MapS w 9 b2 M ∧ MapIs (.bool false) M (mrkV S)
  o : ∃ M, MapS w 9 b3 M ∧ MapIs (.int .i64 0) M (ovrV S)
theorem EffIn.lt {w : World} {b1 b2 b3 : Nat} {S : List Mb} (h : EffIn w b1 b2 b3 S) : b1 < w.heap.size ∧ b2 < w.heap.size ∧ b3 < w.heap.size := by
  obtain ⟨_, h1, _⟩ := h.g
  obtain ⟨_, h2, _⟩ := h.m
  obtain ⟨_, h3, _⟩ := h.o
  exact ⟨h1.lt, h2.lt, h3.lt⟩
theorem EffIn.loc {w w' : World} {b1 b2 b3 : Nat} {S : List Mb} (h : EffIn w b1 b2 b3 S) (hb : ∀ b, b = b1 ∨ b = b2 ∨ b = b3 → w'.heap[b]? = w.heap[b]?) : EffIn w' b1 b2 b3 S := by
  obtain ⟨_, h1, g1⟩ := h.g
  obtain ⟨_, h2, g2⟩ := h.m
  obtain ⟨_, h3, g3⟩ := h.o
  exact ⟨⟨_, h1.loc (hb _ (.inl rfl)), g1⟩, ⟨_, h2.loc (hb _ (.inr (.inl rfl))), g2⟩, ⟨_, h3.loc (hb _ (.inr (.inr rfl))), g3⟩⟩
theorem EffIn.below {w w' : World} {b1 b2 b3 : Nat} {S : List Mb} (h : EffIn w b1 b2 b3 S) (hb : Below w.heap.size w w') : EffIn w' b1 b2 b3 S := h.loc (fun b hb' => hb.block b (by
  have := h.lt
  rcases hb' with rfl | rfl | rfl <;> omega))
theorem zeroB (w : World) : (zeroValue 4).run Tryz.prog w = .ok (.bool false) w := by kernel_rfl
theorem EffIn.lookG {w : World} {b1 b2 b3 : Nat} {S : List Mb} (h : EffIn w b1 b2 b3 S) {p : Tx} (hp : p.length ≤ 1000000) : (Instr.lookup 90 (.map (some b1)) (.string ⟨p.toArray⟩) false).run Tryz.prog w = .ok (.bool (goneE S p)) w := by
  obtain ⟨_, h1, g1⟩ := h.g
  have := h1.look1 Tryz.underlying9 Tryz.underlying90 (zeroB w) (p := p) (by unfold maxLen; omega)
  rw [g1 p] at this; exact this
theorem EffIn.lookM {w : World} {b1 b2 b3 : Nat} {S : List Mb} (h : EffIn w b1 b2 b3 S) {p : Tx} (hp : p.length ≤ 1000000) : (Instr.lookup 90 (.map (some b2)) (.string ⟨p.toArray⟩) false).run Tryz.prog w = .ok (.bool (markE S p)) w := by
  obtain ⟨_, h1, g1⟩ := h.m
  have := h1.look1 Tryz.underlying9 Tryz.underlying90 (zeroB w) (p := p) (by unfold maxLen; omega)
  rw [g1 p] at this; exact this
theorem EffIn.lookO {w : World} {b1 b2 b3 : Nat} {S : List Mb} (h : EffIn w b1 b2 b3 S) {p : Tx} (hp : p.length ≤ 1000000) : (Instr.lookup 91 (.map (some b3)) (.string ⟨p.toArray⟩) false).run Tryz.prog w = .ok (.int .i64 (overE S p)) w := by
  obtain ⟨_, h1, g1⟩ := h.o
  have := h1.look1 Tryz.underlying9 Tryz.underlying91 (zeroI w) (p := p) (by unfold maxLen; omega)
  rw [g1 p] at this; exact this
set_option maxHeartbeats 1000000 in
set_option maxRecDepth 100000 in
theorem hides_any (b1 b2 b3 : Nat) (S : List Mb) (p : Tx) (hp : p.length ≤ 1000000) (w : World) (h : EffIn w b1 b2 b3 S) :
    Calls Tryz.prog 104 #[.agg #[.map (some b1), .map (some b2), .map (some b3)], .string ⟨p.toArray⟩] w fun e w' => e = .returned (.bool (hidesE S p)) ∧ Below w.heap.size w w' := by
  have hE := h.below ((Below.refl w.heap.size w).alloc (Nat.le_refl _) (.cells #[.map (some b1), .map (some b2), .map (some b3)] 93))
  have hg := hE.lookG hp
  have ho := hE.lookO hp
  have HX : Keep (hidesE S p = (goneE S p || overE S p == 2)) := ⟨rfl⟩
  generalize hidesE S p = out at *
  generalize goneE S p = b at *
  obtain ⟨b4, h4⟩ : ∃ b, (overE S p == 2) = b := ⟨_, rfl⟩
  rw [h4] at HX
  generalize overE S p = o at *
  clear h hE
  cases b with
  | true =>
    go_enter Tryz.func104, Tryz.ntmps104
    go_wp2_with fail
    go_ret
    exact ⟨by rw [HX.out]; rfl, (Below.refl _ _).alloc (Nat.le_refl _) _⟩
  | false =>
    go_enter Tryz.func104, Tryz.ntmps104
    go_wp2_with fail
    go_ret
    exact ⟨by rw [HX.out]; rfl, (Below.refl _ _).alloc (Nat.le_refl _) _⟩
set_option maxHeartbeats 1000000 in
set_option maxRecDepth 100000 in
theorem stays1_any (b1 b2 b3 b0 : Nat) (S : List Mb) (p : Tx) (hp : p.length ≤ 1000000) (w : World) (h : EffIn w b1 b2 b3 S) (hr : Row w b0 93 #[.map (some b1), .map (some b2), .map (some b3)]) :
    Calls Tryz.prog 103 #[.string ⟨p.toArray⟩, .pointer (some ⟨b0, 0, none⟩)] w fun e w' => e = .returned (.bool (markE S p)) ∧ Below w.heap.size w w' := by
  have hm := h.lookM hp
  have c1 := hr.cell (i := 1) rfl
  generalize markE S p = b at *
  clear h hr
  go_enter Tryz.func103, Tryz.ntmps103
  go_wp2_with fail
  go_ret
  exact ⟨rfl, Below.refl _ _⟩
theorem ent_hides : ∀ args w, (callFunc 104 args).run Tryz.prog w = .ok (.enter 104 args) w := enters_of Tryz.func104 (by kernel_rfl) rfl
theorem ent_stays1 : ∀ args w, (callFunc 103 args).run Tryz.prog w = .ok (.enter 103 args) w := enters_of Tryz.func103 (by kernel_rfl) rfl
theorem aggE : AggTy Tryz.prog 93 3 := ⟨⟨_, Tryz.underlying93, rfl⟩, by kernel_rfl⟩
theorem above_mem_len {p q : Tx} (h : q ∈ aboveP p) : q.length ≤ p.length := by
  have := (mem_above.1 h).length_le
  simp at this; omega
set_option maxHeartbeats 4000000 in
set_option maxRecDepth 100000 in
theorem stays_any (b1 b2 b3 : Nat) (S : List Mb) (p : Tx) (hp : p.length ≤ 1000000) (w : World) (h : EffIn w b1 b2 b3 S) :
    Calls Tryz.prog 64 #[.agg #[.map (some b1), .map (some b2), .map (some b3)], .string ⟨p.toArray⟩] w fun e w' => e = .returned (.bool (staysC S p)) ∧ Below w.heap.size w w' := by
  rw [← stays_eq]
  have HEF : Keep (∀ wx, Below w.heap.size w wx → EffIn wx b1 b2 b3 S) := ⟨fun wx hb => h.below hb⟩
  have HAL : Keep (∀ q ∈ aboveP p, q.length ≤ 1000000) := ⟨fun q hq => Nat.le_trans (above_mem_len hq) hp⟩
  have HAB := Keep.keep (fun wx => above_any p hp wx)
  have HLO : Keep (∀ wx, Below w.heap.size w wx → (Instr.lookup 91 (.map (some b3)) (.string ⟨p.toArray⟩) false).run Tryz.prog wx = .ok (.int .i64 (overE S p)) wx ∧ (Instr.lookup 90 (.map (some b2)) (.string ⟨#[]⟩) false).run Tryz.prog wx = .ok (.bool (markE S [])) wx) := ⟨fun wx hb => ⟨(h.below hb).lookO hp, (h.below hb).lookM (p := []) (by simp)⟩⟩
  have HHD : Keep (∀ wx, Below w.heap.size w wx → Calls Tryz.prog 104 #[.agg #[.map (some b1), .map (some b2), .map (some b3)], .string ⟨p.toArray⟩] wx fun e w' => e = .returned (.bool (hidesE S p)) ∧ Below wx.heap.size wx w') := ⟨fun wx hb => hides_any b1 b2 b3 S p hp wx (h.below hb)⟩
  have HC1 : Keep (∀ wx v, Below w.heap.size w wx → RdS wx (· < wx.heap.size) v (aboveP p) → Calls Tryz.prog 77 #[v, .func (.func 104) #[.agg #[.map (some b1), .map (some b2), .map (some b3)]] #[]] wx fun e w' => e = .returned (.bool ((aboveP p).any (hidesE S))) ∧ Below wx.heap.size wx w') :=
    ⟨fun wx v hb hv => cfuncC 104 _ _ (hidesE S) v (aboveP p) wx ent_hides (fun wy hy x hx => by
      have := hides_any b1 b2 b3 S x (HAL.out x hx) wy ((h.below hb).below hy)
      simpa using this) hv⟩
  have HC2 : Keep (∀ wx v b0, Below w.heap.size w wx → Row wx b0 93 #[.map (some b1), .map (some b2), .map (some b3)] → RdS wx (· < wx.heap.size) v (aboveP p) → Calls Tryz.prog 77 #[v, .func (.func 103) #[] #[.pointer (some ⟨b0, 0, none⟩)]] wx fun e w' => e = .returned (.bool ((aboveP p).any (markE S))) ∧ Below wx.heap.size wx w') :=
    ⟨fun wx v b0 hb hr hv => cfuncC 103 _ _ (markE S) v (aboveP p) wx ent_stays1 (fun wy hy x hx => by
      have := stays1_any b1 b2 b3 b0 S x (HAL.out x hx) wy ((h.below hb).below hy) (hr.below hy hr.lt)
      simpa using this) hv⟩
  have HX : Keep (staysE S p = (p != [] && overE S p == 0 && !markE S [] && !hidesE S p && !(aboveP p).any (hidesE S) && !(aboveP p).any (markE S))) := ⟨rfl⟩
  have HSZ : Keep ((#[.map (some b1), .map (some b2), .map (some b3)] : Array Value).size = 3) := ⟨rfl⟩
  generalize staysE S p = out at *
  generalize markE S [] = k2 at *
  generalize hidesE S p = k3 at *
  generalize (aboveP p).any (hidesE S) = k4 at *
  generalize (aboveP p).any (markE S) = k5 at *
  obtain ⟨k1, h1⟩ : ∃ b, (overE S p == 0) = b := ⟨_, rfl⟩
  rw [h1] at HX
  generalize overE S p = ov at *
  generalize aboveP p = ab at *
  have hpe : (p != []) = !p.isEmpty := by cases p <;> rfl
  rw [hpe] at HX
  obtain ⟨k0, h0⟩ : ∃ b, p.isEmpty = b := ⟨_, rfl⟩
  rw [h0] at HX
  clear hpe
  clear h
  go_enter Tryz.func64, Tryz.ntmps64
  go_wp2_with fail
  refine calls_at (R := fun wq => Hp NoM w wq [rowA w.heap.size 93 #[.map (some b1), .map (some b2), .map (some b3)]]) ((Hp.begin NoM w).newRow _ _) ?_
  intro w1 H1
  refine (HAB.out w1).mono ?_
  rintro e w2 ⟨va, rfl, ho, hb2⟩
  have H2 := Keep.keep (H1.out.call hb2)
  have HVA : Keep (RdS w2 (· < w2.heap.size) va ab) := ⟨(ownsV_reads ho).mono (fun b hb => hb.2.1)⟩
  obtain ⟨aa, ca, hva, -⟩ := (ownsV_reads ho).shape
  obtain ⟨b0, hb0⟩ : ∃ b0, w.heap.size = b0 := ⟨_, rfl⟩
  have HW2 := Keep.keep H2.out.below
  rw [hb0] at H2 ⊢
  have hrw := H2.out.row 0 rfl
  have HRW := Keep.keep hrw
  have c1 := hrw.cell (i := 1) rfl
  have c2 := hrw.cell (i := 2) rfl
  obtain ⟨hlo, hlm⟩ := HLO.out w2 HW2.out
  generalize ab.length = na at hva
  clear ho hb2 H1 hrw HAB
  subst hva
  cases k0
  case true =>
    go_wp2_with fail
    go_ret
    exact ⟨by rw [HX.out]; rfl, HW2.out⟩
  cases k1
  case false =>
    go_wp2_with fail
    go_ret
    exact ⟨by rw [HX.out]; rfl, HW2.out⟩
  cases k2
  case true =>
    go_wp2_with fail
    go_ret
    exact ⟨by rw [HX.out]; rfl, HW2.out⟩
  go_wp2_with (first | ((with_reducible refine arm_loadRow HRW.out aggE HSZ.out ?_ ?_); (focus rfl); simp only [Act.put, List.setIfInBounds_toArray, List.set_cons_succ, List.set_cons_zero]) | ((with_reducible refine arm_loadRowG ?_ HRW.out aggE HSZ.out ?_ ?_); (focus rfl); (focus rfl); simp only [Act.put, List.setIfInBounds_toArray, List.set_cons_succ, List.set_cons_zero]))
  refine (HHD.out w2 HW2.out).mono ?_
  rintro e w3 ⟨rfl, hb3⟩
  have HB3 := Keep.keep hb3
  have HW3 := Keep.keep (HW2.out.trans (hb3.mono HW2.out.size))
  have HRW3 := Keep.keep (HRW.out.below hb3 HRW.out.lt)
  clear hlo hlm c1 c2
  cases k3
  case true =>
    go_wp2_with fail
    go_ret
    exact ⟨by rw [HX.out]; rfl, HW3.out⟩
  go_wp2_with (first | ((with_reducible refine arm_loadRow HRW3.out aggE HSZ.out ?_ ?_); (focus rfl); simp only [Act.put, List.setIfInBounds_toArray, List.set_cons_succ, List.set_cons_zero]) | ((with_reducible refine arm_loadRowG ?_ HRW3.out aggE HSZ.out ?_ ?_); (focus rfl); (focus rfl); simp only [Act.put, List.setIfInBounds_toArray, List.set_cons_succ, List.set_cons_zero]))
  have HVA3 := Keep.keep ((HVA.out.below hb3 (fun b hb => hb)).mono (fun b hb => Nat.lt_of_lt_of_le hb hb3.size))
  refine (HC1.out w3 _ HW3.out HVA3.out).mono ?_
  rintro e w4 ⟨rfl, hb4⟩
  have HW4 := Keep.keep (HW3.out.trans (hb4.mono HW3.out.size))
  have HRW4 := Keep.keep (HRW3.out.below hb4 HRW3.out.lt)
  have HVA4 := Keep.keep ((HVA3.out.below hb4 (fun b hb => hb)).mono (fun b hb => Nat.lt_of_lt_of_le hb hb4.size))
  cases k4
  case true =>
    go_wp2_with fail
    go_ret
    exact ⟨by rw [HX.out]; rfl, HW4.out⟩
  go_wp2_with fail
  refine (HC2.out w4 _ _ HW4.out HRW4.out HVA4.out).mono ?_
  rintro e w5 ⟨rfl, hb5⟩
  have HW5 := Keep.keep (HW4.out.trans (hb5.mono HW4.out.size))
  clear hb3 hb4 hb5
  go_wp2_with fail
  go_ret
  exact ⟨by rw [HX.out]; cases k5 <;> rfl, HW5.out⟩
end Go.Proofs.YtplafpokgpolkaaGreatDoor
/- change.of, Plain. -/
namespace Go.Proofs.YtplafpokgpolkaaGreatDoor
open Go.RowKit
theorem buildE (b1 b2 b3 : Nat) (w : World) : (Instr.build 93 #[(0, .map (some b1)), (1, .map (some b2)), (2, .map (some b3))]).run Tryz.prog w = .ok (.agg #[.map (some b1), .map (some b2), .map (some b3)]) w := by kernel_rfl
theorem tgt_len (p : Tx) : (classP p).2.length ≤ p.length := by
  rcases told p with ⟨hc, _⟩ | ⟨hc, _, _⟩ | ⟨t, hc, _, _, hl⟩ | ⟨t, hc, _, _, hl⟩ | ⟨hc, _, _⟩
  · rw [hc]; simp
  · rw [hc]; exact Nat.le_refl _
  · rw [hc]; exact hl
  · rw [hc]; exact hl
  · rw [hc]; simp
set_option maxHeartbeats 4000000 in
set_option maxRecDepth 100000 in
theorem of_any (v : Value) (l : List Mv) (B : Nat) (w : World) (hT : Tabs B w) (hr : Mbs w (· < w.heap.size) (· < w.heap.size) v l) (hs : ∀ x ∈ l, Sm x.1) (hl : l.length ≤ 1000000) :
    Calls Tryz.prog 63 #[v] w fun e w' => ∃ b1 b2 b3, e = .returned (.agg #[.map (some b1), .map (some b2), .map (some b3)]) ∧ EffIn w' b1 b2 b3 (l.map (·.1)) ∧ (w.heap.size ≤ b1 ∧ w.heap.size ≤ b2 ∧ w.heap.size ≤ b3) ∧ Below w.heap.size w w' := by
  obtain ⟨a, cap, hv, hcap, hmx, h3⟩ := hr.rd.shape
  have HR := Keep.keep hr; have H3 := Keep.keep h3; have HT := Keep.keep hT; have HS := Keep.keep hs
  unfold maxLen at hmx
  clear hr h3 hT hs
  subst hv
  have hmm := @run_makeMap Tryz.prog
  have hbe := buildE
  obtain ⟨S, hS⟩ : ∃ S, l.map (·.1) = S := ⟨_, rfl⟩
  have HSL : Keep (S.length = l.length) := ⟨by rw [← hS, List.length_map]⟩
  have HSS := Keep.keep hS
  rw [hS]
  clear hS
  go_enter Tryz.func63, Tryz.ntmps63
  go_upto_region 2 with fail
  obtain ⟨b0, hb0⟩ : ∃ b0, w.heap.size = b0 := ⟨_, rfl⟩
  refine wp_world (R := fun w1 => Hp NoM w w1 [rowA b0 93 #[.map none, .map none, .map none], msA 9 (b0 + 1) [], msA 9 (b0 + 2) [], msA 9 (b0 + 3) [], rowA (b0 + 4) 93 #[.map (some (b0 + 1)), .map (some (b0 + 2)), .map (some (b0 + 3))]]) ?_ ?_
  · have h1 := ((((Hp.begin NoM w).newRow 93 #[.map none, .map none, .map none]).newMap 9).newMap 9).newMap 9
    have h2 := h1.newRow 93 #[.map (some (b0 + 1)), .map (some (b0 + 2)), .map (some (b0 + 3))]
    simpa [hb0, Nat.add_assoc] using h2
  intro w1 H1
  clear hmm hbe
  go_wp2_with fail
  go_loopg [14] l.length (fun g u14 wx => ∃ (k : Nat) (M1 M2 M3 : List (Tx × Value)), k + g = l.length ∧ u14 = .int .i64 (k : Int) ∧ M1.length ≤ k ∧ M2.length ≤ k ∧ M3.length ≤ k ∧ MapIs (.bool false) M1 (gonV (S.take k)) ∧ MapIs (.bool false) M2 (mrkV (S.take k)) ∧ MapIs (.int .i64 0) M3 (ovrV (S.take k)) ∧
    Hp NoM w wx [rowA b0 93 #[.map none, .map none, .map none], msA 9 (b0 + 1) M1, msA 9 (b0 + 2) M2, msA 9 (b0 + 3) M3, rowA (b0 + 4) 93 #[.map (some (b0 + 1)), .map (some (b0 + 2)), .map (some (b0 + 3))]])
  case atStart => exact ⟨0, [], [], [], by omega, rfl, Nat.le_refl _, Nat.le_refl _, Nat.le_refl _, fun q => rfl, fun q => rfl, fun q => rfl, H1.out⟩
  case round =>
    obtain ⟨k, M1, M2, M3, hkg, rfl, hl1, hl2, hl3, hg, hm, ho, hH⟩ := hrel
    have HG := Keep.keep hg; have HM := Keep.keep hm; have HO := Keep.keep ho; have HH := Keep.keep hH
    clear hg hm ho hH H1
    cases gk with
    | zero =>
      obtain rfl : k = l.length := by omega
      have HTK : Keep (S.take l.length = S) := ⟨by rw [← HSL.out, List.take_length]⟩
      rw [HTK.out] at HG HM HO
      have HRA := Keep.keep (HH.out.row 4 rfl)
      have HRB := Keep.keep (HH.out.row 0 rfl)
      have HSA : Keep ((#[.map (some (b0 + 1)), .map (some (b0 + 2)), .map (some (b0 + 3))] : Array Value).size = 3) := ⟨rfl⟩
      have HSB : Keep ((#[.map none, .map none, .map none] : Array Value).size = 3) := ⟨rfl⟩
      have HON : Keep ((#[.map (some (b0 + 1)), .map (some (b0 + 2)), .map (some (b0 + 3))] : Array Value).all (·.oneCell') = true) := ⟨by simp [Value.oneCell']⟩
      go_wp2_with (first | ((with_reducible refine arm_loadRow HRA.out aggE HSA.out ?_ ?_); (focus rfl); simp only [Act.put, List.setIfInBounds_toArray, List.set_cons_succ, List.set_cons_zero]) | ((with_reducible refine arm_storeRow HRB.out aggE HSB.out HSA.out HON.out ?_ ?_ ?_); (focus rfl); (focus rfl); simp only [Act.put]))
      have hoth : ∀ b, b ≠ b0 → (wr.setRow b0 #[.map (some (b0 + 1)), .map (some (b0 + 2)), .map (some (b0 + 3))]).heap[b]? = wr.heap[b]? := fun b hb => Go.setRow_other wr b0 b _ hb
      refine bodyPost_ret (results_row (p := 2) (ty := 93) rfl (HRB.out.setRow _) aggE HSA.out rfl) rfl ⟨b0 + 1, b0 + 2, b0 + 3, rfl, ⟨⟨M1, MapS.loc (HH.out.get 1 rfl) (hoth _ (by omega)), HG.out⟩, ⟨M2, MapS.loc (HH.out.get 2 rfl) (hoth _ (by omega)), HM.out⟩, ⟨M3, MapS.loc (HH.out.get 3 rfl) (hoth _ (by omega)), HO.out⟩⟩, by omega, ?_⟩
      exact ((Chg.of_below (M := NoM) HH.out.below).setRow (.inl (by omega)) _).below (fun _ _ h => h)
    | succ g =>
      have hk : k < l.length := by omega
      obtain ⟨b, off, rfl, hbl⟩ : ∃ b off, a = some ⟨b, off, none⟩ ∧ b < w.heap.size := by
        rcases H3.out with h | ⟨b, off, h, hb⟩
        · omega
        · exact ⟨b, off, h, hb⟩
      have hrx := HR.out.below HH.out.below (fun b hb => hb) (fun b hb => hb)
      have hld := hrx.load hk
      have hkS : k < S.length := by rw [HSL.out]; exact hk
      have hSk : S[k] = l[k].1 := by simp [← HSS.out]
      have HTK : Keep (S.take (k + 1) = S.take k ++ [l[k].1]) := ⟨by rw [List.take_succ_eq_append_getElem hkS, hSk]⟩
      have hsx := HS.out l[k] (List.getElem_mem hk)
      have hnd := HR.out.nd l[k] (List.getElem_mem hk)
      clear hrx hSk hkS
      generalize l[k] = x at *
      obtain ⟨⟨xp, ⟨kind, mode, uid, gid, time, attrs, data, link⟩⟩, av, dv⟩ := x
      obtain ⟨aa, la, ca, ad, ld, cd, e1, e2⟩ := hnd.shape
      dsimp only at e1 e2 hsx HTK
      have hxp := hsx.p
      dsimp only at hxp
      subst e1 e2
      unfold mcell mbC strV at hld
      dsimp only at hld
      have htl := tgt_len xp
      have HGS := Keep.keep (fun t => goneE_snoc (S.take k) (xp, ⟨kind, mode, uid, gid, time, attrs, data, link⟩) t)
      have HMS := Keep.keep (fun t => markE_snoc (S.take k) (xp, ⟨kind, mode, uid, gid, time, attrs, data, link⟩) t)
      have HOS := Keep.keep (fun t => overE_snoc (S.take k) (xp, ⟨kind, mode, uid, gid, time, attrs, data, link⟩) t)
      rw [← HTK.out] at HGS HMS HOS
      have HCL := Keep.keep (fun wx (hb : Below w.heap.size w wx) => class_any xp (by omega) B wx (Nat.le_trans HT.out.b hb.size) (HT.out.m.on (hb.mono HT.out.b)) (HT.out.c.on (hb.mono HT.out.b)))
      have hcls : cls (xp, ⟨kind, mode, uid, gid, time, attrs, data, link⟩) = (classP xp).1 := rfl
      have htgt : tgt (xp, ⟨kind, mode, uid, gid, time, attrs, data, link⟩) = (classP xp).2 := rfl
      rw [hcls, htgt] at HGS HMS HOS
      obtain ⟨⟨cl, tg⟩, hcp⟩ : ∃ c, classP xp = c := ⟨_, rfl⟩
      rw [hcp] at HCL htl HGS HMS HOS
      dsimp only at HCL htl HGS HMS HOS
      clear hnd hsx hcls htgt hcp HTK
      go_wp2_with ((with_reducible refine arm_loadM hld ?_ ?_); (focus rfl); simp only [Act.put, List.setIfInBounds_toArray, List.set_cons_succ, List.set_cons_zero])
      refine calls_at (R := fun wq => Hp NoM w wq ([rowA b0 93 #[.map none, .map none, .map none], msA 9 (b0 + 1) M1, msA 9 (b0 + 2) M2, msA 9 (b0 + 3) M3, rowA (b0 + 4) 93 #[.map (some (b0 + 1)), .map (some (b0 + 2)), .map (some (b0 + 3))]] ++ [rowA wr.heap.size 32 #[.string ⟨xp.toArray⟩, .int .i64 kind, .int .u32 mode, .int .u32 uid, .int .u32 gid, .int .i64 time, .slice aa la ca, .slice ad ld cd, .string ⟨link.toArray⟩]])) (HH.out.newRow _ _) ?_
      intro w2 H2
      refine (HCL.out w2 H2.out.below).mono ?_
      rintro e w3 ⟨rfl, hb3⟩
      have H3' := Keep.keep (H2.out.call hb3)
      obtain ⟨b5, hb5⟩ : ∃ b5, wr.heap.size = b5 := ⟨_, rfl⟩
      rw [hb5] at H3' ⊢
      have c0 := (H3'.out.row 4 rfl).cell (i := 0) rfl
      have c1 := (H3'.out.row 4 rfl).cell (i := 1) rfl
      have c2 := (H3'.out.row 4 rfl).cell (i := 2) rfl
      have k1 := (H3'.out.row 5 rfl).cell (i := 1) rfl
      have hm1 : MapS w3 9 (b0 + 1) M1 := H3'.out.get 1 rfl
      have hm2 : MapS w3 9 (b0 + 2) M2 := H3'.out.get 2 rfl
      have hm3 : MapS w3 9 (b0 + 3) M3 := H3'.out.get 3 rfl
      have HM1 := Keep.keep hm1; have HM2 := Keep.keep hm2; have HM3 := Keep.keep hm3
      have htl2 : tg.length ≤ maxLen := by unfold maxLen; omega
      clear hb3 H2 HCL HH hm1 hm2 hm3 hld
      by_cases z2 : cl = 2
      · have h2 : (cl == 2) = true := by rw [z2]; rfl
        go_wp2_with (first | (with_reducible refine arm_sRange ?_) | (with_reducible refine arm_sNext ?_) | (with_reducible refine arm_sDel ?_) | (with_reducible refine arm_sPut ?_) | (with_reducible refine arm_sIns ?_))
        refine StM.out ?_
        refine arm_putS Tryz.underlying9 Tryz.underlying90 HM1.out (p := tg) htl2 (by unfold maxLen; omega) rfl rfl rfl ?_
        intro w4 hm4 hc4
        have H5 := Keep.keep (H3'.out.upd 1 rfl (msA 9 (b0 + 1) (SM.put M1 (tg, .bool true))) hc4 hm4 (fun b hb => .inl hb))
        have HL : Keep ((SM.put M1 (tg, .bool true)).length ≤ k + 1) := ⟨by rw [HM1.out.s.length_put]; split <;> omega⟩
        have HG5 := Keep.keep (HG.out.put (f' := gonV (S.take (k + 1))) (v := .bool true) (p := tg) HM1.out.s (fun q => by
          unfold gonV; rw [HGS.out q, z2]; by_cases e : q = tg
          · subst e; simp
          · have e2 : ¬ tg = q := fun h => e h.symm
            rw [if_neg e]; simp [e2]))
        have HM5 := Keep.keep (HM.out.same (f' := mrkV (S.take (k + 1))) (fun q => by unfold mrkV; rw [HMS.out q, z2]; simp))
        have HO5 := Keep.keep (HO.out.same (f' := ovrV (S.take (k + 1))) (fun q => by unfold ovrV; rw [HOS.out q, z2]; simp))
        clear hm4 hc4 H3' HM1 HM2 HM3 HGS HMS HOS HG HM HO
        simp only [Act.put]
        go_wp2_with fail
        go_roundg g
        case measure => omega
        case rel => exact ⟨k + 1, SM.put M1 (tg, .bool true), M2, M3, by omega, by simp, HL.out, by omega, by omega, HG5.out, HM5.out, HO5.out, H5.out.init⟩
      · have h2 : (cl == 2) = false := by simpa using z2
        by_cases z3 : cl = 3
        · have h3 : (cl == 3) = true := by rw [z3]; rfl
          go_wp2_with (first | (with_reducible refine arm_sRange ?_) | (with_reducible refine arm_sNext ?_) | (with_reducible refine arm_sDel ?_) | (with_reducible refine arm_sPut ?_) | (with_reducible refine arm_sIns ?_))
          refine StM.out ?_
          refine arm_putS Tryz.underlying9 Tryz.underlying90 HM2.out (p := tg) htl2 (by unfold maxLen; omega) rfl rfl rfl ?_
          intro w4 hm4 hc4
          have H5 := Keep.keep (H3'.out.upd 2 rfl (msA 9 (b0 + 2) (SM.put M2 (tg, .bool true))) hc4 hm4 (fun b hb => .inl hb))
          have HL : Keep ((SM.put M2 (tg, .bool true)).length ≤ k + 1) := ⟨by rw [HM2.out.s.length_put]; split <;> omega⟩
          have HG5 := Keep.keep (HG.out.same (f' := gonV (S.take (k + 1))) (fun q => by unfold gonV; rw [HGS.out q, z3]; simp))
          have HM5 := Keep.keep (HM.out.put (f' := mrkV (S.take (k + 1))) (v := .bool true) (p := tg) HM2.out.s (fun q => by
            unfold mrkV; rw [HMS.out q, z3]; by_cases e : q = tg
            · subst e; simp
            · have e2 : ¬ tg = q := fun h => e h.symm
              rw [if_neg e]; simp [e2]))
          have HO5 := Keep.keep (HO.out.same (f' := ovrV (S.take (k + 1))) (fun q => by unfold ovrV; rw [HOS.out q, z3]; simp))
          clear hm4 hc4 H3' HM1 HM2 HM3 HGS HMS HOS HG HM HO
          simp only [Act.put]
          go_wp2_with fail
          go_roundg g
          case measure => omega
          case rel => exact ⟨k + 1, M1, SM.put M2 (tg, .bool true), M3, by omega, by simp, by omega, HL.out, by omega, HG5.out, HM5.out, HO5.out, H5.out.init⟩
        · have h3 : (cl == 3) = false := by simpa using z3
          have HG5 := Keep.keep (HG.out.same (f' := gonV (S.take (k + 1))) (fun q => by unfold gonV; rw [HGS.out q]; simp [z2]))
          have HM5 := Keep.keep (HM.out.same (f' := mrkV (S.take (k + 1))) (fun q => by unfold mrkV; rw [HMS.out q]; simp [z3]))
          by_cases z1 : cl = 1
          · have h1 : (cl == 1) = true := by rw [z1]; rfl
            have hlk := HM3.out.look1 Tryz.underlying9 Tryz.underlying91 (zeroI w3) (p := tg) htl2
            rw [HO.out tg] at hlk
            unfold ovrV at hlk
            by_cases zk : kind = 1
            · have h4 : (kind == 1) = true := by rw [zk]; rfl
              go_wp2_with (first | (with_reducible refine arm_sRange ?_) | (with_reducible refine arm_sNext ?_) | (with_reducible refine arm_sDel ?_) | (with_reducible refine arm_sPut ?_) | (with_reducible refine arm_sIns ?_))
              refine StM.out ?_
              refine arm_putS Tryz.underlying9 Tryz.underlying91 HM3.out (p := tg) (u := .int .i64 (max (overE (S.take k) tg) 1)) htl2 (by unfold maxLen; omega) rfl rfl rfl ?_
              intro w4 hm4 hc4
              have H5 := Keep.keep (H3'.out.upd 3 rfl (msA 9 (b0 + 3) (SM.put M3 (tg, .int .i64 (max (overE (S.take k) tg) 1)))) hc4 hm4 (fun b hb => .inl hb))
              have HL : Keep ((SM.put M3 (tg, .int .i64 (max (overE (S.take k) tg) 1))).length ≤ k + 1) := ⟨by rw [HM3.out.s.length_put]; split <;> omega⟩
              have HO5 := Keep.keep (HO.out.put (f' := ovrV (S.take (k + 1))) (v := .int .i64 (max (overE (S.take k) tg) 1)) (p := tg) HM3.out.s (fun q => by
                unfold ovrV; rw [HOS.out q, z1, zk]; by_cases e : q = tg
                · subst e; simp
                · have e2 : ¬ tg = q := fun h => e h.symm
                  rw [if_neg e]; simp [e2]))
              clear hm4 hc4 H3' HM1 HM2 HM3 HGS HMS HOS HG HM HO hlk
              simp only [Act.put]
              go_wp2_with fail
              go_roundg g
              case measure => omega
              case rel => exact ⟨k + 1, M1, M2, _, by omega, by simp, by omega, by omega, HL.out, HG5.out, HM5.out, HO5.out, H5.out.init⟩
            · have h4 : (kind == 1) = false := by simpa using zk
              go_wp2_with (first | (with_reducible refine arm_sRange ?_) | (with_reducible refine arm_sNext ?_) | (with_reducible refine arm_sDel ?_) | (with_reducible refine arm_sPut ?_) | (with_reducible refine arm_sIns ?_))
              refine StM.out ?_
              refine arm_putS Tryz.underlying9 Tryz.underlying91 HM3.out (p := tg) (u := .int .i64 2) htl2 (by unfold maxLen; omega) rfl rfl rfl ?_
              intro w4 hm4 hc4
              have H5 := Keep.keep (H3'.out.upd 3 rfl (msA 9 (b0 + 3) (SM.put M3 (tg, .int .i64 2))) hc4 hm4 (fun b hb => .inl hb))
              have HL : Keep ((SM.put M3 (tg, .int .i64 2)).length ≤ k + 1) := ⟨by rw [HM3.out.s.length_put]; split <;> omega⟩
              have HO5 := Keep.keep (HO.out.put (f' := ovrV (S.take (k + 1))) (v := .int .i64 2) (p := tg) HM3.out.s (fun q => by
                unfold ovrV; rw [HOS.out q, z1]; by_cases e : q = tg
                · subst e; simp [zk]
                · have e2 : ¬ tg = q := fun h => e h.symm
                  rw [if_neg e]; simp [e2]))
              clear hm4 hc4 H3' HM1 HM2 HM3 HGS HMS HOS HG HM HO hlk
              simp only [Act.put]
              go_wp2_with fail
              go_roundg g
              case measure => omega
              case rel => exact ⟨k + 1, M1, M2, _, by omega, by simp, by omega, by omega, HL.out, HG5.out, HM5.out, HO5.out, H5.out.init⟩
          · have h1 : (cl == 1) = false := by simpa using z1
            have HO5 := Keep.keep (HO.out.same (f' := ovrV (S.take (k + 1))) (fun q => by unfold ovrV; rw [HOS.out q]; simp [z1]))
            clear HM1 HM2 HM3 HGS HMS HOS HG HM HO
            go_wp2_with fail
            go_roundg g
            case measure => omega
            case rel => exact ⟨k + 1, M1, M2, M3, by omega, by simp, by omega, by omega, by omega, HG5.out, HM5.out, HO5.out, H3'.out.init⟩
end Go.Proofs.YtplafpokgpolkaaGreatDoor
