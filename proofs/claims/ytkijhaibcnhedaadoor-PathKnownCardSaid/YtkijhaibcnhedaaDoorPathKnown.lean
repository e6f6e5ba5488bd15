/- PathKnown: examples; ends. -/
import Derived.Test.YtkijhaibcnhedaaDoorPathKnownW
import Derived.Test.YtkijhaibcnhedaaDoorPathWakes
import Derived.Test.YtkijhaibcnhedaaDoorOpenS
namespace Go.Proofs.YtkijhaibcnhedaaDoor
open Go.RowKit Go.Maps
inductive StoppedN (P : Program) (ops : Array Oper) (rest : List Oper) (a : Act) (w : World) (Q : Exit → Act → World → Prop) (o : Oper) : Prop
  | mk (h : wpList P ops Q (o :: rest) a w)
theorem StoppedN.out {P : Program} {ops : Array Oper} {rest : List Oper} {a : Act} {w : World} {Q : Exit → Act → World → Prop} {o : Oper} (h : wpList P ops Q (o :: rest) a w) : StoppedN P ops rest a w Q o := .mk h
theorem arm_stopN {P : Program} {ops : Array Oper} {rest : List Oper} {a : Act} {w : World} {Q : Exit → Act → World → Prop} {tp : TypeId} {dst : Option Tmp} {m : Operand} {b : Bool} {pos : String} {after : Array Edge}
  (h : StoppedN P ops rest a w Q ⟨dst, .next m b, tp, pos, after, none⟩) : wpList P ops Q (⟨dst, .next m b, tp, pos, after, none⟩ :: rest) a w := by cases h; assumption
theorem keyS_inv (key : Value) (kl : Lit) (h : keyOf Tryd.prog 9 key = some kl) : ∃ x : List UInt8, key = .string ⟨x.toArray⟩ ∧ kl = .string x := by
  have hu : Tryd.prog.underlying 9 = some .string := Tryd.underlying9
  simp only [keyOf, hu, mapKey] at h
  cases key <;> simp at h
  rename_i s
  obtain ⟨-, rfl⟩ := h
  exact ⟨s.data.toList, rfl, rfl⟩
theorem elB_inv (v : Value) (y : DataW Unit × List MemPlace) (h : plainElem Tryd.prog 4 v = some y) : ∃ c : Bool, v = .bool c ∧ y.1 = .lit (.bool c) := by
  have hu : Tryd.prog.underlying 4 = some .bool := Tryd.underlying4
  simp only [plainElem, hu] at h
  cases v <;> simp at h
  subst h
  exact ⟨_, rfl, rfl⟩
theorem rdS_four (w : World) (a b c d : List UInt8) : RdS (w.alloc (.cells #[.string ⟨a.toArray⟩, .string ⟨b.toArray⟩, .string ⟨c.toArray⟩, .string ⟨d.toArray⟩] 9)) (· < (w.alloc (.cells #[.string ⟨a.toArray⟩, .string ⟨b.toArray⟩, .string ⟨c.toArray⟩, .string ⟨d.toArray⟩] 9)).heap.size) (.slice (some ⟨w.heap.size, 0, none⟩) 4 4) [a, b, c, d] :=
  RdV.new 9 [.string ⟨a.toArray⟩, .string ⟨b.toArray⟩, .string ⟨c.toArray⟩, .string ⟨d.toArray⟩] 1 4 _ rfl rfl (by decide) (by simp)
theorem class_k (p : List UInt8) (n : Int) (s : List UInt8) (h : classP p = (n, s)) (hp : p.length ≤ 1000000) (B : Nat) (w : World) (hB : B ≤ w.heap.size) (hM : Mx B w) (hC : Cls B w) :
    Calls Tryd.prog 19 #[.string ⟨p.toArray⟩] w fun e w' => e = .returned (.tuple #[.int .i64 n, .string ⟨s.toArray⟩]) ∧ Below w.heap.size w w' := by
  have := class_any p hp B w hB hM hC
  rw [h] at this
  exact this
theorem clean_k (p : List UInt8) (s : List UInt8) (n : Int) (h : cleanP p = (s, n)) (hp : p.length ≤ 1000000) (B : Nat) (w : World) (hB : B ≤ w.heap.size) (hM : Mx B w) :
    Calls Tryd.prog 22 #[.string ⟨p.toArray⟩] w fun e w' => e = .returned (.tuple #[.string ⟨s.toArray⟩, .int .i64 n]) ∧ Below w.heap.size w w' := by
  have := clean_any p hp B w hB hM
  rw [h] at this
  exact this
theorem pair1 {α β : Type} {p : α × β} {a : α} (h : p.1 = a) : ∃ b, p = (a, b) := ⟨p.2, by rw [← h]⟩
theorem pair2 {α β : Type} {p : α × β} {b : β} (h : p.2 = b) : ∃ a, p = (a, b) ∧ a = p.1 := ⟨p.1, by rw [← h], rfl⟩
set_option maxHeartbeats 16000000 in
set_option maxRecDepth 100000 in
theorem pknown_any (B : Nat) (w : World) (hB : B ≤ w.heap.size) (hM : Mx B w) (hC : Cls B w) :
    Calls Tryd.prog 7 #[] w fun e w' => e = .returned (.bool true) ∧ Below w.heap.size w w' := by
  obtain ⟨lt, d0, dp, v0, v1, v2, v3, wd, xx, a6, a5, x1, x2, x3, x4, x5, K⟩ := kn_all
  have HCL := Keep.keep (fun (l : List UInt8) s n (h : cleanP l = (s, n)) (hl : l.length ≤ 10000) wx (h2 : Below w.heap.size w wx) => clean_k l s n h (by omega) B wx (Nat.le_trans hB h2.size) (hM.on (h2.mono hB)))
  have HCS := Keep.keep (fun (l : List UInt8) n s (h : classP l = (n, s)) (hl : l.length ≤ 10000) wx (h2 : Below w.heap.size w wx) => class_k l n s h (by omega) B wx (Nat.le_trans hB h2.size) (hM.on (h2.mono hB)) (hC.on (h2.mono hB)))
  have HMY := Keep.keep (fun (l : List UInt8) (b : Bool) (h : mayP l = b) (hl : l.length ≤ 10000) wx (h2 : Below w.heap.size w wx) => h ▸ may_any l (by omega) B wx (Nat.le_trans hB h2.size) (hM.on (h2.mono hB)))
  have HOP := Keep.keep (fun (l : List UInt8) (hl : l.length ≤ 10000) wx (h2 : Below w.heap.size w wx) => opaq_any l (by omega) B wx (Nat.le_trans hB h2.size) (hM.on (h2.mono hB)))
  have HWT := Keep.keep (fun (l : List UInt8) (hl : l.length ≤ 10000) wx (h2 : Below w.heap.size w wx) => white_any l (by omega) B wx (Nat.le_trans hB h2.size) (hM.on (h2.mono hB)))
  have HWK := Keep.keep (fun wx (h2 : Below w.heap.size w wx) => wakes_any B wx (Nat.le_trans hB h2.size) (hM.on (h2.mono hB)) (hC.on (h2.mono hB)))
  have hc1 := fun wx => run_cat (P := Tryd.prog) d0 [100] (by rw [K.l2]; decide) wx
  have hc2 := fun wx => run_cat (P := Tryd.prog) v0 [47] (by rw [K.l3]; decide) wx
  have hc3 := fun wx => run_cat (P := Tryd.prog) v2 v3 (by rw [K.l4.1, K.l4.2]; decide) wx
  have hc4 := fun wx => run_cat (P := Tryd.prog) [97, 47, 46, 119, 104, 46] lt (by rw [K.ll]; decide) wx
  have hc5 := fun wx => run_cat (P := Tryd.prog) x1 [110] (by rw [K.fl.1]; decide) wx
  have hc6 := fun wx => run_cat (P := Tryd.prog) [97, 47] lt (by rw [K.ll]; decide) wx
  have hc7 := fun wx => run_cat (P := Tryd.prog) dp [47, 100] (by rw [K.dl]; decide) wx
  have hc8 := fun wx => run_cat (P := Tryd.prog) wd [119] (by rw [K.wl]; decide) wx
  rw [K.e2] at hc1; rw [K.e3] at hc2; rw [K.e4] at hc3; rw [K.f1] at hc4; rw [K.f2] at hc5; rw [K.f3] at hc6; rw [K.f4] at hc7; rw [K.f5] at hc8
  have hx3 : (x3 == x3) = true := beq_self_eq_true _
  have hwl : ((wd.length : Int) == 4080) = true := by rw [K.wl]; rfl
  have HK := Keep.keep K
  have HM := Keep.keep hM; have HC := Keep.keep hC; have HB := Keep.keep hB
  clear hM hC K hB
  go_enter Tryd.func7, Tryd.ntmps7
  go_wp2_with fail
  refine (rep_any [110] 251 _ (by decide) (by decide) (by decide) (by decide)).mono ?_
  rw [HK.out.r1]
  rintro e w1 ⟨rfl, hb1⟩
  have HB1 := Keep.keep hb1
  clear hb1
  go_wp2_with fail
  refine knreg (l := lt) HK.out.ll HK.out.nl rfl rfl rfl ?_
  intro a1 w2 ha hb h29 h30 h31 h32 h33 h34
  obtain ⟨r, n, D, left, c, h34, hr, hg, hrg⟩ := h34
  simp only [List.foldl_cons, List.foldl_nil, h29, h30, h31, h32, h33, h34] at ha
  clear h29 h30 h31 h32 h33 h34
  subst ha
  have HB2 := Keep.keep (HB1.out.trans (hb.mono HB1.out.size))
  have HRG := Keep.keep hrg; have HG := Keep.keep hg; have HR := Keep.keep hr
  have HMB : Keep (w.heap.size ≤ w1.heap.size) := ⟨HB1.out.size⟩
  obtain ⟨mb, hmb⟩ : ∃ b, w1.heap.size = b := ⟨_, rfl⟩
  rw [hmb] at HRG HR HMB ⊢
  clear hb hrg hg hr hmb
  simp only [Act.put, List.setIfInBounds_toArray, List.set_cons_succ, List.set_cons_zero]
  go_wp2_with fail
  go_loopg [2, 3] c (fun g _ _ wx => ∃ left, wx.ranges Tryd.prog 9 (plainElem Tryd.prog 4) mb r n D left g ∧ Below w.heap.size w wx)
  case atStart => exact ⟨left, HRG.out, HB2.out⟩
  case round =>
    obtain ⟨left', hrg, hbr⟩ := hrel
    have HRG' := Keep.keep hrg; have HBR := Keep.keep hbr
    clear hrg hbr
    go_wp2_with (with_reducible refine arm_stopN ?_)
    refine StoppedN.out ?_
    refine wpList_next_ranges (α := List UInt8) (β := Bool) wr rfl _ rfl 9 lawS (plainElem Tryd.prog 4) (fun x => .string ⟨x.toArray⟩) Value.bool (fun key kl h => by obtain ⟨x, h1, -⟩ := keyS_inv key kl h; exact ⟨x, h1⟩) (fun v y h => by obtain ⟨x, h1, -⟩ := elB_inv v y h; exact ⟨x, h1⟩) mb r n D left' gk rfl HRG'.out ?_ ?_
    rotate_left
    · intro x cb kl y w3 cnt' hkey hlk hv hat hrg3 hlt hgr hsz hen
      obtain ⟨x', hx', hkl⟩ := keyS_inv _ _ hkey
      injection hx' with hx'
      have hxx : x = x' := by have := congrArg (fun b => b.data.toList) hx'; simpa using this
      subst hxx hkl
      obtain ⟨c', hc', hy⟩ := elB_inv _ _ hv
      injection hc' with hc'
      subst hc'
      have hgd := HG.out.at_ x (has_true_of_atKey hat)
      have hcb : cb = mayN x := by
        have h1 := hat (.lit (.bool false))
        rw [hgd.2, hy] at h1
        injection h1 with h1
        injection h1 with h1
        exact h1.symm
      have HMN := Keep.keep (fun wx => mayname_any x (Nat.le_trans hgd.1 (by decide)) wx)
      rw [← hcb] at HMN
      have hne : (cb != cb) = false := by cases cb <;> rfl
      have hb3 : Below w.heap.size w w3 := by
        have hsz2 := HBR.out.size
        have hsz1 := HB1.out.size
        have hrr := HR.out
        exact HBR.out.trans ⟨hgr.os, hgr.tape, hgr.output, hgr.size, fun j hj => hgr.block j (Nat.lt_of_lt_of_le hj hsz2) (fun e => by injection e with e; have := HMB.out; omega)⟩
      have HB3 := Keep.keep hb3; have HRG3 := Keep.keep hrg3; have HLT := Keep.keep hlt
      clear hkey hlk hv hat hrg3 hlt hgr hsz hgd hcb hy hx' hb3
      simp only [Act.put, List.setIfInBounds_toArray, List.set_cons_succ, List.set_cons_zero]
      go_wp2_with fail
      refine (HMN.out _).mono ?_
      rintro e w4 ⟨rfl, hb4⟩
      have HB4 := Keep.keep (HB3.out.trans (hb4.mono HB3.out.size))
      have HRG4 : Keep (w4.ranges Tryd.prog 9 (plainElem Tryd.prog 4) mb r n D (fun z => left' z && !z.sameKey (.string x)) cnt') := ⟨HRG3.out.kept (row := none) ⟨hb4.os, hb4.tape, hb4.output, hb4.size, fun j hj _ => hb4.block j hj⟩ (by simp) (by simp)⟩
      clear hb4 hen
      go_wp2_with fail
      go_roundg cnt'
      case measure => exact HLT.out
      case rel => exact ⟨_, HRG4.out, HB4.out⟩
    intro hc0 hl0
    clear HRG HRG' hc0 hl0
    simp only [Act.put, List.setIfInBounds_toArray, List.set_cons_succ, List.set_cons_zero]
    go_wp2_with fail
    refine (rep_any [100, 47] 253 _ (by decide) (by decide) (by decide) (by decide)).mono ?_
    rw [HK.out.r2]
    rintro e w10 ⟨rfl, hb⟩
    have HB10 := Keep.keep (HBR.out.trans (hb.mono HBR.out.size))
    clear hb
    go_wp2_with fail
    refine (rep_any [119] 249 _ (by decide) (by decide) (by decide) (by decide)).mono ?_
    rw [HK.out.r3]
    rintro e w11 ⟨rfl, hb⟩
    have HB11 := Keep.keep (HB10.out.trans (hb.mono HB10.out.size))
    clear hb
    go_wp2_with fail
    refine (rep_any v1 16 _ (by rw [HK.out.l31]; decide) (by decide) (by rw [HK.out.l31]; decide) (by decide)).mono ?_
    rw [HK.out.r4]
    rintro e w12 ⟨rfl, hb⟩
    have HB12 := Keep.keep (HB11.out.trans (hb.mono HB11.out.size))
    clear hb
    go_wp2_with fail
    refine (rep_any [119] 80 _ (by decide) (by decide) (by decide) (by decide)).mono ?_
    rw [HK.out.r5]
    rintro e w13 ⟨rfl, hb⟩
    have HB13 := Keep.keep (HB12.out.trans (hb.mono HB12.out.size))
    clear hb
    obtain ⟨y2, hy2⟩ := pair1 HK.out.c2
    obtain ⟨z3, hz3⟩ := pair1 kn_c3
    obtain ⟨z4, hz4⟩ := pair1 kn_c4
    obtain ⟨z6, hz6⟩ := pair1 kn_c6
    obtain ⟨q1, hq1, -⟩ := pair2 HK.out.k1
    obtain ⟨q2, hq2, -⟩ := pair2 kn_l2
    obtain ⟨q3, hq3, -⟩ := pair2 HK.out.k3
    obtain ⟨q4, hq4, hq5⟩ := pair2 HK.out.k4.1
    have hql : ((q4.length : Int) == 509) = true := by rw [hq5, HK.out.k4.2]; rfl
    have HY2 := Keep.keep hy2; have HZ3 := Keep.keep hz3; have HZ4 := Keep.keep hz4; have HZ6 := Keep.keep hz6
    have HQ1 := Keep.keep hq1; have HQ2 := Keep.keep hq2; have HQ3 := Keep.keep hq3; have HQ4 := Keep.keep hq4
    clear hy2 hz3 hz4 hz6 hq1 hq2 hq3 hq4 hq5
    go_wp2_with fail
    refine (HCS.out x1 2 x3 HK.out.c1 (by rw [HK.out.fl.1]; decide) _ HB13.out).mono ?_
    rintro e w14 ⟨rfl, hb⟩
    have HB14 := Keep.keep (HB13.out.trans (hb.mono HB13.out.size))
    clear hb
    go_wp2_with fail
    refine (HCS.out x2 0 y2 HY2.out (by rw [HK.out.fl.2.1]; decide) _ HB14.out).mono ?_
    rintro e w15 ⟨rfl, hb⟩
    have HB15 := Keep.keep (HB14.out.trans (hb.mono HB14.out.size))
    clear hb
    go_wp2_with fail
    refine (HCS.out [47, 46, 119, 104, 46, 46, 119, 104, 46, 46, 111, 112, 113] 0 z3 HZ3.out (by decide) _ HB15.out).mono ?_
    rintro e w16 ⟨rfl, hb⟩
    have HB16 := Keep.keep (HB15.out.trans (hb.mono HB15.out.size))
    clear hb
    go_wp2_with fail
    refine (HCS.out [] 0 z4 HZ4.out (by decide) _ HB16.out).mono ?_
    rintro e w17 ⟨rfl, hb⟩
    have HB17 := Keep.keep (HB16.out.trans (hb.mono HB16.out.size))
    clear hb
    go_wp2_with fail
    refine (HCS.out tableB 4 [] kn_c5 (by decide) _ HB17.out).mono ?_
    rintro e w18 ⟨rfl, hb⟩
    have HB18 := Keep.keep (HB17.out.trans (hb.mono HB17.out.size))
    clear hb
    go_wp2_with fail
    refine (HCS.out [46, 119, 104, 46, 120, 47, 121] 0 z6 HZ6.out (by decide) _ HB18.out).mono ?_
    rintro e w19 ⟨rfl, hb⟩
    have HB19 := Keep.keep (HB18.out.trans (hb.mono HB18.out.size))
    clear hb
    go_wp2_with fail
    refine (rep_any [120] 256 _ (by decide) (by decide) (by decide) (by decide)).mono ?_
    rw [HK.out.r6]
    rintro e w20 ⟨rfl, hb⟩
    have HB20 := Keep.keep (HB19.out.trans (hb.mono HB19.out.size))
    clear hb
    go_wp2_with fail
    refine (HCL.out xx q1 3 HQ1.out (by rw [HK.out.l6.1]; decide) _ HB20.out).mono ?_
    rintro e w21 ⟨rfl, hb⟩
    have HB21 := Keep.keep (HB20.out.trans (hb.mono HB20.out.size))
    clear hb
    go_wp2_with fail
    refine (HCL.out [97, 0] q2 30 HQ2.out (by decide) _ HB21.out).mono ?_
    rintro e w22 ⟨rfl, hb⟩
    have HB22 := Keep.keep (HB21.out.trans (hb.mono HB21.out.size))
    clear hb
    go_wp2_with fail
    refine (rep_any [97, 47] 256 _ (by decide) (by decide) (by decide) (by decide)).mono ?_
    rw [HK.out.r7]
    rintro e w23 ⟨rfl, hb⟩
    have HB23 := Keep.keep (HB22.out.trans (hb.mono HB22.out.size))
    clear hb
    go_wp2_with fail
    refine (HCL.out a6 q3 3 HQ3.out (by rw [HK.out.l6.2.1]; decide) _ HB23.out).mono ?_
    rintro e w24 ⟨rfl, hb⟩
    have HB24 := Keep.keep (HB23.out.trans (hb.mono HB23.out.size))
    clear hb
    go_wp2_with fail
    refine (rep_any [97, 47] 255 _ (by decide) (by decide) (by decide) (by decide)).mono ?_
    rw [HK.out.r8]
    rintro e w25 ⟨rfl, hb⟩
    have HB25 := Keep.keep (HB24.out.trans (hb.mono HB24.out.size))
    clear hb
    go_wp2_with fail
    refine (HCL.out a5 q4 0 HQ4.out (by rw [HK.out.l6.2.2]; decide) _ HB25.out).mono ?_
    rintro e w26 ⟨rfl, hb⟩
    have HB26 := Keep.keep (HB25.out.trans (hb.mono HB25.out.size))
    clear hb
    go_wp2_with fail
    refine (HCL.out [] [] 0 kn_l5 (by decide) _ HB26.out).mono ?_
    rintro e w27 ⟨rfl, hb⟩
    have HB27 := Keep.keep (HB26.out.trans (hb.mono HB26.out.size))
    clear hb
    go_upto_region 20 with fail
    simp only [List.append_eq, List.cons_append, List.nil_append]
    go_wp2_with fail
    refine (HMY.out [] true kn_m1 (by decide) _ HB27.out).mono ?_
    rintro e w28 ⟨rfl, hb⟩
    have HB28 := Keep.keep (HB27.out.trans (hb.mono HB27.out.size))
    clear hb
    go_wp2_with fail
    refine (HMY.out dp true HK.out.m2 (by rw [HK.out.dl]; decide) _ HB28.out).mono ?_
    rintro e w29 ⟨rfl, hb⟩
    have HB29 := Keep.keep (HB28.out.trans (hb.mono HB28.out.size))
    clear hb
    go_wp2_with fail
    refine (HMY.out x4 false HK.out.m3 (by rw [HK.out.fl.2.2.2.1]; decide) _ HB29.out).mono ?_
    rintro e w30 ⟨rfl, hb⟩
    have HB30 := Keep.keep (HB29.out.trans (hb.mono HB29.out.size))
    clear hb
    go_wp2_with fail
    refine (HMY.out wd true HK.out.m5 (by rw [HK.out.wl]; decide) _ HB30.out).mono ?_
    rintro e w31 ⟨rfl, hb⟩
    have HB31 := Keep.keep (HB30.out.trans (hb.mono HB30.out.size))
    clear hb
    go_wp2_with fail
    refine (HMY.out x5 false HK.out.m6 (by rw [HK.out.fl.2.2.2.2]; decide) _ HB31.out).mono ?_
    rintro e w32 ⟨rfl, hb⟩
    have HB32 := Keep.keep (HB31.out.trans (hb.mono HB31.out.size))
    clear hb
    go_wp2_with fail
    refine (HMY.out [97, 47, 47, 98] false kn_m7 (by decide) _ HB32.out).mono ?_
    rintro e w33 ⟨rfl, hb⟩
    have HB33 := Keep.keep (HB32.out.trans (hb.mono HB32.out.size))
    clear hb
    go_wp2_with fail
    refine (HMY.out [97, 47] false kn_m8 (by decide) _ HB33.out).mono ?_
    rintro e w34 ⟨rfl, hb⟩
    have HB34 := Keep.keep (HB33.out.trans (hb.mono HB33.out.size))
    clear hb
    go_wp2_with fail
    refine calls_at (R := fun wq => Below w.heap.size w wq ∧ RdS wq (· < wq.heap.size) (.slice (some ⟨_, 0, none⟩) 4 4) [[], [97], [], [98]]) ⟨HB34.out.alloc HB34.out.size _, rdS_four _ [] [97] [] [98]⟩ ?_
    intro wj HJ
    refine (join_any _ [[], [97], [], [98]] _ HJ.out.2 (by decide) (by decide +kernel)).mono ?_
    rw [kn_j1]
    rintro e wj2 ⟨rfl, hb⟩
    have HBj := Keep.keep (HJ.out.1.trans (hb.mono HJ.out.1.size))
    clear hb
    go_wp2_with fail
    refine (join_any _ [] _ RdV.ofNil (by decide) (by decide +kernel)).mono ?_
    rintro e wj3 ⟨rfl, hb⟩
    rw [show joinP [] = [] from rfl]
    have HBk := Keep.keep (HBj.out.trans (hb.mono HBj.out.size))
    clear hb
    go_wp2_with fail
    refine (parent_any [97] (by decide) _).mono ?_
    rw [kn_p1.1]
    rintro e wz ⟨rfl, rfl⟩
    go_wp2_with fail
    refine (base_any [97, 47] (by decide) _).mono ?_
    rw [kn_p1.2.1]
    rintro e wz ⟨rfl, rfl⟩
    go_wp2_with fail
    refine (HWT.out [] (by decide) _ HBk.out).mono ?_
    rw [kn_p1.2.2.1]
    rintro e wy ⟨rfl, hb⟩
    have HBl := Keep.keep (HBk.out.trans (hb.mono HBk.out.size))
    clear hb
    go_wp2_with fail
    refine (HOP.out [] (by decide) _ HBl.out).mono ?_
    rw [kn_p1.2.2.2]
    rintro e wx ⟨rfl, hb⟩
    have HBm := Keep.keep (HBl.out.trans (hb.mono HBl.out.size))
    clear hb
    go_wp2_with fail
    refine (HWK.out _ HBm.out).mono ?_
    rintro e wv ⟨rfl, hb⟩
    have HBn := Keep.keep (HBm.out.trans (hb.mono HBm.out.size))
    clear hb
    go_wp2_with fail
    go_ret
    exact ⟨rfl, HBn.out⟩
end Go.Proofs.YtkijhaibcnhedaaDoor
