/- PARTS OF ONE PROOF, set in one file: TgDo, JnP, TgRd, DkA, DkB, DkC. Each part tells its own conditions. -/
import Derived.Deep.MidRow
import Derived.Deep.Cut
import Derived.Laws.BitsLemmas
import Derived.Test.YtmkofejijkabnaaGreatDoorP2
import Derived.Test.YtmkofejijkabnaaGreatDoorP4
import Derived.Test.YtmkofejijkabnaaGreatDoorP6
/- tags.does. -/
namespace Go.Proofs.YtmkofejijkabnaaGreatDoor
open Go.RowKit
def arrV (g : Dg) : Value := .agg (bcells g).toArray
def dgV (m : Tgs) : List (Tx × Value) := m.map fun y => (y.1, arrV y.2)
theorem dgV_put (m : Tgs) (p : Tx) (g : Dg) : dgV (SM.put m (p, g)) = SM.put (dgV m) (p, arrV g) := by
  unfold dgV SM.put SM.lo SM.hi
  rw [List.map_append, List.map_cons, List.filter_map, List.filter_map]; rfl
theorem dgV_del (m : Tgs) (p : Tx) : dgV (m.filter (fun x => x.1 != p)) = (dgV m).filter (fun x => x.1 != p) := by
  unfold dgV
  rw [List.filter_map]; rfl
theorem dgV_len (m : Tgs) : (dgV m).length = m.length := by simp [dgV]
theorem slice_from {w : World} {N : Nat → Prop} {a : Option Addr} {n c : Nat} {l : List UInt8} (h : Reads w N (.slice a n c) l) (i : Nat) (hi : i ≤ l.length) :
    ∃ a' n' c', (∀ w', (Instr.slice 28 (.slice a n c) (some (.int .i64 (i : Int))) none none).run Tryz.prog w' = .ok (.slice a' n' c') w') ∧ Reads w N (.slice a' n' c') (l.drop i) := by
  have he : Tryz.prog.elem 28 = 5 := by simp [Program.elem, Tryz.underlying28]
  have hs : ∀ w, (sizeOf 5).run Tryz.prog w = .ok 1 w := fun w => by kernel_rfl
  obtain ⟨hn, hc, hm⟩ := h.len
  have hll : (l.drop i).length = n - i := by rw [List.length_drop]; omega
  have hrun : ∀ w', (Instr.slice 28 (.slice a n c) (some (.int .i64 (i : Int))) none none).run Tryz.prog w' = .ok (.slice (if c = i then a else a.map (·.add (i * 1))) (n - i) (c - i)) w' := fun w' => by
    rw [run_slice_l w' 28 a n c (by rw [he]; exact Tryz.underlying28) .i64 (i : Int) (by omega) (by omega), he, hs]
    simp [Result.andThen, sliced]
  refine ⟨_, _, _, hrun, ?_⟩
  by_cases hci : c = i
  · have hji : n - i = 0 := by omega
    rw [if_pos hci, hji, show c - i = 0 by omega, List.eq_nil_of_length_eq_zero (hll.trans hji)]
    exact Reads.ofNone
  · rw [if_neg hci]
    obtain ⟨a8, c8, hv8, -, -, h3⟩ := h.shape
    injection hv8 with e1 e2 e3
    subst e1 e3
    rcases h3 with h3 | ⟨b, off, rfl, -⟩
    · omega
    · have hd : l.drop i = (l.drop i).take (n - i) := by rw [List.take_of_length_le (by rw [hll]; exact Nat.le_refl _)]
      have := h.sub i (n - i) (c - i) (l.drop i) hd (by rw [hll]; omega) (Nat.sub_le _ _) (n - i) hll.symm
      rw [Nat.mul_one, Option.map_some, Addr.add_mid]
      exact this
theorem cls_conv {P : Program} {ops : Array Oper} {rest : List Oper} {a : Act} {C : World → Prop} {Q : Act → Prop} {tp : TypeId} {dst : Option Tmp} {pos : String} {after : Array Edge} {g : Option (Nat × Bool)} {t1 t2 : TypeId} {x : Operand} {u v : Value} (hwt : Region.wanted (⟨dst, .convert t1 t2 x, tp, pos, after, g⟩ : Oper) (yielded ops a.tmps) = true)
    (hr : ∀ w, C w → (convert t1 t2 u).run P w = .ok v w) (hx : a.eval x = u) (h : wpQuiet P ops C Q rest (a.put dst v)) : wpQuiet P ops C Q (⟨dst, .convert t1 t2 x, tp, pos, after, g⟩ :: rest) a := by
  refine cls_op hwt (fun w hw => ?_) h
  unfold execOp
  simp only [hx, Sem.run_bind, Sem.run_pure, Result.andThen_ok, hr w hw]
set_option maxHeartbeats 2000000 in
set_option maxRecDepth 100000 in
theorem does_any (mb : Nat) (m : Tgs) (bv : Value) (body : List UInt8) (w : World) (hm : MapS w 9 mb (dgV m)) (hr : Reads w (fun b => b < w.heap.size ∧ b ≠ mb) bv body) (hl : body.length ≤ 1000000) (hml : m.length ≤ 1000000) :
    Calls Tryz.prog 43 #[.map (some mb), bv] w fun e w' => e = .returned (.bool (doesB m body).2) ∧ MapS w' 9 mb (dgV (doesB m body).1) ∧ Chg (fun j => j = mb) w.heap.size w w' := by
  obtain ⟨a, n, cap, hv, hn, hnc⟩ : ∃ a n cap, bv = .slice a n cap ∧ n = body.length ∧ n ≤ cap := by
    obtain ⟨a8, c8, hv8, q1, q2, q3⟩ := hr.shape
    exact ⟨a8, _, c8, hv8, rfl, q1⟩
  have HM := Keep.keep hm; have HR := Keep.keep hr
  have hn9 : (n : Int) ≤ 1000000 := by omega
  by_cases h2 : n < 2
  · have HD : Keep (doesB m body = (m, false)) := ⟨by
      match body, hn with
      | [], _ => rfl
      | [_], _ => rfl
      | _ :: _ :: _, hn => simp at hn; omega⟩
    clear hm hr hn hl
    subst hv
    go_enter Tryz.func43, Tryz.ntmps43
    go_wp2_with fail
    go_ret
    rw [HD.out]
    exact ⟨rfl, HM.out, Chg.refl _ _ _⟩
  obtain ⟨k, kn, r, hbd⟩ : ∃ k kn r, body = k :: kn :: r := by
    match body, hn with
    | [], hn => simp at hn; omega
    | [_], hn => simp at hn; omega
    | k :: kn :: r, _ => exact ⟨k, kn, r, rfl⟩
  obtain ⟨b, off, hab⟩ : ∃ b off, a = some ⟨b, off, none⟩ := by
    obtain ⟨a8, c8, hv8, q1, q2, q3⟩ := hr.shape
    rw [hv] at hv8
    injection hv8 with e1 e2 e3
    rcases q3 with q3 | ⟨b, off, q3, -⟩
    · omega
    · exact ⟨b, off, by rw [e1, q3]⟩
  subst hbd
  subst hab
  subst hv
  have hnb : (r.length : Int) + 2 = (n : Int) := by rw [hn]; simp; omega
  have hrr := hr
  have HC0 : Keep (∀ wx, Below w.heap.size w wx → wx.cell? ⟨b, off, none⟩ = some (.int .u8 (k.toNat : Int))) := ⟨fun wx hb => by
    have := (hr.below hb (fun b hb => hb.1)).cell b off _ _ rfl 0 (by simp)
    simpa using this⟩
  have HC1 : Keep (∀ wx, Below w.heap.size w wx → wx.cell? ⟨b, off + 1, none⟩ = some (.int .u8 (kn.toNat : Int))) := ⟨fun wx hb => by
    have := (hr.below hb (fun b hb => hb.1)).cell b off _ _ rfl 1 (by simp)
    simpa using this⟩
  have hk8 : (k.toNat : Int) < 256 := by have := k.toNat_lt; omega
  have hn8 : (kn.toNat : Int) < 256 := by have := kn.toNat_lt; omega
  have hd2 : (2 : Int) ≤ (n : Int) := by omega
  have c1 := HC1.out w (Below.refl _ _)
  obtain ⟨nn, hnn⟩ : ∃ nn, kn.toNat = nn := ⟨_, rfl⟩
  by_cases hsh : r.length < nn
  · have HD : Keep (doesB m (k :: kn :: r) = (m, false)) := ⟨by unfold doesB; simp only; rw [if_pos (by rw [hnn]; exact hsh)]⟩
    have hlt : (n : Int) < 2 + (nn : Int) := by omega
    rw [hnn] at c1
    rw [hnn] at hn8
    clear hm hr hrr hn hl hnb hsh hnn
    go_enter Tryz.func43, Tryz.ntmps43
    go_wp2_with fail
    go_ret
    rw [HD.out]
    exact ⟨rfl, HM.out, Chg.refl _ _ _⟩
  have hge : 2 + (nn : Int) ≤ (n : Int) := by omega
  obtain ⟨a1, n1, c1', hs1, hr1⟩ := slice_mid hr 2 (2 + nn) (by omega) (by simp; omega)
  obtain ⟨a2, n2, c2', hs2, hr2⟩ := slice_from hr (2 + nn) (by simp; omega)
  have e1 : ((k :: kn :: r).take (2 + nn)).drop 2 = r.take nn := by rw [show 2 + nn = nn + 1 + 1 by omega]; rfl
  have e2 : (k :: kn :: r).drop (2 + nn) = r.drop nn := by rw [show 2 + nn = nn + 1 + 1 by omega]; rfl
  rw [e1] at hr1
  rw [e2] at hr2
  have en : ((2 + nn : Nat) : Int) = 2 + (nn : Int) := by omega
  rw [en] at hs1 hs2
  rw [show ((2 : Nat) : Int) = 2 from rfl] at hs1
  obtain ⟨tag, htag⟩ : ∃ tag, r.take nn = tag := ⟨_, rfl⟩
  obtain ⟨rest, hrest⟩ : ∃ rest, r.drop nn = rest := ⟨_, rfl⟩
  rw [htag] at hr1
  rw [hrest] at hr2
  have HR1 := Keep.keep hr1; have HR2 := Keep.keep hr2
  have HST : Keep (∀ wx, Below w.heap.size w wx → (convert 28 9 (.slice a1 n1 c1')).run Tryz.prog wx = .ok (.string ⟨tag.toArray⟩) wx) := ⟨fun wx hb => run_string_of (hr1.below hb (fun b hb => hb.1))⟩
  have htl : tag.length ≤ 1000000 := by rw [← htag, List.length_take]; simp at hl; omega
  have HD : Keep (doesB m (k :: kn :: r) = if tagP tag = false then (m, false) else if k = 83 ∧ rest.length = 32 then (SM.put m (tag, rest), decide ((SM.put m (tag, rest)).length ≤ 64)) else if k = 68 ∧ rest.length = 0 then (m.filter (fun x => x.1 != tag), true) else (m, false)) := ⟨by
    conv => lhs; unfold doesB
    simp only
    rw [hnn, if_neg hsh, htag, hrest]⟩
  have HRL : Keep (n2 = rest.length) := ⟨hr2.len.1⟩
  rw [hnn] at c1 HC1
  rw [hnn] at hn8
  have HMY := Keep.keep (fun wx => tmay_any tag wx htl)
  clear hm hr hrr hn hl hnb hsh hnn hr1 hr2 htag hrest e1 e2 en
  generalize doesB m (k :: kn :: r) = res at *
  go_enter Tryz.func43, Tryz.ntmps43
  go_upto_region 3 with fail
  refine wp_region_cls (fun w' => Below w.heap.size w w') (by kernel_rfl) (by kernel_rfl) (Below.refl _ _).drew ?_
  repeat (first
    | ((with_reducible refine cls_cell ?_ HC1.out (run_isAgg_plain Tryz.underlying5 rfl) ?_ ?_); (focus rfl); (focus rfl); simp only [Act.put, List.setIfInBounds_toArray, List.set_cons_succ, List.set_cons_zero])
    | ((with_reducible refine cls_conv ?_ HST.out ?_ ?_); (focus rfl); (focus rfl); simp only [Act.put, List.setIfInBounds_toArray, List.set_cons_succ, List.set_cons_zero])
    | (first | go_big_quiet_step (fail) | (go_big_quiet_want; go_big_quiet_op; (refine ⟨_, fun _ _ => rfl, ?_⟩); go_big_quiet_on)))
  (refine wpQuiet_nil ?_); intro w2 hw2
  have HB2 := Keep.keep hw2
  clear hw2 HST hs1 hs2 c1 HC1
  go_wp2_with fail
  refine (HMY.out w2).mono ?_
  rintro e w3 ⟨rfl, hb⟩
  have HB3 := Keep.keep (HB2.out.trans (hb.mono HB2.out.size))
  have HM3 : Keep (MapS w3 9 mb (dgV m)) := ⟨HM.out.loc (HB3.out.block mb HM.out.lt)⟩
  clear hb HMY HB2
  obtain ⟨tp, htp⟩ : ∃ tp, tagP tag = tp := ⟨_, rfl⟩
  rw [htp] at HD ⊢
  clear htp
  have c0 := HC0.out w3 HB3.out
  clear HC0
  obtain ⟨kk, hkk⟩ : ∃ kk, k.toNat = kk := ⟨_, rfl⟩
  have HKK : Keep ((k = 83 ↔ kk = 83) ∧ (k = 68 ↔ kk = 68)) := ⟨by
    rw [← hkk]
    exact ⟨⟨fun e => by rw [e]; rfl, fun e => UInt8.toNat_inj.1 e⟩, ⟨fun e => by rw [e]; rfl, fun e => UInt8.toNat_inj.1 e⟩⟩⟩
  rw [hkk] at c0 hk8
  clear hkk
  cases tp with
  | false =>
    have HE : Keep (res = (m, false)) := ⟨by rw [HD.out, if_pos rfl]⟩
    clear HD
    go_wp2_with fail
    go_ret
    rw [HE.out]
    exact ⟨rfl, HM3.out, Chg.of_below HB3.out⟩
  | true =>
    by_cases hS : kk = 83 ∧ n2 = 32
    · obtain ⟨h83, h32⟩ := hS
      have HE : Keep (res = (SM.put m (tag, rest), decide ((SM.put m (tag, rest)).length ≤ 64))) := ⟨by rw [HD.out, if_neg (by decide), if_pos ⟨HKK.out.1.2 h83, by rw [← HRL.out]; exact h32⟩]⟩
      have hr3 : Reads w3 (fun b => b < w.heap.size ∧ b ≠ mb) (.slice a2 n2 c2') rest := HR2.out.below HB3.out (fun b hb => hb.1)
      obtain ⟨b2, o2, hab2⟩ : ∃ b2 o2, a2 = some ⟨b2, o2, none⟩ := by
        obtain ⟨a8, c8, hv8, q1, q2, q3⟩ := hr3.shape
        injection hv8 with e1 e2 e3
        rcases q3 with q3 | ⟨b, off, q3, -⟩
        · omega
        · exact ⟨b, off, by rw [e1, q3]⟩
      subst hab2
      have hra : w3.rangeAt b2 o2 (bcells rest) := fun j v hj => by
        have hjl : j < rest.length := by
          rcases Nat.lt_or_ge j rest.length with h | h
          · exact h
          · rw [List.getElem?_eq_none (by rw [bcells_length]; exact h)] at hj; cases hj
        rw [bcells_get rest j hjl] at hj
        injection hj with hj
        rw [← hj]
        exact hr3.cell b2 o2 _ _ rfl j hjl
      have HL : Keep ((Instr.loadAt 40 (.pointer (some ⟨b2, o2, none⟩))).run Tryz.prog w3 = .ok (.agg (bcells rest).toArray) w3) := ⟨run_loadAt_mid w3 b2 o2 40 (bcells rest) _ hra Tryz.underlying40 rfl (by rw [bcells_length, ← HRL.out, h32]; kernel_rfl)⟩
      subst h83 h32
      have harr : ∀ wx, (Instr.arrayAt 40 (.slice (some ⟨b2, o2, none⟩) 32 c2')).run Tryz.prog wx = .ok (.pointer (some ⟨b2, o2, none⟩)) wx := fun wx => by kernel_rfl
      clear HD hr3 hra
      go_wp2_with (first | ((with_reducible refine arm_loadM HL.out ?_ ?_); (focus rfl); simp only [Act.put, List.setIfInBounds_toArray, List.set_cons_succ, List.set_cons_zero]) | (first | (with_reducible refine arm_sRange ?_) | (with_reducible refine arm_sNext ?_) | (with_reducible refine arm_sDel ?_) | (with_reducible refine arm_sPut ?_) | (with_reducible refine arm_sIns ?_)))
      refine StM.out ?_
      refine arm_putS Tryz.underlying9 Tryz.underlying35 HM3.out (p := tag) (u := arrV rest) (by unfold maxLen; omega) (by rw [dgV_len]; unfold maxLen; omega) rfl rfl rfl ?_
      intro w4 h4 hc4
      have HM4 : Keep (MapS w4 9 mb (dgV (SM.put m (tag, rest)))) := ⟨by rw [dgV_put]; exact h4⟩
      have HC4 : Keep (Chg (fun j => j = mb) w.heap.size w w4) := ⟨(Chg.of_below HB3.out).trans (hc4.lower HB3.out.size)⟩
      have hlen := fun ty => HM4.out.len Tryz.underlying35 ty
      rw [dgV_len] at hlen
      have HDL : Keep (decide (((SM.put m (tag, rest)).length : Int) ≤ 64) = decide ((SM.put m (tag, rest)).length ≤ 64)) := ⟨by simp only [decide_eq_decide]; omega⟩
      generalize (SM.put m (tag, rest)).length = pl at *
      clear h4 hc4 c0 harr HL
      simp only [Act.put]
      go_wp2_with fail
      go_ret
      rw [HE.out]
      exact ⟨by show Ending.returned (.bool (decide ((pl : Int) ≤ 64))) = Ending.returned (.bool (decide (pl ≤ 64))); rw [HDL.out], HM4.out, HC4.out⟩
    · have HNS : Keep ((if k = 83 ∧ rest.length = 32 then (SM.put m (tag, rest), decide ((SM.put m (tag, rest)).length ≤ 64)) else if k = 68 ∧ rest.length = 0 then (m.filter (fun x => x.1 != tag), true) else (m, false)) = if k = 68 ∧ rest.length = 0 then (m.filter (fun x => x.1 != tag), true) else (m, false)) := ⟨if_neg (fun e => hS ⟨HKK.out.1.1 e.1, by rw [HRL.out]; exact e.2⟩)⟩
      by_cases hDr : kk = 68 ∧ n2 = 0
      · obtain ⟨h68, h0⟩ := hDr
        have HE : Keep (res = (m.filter (fun x => x.1 != tag), true)) := ⟨by rw [HD.out, if_neg (by decide), HNS.out, if_pos ⟨HKK.out.2.2 h68, by rw [← HRL.out]; exact h0⟩]⟩
        subst h68 h0
        clear HD HNS hS
        go_wp2_with (first | (with_reducible refine arm_sRange ?_) | (with_reducible refine arm_sNext ?_) | (with_reducible refine arm_sDel ?_) | (with_reducible refine arm_sPut ?_) | (with_reducible refine arm_sIns ?_))
        refine StM.out ?_
        refine arm_delS Tryz.underlying9 Tryz.underlying35 HM3.out (p := tag) (by unfold maxLen; omega) rfl rfl ?_
        intro w4 h4 hc4
        have HM4 : Keep (MapS w4 9 mb (dgV (m.filter (fun x => x.1 != tag)))) := ⟨by rw [dgV_del]; exact h4⟩
        have HC4 : Keep (Chg (fun j => j = mb) w.heap.size w w4) := ⟨(Chg.of_below HB3.out).trans (hc4.lower HB3.out.size)⟩
        clear h4 hc4 c0
        simp only [Act.put]
        go_wp2_with fail
        go_ret
        rw [HE.out]
        exact ⟨rfl, HM4.out, HC4.out⟩
      · have HE : Keep (res = (m, false)) := ⟨by rw [HD.out, if_neg (by decide), HNS.out, if_neg (fun e => hDr ⟨HKK.out.2.1 e.1, by rw [HRL.out]; exact e.2⟩)]⟩
        clear HD HNS
        by_cases k83 : kk = 83
        · subst k83
          have n32 : (n2 : Int) ≠ 32 := by omega
          have z32 : ((n2 : Int) == 32) = false := beq_eq_false_iff_ne.2 n32
          clear hS hDr
          go_wp2_with fail
          go_ret
          rw [HE.out]
          exact ⟨rfl, HM3.out, Chg.of_below HB3.out⟩
        · have z83 : ((kk : Int) == 83) = false := beq_eq_false_iff_ne.2 (by omega)
          by_cases k68 : kk = 68
          · subst k68
            have z0 : ((n2 : Int) == 0) = false := beq_eq_false_iff_ne.2 (by omega)
            clear hS hDr
            go_wp2_with fail
            go_ret
            rw [HE.out]
            exact ⟨rfl, HM3.out, Chg.of_below HB3.out⟩
          · have z68 : ((kk : Int) == 68) = false := beq_eq_false_iff_ne.2 (by omega)
            clear hS hDr
            go_wp2_with fail
            go_ret
            rw [HE.out]
            exact ⟨rfl, HM3.out, Chg.of_below HB3.out⟩
end Go.Proofs.YtmkofejijkabnaaGreatDoor
/- TagsParts, plainly: a journal's beginning tells what its whole frames say. -/
namespace Go.Proofs.YtmkofejijkabnaaGreatDoor
theorem endB_zero (l : List (List UInt8)) : endB l 0 = 0 := rfl
theorem endB_cons (b : List UInt8) (l : List (List UInt8)) (i : Nat) : endB (b :: l) (i + 1) = 8 + b.length + endB l i := by
  unfold endB
  rw [List.take_succ_cons, jrn_cons, List.length_append, frame_len]
theorem endB_ge : ∀ (l : List (List UInt8)) (i : Nat), i ≤ l.length → 8 * i ≤ endB l i
  | l, 0, _ => by simp
  | [], i + 1, h => by simp at h
  | b :: l, i + 1, h => by
    rw [endB_cons]
    have := endB_ge l i (by simpa using h)
    omega
theorem endB_lt : ∀ (l : List (List UInt8)) (i j : Nat), i < j → j ≤ l.length → endB l i + 8 ≤ endB l j
  | l, i, 0, h, _ => by omega
  | [], i, j + 1, _, h => by simp at h
  | b :: l, 0, j + 1, _, h => by rw [endB_zero, endB_cons]; omega
  | b :: l, i + 1, j + 1, h1, h2 => by
    rw [endB_cons, endB_cons]
    have := endB_lt l i j (by omega) (by simpa using h2)
    omega
theorem endB_take (l : List (List UInt8)) (n i : Nat) (h : i ≤ n) : endB (l.take n) i = endB l i := by
  unfold endB
  rw [List.take_take, Nat.min_eq_left h]
theorem allB_take : ∀ (l : List (List UInt8)) (m : Tgs) (n : Nat), AllB m l → AllB m (l.take n)
  | _, _, 0, _ => by simp [AllB]
  | [], _, n + 1, _ => by simp [AllB]
  | b :: l, m, n + 1, h => by
    rw [List.take_succ_cons]
    exact ⟨h.1, h.2.1, allB_take l _ n h.2.2⟩
theorem jrn_take (l : List (List UInt8)) (n : Nat) : jrn (l.take n) <+: jrn l := by
  unfold jrn
  conv => rhs; rw [← List.take_append_drop n l, List.map_append, List.flatten_append]
  exact List.prefix_append _ _
/-- with as much fuel as there are bytes -/
theorem cut_any (l : List (List UInt8)) (ha : AllB [] l) (k f : Nat) (hf : k ≤ f) (hk : k ≤ (jrn l).length) :
    ∃ i, i ≤ l.length ∧ endB l i ≤ k ∧ (∀ j, j ≤ l.length → endB l j ≤ k → j ≤ i) ∧ readF f [] ((jrn l).take k) = some (runB [] (l.take i), decide (endB l i ≠ k)) := by
  obtain ⟨n, hn⟩ : ∃ n, n = min l.length k := ⟨_, rfl⟩
  have hnl : (l.take n).length = n := by rw [List.length_take]; omega
  have hjl : (jrn (l.take n)).length = endB l n := rfl
  have hlen : k ≤ (jrn (l.take n)).length := by
    by_cases h : l.length ≤ k
    · rw [show l.take n = l from List.take_of_length_le (by omega)]; exact hk
    · rw [hjl]
      have := endB_ge l n (by omega)
      omega
  have htk : (jrn l).take k = (jrn (l.take n)).take k := by
    obtain ⟨r, hr⟩ := jrn_take l n
    rw [← hr, List.take_append_of_le_length hlen]
  obtain ⟨i, h1, h2, h3, h4⟩ := read_cut (l.take n) [] f k (allB_take l [] n ha) (by rw [hnl]; omega) hlen
  rw [hnl] at h1
  rw [endB_take l n i h1] at h2 h4
  rw [← htk, List.take_take, Nat.min_eq_left h1] at h4
  refine ⟨i, by omega, h2, fun j hj hjk => ?_, h4⟩
  refine Classical.byContradiction fun hji => ?_
  have hjn : j ≤ n := by
    refine Classical.byContradiction fun h => ?_
    have := endB_ge l j hj
    omega
  have h5 := h3 j (by rw [hnl]; exact hjn) (by rw [endB_take l n j hjn]; exact hjk)
  rw [endB_take l n j hjn, endB_take l n i h1] at h5
  have := endB_lt l i j (by omega) hj
  omega
theorem cut_at (l : List (List UInt8)) (ha : AllB [] l) (i f : Nat) (hi : i ≤ l.length) (hf : endB l i ≤ f) : readF f [] ((jrn l).take (endB l i)) = some (runB [] (l.take i), false) := by
  have hle : endB l i ≤ (jrn l).length := (jrn_take l i).length_le
  obtain ⟨j, h1, h2, h3, h4⟩ := cut_any l ha (endB l i) f hf hle
  have hij := h3 i hi (Nat.le_refl _)
  have : j = i := by
    refine Classical.byContradiction fun h => ?_
    have := endB_lt l i j (by omega) h1
    omega
  subst this
  rw [h4]
  simp
theorem magic_len : magicB.length = 8 := rfl
theorem readB_short (J : List UInt8) (k : Nat) (hk : k < 8) : readB ((magicB ++ J).take k) = some ([], true) := by
  have ht : (magicB ++ J).take k = magicB.take k := List.take_append_of_le_length (by rw [magic_len]; omega)
  unfold readB
  rw [if_pos ⟨by rw [ht, List.length_take, magic_len]; omega, by rw [ht]; exact List.take_prefix _ _⟩]
theorem readB_long (J : List UInt8) (k : Nat) (hk : k ≤ J.length) : readB ((magicB ++ J).take (8 + k)) = readF (8 + k) [] (J.take k) := by
  have ht : (magicB ++ J).take (8 + k) = magicB ++ J.take k := by
    rw [List.take_append, magic_len, List.take_of_length_le (by rw [magic_len]; omega)]
    congr 2
    omega
  have hl : (magicB ++ J.take k).length = 8 + k := by rw [List.length_append, magic_len, List.length_take]; omega
  unfold readB
  rw [ht, if_neg (by rw [hl]; omega), if_pos (List.take_left' magic_len), hl, List.drop_left' magic_len]
/-- THE LAW: what is read of a journal cut at k, and of its whole frames alone -/
theorem parts_law (l : List (List UInt8)) (ha : AllB [] l) (k : Nat) (hk : k ≤ (magicB ++ jrn l).length) :
    ∃ i, i ≤ l.length ∧ (8 ≤ k → 8 + endB l i ≤ k) ∧ (k < 8 → i = 0) ∧ (∀ j, j ≤ l.length → 8 + endB l j ≤ k → j ≤ i) ∧
      readB ((magicB ++ jrn l).take k) = some (runB [] (l.take i), decide (¬ (8 ≤ k ∧ 8 + endB l i = k))) ∧
      readB ((magicB ++ jrn l).take (max (if i = 0 then 0 else 8 + endB l i) (min k 8))) = some (runB [] (l.take i), decide (k < 8)) := by
  by_cases h8 : k < 8
  · refine ⟨0, Nat.zero_le _, fun h => by omega, fun _ => rfl, fun j _ hjk => by omega, ?_, ?_⟩
    · rw [readB_short _ _ h8]
      simp [runB]; omega
    · rw [if_pos rfl, Nat.zero_max, Nat.min_eq_left (by omega), readB_short _ _ h8]
      simp [runB, h8]
  · obtain ⟨q, rfl⟩ : ∃ q, k = 8 + q := ⟨k - 8, by omega⟩
    have hq : q ≤ (jrn l).length := by rw [List.length_append, magic_len] at hk; omega
    obtain ⟨i, h1, h2, h3, h4⟩ := cut_any l ha q (8 + q) (by omega) hq
    refine ⟨i, h1, fun _ => by omega, fun h => by omega, fun j hj hjk => h3 j hj (by omega), ?_, ?_⟩
    · rw [readB_long _ _ hq, h4]
      congr 2
      by_cases e : endB l i = q
      · simp [e]
      · rw [decide_eq_true e, decide_eq_true (by omega)]
    · have hm : max (if i = 0 then 0 else 8 + endB l i) (min (8 + q) 8) = 8 + endB l i := by
        by_cases e : i = 0
        · rw [if_pos e, e, endB_zero]; omega
        · rw [if_neg e]; omega
      rw [hm, readB_long _ _ (by omega), cut_at l ha i (8 + endB l i) h1 (by omega)]
      simp
end Go.Proofs.YtmkofejijkabnaaGreatDoor
/- tags.Read. -/
namespace Go.Proofs.YtmkofejijkabnaaGreatDoor
open Go.RowKit
/-- what Read tells of what is read -/
def ReadTo (w : World) (R : Option (Tgs × Bool)) (e : Ending) (w' : World) : Prop :=
  match R with
  | some (m, t) => ∃ mb, e = .returned (.tuple #[.map (some mb), .bool t, .int .i64 0]) ∧ w.heap.size ≤ mb ∧ MapS w' 9 mb (dgV m)
  | none => e = .returned (.tuple #[.map none, .bool false, .int .i64 41])
structure RdL (w0 w : World) (mb : Nat) (m : Tgs) (v : Value) (l : List UInt8) : Prop where
  m : MapS w 9 mb (dgV m)
  r : Reads w (fun j => j < w.heap.size ∧ j ≠ mb) v l
  b : Below w0.heap.size w0 w
theorem slice_to {w : World} {N : Nat → Prop} {a : Option Addr} {n c : Nat} {l : List UInt8} (h : Reads w N (.slice a n c) l) (j : Nat) (hj : j ≤ l.length) :
    ∃ a' n' c', (∀ w', (Instr.slice 28 (.slice a n c) none (some (.int .i64 (j : Int))) none).run Tryz.prog w' = .ok (.slice a' n' c') w') ∧ Reads w N (.slice a' n' c') (l.take j) := by
  obtain ⟨hn, hc, hm⟩ := h.len
  refine ⟨a, j, c, fun w' => slice_bto a n c j (by omega) w', ?_⟩
  have hll : (l.take j).length = j := by rw [List.length_take]; omega
  obtain ⟨a8, c8, hv8, -, -, h3⟩ := h.shape
  injection hv8 with e1 e2 e3
  subst e1 e3
  rcases h3 with h3 | ⟨b, off, rfl, -⟩
  · subst h3
    obtain rfl : j = 0 := by omega
    rw [List.take_zero]
    exact Reads.ofNone
  · have := h.sub 0 j c (l.take j) (by rw [List.drop_zero]) (by rw [hll]; omega) (Nat.le_refl _) j hll.symm
    exact this
theorem RdL.drewN {w0 w : World} {mb : Nat} {m : Tgs} {v : Value} {l : List UInt8} (h : RdL w0 w mb m v l) (q : Nat) : RdL w0 (w.drewN q) mb m v l := ⟨h.m.loc rfl, h.r.drewN q, below_drewN' h.b q⟩
theorem spc_not {P : Program} {ops : Array Oper} {Q : Exit → Act → World → Prop} {C : World → Prop} {T : Nat → Value → World → Prop} {St : World → World → Prop} {i d : Nat} {a1 : Act} {w1 : World} {op : Op} {tp : TypeId} {pos : String} {af : Array Edge} {g : Option (Nat × Bool)}
    (hi : ops[i]? = some ⟨some d, op, tp, pos, af, g⟩) (hg : Region.wanted (⟨some d, op, tp, pos, af, g⟩ : Oper) (yielded ops a1.tmps) = false) (hC : C w1) (hb : St w1 w1) (hT : T i undef w1) :
    wpOp P ops Q i (fun a2 w2 => ∃ v, a2 = a1.put (some d) v ∧ C w2 ∧ St w1 w2 ∧ T i v w2) a1 w1 := by
  unfold wpOp
  rw [hi]
  simp only
  rw [if_neg (by rw [hg]; decide)]
  exact ⟨undef, rfl, hC, hb, hT⟩
theorem wanted_off {ops : Array Oper} {o : Oper} {a : Act} {g d : Nat} {b : Bool} (ho : o.guard = some (g, b)) (hog : (ops[g]?).bind (·.dst) = some d) (hv : slot a d = .bool (!b)) : Region.wanted o (yielded ops a.tmps) = false := by
  have h1 : a.tmps[d]? = some (.bool (!b)) := by
    unfold slot at hv
    rcases Nat.lt_or_ge d a.tmps.size with h | h
    · simpa [Array.getD_eq_getD_getElem?, h] using hv
    · simp [Array.getD_eq_getD_getElem?, Array.getElem?_eq_none h, undef] at hv
  have h2 : yielded ops a.tmps g = some (!b) := by simp [yielded, hog, h1]
  simp [Region.wanted, ho, h2]
theorem run_addI {P : Program} {ρ : Operand → Value} {x y : Operand} {i j : Int} {d : Option Tmp} {t t2 tp : TypeId} {pos : String} {af : Array Edge} {g : Option (Nat × Bool)} {w : World} (hx : ρ x = .int .i64 i) (hy : ρ y = .int .i64 j) (hw : IntKind.i64.wrap (i + j) = i + j) :
    (execOp ρ (⟨d, .binOp .add t x y t2, tp, pos, af, g⟩ : Oper)).run P w = .ok (.value (.int .i64 (i + j))) w := by
  simp [go_sem, execOp, hx, hy, hw]
theorem run_neqS {P : Program} {ρ : Operand → Value} {x y : Operand} {a b : List UInt8} {d : Option Tmp} {t t2 tp : TypeId} {pos : String} {af : Array Edge} {g : Option (Nat × Bool)} {w : World} (hx : ρ x = .string ⟨a.toArray⟩) (hy : ρ y = .string ⟨b.toArray⟩) :
    (execOp ρ (⟨d, .binOp .neq t x y t2, tp, pos, af, g⟩ : Oper)).run P w = .ok (.value (.bool (decide (a ≠ b)))) w := by
  simp [go_sem, execOp, hx, hy]
  rw [Bool.eq_iff_iff]
  simp
def rdT (mb : Nat) (bs ls : Value) (_n sz : Nat) (sl2 : Value) (body tk : List UInt8) (bad : Bool) : Nat → Value → World → Prop
  | 0, v, _ => v = bs
  | 1, v, w => Reads w (· < w.heap.size) v (frameB body)
  | 2, v, _ => v = .string ⟨(frameB body).toArray⟩
  | 3, v, _ => v = ls
  | 4, v, _ => v = .int .i64 (sz : Int)
  | 5, v, _ => v = .int .i64 (8 + (sz : Int))
  | 6, v, _ => v = sl2
  | 7, v, _ => v = .string ⟨tk.toArray⟩
  | 8, v, _ => v = .bool bad
  | 9, v, _ => v = .bool bad
  | 10, v, _ => bad = false → v = .map (some mb)
  | 11, v, _ => bad = false → v = bs
  | _, _, _ => True
theorem rdT_stays {mb : Nat} {bs ls : Value} {n sz : Nat} {sl2 : Value} {body tk : List UInt8} {bad : Bool} (i : Nat) (v : Value) (w w' : World) (h : rdT mb bs ls n sz sl2 body tk bad i v w) (hs : Below w.heap.size w w') : rdT mb bs ls n sz sl2 body tk bad i v w' := by
  rcases (by omega : i = 0 ∨ i = 1 ∨ i = 2 ∨ i = 3 ∨ i = 4 ∨ i = 5 ∨ i = 6 ∨ i = 7 ∨ i = 8 ∨ i = 9 ∨ i = 10 ∨ i = 11 ∨ 12 ≤ i) with rfl | rfl | rfl | rfl | rfl | rfl | rfl | rfl | rfl | rfl | rfl | rfl | h8
  · exact h
  · have h : Reads w (· < w.heap.size) v (frameB body) := h
    exact (h.below hs (fun b hb => hb)).mono (fun b hb => Nat.lt_of_lt_of_le hb hs.size)
  · exact h
  · exact h
  · exact h
  · exact h
  · exact h
  · exact h
  · exact h
  · exact h
  · exact h
  · exact h
  · obtain ⟨k, rfl⟩ : ∃ k, i = k + 12 := ⟨i - 12, by omega⟩
    trivial
theorem does_len {m : Tgs} {b : List UInt8} (h : (doesB m b).2 = true) (hm : m.length ≤ 64) : (doesB m b).1.length ≤ 64 := by
  unfold doesB at h ⊢
  split
  · simp only at h ⊢
    split
    · exact hm
    · rename_i h1
      rw [if_neg h1] at h
      split
      · exact hm
      · rename_i h2
        rw [if_neg h2] at h
        split
        · rename_i h3
          rw [if_pos h3] at h
          exact of_decide_eq_true h
        · rename_i h3
          rw [if_neg h3] at h
          split
          · exact Nat.le_trans (List.length_filter_le _ _) hm
          · exact hm
  · exact hm
theorem mk_tags (w : World) : (Instr.makeMap 35 none).run Tryz.prog w = .ok (.map (some w.heap.size)) (w.alloc (.map #[] 0)) := by kernel_rfl
set_option maxHeartbeats 4000000 in
set_option maxRecDepth 100000 in
theorem tread_any (bv : Value) (l0 : List UInt8) (w : World) (hT : CrcT w) (hr : Reads w (· < w.heap.size) bv l0) (hl : l0.length ≤ 1000000) :
    Calls Tryz.prog 11 #[bv] w fun e w' => ReadTo w (readB l0) e w' ∧ Below w.heap.size w w' := by
  obtain ⟨a, n, cap, hv, hn⟩ : ∃ a n cap, bv = .slice a n cap ∧ n = l0.length := by
    obtain ⟨a8, c8, hv8, q1, q2, q3⟩ := hr.shape
    exact ⟨a8, _, c8, hv8, rfl⟩
  obtain ⟨w1, hw1⟩ : ∃ w1, w.alloc (.map #[] 0) = w1 := ⟨_, rfl⟩
  have hmk : (Instr.makeMap 35 none).run Tryz.prog w = .ok (.map (some w.heap.size)) w1 := by rw [← hw1]; exact mk_tags w
  have hal : Below w.heap.size w w1 := by rw [← hw1]; exact (Below.refl _ _).alloc (Nat.le_refl _) _
  have hmp : MapS w1 9 w.heap.size (dgV []) := by rw [← hw1]; exact MapS.made w
  have hst : (convert 28 9 bv).run Tryz.prog w1 = .ok (.string ⟨l0.toArray⟩) w1 := run_string_of (hr.below hal (fun b hb => hb))
  have HHP : Keep (Calls Tryz.prog 40 #[.string ⟨#[80, 84, 65, 71, 83, 0, 0, 1]⟩, .string ⟨l0.toArray⟩] w1 fun e w' => e = .returned (.bool (l0.isPrefixOf magicB)) ∧ w' = w1) := ⟨Tryz.strings_HasPrefix ⟨#[80, 84, 65, 71, 83, 0, 0, 1]⟩ ⟨l0.toArray⟩ w1⟩
  have HCP : Keep (Calls Tryz.prog 41 #[.string ⟨l0.toArray⟩, .string ⟨#[80, 84, 65, 71, 83, 0, 0, 1]⟩] w1 fun e w' => e = .returned (.tuple #[.string ⟨(Lib.trimPrefix l0 magicB).toArray⟩, .bool (magicB.isPrefixOf l0)]) ∧ w' = w1) := ⟨Tryz.strings_CutPrefix ⟨l0.toArray⟩ ⟨#[80, 84, 65, 71, 83, 0, 0, 1]⟩ w1⟩
  have HAL := Keep.keep hal; have HMP := Keep.keep hmp; have HN := Keep.keep hn; have HL := Keep.keep hl; have HT := Keep.keep hT
  have hn9 : (n : Int) ≤ 1000000 := by omega
  have HRB : Keep (readB l0 = if n < 8 ∧ l0.isPrefixOf magicB = true then some ([], true) else if magicB.isPrefixOf l0 = true then readF n [] (l0.drop 8) else none) := ⟨by
    unfold readB
    have e1 : (l0 <+: magicB) ↔ l0.isPrefixOf magicB = true := List.isPrefixOf_iff_prefix.symm
    have e2 : (l0.take 8 = magicB) ↔ magicB.isPrefixOf l0 = true := by
      rw [List.isPrefixOf_iff_prefix, List.prefix_iff_eq_take]
      exact eq_comm
    rw [hn]
    simp only [e1, e2]⟩
  generalize readB l0 = R at *
  clear hmp hn hl hT hr hal hw1
  subst hv
  generalize hpx : l0.isPrefixOf magicB = px at *
  generalize hpy : magicB.isPrefixOf l0 = py at *
  by_cases h8 : n < 8 ∧ px = true
  · obtain ⟨h8, hp⟩ := h8
    have HR : Keep (R = some ([], true)) := ⟨by rw [HRB.out, if_pos ⟨h8, hp⟩]⟩
    subst hp
    clear HRB HCP
    go_enter Tryz.func11, Tryz.ntmps11
    go_wp2_with fail
    refine HHP.out.mono ?_
    rintro e w2 ⟨rfl, rfl⟩
    clear hst HHP
    go_wp2_with fail
    go_ret3
    rw [HR.out]
    exact ⟨⟨w.heap.size, rfl, Nat.le_refl _, HMP.out⟩, HAL.out⟩
  have HRB2 : Keep (R = if py = true then readF n [] (l0.drop 8) else none) := ⟨by rw [HRB.out, if_neg h8]⟩
  cases py with
  | false =>
    have HR : Keep (R = none) := ⟨by rw [HRB2.out, if_neg (by decide)]⟩
    generalize Lib.trimPrefix l0 magicB = tp at *
    by_cases hn8 : n < 8
    · have hpf : px = false := by
        cases px with
        | false => rfl
        | true => exact (h8 ⟨hn8, rfl⟩).elim
      subst hpf
      clear h8 HRB HRB2
      go_enter Tryz.func11, Tryz.ntmps11
      go_wp2_with fail
      refine HHP.out.mono ?_
      rintro e w2 ⟨rfl, rfl⟩
      go_wp2_with fail
      refine HCP.out.mono ?_
      rintro e w3 ⟨rfl, rfl⟩
      go_wp2_with fail
      go_ret3
      rw [HR.out]
      exact ⟨rfl, HAL.out⟩
    · clear h8 HRB HRB2 HHP
      go_enter Tryz.func11, Tryz.ntmps11
      go_wp2_with fail
      refine HCP.out.mono ?_
      rintro e w3 ⟨rfl, rfl⟩
      go_wp2_with fail
      go_ret3
      rw [HR.out]
      exact ⟨rfl, HAL.out⟩
  | true =>
    have hpre : magicB <+: l0 := List.isPrefixOf_iff_prefix.1 hpy
    have hn8 : 8 ≤ n := by rw [HN.out]; exact hpre.length_le
    have HR : Keep (R = readF n [] (l0.drop 8)) := ⟨by rw [HRB2.out, if_pos rfl]⟩
    have HTP : Keep (Lib.trimPrefix l0 magicB = l0.drop 8) := ⟨by unfold Lib.trimPrefix; exact if_pos hpy⟩
    rw [HTP.out] at HCP
    obtain ⟨l1, hl1⟩ : ∃ l1, l0.drop 8 = l1 := ⟨_, rfl⟩
    rw [hl1] at HCP HR
    have hl1n : l1.length ≤ n := by rw [← hl1, List.length_drop, HN.out]; omega
    obtain ⟨n1, hn1⟩ : ∃ n1, l1.length = n1 := ⟨_, rfl⟩
    obtain ⟨cf, rf, mf, hcv, hrd⟩ := convS l1 n1 hn1 (by unfold maxLen; omega)
    have HRD := Keep.keep (hrd w1); have HN1 := Keep.keep hn1
    have hcv1 := hcv w1
    have HLN := Keep.keep hl1n
    clear h8 HRB HRB2 HHP hpre hpy hpx HTP hl1 hrd hcv hn1 hl1n
    go_enter Tryz.func11, Tryz.ntmps11
    go_wp2_with fail
    refine HCP.out.mono ?_
    rintro e w3 ⟨rfl, rfl⟩
    go_wp2_with fail
    go_loopg [0, 2] n1 (fun g u0 u2 wx => u2 = .map (some w.heap.size) ∧ ∃ (m : Tgs) (l : List UInt8) (f : Nat) (a : Option Addr) (nl c : Nat), u0 = .slice a nl c ∧ nl ≤ g ∧ nl ≤ 1000000 ∧ Keep (RdL w wx w.heap.size m (.slice a nl c) l) ∧ Keep (R = readF f m l ∧ l.length ≤ f ∧ m.length ≤ 64))
    case atStart =>
      have hb3 : Below w3.heap.size w3 (w3.drew.alloc (.cells (rf w3) 5 (mf w3))) := (Below.refl _ _).drew.alloc (Nat.le_refl _) _
      have hlt := HMP.out.lt
      refine ⟨rfl, [], l1, n, _, n1, _, rfl, Nat.le_refl _, by have := HLN.out; have := HN1.out; have := HN.out; have := HL.out; omega, ⟨⟨HMP.out.loc (hb3.block _ hlt), HRD.out.mono (fun j hj => ?_), HAL.out.trans (hb3.mono HAL.out.size)⟩⟩, ⟨HR.out, HLN.out, by simp⟩⟩
      subst hj
      refine ⟨?_, by omega⟩
      show _ < (Array.push _ _).size
      rw [Array.size_push]
      exact Nat.lt_succ_self _
    case round =>
      obtain ⟨rfl, m, l, f, al, nl, cl, rfl, hng, hnl9, HD, HF⟩ := hrel
      have hnl : nl = l.length := HD.out.r.len.1
      have HNL := Keep.keep hnl
      by_cases h0 : nl = 0
      · have HE : Keep (R = some (m, false)) := ⟨by rw [HF.out.1, List.eq_nil_of_length_eq_zero (hnl.symm.trans h0), read_nil]⟩
        subst h0
        clear hnl
        go_wp2_with fail
        go_ret3
        rw [HE.out]
        exact ⟨⟨w.heap.size, rfl, Nat.le_refl _, HD.out.m⟩, HD.out.b⟩
      obtain ⟨f', hf'⟩ : ∃ f', f = f' + 1 := ⟨f - 1, by have := HF.out.2.1; omega⟩
      subst hf'
      have hne : l ≠ [] := fun e => by rw [e] at hnl; exact h0 hnl
      have HF2 : Keep (R = if l.length < 4 then some (m, true) else if l.getD 2 0 ≠ ~~~ l.getD 0 0 ∨ l.getD 3 0 ≠ ~~~ l.getD 1 0 then none else if l.length < 8 + sizeB l then some (m, true) else if frameB ((l.drop 8).take (sizeB l)) ≠ l.take (8 + sizeB l) ∨ (doesB m ((l.drop 8).take (sizeB l))).2 = false then none else readF f' (doesB m ((l.drop 8).take (sizeB l))).1 (l.drop (8 + sizeB l))) := ⟨by
        rw [HF.out.1]
        conv => lhs; unfold readF
        rw [if_neg hne]⟩
      have hpos : 0 < nl := by omega
      clear h0 hne
      by_cases h4 : nl < 4
      · have HE : Keep (R = some (m, true)) := ⟨by rw [HF2.out, if_pos (by rw [← hnl]; exact h4)]⟩
        clear hnl HF2
        go_wp2_with fail
        go_ret3
        rw [HE.out]
        exact ⟨⟨w.heap.size, rfl, Nat.le_refl _, HD.out.m⟩, HD.out.b⟩
      obtain ⟨c0, c1, c2, c3, r, hlc⟩ : ∃ c0 c1 c2 c3 r, l = c0 :: c1 :: c2 :: c3 :: r := by
        match l, hnl with
        | [], hnl => simp at hnl; omega
        | [_], hnl => simp at hnl; omega
        | [_, _], hnl => simp at hnl; omega
        | [_, _, _], hnl => simp at hnl; omega
        | c0 :: c1 :: c2 :: c3 :: r, _ => exact ⟨c0, c1, c2, c3, r, rfl⟩
      have hsz : sizeB l = c0.toNat + c1.toNat * 256 := by rw [hlc]; rfl
      have HF3 : Keep (R = if c2 ≠ ~~~ c0 ∨ c3 ≠ ~~~ c1 then none else if l.length < 8 + sizeB l then some (m, true) else if frameB ((l.drop 8).take (sizeB l)) ≠ l.take (8 + sizeB l) ∨ (doesB m ((l.drop 8).take (sizeB l))).2 = false then none else readF f' (doesB m ((l.drop 8).take (sizeB l))).1 (l.drop (8 + sizeB l))) := ⟨by
        rw [HF2.out, if_neg (by rw [← hnl]; exact h4)]
        have e0 : l.getD 0 0 = c0 := by rw [hlc]; rfl
        have e1 : l.getD 1 0 = c1 := by rw [hlc]; rfl
        have e2 : l.getD 2 0 = c2 := by rw [hlc]; rfl
        have e3 : l.getD 3 0 = c3 := by rw [hlc]; rfl
        rw [e0, e1, e2, e3]⟩
      obtain ⟨b, off, hab⟩ : ∃ b off, al = some ⟨b, off, none⟩ := by
        obtain ⟨a8, c8, hv8, q1, q2, q3⟩ := HD.out.r.shape
        injection hv8 with e1 e2 e3
        rcases q3 with q3 | ⟨b, off, q3, -⟩
        · omega
        · exact ⟨b, off, by rw [e1, q3]⟩
      subst hab
      have hcell : ∀ (i : Nat) (c : UInt8), l[i]? = some c → wr.cell? ⟨b, off + i, none⟩ = some (.int .u8 (c.toNat : Int)) := fun i c hi => by
        obtain ⟨hil, hie⟩ := List.getElem?_eq_some_iff.1 hi
        rw [← hie]
        exact HD.out.r.cell b off _ _ rfl i hil
      have k0 : wr.cell? ⟨b, off, none⟩ = some (.int .u8 (c0.toNat : Int)) := hcell 0 c0 (by rw [hlc]; rfl)
      have k1 := hcell 1 c1 (by rw [hlc]; rfl)
      have k2 := hcell 2 c2 (by rw [hlc]; rfl)
      have k3 := hcell 3 c3 (by rw [hlc]; rfl)
      have x0 : bits .xor .u8 (if IntKind.u8.signed = true then -1 else IntKind.u8.max) (c0.toNat : Int) = ((~~~ c0).toNat : Int) := u8_compl c0
      have x1 : bits .xor .u8 (if IntKind.u8.signed = true then -1 else IntKind.u8.max) (c1.toNat : Int) = ((~~~ c1).toNat : Int) := u8_compl c1
      have hor : bits .or .i64 (c0.toNat : Int) ((c1.toNat : Int) * 256) = ((sizeB l : Nat) : Int) := by
        have h := (bits_nat .i64 16 (by decide) (fun n h1 h2 => IntWalk.i64_in n (by omega)) c0.toNat (c1.toNat * 256) (by have := c0.toNat_lt; omega) (by have := c1.toNat_lt; omega)).2
        rw [show ((c1.toNat * 256 : Nat) : Int) = (c1.toNat : Int) * 256 by omega] at h
        rw [h, hsz, Nat.or_comm]
        congr 1
        have := Nat.two_pow_add_eq_or_of_lt (i := 8) (b := c0.toNat) c0.toNat_lt c1.toNat
        rw [show c1.toNat * 256 = 2 ^ 8 * c1.toNat by omega, ← this]
        omega
      have HE2 : Keep ((c2.toNat = (~~~ c0).toNat ↔ c2 = ~~~ c0) ∧ (c3.toNat = (~~~ c1).toNat ↔ c3 = ~~~ c1)) := ⟨UInt8.toNat_inj, UInt8.toNat_inj⟩
      have hs8 : sizeB l < 65536 := by rw [hsz]; have := c0.toNat_lt; have := c1.toNat_lt; omega
      have g0 : (c0.toNat : Int) < 256 := by have := c0.toNat_lt; omega
      have g1 : (c1.toNat : Int) < 256 := by have := c1.toNat_lt; omega
      generalize sizeB l = sz at *
      clear hsz hlc HF2 hcell
      generalize (~~~ c0).toNat = y0 at *
      generalize (~~~ c1).toNat = y1 at *
      generalize c0.toNat = v0 at *
      generalize c1.toNat = v1 at *
      generalize c2.toNat = v2 at *
      generalize c3.toNat = v3 at *
      clear hnl
      have hq4 : (4 : Int) ≤ (nl : Int) := by omega
      have hq2 : (2 : Int) < (nl : Int) := by omega
      have hq3 : (3 : Int) < (nl : Int) := by omega
      go_upto_region 11 with fail
      go_quiet (fail)
      by_cases e2 : v2 = y0
      rotate_left
      focus
        have hz2 : ((v2 : Int) != (y0 : Int)) = true := by rw [bne_iff_ne]; omega
        have HE : Keep (R = none) := ⟨by rw [HF3.out, if_pos (.inl (fun e => e2 (HE2.out.1.2 e)))]⟩
        clear HF3 e2
        go_upto_region 12 with fail
        go_quiet (fail)
        go_wp2_with fail
        go_ret3
        rw [HE.out]
        exact ⟨rfl, below_drewN' (below_drewN' HD.out.b _) _⟩
      by_cases e3 : v3 = y1
      rotate_left
      focus
        have hz2 : ((v2 : Int) != (y0 : Int)) = false := by rw [e2]; simp
        have hz3 : ((v3 : Int) != (y1 : Int)) = true := by rw [bne_iff_ne]; omega
        have HE : Keep (R = none) := ⟨by rw [HF3.out, if_pos (.inr (fun e => e3 (HE2.out.2.2 e)))]⟩
        clear HF3 e2 e3
        go_upto_region 12 with fail
        go_quiet (fail)
        go_wp2_with fail
        go_ret3
        rw [HE.out]
        exact ⟨rfl, below_drewN' (below_drewN' HD.out.b _) _⟩
      have hz2 : ((v2 : Int) != (y0 : Int)) = false := by rw [e2]; simp
      have hz3 : ((v3 : Int) != (y1 : Int)) = false := by rw [e3]; simp
      have HF4 : Keep (R = if l.length < 8 + sz then some (m, true) else if frameB ((l.drop 8).take sz) ≠ l.take (8 + sz) ∨ (doesB m ((l.drop 8).take sz)).2 = false then none else readF f' (doesB m ((l.drop 8).take sz)).1 (l.drop (8 + sz))) := ⟨by
        rw [HF3.out, if_neg (by
          rintro (e | e)
          · exact e (HE2.out.1.1 e2)
          · exact e (HE2.out.2.1 e3))]⟩
      clear HF3 e2 e3 HE2
      go_upto_region 12 with fail
      go_quiet (fail)
      by_cases hsh : nl < 8 + sz
      · have HE : Keep (R = some (m, true)) := ⟨by rw [HF4.out, if_pos (by rw [← HNL.out]; exact hsh)]⟩
        clear HF4
        go_wp2_with fail
        go_ret3
        rw [HE.out]
        exact ⟨⟨w.heap.size, rfl, Nat.le_refl _, (HD.out.drewN _).m⟩, (HD.out.drewN _).b⟩
      have HF5 : Keep (R = if frameB ((l.drop 8).take sz) ≠ l.take (8 + sz) ∨ (doesB m ((l.drop 8).take sz)).2 = false then none else readF f' (doesB m ((l.drop 8).take sz)).1 (l.drop (8 + sz))) := ⟨by rw [HF4.out, if_neg (by rw [← HNL.out]; exact hsh)]⟩
      have hge : 8 + sz ≤ l.length := by rw [← HNL.out]; omega
      obtain ⟨a1, n1', c1', hs1, hr1⟩ := slice_mid HD.out.r 8 (8 + sz) (by omega) hge
      obtain ⟨a2, n2, c2', hs2, hr2⟩ := slice_to HD.out.r (8 + sz) hge
      obtain ⟨a3, n3, c3', hs3, hr3⟩ := slice_from HD.out.r (8 + sz) hge
      have en : ((8 + sz : Nat) : Int) = 8 + (sz : Int) := by omega
      rw [en] at hs1 hs2 hs3
      rw [show ((8 : Nat) : Int) = 8 from rfl] at hs1
      have e1 : (l.take (8 + sz)).drop 8 = (l.drop 8).take sz := by rw [List.drop_take]; congr 1; omega
      rw [e1] at hr1
      obtain ⟨body, hbody⟩ : ∃ body, (l.drop 8).take sz = body := ⟨_, rfl⟩
      rw [hbody] at hr1 HF5
      obtain ⟨tk, htk⟩ : ∃ tk, l.take (8 + sz) = tk := ⟨_, rfl⟩
      rw [htk] at hr2 HF5
      have HR1 := Keep.keep hr1; have HR2 := Keep.keep hr2; have HR3 := Keep.keep hr3
      have HBL : Keep (body.length ≤ 1000000) := ⟨by rw [← hbody, List.length_take, List.length_drop, ← HNL.out]; omega⟩
      have hge2 : 8 + (sz : Int) ≤ (nl : Int) := by have := HNL.out; omega
      clear HF4 hr1 hr2 hr3 e1 en hbody htk hge hsh x0 x1 hor hz2 hz3 k0 k1 k2 k3 g0 g1
      go_upto_region 17 with fail
      refine wp_world (R := fun wz => Below wr.heap.size wr wz ∧ RdL w wz w.heap.size m (.slice (some ⟨b, off, none⟩) nl cl) l) ⟨below_drewN' (Below.refl _ _) _, HD.out.drewN _⟩ ?_
      intro wz HZ
      have hbz := HZ.out.1
      have HR1z : Keep (Reads wz (fun j => j < wz.heap.size ∧ j ≠ w.heap.size) (.slice a1 n1' c1') body) := ⟨(HR1.out.below hbz (fun j hj => hj.1)).mono (fun j hj => ⟨Nat.lt_of_lt_of_le hj.1 hbz.size, hj.2⟩)⟩
      have HR2z : Keep (Reads wz (fun j => j < wz.heap.size ∧ j ≠ w.heap.size) (.slice a2 n2 c2') tk) := ⟨(HR2.out.below hbz (fun j hj => hj.1)).mono (fun j hj => ⟨Nat.lt_of_lt_of_le hj.1 hbz.size, hj.2⟩)⟩
      have HR3z : Keep (Reads wz (fun j => j < wz.heap.size ∧ j ≠ w.heap.size) (.slice a3 n3 c3') (l.drop (8 + sz))) := ⟨(HR3.out.below hbz (fun j hj => hj.1)).mono (fun j hj => ⟨Nat.lt_of_lt_of_le hj.1 hbz.size, hj.2⟩)⟩
      have HTz : Keep (CrcT wz) := ⟨HT.out.on HZ.out.2.b⟩
      obtain ⟨bad, hbad⟩ : ∃ bad, decide (frameB body ≠ tk) = bad := ⟨_, rfl⟩
      have HBAD := Keep.keep hbad
      clear hbz hbad
      refine wp_region_spcT 12 [74, 75, 76, 77, 78, 79, 80, 81, 82, 83, 84, 85] (fun wx => Below wz.heap.size wz wx) (rdT w.heap.size (.slice a1 n1' c1') (.slice (some ⟨b, off, none⟩) nl cl) nl sz (.slice a2 n2 c2') body tk bad) (fun w w' => Below w.heap.size w w') (by kernel_rfl) rfl (by decide) (by show ∀ d ∈ _, d < 94; decide) (by kernel_rfl) (by decide) (by kernel_rfl) (by kernel_rfl) (by kernel_rfl) (Below.refl _ _).drew (fun i v w w' h _ hb => rdT_stays i v w w' h hb) ?_ ?_
      · intro k hk a1' wx hFr hC hTk
        have t0 : a1'.eval (.tmp 0) = .slice (some ⟨b, off, none⟩) nl cl := (hFr.same 0 (by decide)).trans rfl
        have t2 : a1'.eval (.tmp 2) = .map (some w.heap.size) := (hFr.same 2 (by decide)).trans rfl
        have t7 : a1'.eval (.tmp 7) = .int .i64 (sz : Int) := (hFr.same 7 (by decide)).trans rfl
        have t8 : a1'.eval (.tmp 8) = .slice a1 n1' c1' := (hFr.same 8 (by decide)).trans rfl
        have hrf : Below wx.heap.size wx wx := Below.refl _ _
        rcases (by omega : k = 0 ∨ k = 1 ∨ k = 2 ∨ k = 3 ∨ k = 4 ∨ k = 5 ∨ k = 6 ∨ k = 7 ∨ k = 8 ∨ k = 9 ∨ k = 10 ∨ k = 11) with rfl | rfl | rfl | rfl | rfl | rfl | rfl | rfl | rfl | rfl | rfl | rfl
        · exact spcS_val (d := 74) rfl (wanted_none rfl) run_move hC hrf t8
        · have hx : a1'.eval (.tmp 74) = .slice a1 n1' c1' := hTk 0 (by decide) (by kernel_rfl)
          have hrx : Reads wx (· < wx.heap.size) (.slice a1 n1' c1') body := (HR1z.out.below hC (fun j hj => hj.1)).mono (fun j hj => Nat.lt_of_lt_of_le hj.1 hC.size)
          refine spcS_call (d := 75) (vs := #[.slice a1 n1' c1']) rfl (wanted_none rfl) (enters_of Tryz.func42 (by kernel_rfl) rfl) (by simp only [List.map_toArray, List.map_cons, List.map_nil, hx]) ((frame_any _ body wx (HTz.out.on hC) hrx (by have := HBL.out; omega)).mono ?_)
          rintro e wy ⟨v, rfl, ho, hb⟩
          exact ⟨v, rfl, hC.trans (hb.mono hC.size), hb, ho.reads.mono (fun j hj => hj.2.1)⟩
        · have hrd : Reads wx (· < wx.heap.size) (a1'.eval (.tmp 75)) (frameB body) := hTk 1 (by decide) (by kernel_rfl)
          have hcv := run_string_of hrd
          exact spcS_val (d := 76) rfl (wanted_none rfl) (by unfold execOp; simp only [hcv, Sem.run_bind, Sem.run_pure, Result.andThen_ok]) hC hrf rfl
        · exact spcS_val (d := 77) rfl (wanted_none rfl) run_move hC hrf t0
        · exact spcS_val (d := 78) rfl (wanted_none rfl) run_move hC hrf t7
        · have hx : a1'.eval (.tmp 78) = .int .i64 (sz : Int) := hTk 4 (by decide) (by kernel_rfl)
          have hw := IntWalk.i64_in (8 + (sz : Int)) (by omega)
          exact spcS_val (d := 79) rfl (wanted_none rfl) (run_addI (i := 8) (j := (sz : Int)) rfl hx hw) hC hrf rfl
        · have hx : a1'.eval (.tmp 77) = .slice (some ⟨b, off, none⟩) nl cl := hTk 3 (by decide) (by kernel_rfl)
          have hy : a1'.eval (.tmp 79) = .int .i64 (8 + (sz : Int)) := hTk 5 (by decide) (by kernel_rfl)
          refine spcS_val (d := 80) rfl (wanted_none rfl) (run_slB (v := .slice a2 n2 c2') ?_) hC hrf rfl
          rw [hx, Option.map_none, Option.map_some, hy]
          rw [run_sliceAt_slice (t := 28) (h := by simp [Program.elem, Tryz.underlying28])]
          exact hs2 wx
        · have hx : a1'.eval (.tmp 80) = .slice a2 n2 c2' := hTk 6 (by decide) (by kernel_rfl)
          have hcv := run_string_of (HR2z.out.below hC (fun j hj => hj.1))
          exact spcS_val (d := 81) rfl (wanted_none rfl) (by unfold execOp; simp only [hx, hcv, Sem.run_bind, Sem.run_pure, Result.andThen_ok]) hC hrf rfl
        · have hx : a1'.eval (.tmp 76) = .string ⟨(frameB body).toArray⟩ := hTk 2 (by decide) (by kernel_rfl)
          have hy : a1'.eval (.tmp 81) = .string ⟨tk.toArray⟩ := hTk 7 (by decide) (by kernel_rfl)
          exact spcS_val (d := 82) rfl (wanted_none rfl) (run_neqS hx hy) hC hrf (show Value.bool _ = Value.bool bad by rw [HBAD.out])
        · have hx : a1'.eval (.tmp 82) = .bool bad := hTk 8 (by decide) (by kernel_rfl)
          exact spcS_val (d := 83) rfl (wanted_none rfl) run_move hC hrf hx
        · have hx : slot a1' 83 = .bool bad := hTk 9 (by decide) (by kernel_rfl)
          cases bad with
          | true => exact spc_not (d := 84) rfl (wanted_off (b := false) rfl rfl hx) hC hrf (fun e => by cases e)
          | false => exact spcS_val (d := 84) rfl (wanted_of (b := false) rfl rfl hx) run_move hC hrf (fun _ => t2)
        · have hx : slot a1' 83 = .bool bad := hTk 9 (by decide) (by kernel_rfl)
          cases bad with
          | true => exact spc_not (d := 85) rfl (wanted_off (b := false) rfl rfl hx) hC hrf (fun e => by cases e)
          | false => exact spcS_val (d := 85) rfl (wanted_of (b := false) rfl rfl hx) run_move hC hrf (fun _ => t8)
      · intro a1' wy ha hC hTk
        have t83 : slot a1' 83 = .bool bad := hTk 9 (by decide)
        have t84 : bad = false → slot a1' 84 = .map (some w.heap.size) := hTk 10 (by decide)
        have t85 : bad = false → slot a1' 85 = .slice a1 n1' c1' := hTk 11 (by decide)
        have hCy : Below wz.heap.size wz wy := hC
        have HCy := Keep.keep hCy
        have HMy : Keep (MapS wy 9 w.heap.size (dgV m)) := ⟨HZ.out.2.m.loc (hCy.block _ HZ.out.2.m.lt)⟩
        have HBy : Keep (Below w.heap.size w wy) := ⟨HZ.out.2.b.trans (hCy.mono HZ.out.2.b.size)⟩
        have HD3 : Keep (Reads wy (fun j => j < wy.heap.size ∧ j ≠ w.heap.size) (.slice a3 n3 c3') (l.drop (8 + sz))) := ⟨(HR3z.out.below hCy (fun j hj => hj.1)).mono (fun j hj => ⟨Nat.lt_of_lt_of_le hj.1 hCy.size, hj.2⟩)⟩
        have HDO : Keep (Calls Tryz.prog 43 #[.map (some w.heap.size), .slice a1 n1' c1'] wy fun e w' => e = .returned (.bool (doesB m body).2) ∧ MapS w' 9 w.heap.size (dgV (doesB m body).1) ∧ Chg (fun j => j = w.heap.size) wy.heap.size wy w') := ⟨does_any w.heap.size m _ body wy HMy.out ((HR1z.out.below hCy (fun j hj => hj.1)).mono (fun j hj => ⟨Nat.lt_of_lt_of_le hj.1 hCy.size, hj.2⟩)) HBL.out (by have := HF.out.2.2; omega)⟩
        simp only [List.foldl_cons, List.foldl_nil, t83] at ha
        cases bad with
        | true =>
          have HE : Keep (R = none) := ⟨by rw [HF5.out, if_pos (.inl (of_decide_eq_true HBAD.out))]⟩
          clear hTk t83 t84 t85 hC hCy HF5 HDO
          generalize slot a1' 74 = x74 at *
          generalize slot a1' 75 = x75 at *
          generalize slot a1' 76 = x76 at *
          generalize slot a1' 77 = x77 at *
          generalize slot a1' 78 = x78 at *
          generalize slot a1' 79 = x79 at *
          generalize slot a1' 80 = x80 at *
          generalize slot a1' 81 = x81 at *
          generalize slot a1' 82 = x82 at *
          generalize slot a1' 84 = x84 at *
          generalize slot a1' 85 = x85 at *
          subst ha
          simp only [Act.put, List.setIfInBounds_toArray, List.set_cons_succ, List.set_cons_zero]
          simp only [List.drop_succ_cons, List.drop_zero]
          go_wp2_with fail
          go_ret3
          rw [HE.out]
          exact ⟨rfl, HBy.out⟩
        | false =>
          have hfb : frameB body = tk := Classical.byContradiction (fun e => by have := of_decide_eq_false HBAD.out; exact this e)
          have HF6 : Keep (R = if (doesB m body).2 = false then none else readF f' (doesB m body).1 (l.drop (8 + sz))) := ⟨by
            rw [HF5.out]
            by_cases hd : (doesB m body).2 = false
            · rw [if_pos (.inr hd), if_pos hd]
            · rw [if_neg (fun e => e.elim (fun e => e hfb) hd), if_neg hd]⟩
          have HLN2 : Keep ((doesB m body).2 = true → (doesB m body).1.length ≤ 64) := ⟨fun e => does_len e HF.out.2.2⟩
          rw [t84 rfl, t85 rfl] at ha
          clear hTk t83 t84 t85 hC hCy HF5 hfb
          generalize slot a1' 74 = x74 at *
          generalize slot a1' 75 = x75 at *
          generalize slot a1' 76 = x76 at *
          generalize slot a1' 77 = x77 at *
          generalize slot a1' 78 = x78 at *
          generalize slot a1' 79 = x79 at *
          generalize slot a1' 80 = x80 at *
          generalize slot a1' 81 = x81 at *
          generalize slot a1' 82 = x82 at *
          generalize doesB m body = dr at *
          obtain ⟨m', fl⟩ := dr
          dsimp only at HDO HF6 HLN2
          subst ha
          simp only [Act.put, List.setIfInBounds_toArray, List.set_cons_succ, List.set_cons_zero]
          simp only [List.drop_succ_cons, List.drop_zero]
          go_wp2_with fail
          refine HDO.out.mono ?_
          rintro e wv ⟨rfl, hm', hch⟩
          have HMv := Keep.keep hm'; have HCv := Keep.keep hch
          have HBv : Keep (Below w.heap.size w wv) := ⟨HBy.out.trans ((hch.lower HBy.out.size).below (fun k hk e => by omega))⟩
          clear hm' hch HDO
          cases fl with
          | false =>
            have HE : Keep (R = none) := ⟨by rw [HF6.out, if_pos rfl]⟩
            clear HF6
            go_wp2_with fail
            go_ret3
            rw [HE.out]
            exact ⟨rfl, HBv.out⟩
          | true =>
            have HE : Keep (R = readF f' m' (l.drop (8 + sz))) := ⟨by rw [HF6.out, if_neg (by decide)]⟩
            have hdl : n3 = (l.drop (8 + sz)).length := HD3.out.len.1
            have hdl2 : n3 + 8 ≤ nl := by rw [hdl, List.length_drop, ← HNL.out]; omega
            have HDL : Keep ((l.drop (8 + sz)).length ≤ f') := ⟨by have := HF.out.2.1; rw [← hdl]; have := HNL.out; omega⟩
            obtain ⟨g', hg'⟩ : ∃ g', gk = g' + 1 := ⟨gk - 1, by omega⟩
            subst hg'
            clear HF6 hdl
            go_wp2_with fail
            go_roundg g'
            case measure => omega
            case rel =>
              exact ⟨rfl, m', l.drop (8 + sz), f', a3, n3, c3', rfl, by omega, by omega, ⟨⟨HMv.out, (HD3.out.chg HCv.out (fun j hj => ⟨hj.1, hj.2⟩)).mono (fun j hj => ⟨Nat.lt_of_lt_of_le hj.1 HCv.out.size, hj.2⟩), HBv.out⟩⟩, ⟨HE.out, HDL.out, by first | exact HLN2.out rfl | exact HLN2.out trivial⟩⟩
end Go.Proofs.YtmkofejijkabnaaGreatDoor
/- A DISK, plainly: calls of other names leave one name's file as it is (DiskSafe, DiskOnce). -/
namespace Go.Proofs.YtmkofejijkabnaaGreatDoor
theorem look_del (F : Fol) (a p : Tx) : SM.look (delF F a) p = if p = a then none else SM.look F p := by
  induction F with
  | nil => simp [delF, SM.look]
  | cons x F ih =>
    unfold delF at ih ⊢
    rw [List.filter_cons]
    by_cases h : x.1 = a
    · rw [if_neg (by simp [h])]
      rw [ih]
      split
      · rfl
      · rename_i hp
        unfold SM.look
        rw [List.find?_cons_of_neg (by simp only [beq_iff_eq]; intro e; exact hp (by rw [← e, h]))]
    · rw [if_pos (by simpa using h)]
      unfold SM.look at ih ⊢
      by_cases hx : x.1 = p
      · rw [List.find?_cons_of_pos (by simpa using hx), List.find?_cons_of_pos (by simpa using hx), if_neg (by rw [← hx]; exact h)]
      · rw [List.find?_cons_of_neg (by simpa using hx), List.find?_cons_of_neg (by simpa using hx)]
        exact ih
theorem mem_del {F : Fol} {a : Tx} {x : Tx × Nat} : x ∈ delF F a ↔ x ∈ F ∧ x.1 ≠ a := by
  unfold delF; rw [List.mem_filter]; simp
theorem srt_del {F : Fol} (h : SM.Srt F) (a : Tx) : SM.Srt (delF F a) := h.filter _
theorem ren_cases (F : Fol) (a b : Tx) : (SM.look F a = none ∧ doD F (.rename a b) = F) ∨ ∃ g, SM.look F a = some g ∧ doD F (.rename a b) = SM.put (delF F a) (b, g) := by
  cases h : SM.look F a with
  | none => exact .inl ⟨rfl, by simp only [doD, h]⟩
  | some g => exact .inr ⟨g, rfl, by simp only [doD, h]⟩
theorem srt_do {F : Fol} (h : SM.Srt F) : ∀ x : DeedS, (∀ G, x = .becomes G → SM.Srt G) → SM.Srt (doD F x)
  | .create n f, _ => h.put _
  | .rename a b, _ => by
    rcases ren_cases F a b with ⟨-, e⟩ | ⟨g, -, e⟩
    · rw [e]; exact h
    · rw [e]; exact (srt_del h a).put _
  | .remove a, _ => srt_del h a
  | .becomes G, hg => hg G rfl
/-- a deed that has to do with other names than m alone, and makes no file f -/
def farD (m : Tx) (f : Nat) : DeedS → Prop
  | .create n k => n ≠ m ∧ k ≠ f
  | .rename a b => a ≠ m ∧ b ≠ m
  | .remove a => a ≠ m
  | .becomes _ => False
/-- the name m leads to the file f, and no other name does -/
structure OneF (m : Tx) (f : Nat) (F : Fol) : Prop where
  s : SM.Srt F
  l : SM.look F m = some f
  u : ∀ x ∈ F, x.2 = f → x.1 = m
theorem OneF.deed {m : Tx} {f : Nat} {F : Fol} (h : OneF m f F) {x : DeedS} (hx : farD m f x) : OneF m f (doD F x) := by
  have hg : ∀ G, x = .becomes G → SM.Srt G := fun G e => by subst e; exact hx.elim
  refine ⟨srt_do h.s x hg, ?_, ?_⟩
  · cases x with
    | create n k =>
      obtain ⟨h1, -⟩ := hx
      simp only [doD]
      rw [h.s.look_put, if_neg (fun e => h1 e.symm), h.l]
    | rename a b =>
      obtain ⟨h1, h2⟩ := hx
      rcases ren_cases F a b with ⟨-, e⟩ | ⟨g, -, e⟩
      · rw [e]; exact h.l
      · rw [e, (srt_del h.s a).look_put, if_neg (fun e => h2 e.symm), look_del, if_neg (fun e => h1 e.symm), h.l]
    | remove a =>
      have h1 : a ≠ m := hx
      simp only [doD]
      rw [look_del, if_neg (fun e => h1 e.symm), h.l]
    | becomes G => exact hx.elim
  · intro y hy he
    cases x with
    | create n k =>
      obtain ⟨-, h1⟩ := hx
      simp only [doD] at hy
      rcases SM.mem_put.1 hy with rfl | ⟨hy, -⟩
      · exact (h1 he).elim
      · exact h.u y hy he
    | rename a b =>
      obtain ⟨h1, h2⟩ := hx
      rcases ren_cases F a b with ⟨-, e⟩ | ⟨g, hl, e⟩
      · rw [e] at hy; exact h.u y hy he
      · rw [e] at hy
        rcases SM.mem_put.1 hy with rfl | ⟨hy, -⟩
        · exact (h1 (h.u (a, g) (SM.look_mem hl) he)).elim
        · exact h.u y (mem_del.1 hy).1 he
    | remove a =>
      simp only [doD] at hy
      exact h.u y (mem_del.1 hy).1 he
    | becomes G => exact hx.elim
theorem OneF.fold {m : Tx} {f : Nat} : ∀ (l : List DeedS) {F : Fol}, OneF m f F → (∀ x ∈ l, farD m f x) → OneF m f (l.foldl doD F)
  | [], _, h, _ => h
  | x :: l, _, h, hx => OneF.fold l (h.deed (hx x List.mem_cons_self)) (fun y hy => hx y (List.mem_cons_of_mem _ hy))
/-- nothing leads to m -/
def NoF (m : Tx) (F : Fol) : Prop := SM.Srt F ∧ SM.look F m = none
theorem NoF.deed {m : Tx} {f : Nat} {F : Fol} (h : NoF m F) {x : DeedS} (hx : farD m f x) : NoF m (doD F x) := by
  have hg : ∀ G, x = .becomes G → SM.Srt G := fun G e => by subst e; exact hx.elim
  refine ⟨srt_do h.1 x hg, ?_⟩
  cases x with
  | create n k =>
    obtain ⟨h1, -⟩ := hx
    simp only [doD]
    rw [h.1.look_put, if_neg (fun e => h1 e.symm), h.2]
  | rename a b =>
    obtain ⟨h1, h2⟩ := hx
    rcases ren_cases F a b with ⟨-, e⟩ | ⟨g, -, e⟩
    · rw [e]; exact h.2
    · rw [e, (srt_del h.1 a).look_put, if_neg (fun e => h2 e.symm), look_del, if_neg (fun e => h1 e.symm), h.2]
  | remove a =>
    have h1 : a ≠ m := hx
    simp only [doD]
    rw [look_del, if_neg (fun e => h1 e.symm), h.2]
  | becomes G => exact hx.elim
theorem NoF.fold {m : Tx} {f : Nat} : ∀ (l : List DeedS) {F : Fol}, NoF m F → (∀ x ∈ l, farD m f x) → NoF m (l.foldl doD F)
  | [], _, h, _ => h
  | x :: l, _, h, hx => NoF.fold l (h.deed (hx x List.mem_cons_self)) (fun y hy => hx y (List.mem_cons_of_mem _ hy))
theorem len_do {F : Fol} (h : SM.Srt F) {x : DeedS} (hx : ∀ G, x ≠ .becomes G) : (doD F x).length ≤ F.length + 1 := by
  have hp : ∀ (G : Fol) m, SM.Srt G → (SM.put G m).length ≤ G.length + 1 := fun G m hs => by
    rw [hs.length_put]; split <;> omega
  cases x with
  | create n k => exact hp F _ h
  | rename a b =>
    rcases ren_cases F a b with ⟨-, e⟩ | ⟨g, -, e⟩
    · rw [e]; exact Nat.le_succ _
    · rw [e]; exact Nat.le_trans (hp _ _ (srt_del h a)) (Nat.succ_le_succ (List.length_filter_le _ _))
  | remove a => exact Nat.le_succ_of_le (List.length_filter_le _ _)
  | becomes G => exact (hx G rfl).elim
/-- a call that goes on: 0, 1 create, 2, 3 append, 4 sync, 5 settle, 6 rename, 7 remove; else nothing -/
structure CallS where
  what : Int
  name : Tx
  to : Tx
  bytes : List UInt8
def doesC (d : DkS) (c : CallS) : Int × DkS :=
  if c.what = 0 ∨ c.what = 1 then d.create c.name else if c.what = 2 ∨ c.what = 3 then d.append c.name (c.bytes.take 100) else if c.what = 4 then d.sync c.name else if c.what = 5 then d.settle else if c.what = 6 then d.rename c.name c.to else if c.what = 7 then d.remove c.name else (0, d)
/-- how a step leaves the power: with no fuse as it was -/
def Pw (d : DkS) (off : Bool) (fuse : Int) : Prop := d.fuse = -1 → off = d.off ∧ fuse = -1
/-- what a call of such names may do to a disk -/
inductive Did (na : Tx → Prop) (d : DkS) : DkS → Prop
  | nothing : Did na d d
  | off : d.fuse = 0 → Did na d { d with off := true }
  | create (nm : Tx) (off : Bool) (fuse : Int) : na nm → Pw d off fuse → Did na d { d with off := off, fuse := fuse, deeds := d.deeds ++ [.create nm d.many], many := d.many + 1, files := setF d.files d.many ⟨[], 0⟩ }
  | rename (a b : Tx) (off : Bool) (fuse : Int) : na a → na b → Pw d off fuse → Did na d { d with off := off, fuse := fuse, deeds := d.deeds ++ [.rename a b] }
  | remove (a : Tx) (off : Bool) (fuse : Int) : na a → Pw d off fuse → Did na d { d with off := off, fuse := fuse, deeds := d.deeds ++ [.remove a] }
  | append (a : Tx) (k : Nat) (b : List UInt8) (off : Bool) (fuse : Int) : na a → b.length ≤ 100 → SM.look d.now a = some k → Pw d off fuse → Did na d { d with off := off, fuse := fuse, files := setF d.files k ⟨(d.files k).bytes ++ b, (d.files k).safe⟩ }
  | sync (a : Tx) (k : Nat) (off : Bool) (fuse : Int) : na a → SM.look d.now a = some k → Pw d off fuse → Did na d { d with off := off, fuse := fuse, files := setF d.files k ⟨(d.files k).bytes, (d.files k).bytes.length⟩ }
  | settle (off : Bool) (fuse : Int) : Pw d off fuse → Did na d { d with off := off, fuse := fuse, settled := d.now, deeds := [] }
theorem step_did {na : Tx → Prop} {d : DkS} {f : DkS → DkS} (h : ∀ off fuse, Pw d off fuse → Did na d (f { d with off := off, fuse := fuse })) : Did na d (d.step f).2 := by
  unfold DkS.step
  split
  · exact h d.off (max (d.fuse - 1) (-1)) (fun e => ⟨rfl, by rw [e]; rfl⟩)
  · rename_i h0
    have h0 : d.fuse = 0 := by simpa using h0
    show Did na d (if d.done = true then f { d with off := true } else { d with off := true })
    split
    · exact h true d.fuse (fun e => by omega)
    · exact .off h0
theorem find_some {d : DkS} {a : Tx} {k : Nat} {e : Int} (h : d.find a = (some k, e)) : SM.look d.now a = some k ∧ e = 0 := by
  unfold DkS.find at h
  split at h
  · cases h
  · split at h
    · rename_i hl
      injection h with h1 h2
      injection h1 with h1
      subst h1
      exact ⟨hl, h2.symm⟩
    · cases h
theorem does_did (d : DkS) (c : CallS) : Did (fun n => n = c.name ∨ n = c.to) d (doesC d c).2 := by
  unfold doesC
  split
  · unfold DkS.create
    split
    · exact .nothing
    · split
      · exact .nothing
      · split
        · exact .nothing
        · exact step_did (fun off fuse hp => .create c.name off fuse (.inl rfl) hp)
  · split
    · unfold DkS.append
      split
      · rename_i k e hf
        split
        · exact .nothing
        · exact step_did (fun off fuse hp => .append c.name k _ off fuse (.inl rfl) (by rw [List.length_take]; omega) (find_some hf).1 hp)
      · exact .nothing
    · split
      · unfold DkS.sync
        split
        · rename_i k e hf
          exact step_did (fun off fuse hp => .sync c.name k off fuse (.inl rfl) (find_some hf).1 hp)
        · exact .nothing
      · split
        · unfold DkS.settle
          split
          · exact .nothing
          · exact step_did (fun off fuse hp => .settle off fuse hp)
        · split
          · unfold DkS.rename
            split
            · exact .nothing
            · split
              · exact step_did (fun off fuse hp => .rename c.name c.to off fuse (.inl rfl) (.inr rfl) hp)
              · exact .nothing
          · split
            · unfold DkS.remove
              split
              · exact step_did (fun off fuse hp => .remove c.name off fuse (.inl rfl) hp)
              · exact .nothing
            · exact .nothing
/-- the name m leads to the file f, settled; nothing since has to do with it -/
structure Far (m : Tx) (f : Nat) (v : FileS) (d : DkS) : Prop where
  o : OneF m f d.settled
  x : ∀ y ∈ d.deeds, farD m f y
  n : f < d.many
  v : d.files f = v
theorem Far.now {m : Tx} {f : Nat} {v : FileS} {d : DkS} (h : Far m f v d) : OneF m f d.now := h.o.fold _ h.x
theorem Far.after {m : Tx} {f : Nat} {v : FileS} {d : DkS} (h : Far m f v d) (i : Nat) : OneF m f (d.after i) := h.o.fold _ (fun y hy => h.x y (List.mem_of_mem_take hy))
theorem Far.did {na : Tx → Prop} {m : Tx} {f : Nat} {v : FileS} {d d' : DkS} (h : Far m f v d) (hd : Did na d d') (hn : ∀ n, na n → n ≠ m) : Far m f v d' := by
  have hnow := h.now
  cases hd with
  | nothing => exact h
  | off _ => exact ⟨h.o, h.x, h.n, h.v⟩
  | create nm off fuse h1 _ =>
    refine ⟨h.o, fun y hy => ?_, Nat.lt_succ_of_lt h.n, ?_⟩
    · rcases List.mem_append.1 hy with hy | hy
      · exact h.x y hy
      · obtain rfl := List.mem_singleton.1 hy
        exact ⟨hn _ h1, by have := h.n; omega⟩
    · show (if f = d.many then _ else d.files f) = v
      rw [if_neg (by have := h.n; omega)]; exact h.v
  | rename a b off fuse h1 h2 _ =>
    refine ⟨h.o, fun y hy => ?_, h.n, h.v⟩
    rcases List.mem_append.1 hy with hy | hy
    · exact h.x y hy
    · obtain rfl := List.mem_singleton.1 hy
      exact ⟨hn _ h1, hn _ h2⟩
  | remove a off fuse h1 _ =>
    refine ⟨h.o, fun y hy => ?_, h.n, h.v⟩
    rcases List.mem_append.1 hy with hy | hy
    · exact h.x y hy
    · obtain rfl := List.mem_singleton.1 hy
      exact hn _ h1
  | append a k b off fuse h1 h2 h3 _ =>
    refine ⟨h.o, h.x, h.n, ?_⟩
    show (if f = k then _ else d.files f) = v
    rw [if_neg (fun e => hn _ h1 (hnow.u (a, k) (SM.look_mem h3) e.symm))]; exact h.v
  | sync a k off fuse h1 h3 _ =>
    refine ⟨h.o, h.x, h.n, ?_⟩
    show (if f = k then _ else d.files f) = v
    rw [if_neg (fun e => hn _ h1 (hnow.u (a, k) (SM.look_mem h3) e.symm))]; exact h.v
  | settle off fuse _ => exact ⟨hnow, fun y hy => (List.not_mem_nil hy).elim, h.n, h.v⟩
/-- a disk of which nothing goes by the name m; behind so many calls -/
structure Pre (m : Tx) (n : Nat) (d : DkS) : Prop where
  off : d.off = false
  fuse : d.fuse = -1
  q : d.quota = 268435456
  no : NoF m d.settled
  x : ∀ y ∈ d.deeds, ∀ f, d.many ≤ f → farD m f y
  num : ∀ y ∈ d.settled, y.2 < d.many
  len : d.now.length ≤ n
  sz : ∀ k, (d.files k).bytes.length ≤ 100 * n
theorem Pre.start (m : Tx) : Pre m 0 (newDk 268435456) := ⟨rfl, rfl, rfl, ⟨SM.Srt.nil, rfl⟩, fun _ h => (List.not_mem_nil h).elim, fun _ h => (List.not_mem_nil h).elim, Nat.le_refl _, fun _ => Nat.le_refl _⟩
theorem Pre.now {m : Tx} {n : Nat} {d : DkS} (h : Pre m n d) : NoF m d.now := h.no.fold (f := d.many) _ (fun y hy => h.x y hy _ (Nat.le_refl _))
theorem num_do {m : Tx} {F : Fol} {M : Nat} (h : ∀ y ∈ F, y.2 < M) {x : DeedS} (hx : ∀ f, M ≤ f → farD m f x) (hc : ∀ nm k, x = .create nm k → k < M) : ∀ y ∈ doD F x, y.2 < M := by
  intro y hy
  cases x with
  | create nm k =>
    simp only [doD] at hy
    rcases SM.mem_put.1 hy with rfl | ⟨hy, -⟩
    · exact hc nm k rfl
    · exact h y hy
  | rename a b =>
    rcases ren_cases F a b with ⟨-, e⟩ | ⟨g, hl, e⟩
    · rw [e] at hy; exact h y hy
    · rw [e] at hy
      rcases SM.mem_put.1 hy with rfl | ⟨hy, -⟩
      · exact h (a, g) (SM.look_mem hl)
      · exact h y (mem_del.1 hy).1
  | remove a => simp only [doD] at hy; exact h y (mem_del.1 hy).1
  | becomes G => exact (hx M (Nat.le_refl _)).elim
theorem num_fold {m : Tx} {M : Nat} : ∀ (l : List DeedS) {F : Fol}, (∀ y ∈ F, y.2 < M) → (∀ x ∈ l, ∀ f, M ≤ f → farD m f x) → ∀ y ∈ l.foldl doD F, y.2 < M
  | [], _, h, _ => h
  | x :: l, _, h, hx => num_fold l (num_do (m := m) h (hx x List.mem_cons_self) (fun nm k e => by
      have := hx x List.mem_cons_self
      rw [e] at this
      rcases Nat.lt_or_ge k M with hk | hk
      · exact hk
      · exact ((this k hk).2 rfl).elim)) (fun y hy => hx y (List.mem_cons_of_mem _ hy))
theorem now_snoc {d d' : DkS} {x : DeedS} (h1 : d'.settled = d.settled) (h2 : d'.deeds = d.deeds ++ [x]) : d'.now = doD d.now x := by
  unfold DkS.now; rw [h1, h2, List.foldl_append]; rfl
theorem Pre.did {na : Tx → Prop} {m : Tx} {n : Nat} {d d' : DkS} (h : Pre m n d) (hd : Did na d d') (hn : ∀ x, na x → x ≠ m) : Pre m (n + 1) d' := by
  have hnow := h.now
  have hnum : ∀ y ∈ d.now, y.2 < d.many := num_fold (m := m) _ h.num h.x
  have hsz : ∀ k, (d.files k).bytes.length ≤ 100 * (n + 1) := fun k => by have := h.sz k; omega
  have hset : ∀ (k : Nat) (v : FileS), v.bytes.length ≤ 100 * (n + 1) → ∀ j, (setF d.files k v j).bytes.length ≤ 100 * (n + 1) := fun k v hv j => by
    unfold setF
    split
    · exact hv
    · exact hsz j
  cases hd with
  | nothing => exact ⟨h.off, h.fuse, h.q, h.no, h.x, h.num, Nat.le_succ_of_le h.len, hsz⟩
  | off e => have := h.fuse; omega
  | create nm off fuse h1 hp =>
    obtain ⟨e1, e2⟩ := hp h.fuse
    refine ⟨by rw [← h.off]; exact e1, e2, h.q, h.no, fun y hy f hf => ?_, fun y hy => Nat.lt_succ_of_lt (h.num y hy), ?_, hset _ _ (Nat.zero_le _)⟩
    · rcases List.mem_append.1 hy with hy | hy
      · exact h.x y hy f (by have : d.many + 1 ≤ f := hf; omega)
      · obtain rfl := List.mem_singleton.1 hy
        exact ⟨hn _ h1, by have : d.many + 1 ≤ f := hf; omega⟩
    · exact Nat.le_trans (Nat.le_of_eq (congrArg List.length (now_snoc (d := d) (x := .create nm d.many) (by rfl) (by rfl)))) (Nat.le_trans (len_do hnow.1 (fun G e => by cases e)) (Nat.succ_le_succ h.len))
  | rename a b off fuse h1 h2 hp =>
    obtain ⟨e1, e2⟩ := hp h.fuse
    refine ⟨by rw [← h.off]; exact e1, e2, h.q, h.no, fun y hy f hf => ?_, h.num, ?_, hsz⟩
    · rcases List.mem_append.1 hy with hy | hy
      · exact h.x y hy f hf
      · obtain rfl := List.mem_singleton.1 hy
        exact ⟨hn _ h1, hn _ h2⟩
    · exact Nat.le_trans (Nat.le_of_eq (congrArg List.length (now_snoc (d := d) (x := .rename a b) (by rfl) (by rfl)))) (Nat.le_trans (len_do hnow.1 (fun G e => by cases e)) (Nat.succ_le_succ h.len))
  | remove a off fuse h1 hp =>
    obtain ⟨e1, e2⟩ := hp h.fuse
    refine ⟨by rw [← h.off]; exact e1, e2, h.q, h.no, fun y hy f hf => ?_, h.num, ?_, hsz⟩
    · rcases List.mem_append.1 hy with hy | hy
      · exact h.x y hy f hf
      · obtain rfl := List.mem_singleton.1 hy
        exact hn _ h1
    · exact Nat.le_trans (Nat.le_of_eq (congrArg List.length (now_snoc (d := d) (x := .remove a) (by rfl) (by rfl)))) (Nat.le_trans (len_do hnow.1 (fun G e => by cases e)) (Nat.succ_le_succ h.len))
  | append a k b off fuse h1 h2 h3 hp =>
    obtain ⟨e1, e2⟩ := hp h.fuse
    refine ⟨by rw [← h.off]; exact e1, e2, h.q, h.no, h.x, h.num, Nat.le_succ_of_le h.len, hset _ _ ?_⟩
    rw [List.length_append]
    have := h.sz k
    omega
  | sync a k off fuse h1 h3 hp =>
    obtain ⟨e1, e2⟩ := hp h.fuse
    exact ⟨by rw [← h.off]; exact e1, e2, h.q, h.no, h.x, h.num, Nat.le_succ_of_le h.len, hset _ _ (hsz k)⟩
  | settle off fuse hp =>
    obtain ⟨e1, e2⟩ := hp h.fuse
    exact ⟨by rw [← h.off]; exact e1, e2, h.q, hnow, fun _ h => (List.not_mem_nil h).elim, hnum, Nat.le_succ_of_le h.len, hsz⟩
end Go.Proofs.YtmkofejijkabnaaGreatDoor
/- A DISK, plainly: a crash; DiskSafe. -/
namespace Go.Proofs.YtmkofejijkabnaaGreatDoor
theorem pick_le (ps : List Int) (m : Nat) : (pick ps m).1 ≤ m := by
  unfold pick
  split
  · exact Nat.zero_le _
  · rename_i p r
    have h1 := Int.emod_nonneg p (show (m : Int) + 1 ≠ 0 by omega)
    have h2 := Int.emod_lt_of_pos p (show 0 < (m : Int) + 1 by omega)
    show (p % ((m : Int) + 1)).toNat ≤ m
    omega
/-- what a crash makes of a file: a beginning of it, safe -/
structure CutTo (v u : FileS) : Prop where
  ex : ∃ n, min v.safe v.bytes.length ≤ n ∧ n ≤ v.bytes.length ∧ u.bytes = v.bytes.take n ∧ u.safe = (if v.safe < v.bytes.length then n else v.safe) ∧ (v.bytes.length ≤ v.safe → n = v.bytes.length)
theorem cut_self {fs : Nat → FileS} {ps : List Int} {k : Nat} : CutTo (fs k) ((cutFile fs ps k).1 k) := by
  unfold cutFile
  split
  · rename_i h
    have hp := pick_le ps ((fs k).bytes.length - (fs k).safe)
    refine ⟨⟨(fs k).safe + (pick ps ((fs k).bytes.length - (fs k).safe)).1, by omega, by omega, ?_, ?_, fun hl => by omega⟩⟩
    · simp [setF]
    · simp [setF, h]
  · rename_i h
    exact ⟨⟨(fs k).bytes.length, by omega, Nat.le_refl _, by rw [List.take_length], by rw [if_neg h], fun _ => rfl⟩⟩
theorem cut_other {fs : Nat → FileS} {ps : List Int} {k j : Nat} (h : j ≠ k) : (cutFile fs ps k).1 j = fs j := by
  unfold cutFile
  split
  · simp [setF, h]
  · rfl
/-- a file that is safe is left as it is -/
theorem cut_safe {fs : Nat → FileS} {ps : List Int} {k j : Nat} (h : (fs j).bytes.length ≤ (fs j).safe) : (cutFile fs ps k).1 j = fs j := by
  by_cases e : j = k
  · subst e
    unfold cutFile
    rw [if_neg (by omega)]
  · exact cut_other e
theorem cutAll_safe : ∀ (l : List Nat) (fs : Nat → FileS) (ps : List Int) (j : Nat), (fs j).bytes.length ≤ (fs j).safe → (cutAll fs ps l).1 j = fs j
  | [], _, _, _, _ => rfl
  | k :: l, fs, ps, j, h => by
    have h1 := cut_safe (ps := ps) (k := k) h
    show (cutAll (cutFile fs ps k).1 (cutFile fs ps k).2 l).1 j = fs j
    rw [cutAll_safe l _ _ j (by rw [h1]; exact h), h1]
theorem CutTo.safe {v u : FileS} (h : CutTo v u) : u.bytes.length ≤ u.safe := by
  obtain ⟨n, h1, h2, h3, h4, h5⟩ := h.ex
  rw [h3, h4, List.length_take]
  split <;> omega
theorem cutAll_mem : ∀ (l : List Nat) (fs : Nat → FileS) (ps : List Int) (j : Nat), j ∈ l → CutTo (fs j) ((cutAll fs ps l).1 j)
  | [], _, _, _, h => (List.not_mem_nil h).elim
  | k :: l, fs, ps, j, h => by
    show CutTo (fs j) ((cutAll (cutFile fs ps k).1 (cutFile fs ps k).2 l).1 j)
    by_cases e : j = k
    · subst e
      have h1 : CutTo (fs j) ((cutFile fs ps j).1 j) := cut_self
      rw [cutAll_safe l _ _ j h1.safe]
      exact h1
    · have h1 : (cutFile fs ps k).1 j = fs j := cut_other e
      have := cutAll_mem l (cutFile fs ps k).1 (cutFile fs ps k).2 j ((List.mem_cons.1 h).resolve_left e)
      rw [h1] at this
      exact this
theorem mem_all {d : DkS} {k : Nat} (hk : k < d.many) {i : Nat} (hi : i ≤ d.deeds.length) {x : Tx × Nat} (hx : x ∈ d.after i) (he : x.2 = k) : k ∈ d.all := by
  unfold DkS.all
  refine List.mem_filter.2 ⟨List.mem_range.2 hk, ?_⟩
  unfold DkS.mayBe
  exact List.any_eq_true.2 ⟨i, List.mem_range.2 (Nat.lt_succ_of_le hi), List.any_eq_true.2 ⟨x, hx, by simpa using he⟩⟩
/-- behind a crash nothing is loose -/
theorem crash_loose {d : DkS} {ps : List Int} (h : ps.any (fun p => decide (p < 0)) = false) : (d.crash ps).2.deeds = [] ∧ (d.crash ps).2.loose = 0 := by
  unfold DkS.crash
  rw [if_neg (by rw [h]; decide)]
  refine ⟨rfl, ?_⟩
  unfold DkS.loose
  rw [show ∀ l : List Nat, l.sum = 0 ↔ ∀ x ∈ l, x = 0 from fun l => by
    induction l with
    | nil => simp
    | cons a l ih => simp [ih]]
  intro x hx
  obtain ⟨k, hk, rfl⟩ := List.mem_map.1 hx
  obtain ⟨h1, h2⟩ := List.mem_filter.1 hk
  have h1 : k < d.many := List.mem_range.1 h1
  obtain ⟨i, -, h3⟩ := List.any_eq_true.1 h2
  obtain ⟨y, hy, he⟩ := List.any_eq_true.1 h3
  have he : y.2 = k := by simpa using he
  have hy : y ∈ d.after (pick ps d.deeds.length).1 := by
    have : ∀ n, ((([] : List DeedS).take n).foldl doD (d.after (pick ps d.deeds.length).1)) = d.after (pick ps d.deeds.length).1 := fun n => by rw [List.take_nil]; rfl
    have hy' := hy
    unfold DkS.after at hy'
    rw [List.take_nil] at hy'
    exact hy'
  have hm := cutAll_mem d.all d.files (pick ps d.deeds.length).2 k (mem_all h1 (pick_le _ _) hy he)
  have := hm.safe
  show ((cutAll d.files (pick ps d.deeds.length).2 d.all).1 k).bytes.length - ((cutAll d.files (pick ps d.deeds.length).2 d.all).1 k).safe = 0
  omega
/-- behind a crash a file that nothing touched is there, and begins with what was safe -/
theorem crash_far {m : Tx} {f : Nat} {v : FileS} {d : DkS} (h : Far m f v d) {ps : List Int} (hp : ps.any (fun p => decide (p < 0)) = false) :
    (d.crash ps).1 = 0 ∧ (d.crash ps).2.off = false ∧ OneF m f (d.crash ps).2.settled ∧ CutTo v ((d.crash ps).2.files f) := by
  unfold DkS.crash
  rw [if_neg (by rw [hp]; decide)]
  refine ⟨rfl, rfl, h.after _, ?_⟩
  have := cutAll_mem d.all d.files (pick ps d.deeds.length).2 f (mem_all h.n (Nat.zero_le _) (x := (m, f)) (SM.look_mem (h.after 0).l) rfl)
  rw [h.v] at this
  exact this
theorem asks_one {d : DkS} {m : Tx} (ho : d.off = false) (hm : nameP m = true) : d.asks [m] = 0 := by
  unfold DkS.asks
  rw [ho]
  simp [hm]
theorem find_of {d : DkS} {m : Tx} {f : Nat} (ho : d.off = false) (hm : nameP m = true) (h : SM.look d.now m = some f) : d.find m = (some f, 0) := by
  unfold DkS.find
  rw [asks_one ho hm, if_neg (by decide), h]
theorem find_none {d : DkS} {m : Tx} (ho : d.off = false) (hm : nameP m = true) (h : SM.look d.now m = none) : d.find m = (none, 6) := by
  unfold DkS.find
  rw [asks_one ho hm, if_neg (by decide), h]
/-- what is read behind the crash -/
theorem crash_read {m : Tx} {f : Nat} {v : FileS} {d : DkS} (h : Far m f v d) (hm : nameP m = true) {ps : List Int} (hp : ps.any (fun p => decide (p < 0)) = false) :
    ∃ n, min v.safe v.bytes.length ≤ n ∧ n ≤ v.bytes.length ∧ (v.bytes.length ≤ v.safe → n = v.bytes.length) ∧ (d.crash ps).2.size m = ((n : Int), 0) ∧ (d.crash ps).2.read m 0 n = (v.bytes.take n, 0) := by
  obtain ⟨-, ho, h1, h2⟩ := crash_far h hp
  obtain ⟨n, g1, g2, g3, -, g5⟩ := h2.ex
  have hd := (crash_loose (d := d) hp).1
  have hn : SM.look (d.crash ps).2.now m = some f := by
    unfold DkS.now
    rw [hd]
    exact h1.l
  have hf := find_of ho hm hn
  refine ⟨n, g1, g2, g5, ?_, ?_⟩
  · unfold DkS.size
    rw [hf]
    show ((((d.crash ps).2.files f).bytes.length : Int), (0 : Int)) = _
    rw [g3, List.length_take, Nat.min_eq_left g2]
  · unfold DkS.read
    rw [hf]
    show (if (0 : Int) < 0 ∨ (n : Int) < 0 ∨ ((((d.crash ps).2.files f).bytes.length : Nat) : Int) < (n : Int) then _ else ((((d.crash ps).2.files f).bytes.take (n : Int).toNat).drop (0 : Int).toNat, (0 : Int))) = _
    have hl : ((d.crash ps).2.files f).bytes.length = n := by rw [g3, List.length_take, Nat.min_eq_left g2]
    rw [if_neg (by rw [hl]; omega), g3]
    simp [List.take_take]
end Go.Proofs.YtmkofejijkabnaaGreatDoor
/- A DISK, plainly: a file of one's own is made, synced and settled. -/
namespace Go.Proofs.YtmkofejijkabnaaGreatDoor
theorem step_on {d : DkS} (h : d.fuse = -1) (f : DkS → DkS) : d.step f = (0, f d) := by
  unfold DkS.step
  rw [if_pos (by rw [h]; decide)]
  obtain ⟨a1, a2, a3, a4, a5, a6, a7, a8⟩ := d
  dsimp only at h
  subst h
  rfl
theorem used_le {F : Fol} {fs : Nat → FileS} {b : Nat} (h : ∀ k, (fs k).bytes.length ≤ b) : ((F.map fun x => (fs x.2).bytes.length).sum) ≤ F.length * b := by
  induction F with
  | nil => simp
  | cons x F ih =>
    rw [List.map_cons, List.sum_cons, List.length_cons, Nat.succ_mul]
    have := h x.2
    omega
theorem setF_same (fs : Nat → FileS) (k : Nat) (v : FileS) : setF fs k v k = v := by simp [setF]
theorem setF_twice (fs : Nat → FileS) (k : Nat) (u v : FileS) : setF (setF fs k u) k v = setF fs k v := by
  funext j; unfold setF; split <;> rfl
theorem mine_made {m : Tx} {n : Nat} {d : DkS} (h : Pre m n d) (hn : n ≤ 40) (hm : nameP m = true) (s b : List UInt8) (hs : s.length ≤ 50) (hb : b.length ≤ 50) :
    ∃ d1 d2 d3 d4 d5, d.create m = (0, d1) ∧ d1.append m s = (0, d2) ∧ d2.sync m = (0, d3) ∧ d3.settle = (0, d4) ∧ d4.append m b = (0, d5) ∧ Far m d.many ⟨s ++ b, s.length⟩ d5 ∧ d5.off = false := by
  have hnow := h.now
  have hnum : ∀ y ∈ d.now, y.2 < d.many := num_fold (m := m) _ h.num h.x
  obtain ⟨F, hF⟩ : ∃ F, SM.put d.now (m, d.many) = F := ⟨_, rfl⟩
  have hO : OneF m d.many F := by
    rw [← hF]
    refine ⟨hnow.1.put _, by rw [hnow.1.look_put, if_pos rfl], fun x hx he => ?_⟩
    rcases SM.mem_put.1 hx with rfl | ⟨hx, -⟩
    · rfl
    · have := hnum x hx; omega
  have hFl : F.length ≤ 41 := by
    rw [← hF, hnow.1.length_put]
    have := h.len
    split <;> omega
  obtain ⟨off, fuse, q, fs, many, set, deeds, done⟩ : ∃ a b c e f g i j, (a, b, c, e, f, g, i, j) = (d.off, d.fuse, d.quota, d.files, d.many, d.settled, d.deeds, d.done) := ⟨_, _, _, _, _, _, _, _, rfl⟩
  have hsz := h.sz
  have hf0 := h.fuse
  have ho := h.off
  have hq := h.q
  have hx1 : d.create m = (0, { d with deeds := d.deeds ++ [.create m d.many], many := d.many + 1, files := setF d.files d.many ⟨[], 0⟩ }) := by
    unfold DkS.create
    rw [find_none ho hm hnow.2]
    show (if (6 : Int) ≠ 6 then _ else if 8192 ≤ d.now.length then _ else _) = _
    rw [if_neg (by decide), if_neg (by have := h.len; omega), step_on hf0]
  have hN1 : ({ d with deeds := d.deeds ++ [.create m d.many], many := d.many + 1, files := setF d.files d.many ⟨[], 0⟩ } : DkS).now = F := by
    rw [← hF]
    exact now_snoc (d := d) (x := .create m d.many) (by rfl) (by rfl)
  generalize hd1 : ({ d with deeds := d.deeds ++ [.create m d.many], many := d.many + 1, files := setF d.files d.many ⟨[], 0⟩ } : DkS) = d1 at *
  have e1 : d1.off = false ∧ d1.fuse = -1 ∧ d1.quota = 268435456 ∧ d1.files = setF d.files d.many ⟨[], 0⟩ ∧ d1.many = d.many + 1 := by
    rw [← hd1]; exact ⟨ho, hf0, hq, rfl, rfl⟩
  have app : ∀ (x : DkS) (v : FileS) (b : List UInt8), x.off = false → x.fuse = -1 → x.quota = 268435456 → x.now = F → x.files = setF d.files d.many v → v.bytes.length ≤ 100 → b.length ≤ 50 → x.append m b = (0, { x with files := setF d.files d.many ⟨v.bytes ++ b, v.safe⟩ }) := by
    intro x v b g1 g2 g3 g4 g5 g6 g7
    unfold DkS.append
    rw [find_of g1 hm (by rw [g4]; exact hO.l)]
    have hu : x.used ≤ 41 * 4100 := by
      unfold DkS.used
      refine Nat.le_trans (used_le (b := 4100) (fun k => ?_)) (Nat.mul_le_mul_right _ (by rw [g4]; exact hFl))
      rw [g5]
      unfold setF
      split
      · omega
      · have := hsz k; omega
    show (if x.quota - (x.used : Int) < (b.length : Int) then _ else _) = _
    rw [if_neg (by rw [g3]; omega), step_on g2]
    show ((0 : Int), x.setFile d.many ⟨(x.files d.many).bytes ++ b, (x.files d.many).safe⟩) = _
    unfold DkS.setFile
    rw [g5, setF_same, setF_twice]
  have hx2 := app d1 ⟨[], 0⟩ s e1.1 e1.2.1 e1.2.2.1 hN1 e1.2.2.2.1 (by simp) hs
  generalize hd2 : ({ d1 with files := setF d.files d.many ⟨[] ++ s, 0⟩ } : DkS) = d2 at *
  have e2 : d2.off = false ∧ d2.fuse = -1 ∧ d2.quota = 268435456 ∧ d2.files = setF d.files d.many ⟨s, 0⟩ ∧ d2.many = d.many + 1 ∧ d2.now = F := by
    rw [← hd2]; exact ⟨e1.1, e1.2.1, e1.2.2.1, rfl, e1.2.2.2.2, hN1⟩
  have hx3 : d2.sync m = (0, { d2 with files := setF d.files d.many ⟨s, s.length⟩ }) := by
    unfold DkS.sync
    rw [find_of e2.1 hm (by rw [e2.2.2.2.2.2]; exact hO.l)]
    show d2.step _ = _
    rw [step_on e2.2.1]
    unfold DkS.setFile
    rw [e2.2.2.2.1, setF_same, setF_twice]
  generalize hd3 : ({ d2 with files := setF d.files d.many ⟨s, s.length⟩ } : DkS) = d3 at *
  have e3 : d3.off = false ∧ d3.fuse = -1 ∧ d3.quota = 268435456 ∧ d3.files = setF d.files d.many ⟨s, s.length⟩ ∧ d3.many = d.many + 1 ∧ d3.now = F := by
    rw [← hd3]; exact ⟨e2.1, e2.2.1, e2.2.2.1, rfl, e2.2.2.2.2.1, e2.2.2.2.2.2⟩
  have hx4 : d3.settle = (0, { d3 with settled := F, deeds := [] }) := by
    unfold DkS.settle
    rw [if_neg (by unfold DkS.asks; rw [e3.1]; simp), step_on e3.2.1, e3.2.2.2.2.2]
  generalize hd4 : ({ d3 with settled := F, deeds := [] } : DkS) = d4 at *
  have e4 : d4.off = false ∧ d4.fuse = -1 ∧ d4.quota = 268435456 ∧ d4.files = setF d.files d.many ⟨s, s.length⟩ ∧ d4.many = d.many + 1 ∧ d4.settled = F ∧ d4.deeds = [] := by
    rw [← hd4]; exact ⟨e3.1, e3.2.1, e3.2.2.1, e3.2.2.2.1, e3.2.2.2.2.1, rfl, rfl⟩
  have hN4 : d4.now = F := by unfold DkS.now; rw [e4.2.2.2.2.2.2, e4.2.2.2.2.2.1]; rfl
  have hx5 := app d4 ⟨s, s.length⟩ b e4.1 e4.2.1 e4.2.2.1 hN4 e4.2.2.2.1 (by show s.length ≤ 100; omega) hb
  refine ⟨d1, d2, d3, d4, _, hx1, hx2, hx3, hx4, hx5, ⟨?_, ?_, ?_, ?_⟩, e4.1⟩
  · show OneF m d.many d4.settled
    rw [e4.2.2.2.2.2.1]; exact hO
  · show ∀ y ∈ d4.deeds, _
    rw [e4.2.2.2.2.2.2]; exact fun _ h => (List.not_mem_nil h).elim
  · show d.many < d4.many
    rw [e4.2.2.2.2.1]; exact Nat.lt_succ_self _
  · exact setF_same _ _ _
theorem Far.fuse {m : Tx} {f : Nat} {v : FileS} {d : DkS} (h : Far m f v d) (n : Int) (b : Bool) : Far m f v (d.setFuse n b).2 := by
  unfold DkS.setFuse
  split
  · exact h
  · exact ⟨h.o, h.x, h.n, h.v⟩
theorem Far.does {m : Tx} {f : Nat} {v : FileS} {d : DkS} (h : Far m f v d) (c : CallS) (h1 : c.name ≠ m) (h2 : c.to ≠ m) : Far m f v (doesC d c).2 :=
  h.did (does_did d c) (fun n hn => by rcases hn with rfl | rfl <;> assumption)
theorem Pre.does {m : Tx} {n : Nat} {d : DkS} (h : Pre m n d) (c : CallS) (h1 : c.name ≠ m) (h2 : c.to ≠ m) : Pre m (n + 1) (doesC d c).2 :=
  h.did (does_did d c) (fun n hn => by rcases hn with rfl | rfl <;> assumption)
end Go.Proofs.YtmkofejijkabnaaGreatDoor
