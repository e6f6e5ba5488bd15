/- bytes.Repeat. -/
import Derived.Test.YtohballfhhndbaaDoorBytes
import Derived.Test.YtohballfhhndbaaDoorQCls
import Derived.Lib.MakeNoZero
import Derived.Lib.Repeat
import Derived.Laws.Externs
namespace Go.Proofs.YtohballfhhndbaaDoor
open Go.RowKit
/-- ARM: copy into a row that is known, from wherever -/
theorem arm_copyInto {P : Program} {ops : Array Oper} {rest : List Oper} {a : Act} {w : World} {Q : Exit → Act → World → Prop} {b sb off soff dLen dCap sLen sCap : Nat} {e elem dT sT tp : TypeId} {c : Array Value} {dst : Option Tmp} {d s : Operand} {pos : String} {after : Array Edge}
    (hrow : Row w b e c) (cs : List Value) (c' : Array Value) (hu : P.underlying dT = some (.slice elem)) (hsz : (P.info? elem).map (·.size) = some 1)
    (hd : a.eval d = .slice (some ⟨b, off, none⟩) dLen dCap) (hsv : a.eval s = .slice (some ⟨sb, soff, none⟩) sLen sCap) (hn : cs.length = Nat.min sLen dLen)
    (hsrc : ∀ j v, cs[j]? = some v → w.cell? ⟨sb, soff + j, none⟩ = some v) (hfit : off + cs.length ≤ c.size) (h1 : ∀ v ∈ cs, v.oneCell' = true) (hc : c' = (c.toList.take off ++ (cs ++ c.toList.drop (off + cs.length))).toArray)
    (h : wpList P ops Q rest (a.put dst (goInt cs.length)) (w.setRow b c')) : wpList P ops Q (⟨dst, .call ⟨.builtin .copy, #[d, s], #[dT, sT]⟩, tp, pos, after, none⟩ :: rest) a w := by
  subst hc
  refine wpList_copy_own rfl d s dT sT rfl elem hu hsz b off dLen dCap ⟨sb, soff, none⟩ sLen sCap hd hsv c e hrow cs hn (fun j v hv => ?_) hfit h1 h
  rw [Addr.add_mid]; exact hsrc j v hv
theorem step_copyInto {P : Program} {ops : Array Oper} {o : Oper} {a : Act} {w : World} {K : Act → World → Prop} {Q : Exit → Act → World → Prop} {E : Prop} {b sb off soff dLen dCap sLen sCap : Nat} {e elem dT sT : TypeId} {c : Array Value} (hgd : o.guard = none) (d s : Operand)
    (ho : o.op = .call { callee := .builtin .copy, args := #[d, s], argTypes := #[dT, sT] })
    (hrow : Row w b e c) (cs : List Value) (c' : Array Value) (hu : P.underlying dT = some (.slice elem)) (hsz : (P.info? elem).map (·.size) = some 1)
    (hd : a.eval d = .slice (some ⟨b, off, none⟩) dLen dCap) (hsv : a.eval s = .slice (some ⟨sb, soff, none⟩) sLen sCap) (hn : cs.length = Nat.min sLen dLen)
    (hsrc : ∀ j v, cs[j]? = some v → w.cell? ⟨sb, soff + j, none⟩ = some v) (hfit : off + cs.length ≤ c.size) (h1 : ∀ v ∈ cs, v.oneCell' = true) (hc : c' = (c.toList.take off ++ (cs ++ c.toList.drop (off + cs.length))).toArray)
    (h : K (a.put o.dst (goInt cs.length)) (w.setRow b c')) : if Region.wanted o (yielded ops a.tmps) = true then Oper.wp P o a w K Q else E := by
  have hw : Region.wanted o (yielded ops a.tmps) = true := by simp [Region.wanted, hgd]
  rw [if_pos hw]
  subst hc
  have hrun := run_copy_row (P := P) w dT sT o.type elem b off dLen dCap ⟨sb, soff, none⟩ sLen sCap c e cs hu hsz hrow hn (fun j v hv => by rw [Addr.add_mid]; exact hsrc j v hv) hfit h1
  unfold Oper.wp
  simp [execOp, ho, resolve, invoke, builtin, hd, hsv, hrun, Result.andThen]
  exact h
/-- the first k cells are x -/
def RepAt (x : Value) (k : Nat) (c : Array Value) : Prop := ∀ j, j < k → c[j]? = some x
theorem RepAt.more {x : Value} {k m : Nat} {c : Array Value} (h : RepAt x k c) (hk : k + m ≤ c.size) : RepAt x (k + m) (c.toList.take k ++ (List.replicate m x ++ c.toList.drop (k + (List.replicate m x).length))).toArray := by
  intro j hj
  have hlen : (c.toList.take k).length = k := by simp; omega
  simp only [List.getElem?_toArray]
  rcases Nat.lt_or_ge j k with h1 | h1
  · rw [List.getElem?_append_left (by omega), List.getElem?_take, if_pos h1]
    simpa using h j h1
  · rw [List.getElem?_append_right (by omega), hlen, List.getElem?_append_left (by simp; omega), List.getElem?_replicate, if_pos (by omega)]
theorem repSize {x : Value} {k m : Nat} {c : Array Value} (hk : k + m ≤ c.size) : (c.toList.take k ++ (List.replicate m x ++ c.toList.drop (k + (List.replicate m x).length))).toArray.size = c.size := by
  simp; omega
set_option maxHeartbeats 1000000 in
set_option maxRecDepth 100000 in
theorem rep_any (v : Value) (x : UInt8) (z : Nat) (w : World) (hv : Reads w (· < w.heap.size) v [x]) (hc : 0 < z) (hn : z ≤ 140737488355328) :
    Calls Tryd.prog 38 #[v, .int .i64 (z : Int)] w fun e w' => ∃ g, e = .returned (.slice (some ⟨g, 0, none⟩) z z) ∧ Reads w' (fun b => b = g) (.slice (some ⟨g, 0, none⟩) z z) (List.replicate z x) ∧ w.heap.size ≤ g ∧ g < w'.heap.size ∧ Below w.heap.size w w' := by
  obtain ⟨b, off, cap, hu, h1, h2, hb⟩ := hv.has (by simp)
  unfold maxLen at h2
  have hx0 := hv.cell b off _ _ hu 0 (by simp)
  simp only [List.length_singleton] at hu h1
  have hx : ∀ o, (w.drew.drew.alloc o).cell? ⟨b, off + 0, none⟩ = some (.int .u8 (x.toNat : Int)) := fun o => by
    have hb2 : Below w.heap.size w (w.drew.drew.alloc o) := ((Below.refl _ _).drew.drew).alloc (by simp) o
    rw [hb2.cell (p := ⟨b, off + 0, none⟩) hb]; exact hx0
  clear hv hx0
  subst hu
  obtain ⟨cs, hrun, hle, hmax⟩ := Lib.run_makeNoZero (P := Tryd.prog) w #[3] 22 5 Tryd.underlying22 z (by omega)
  have hcall : (callFunc 53 #[.int .i64 (z : Int)]).run Tryd.prog w = .ok (.value (.slice (some ⟨w.heap.size, 0, none⟩) z cs.size)) (w.drew.drew.alloc (.cells cs 5)) := by
    rw [run_callFunc_extern Tryd.func53 (by kernel_rfl) (by kernel_rfl) (by kernel_rfl) (e := Extern.BytealgMakeNoZero.makeNoZero #[3] #[22]) (by kernel_rfl), hrun]
    rfl
  have hmul := Tryd.bits_Mul 1 z (by omega) (by omega) w
  rw [Nat.one_mul, Nat.div_eq_of_lt (by omega), Nat.mod_eq_of_lt (by omega)] at hmul
  have HM := Keep.keep hmul; have HX := Keep.keep hx
  have hmx := hmax (by unfold maxLen; omega)
  unfold maxLen at hmx
  clear hmul hrun hmax hx
  have hq : (8192 : Int) / 1 * 1 = 8192 := by decide
  have hz0 : ((z : Int) == 0) = false := by rw [beq_eq_false_iff_ne]; omega
  by_cases hM : (z : Int) ≤ 8192
  · have hM2 : ¬ 8192 < (z : Int) := by omega
    go_enter Tryd.func38, Tryd.ntmps38
    go_wp2_with fail
    refine HM.out.mono ?_
    rintro e w1 ⟨rfl, rfl⟩
    go_wp2_with (with_reducible refine arm_stopC ?_)
    refine Stopped.out ?_
    refine wpList_world (R := fun w2 => Hp NoM w1 w2 [rowA w1.heap.size 5 cs] ∧ w2.cell? ⟨b, off + 0, none⟩ = some (.int .u8 (x.toNat : Int))) ⟨(((Hp.begin _ w1).newRow _ _).drew).drew, HX.out _⟩ ?_
    intro w2 H2
    generalize w1.heap.size = g at *
    generalize hxv : Value.int .u8 (x.toNat : Int) = xv at *
    have ho : xv.oneCell' = true := by rw [← hxv]; rfl
    have HXV := Keep.keep hxv; clear hxv
    refine arm_copyInto (H2.out.1.row 0 rfl) (List.replicate 1 xv) _ Tryd.underlying22 (by kernel_rfl) rfl rfl (by rw [List.length_replicate]; exact (Nat.min_eq_left (by omega)).symm) (fun j u hj => by
      have h0 : j = 0 := by have := (List.getElem?_eq_some_iff.1 hj).1; simp at this; exact this
      subst h0
      have : xv = u := by simpa using hj
      subst this; exact H2.out.2) (by simp; omega) (fun u hu => by rw [(List.mem_replicate.1 hu).2]; exact ho) rfl ?_
    refine wpList_world (R := fun w3 => ∃ cc : Array Value, cc.size = cs.size ∧ RepAt xv 1 cc ∧ Hp NoM w1 w3 [rowA g 5 cc]) ⟨_, repSize (x := xv) (k := 0) (m := 1) (c := cs) (by omega), RepAt.more (k := 0) (m := 1) (c := cs) (fun j hj => by omega) (by omega), H2.out.1.setRow 0 rfl _⟩ ?_
    intro w3 H3
    clear H2 HX hcall
    simp only [List.length_replicate]
    simp only [Act.put, List.setIfInBounds_toArray, List.set_cons_succ, List.set_cons_zero]
    go_wp2_with fail
    go_loopw [10] (fun t wr => ∃ k : Nat, 1 ≤ k ∧ k ≤ z ∧ t = .int .i64 k ∧ ∃ cc : Array Value, cc.size = cs.size ∧ RepAt xv k cc ∧ Hp NoM w1 wr [rowA g 5 cc]) (fun t _ => z - (intOf t).toNat)
    case atStart => exact ⟨1, Nat.le_refl _, by omega, rfl, H3.out⟩
    case round =>
      obtain ⟨k, hk1, hkz, rfl, cc, hcs, hrep, hs⟩ := hrel
      have HCS := Keep.keep hcs; have HREP := Keep.keep hrep; have HS := Keep.keep hs
      clear hcs hrep hs
      by_cases hk : k < z
      · obtain ⟨m, hm⟩ : ∃ m : Nat, min (k : Int) z = (m : Int) := ⟨min k z, by omega⟩
        have hm1 : 0 < m := by omega
        have hm2 : m ≤ k := by omega
        have hm3 : m ≤ z := by omega
        have hm4 : k ≤ z := by omega
        have hm5 : ¬ z = k := by omega
        go_wp2_with fail
        obtain ⟨mm, hmm⟩ : ∃ mm, mm = Nat.min m (z - k) := ⟨_, rfl⟩
        have hmm1 : 0 < mm ∧ k + mm ≤ z ∧ mm ≤ m := by rw [hmm]; show 0 < min m (z - k) ∧ k + min m (z - k) ≤ z ∧ min m (z - k) ≤ m; omega
        have hsz : k + mm ≤ cc.size := by rw [HCS.out]; omega
        have HMM := Keep.keep hmm; have HSZ := Keep.keep hsz
        have hmmr : mm = Nat.min m (z - k) ∧ k + mm ≤ cc.size := ⟨hmm, hsz⟩
        clear hmm hsz hmmr
        obtain ⟨c4, hc4⟩ : ∃ c4, c4 = (cc.toList.take k ++ (List.replicate mm xv ++ cc.toList.drop (k + (List.replicate mm xv).length))).toArray := ⟨_, rfl⟩
        have HC4 := Keep.keep hc4; clear hc4
        have hsrc : ∀ (j : Nat) (u : Value), (List.replicate mm xv)[j]? = some u → wr.drew.cell? ⟨g, 0 + j, none⟩ = some u := fun j u hj => by
          have hjm : j < mm := by have := (List.getElem?_eq_some_iff.1 hj).1; simpa using this
          have : xv = u := by rw [List.getElem?_replicate, if_pos hjm] at hj; injection hj
          subst this
          exact (HS.out.drew.row 0 rfl).cell (by rw [Nat.zero_add]; exact HREP.out j (by omega))
        have HSRC := Keep.keep hsrc; clear hsrc
        have hnn : (List.replicate mm xv).length = Nat.min m (z - k) := by rw [List.length_replicate]; exact HMM.out
        have HNN := Keep.keep hnn; clear hnn
        have HROW := Keep.keep (HS.out.drew.row 0 rfl)
        go_region_law (refine step_copyInto (dLen := z - k) (dCap := z - k) (sLen := m) (sCap := z) (off := k) (soff := 0) rfl (.tmp 70) (.tmp 73) rfl HROW.out (List.replicate mm xv) c4 Tryd.underlying22 (by kernel_rfl) (by simp [Act.eval, Act.put]) (by simp [Act.eval, Act.put]) HNN.out HSRC.out (by rw [List.length_replicate]; have := HSZ.out; omega) (fun u hu => by rw [(List.mem_replicate.1 hu).2]; exact ho) HC4.out ?_)
        have hrep4 : RepAt xv (k + mm) c4 ∧ c4.size = cs.size := by
          rw [HC4.out]
          exact ⟨HREP.out.more HSZ.out, (repSize HSZ.out).trans HCS.out⟩
        have HREP4 := Keep.keep hrep4; clear hrep4
        have hwr := IntWalk.i64_in ((k : Int) + (mm : Int)) (by omega)
        rw [hwr]
        clear hwr
        simp only [List.getElem_toArray, List.getElem_cons_succ, List.getElem_cons_zero]
        simp only [Act.put, List.setIfInBounds_toArray, List.set_cons_succ, List.set_cons_zero]
        go_wp2_with fail
        refine ⟨⟨_, _, _, _, _, _, _, _, _, _, _, _, _, _, _, _, _, ⟨k + mm, by omega, by omega, ?_, c4, HREP4.out.2, HREP4.out.1, HS.out.drew.setRow 0 rfl c4⟩, rfl⟩, ?_⟩
        · exact congrArg (Value.int .i64) (by omega)
        · simp [intOf]; omega
      · obtain rfl : k = z := by omega
        have HR := HS.out.row 0 rfl
        have HLT := (HS.out.new 0 rfl (b := g) rfl)
        go_wp2_with fail
        go_ret
        refine ⟨g, rfl, ?_, HLT.1, HLT.2, HS.out.below⟩
        have := RdV.ofRow HR (N := fun b => b = g) rfl 1 0 k k (List.replicate k xv) (by simp) (Nat.le_refl _) (by unfold maxLen; omega) (fun j u hj => by
          have hjm : j < k := by have := (List.getElem?_eq_some_iff.1 hj).1; simpa using this
          rw [List.getElem?_replicate, if_pos hjm] at hj
          injection hj with hj
          rw [Nat.zero_add, ← hj]; exact HREP.out j hjm)
        refine RdV.toBytes ?_
        rw [List.length_replicate]
        rw [show bcells (List.replicate k x) = List.replicate k xv by rw [← HXV.out]; simp [bcells]]
        exact this
  · have hM2 : 8192 < (z : Int) := by omega
    go_enter Tryd.func38, Tryd.ntmps38
    go_wp2_with fail
    refine HM.out.mono ?_
    rintro e w1 ⟨rfl, rfl⟩
    go_wp2_with (with_reducible refine arm_stopC ?_)
    refine Stopped.out ?_
    refine wpList_world (R := fun w2 => Hp NoM w1 w2 [rowA w1.heap.size 5 cs] ∧ w2.cell? ⟨b, off + 0, none⟩ = some (.int .u8 (x.toNat : Int))) ⟨(((Hp.begin _ w1).newRow _ _).drew).drew, HX.out _⟩ ?_
    intro w2 H2
    generalize w1.heap.size = g at *
    generalize hxv : Value.int .u8 (x.toNat : Int) = xv at *
    have ho : xv.oneCell' = true := by rw [← hxv]; rfl
    have HXV := Keep.keep hxv; clear hxv
    refine arm_copyInto (H2.out.1.row 0 rfl) (List.replicate 1 xv) _ Tryd.underlying22 (by kernel_rfl) rfl rfl (by rw [List.length_replicate]; exact (Nat.min_eq_left (by omega)).symm) (fun j u hj => by
      have h0 : j = 0 := by have := (List.getElem?_eq_some_iff.1 hj).1; simp at this; exact this
      subst h0
      have : xv = u := by simpa using hj
      subst this; exact H2.out.2) (by simp; omega) (fun u hu => by rw [(List.mem_replicate.1 hu).2]; exact ho) rfl ?_
    refine wpList_world (R := fun w3 => ∃ cc : Array Value, cc.size = cs.size ∧ RepAt xv 1 cc ∧ Hp NoM w1 w3 [rowA g 5 cc]) ⟨_, repSize (x := xv) (k := 0) (m := 1) (c := cs) (by omega), RepAt.more (k := 0) (m := 1) (c := cs) (fun j hj => by omega) (by omega), H2.out.1.setRow 0 rfl _⟩ ?_
    intro w3 H3
    clear H2 HX hcall
    simp only [List.length_replicate]
    simp only [Act.put, List.setIfInBounds_toArray, List.set_cons_succ, List.set_cons_zero]
    go_wp2_with fail
    go_loopw [10] (fun t wr => ∃ k : Nat, 1 ≤ k ∧ k ≤ z ∧ t = .int .i64 k ∧ ∃ cc : Array Value, cc.size = cs.size ∧ RepAt xv k cc ∧ Hp NoM w1 wr [rowA g 5 cc]) (fun t _ => z - (intOf t).toNat)
    case atStart => exact ⟨1, Nat.le_refl _, by omega, rfl, H3.out⟩
    case round =>
      obtain ⟨k, hk1, hkz, rfl, cc, hcs, hrep, hs⟩ := hrel
      have HCS := Keep.keep hcs; have HREP := Keep.keep hrep; have HS := Keep.keep hs
      clear hcs hrep hs
      by_cases hk : k < z
      · obtain ⟨m, hm⟩ : ∃ m : Nat, min (k : Int) 8192 = (m : Int) := ⟨min k 8192, by omega⟩
        have hm1 : 0 < m := by omega
        have hm2 : m ≤ k := by omega
        have hm3 : m ≤ z := by omega
        have hm4 : k ≤ z := by omega
        have hm5 : ¬ z = k := by omega
        go_wp2_with fail
        obtain ⟨mm, hmm⟩ : ∃ mm, mm = Nat.min m (z - k) := ⟨_, rfl⟩
        have hmm1 : 0 < mm ∧ k + mm ≤ z ∧ mm ≤ m := by rw [hmm]; show 0 < min m (z - k) ∧ k + min m (z - k) ≤ z ∧ min m (z - k) ≤ m; omega
        have hsz : k + mm ≤ cc.size := by rw [HCS.out]; omega
        have HMM := Keep.keep hmm; have HSZ := Keep.keep hsz
        have hmmr : mm = Nat.min m (z - k) ∧ k + mm ≤ cc.size := ⟨hmm, hsz⟩
        clear hmm hsz hmmr
        obtain ⟨c4, hc4⟩ : ∃ c4, c4 = (cc.toList.take k ++ (List.replicate mm xv ++ cc.toList.drop (k + (List.replicate mm xv).length))).toArray := ⟨_, rfl⟩
        have HC4 := Keep.keep hc4; clear hc4
        have hsrc : ∀ (j : Nat) (u : Value), (List.replicate mm xv)[j]? = some u → wr.drew.cell? ⟨g, 0 + j, none⟩ = some u := fun j u hj => by
          have hjm : j < mm := by have := (List.getElem?_eq_some_iff.1 hj).1; simpa using this
          have : xv = u := by rw [List.getElem?_replicate, if_pos hjm] at hj; injection hj
          subst this
          exact (HS.out.drew.row 0 rfl).cell (by rw [Nat.zero_add]; exact HREP.out j (by omega))
        have HSRC := Keep.keep hsrc; clear hsrc
        have hnn : (List.replicate mm xv).length = Nat.min m (z - k) := by rw [List.length_replicate]; exact HMM.out
        have HNN := Keep.keep hnn; clear hnn
        have HROW := Keep.keep (HS.out.drew.row 0 rfl)
        go_region_law (refine step_copyInto (dLen := z - k) (dCap := z - k) (sLen := m) (sCap := z) (off := k) (soff := 0) rfl (.tmp 70) (.tmp 73) rfl HROW.out (List.replicate mm xv) c4 Tryd.underlying22 (by kernel_rfl) (by simp [Act.eval, Act.put]) (by simp [Act.eval, Act.put]) HNN.out HSRC.out (by rw [List.length_replicate]; have := HSZ.out; omega) (fun u hu => by rw [(List.mem_replicate.1 hu).2]; exact ho) HC4.out ?_)
        have hrep4 : RepAt xv (k + mm) c4 ∧ c4.size = cs.size := by
          rw [HC4.out]
          exact ⟨HREP.out.more HSZ.out, (repSize HSZ.out).trans HCS.out⟩
        have HREP4 := Keep.keep hrep4; clear hrep4
        have hwr := IntWalk.i64_in ((k : Int) + (mm : Int)) (by omega)
        rw [hwr]
        clear hwr
        simp only [List.getElem_toArray, List.getElem_cons_succ, List.getElem_cons_zero]
        simp only [Act.put, List.setIfInBounds_toArray, List.set_cons_succ, List.set_cons_zero]
        go_wp2_with fail
        refine ⟨⟨_, _, _, _, _, _, _, _, _, _, _, _, _, _, _, _, _, ⟨k + mm, by omega, by omega, ?_, c4, HREP4.out.2, HREP4.out.1, HS.out.drew.setRow 0 rfl c4⟩, rfl⟩, ?_⟩
        · exact congrArg (Value.int .i64) (by omega)
        · simp [intOf]; omega
      · obtain rfl : k = z := by omega
        have HR := HS.out.row 0 rfl
        have HLT := (HS.out.new 0 rfl (b := g) rfl)
        go_wp2_with fail
        go_ret
        refine ⟨g, rfl, ?_, HLT.1, HLT.2, HS.out.below⟩
        have := RdV.ofRow HR (N := fun b => b = g) rfl 1 0 k k (List.replicate k xv) (by simp) (Nat.le_refl _) (by unfold maxLen; omega) (fun j u hj => by
          have hjm : j < k := by have := (List.getElem?_eq_some_iff.1 hj).1; simpa using this
          rw [List.getElem?_replicate, if_pos hjm] at hj
          injection hj with hj
          rw [Nat.zero_add, ← hj]; exact HREP.out j hjm)
        refine RdV.toBytes ?_
        rw [List.length_replicate]
        rw [show bcells (List.replicate k x) = List.replicate k xv by rw [← HXV.out]; simp [bcells]]
        exact this
end Go.Proofs.YtohballfhhndbaaDoor
