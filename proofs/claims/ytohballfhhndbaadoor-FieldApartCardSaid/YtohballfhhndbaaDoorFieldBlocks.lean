/- FieldBlocks: fields of blocks, sums, checks. -/
import Derived.Test.YtohballfhhndbaaDoorFldBlkG
import Derived.Test.YtohballfhhndbaaDoorFieldSealed
import Derived.Test.YtohballfhhndbaaDoorBytes
import Derived.Test.YtohballfhhndbaaDoorQCls
import Derived.Test.YtohballfhhndbaaDoorCut2
namespace Go.Proofs.YtohballfhhndbaaDoor
open Go.RowKit
section
variable {P : Program} {ops : Array Oper} {rest : List Oper} {a : Act} {C : World → Prop} {Q : Act → Prop} {tp : TypeId} {dst : Option Tmp} {pos : String} {after : Array Edge} {g : Option (Nat × Bool)}
/-- ARM: two arrays of bytes, set side by side -/
theorem cls_eqlB {t1 t2 e : TypeId} {n : Nat} {x y : Operand} {p q : List UInt8} (hwt : Region.wanted (⟨dst, .binOp .eql t1 x y t2, tp, pos, after, g⟩ : Oper) (yielded ops a.tmps) = true)
    (hu : P.underlying t1 = some (.array n e)) (he : P.underlying e = some (.int .u8)) (hs : (P.info? e).map (·.size) = some 1) (hm : P.eqGuardType P.depth t1 = false) (hp : p.length = n) (hq : q.length = n) (hx : a.eval x = .agg (bcells p).toArray) (hy : a.eval y = .agg (bcells q).toArray)
    (h : wpQuiet P ops C Q rest (a.put dst (.bool (p == q)))) : wpQuiet P ops C Q (⟨dst, .binOp .eql t1 x y t2, tp, pos, after, g⟩ :: rest) a := by
  refine cls_op hwt (fun w _ => ?_) h
  have hl := run_eql_bytes hu he hs p q hp hq w
  unfold execOp
  simp only [hx, hy, Sem.run_bind, Sem.run_pure, Result.andThen_ok, run_eqGuard_agg (hm := hm), hl]
end
theorem sliceAt_from512 (S a : Nat) (ha : a < 512) (w : World) :
    (Instr.sliceAt 35 (.pointer (some ⟨S, 0, none⟩)) (some (.int .i64 (a : Int))) none none).run Tryd.prog w = .ok (.slice (some ⟨S, a, none⟩) (512 - a) (512 - a)) w := by
  have hl : Tryd.prog.arrayLen 35 = 512 := by kernel_rfl
  have he : Tryd.prog.elem 35 = 5 := by kernel_rfl
  have hs : ∀ w, (sizeOf 5).run Tryd.prog w = .ok 1 w := fun w => by kernel_rfl
  rw [run_sliceAt_array_l w 35 ⟨S, 0, none⟩ (by rw [hl, he]; exact Tryd.underlying35) .i64 (a : Int) (by omega) (by rw [hl]; omega), hl, he, hs]
  simp [Result.andThen, slicedAt, Addr.add_mid, show ¬ (512 = a) by omega]
/-- v's own block: its first n cells are bytes, whichever -/
def someA (v : Value) (n : Nat) : As := ⟨fun b => v.ownBlock = some b, fun w => ∀ b, v.ownBlock = some b → ∃ c, Row w b 5 c ∧ ∀ j, j < n → ∃ x : UInt8, c[j]? = some (.int .u8 (x.toNat : Int)), fun w w' h hp b hb => by
  obtain ⟨c, h1, h2⟩ := hp b hb
  exact ⟨c, by unfold Row; rw [h b hb]; exact h1, h2⟩⟩
theorem someA_of {w : World} {base : Nat} {v : Value} {l : List UInt8} (h : Owns w base 5 v l) : (someA v l.length).P w := by
  obtain ⟨_, h⟩ := h
  rcases h with ⟨rfl, h0⟩ | ⟨g, cap, cur, rfl, hb, hh, hn, hm, hs, ht⟩
  · intro b hb; cases hb
  · intro b hb
    obtain rfl : g = b := by injection hb
    refine ⟨cur, hh, fun j hj => ⟨l[j], ?_⟩⟩
    have := bcells_get l j hj
    rw [← ht, List.getElem?_take, if_pos (by omega)] at this
    simpa using this
theorem owns_blk {w : World} {base : Nat} {v : Value} {l : List UInt8} (h : Owns w base 5 v l) (hl : 0 < l.length) : ∃ b cap, v = .slice (some ⟨b, 0, none⟩) l.length cap ∧ l.length ≤ cap := by
  obtain ⟨_, h⟩ := h
  rcases h with ⟨rfl, h0⟩ | ⟨g, cap, cur, rfl, hb, hh, hn, hm, hs, ht⟩
  · omega
  · exact ⟨g, cap, rfl, hn⟩
theorem someA_set {M : Nat → Prop} {w wr : World} {ls : List As} (h : Hp M w wr ls) (i : Nat) {b cap n k : Nat} (hi : ls[i]? = some (someA (.slice (some ⟨b, 0, none⟩) n cap) n)) (y : UInt8) : Hp M w (wr.setCell ⟨b, k, none⟩ (.int .u8 (y.toNat : Int))) (ls.set i (someA (.slice (some ⟨b, 0, none⟩) n cap) n)) := by
  refine h.upd i hi _ (Chg.setCell (M := fun k => (someA (.slice (some ⟨b, 0, none⟩) n cap) n).blk k) (p := ⟨b, k, none⟩) (.refl _ _ _) (.inr rfl) _) ?_ (fun _ hb => .inl hb)
  intro b' hb'
  obtain rfl : b = b' := by injection hb'
  obtain ⟨c, h1, h2⟩ := h.get i hi b rfl
  refine ⟨_, h1.set k _, fun j hj => ?_⟩
  obtain ⟨x, hx⟩ := h2 j hj
  by_cases hjk : k = j
  · subst hjk
    have hlt := (Array.getElem?_eq_some_iff.1 hx).1
    exact ⟨y, by rw [Array.getElem?_setIfInBounds_self_of_lt hlt]⟩
  · exact ⟨x, by rw [Array.getElem?_setIfInBounds_ne hjk]; exact hx⟩
set_option maxHeartbeats 8000000 in
set_option maxRecDepth 100000 in
theorem blocks_any (l : List UInt8) (hl : l.length = 512) (s0 : List UInt8) (hs0 : s0.length ≤ 9223372036854775807) (v : Value) (m : List UInt8) (B : Nat) (w : World) (hr : Reads w (· < w.heap.size) v m) (hF : Flds B w) (hT : Tz B w) (hB : B ≤ w.heap.size) :
    Calls Tryd.prog 6 #[.agg (bcells l).toArray, .string ⟨s0.toArray⟩, v] w fun e w' => e = .returned (.bool true) ∧ Below w.heap.size w w' := by
  obtain ⟨s, hcut⟩ : ∃ s, s0.take (min s0.length 40) = s := ⟨_, rfl⟩
  have hsl : s.length ≤ 40 := by rw [← hcut]; simp; omega
  have hkm : min (s0.length : Int) 40 = ((min s0.length 40 : Nat) : Int) := by omega
  have hst := run_slice_to (P := Tryd.prog) Tryd.underlying9 s0 .i64 (min s0.length 40) (by omega)
  rw [hcut] at hst
  generalize min s0.length 40 = kn at *
  have HF := Keep.keep hF; have HT := Keep.keep hT; have HB := Keep.keep hB; have HL := Keep.keep hl
  have HZ : Keep (Tryd.zeroCells37.size = 512) := ⟨by kernel_rfl⟩
  have HSL := Keep.keep hsl
  have HPL := Keep.keep (fun wx => rplace_any s wx)
  have HFD := Keep.keep (fun S e wx h1 h2 => field_all S e l HL.out s (by omega) B wx h1 h2)
  have HRD := Keep.keep hr
  have HSR : Keep (setR l s m = if 0 < (plc s).2 ∧ m.length = (plc s).2 then (setL l (plc s).1 m, 0) else (l, 1)) := ⟨rfl⟩
  have HST := Keep.keep (fun S e wx h1 h2 h3 => set_all S e l HL.out s (by omega) v m B wx h1 h2 h3)
  have hfit := plc_fit s
  rw [show (placeOf s).getD (0, 0) = plc s from rfl] at HPL
  generalize plc s = pl at *
  obtain ⟨a, n⟩ := pl
  simp only at HPL HFD HSR hfit
  obtain ⟨av, cv, rfl, -⟩ := hr.shape
  clear hF hT hB hr hcut hl hsl
  go_enter Tryd.func6, Tryd.ntmps6
  go_upto_region 1 with fail
  refine wp_world (R := fun w1 => Hp NoM w w1 [rowA w.heap.size 35 (bcells l).toArray]) ((Hp.begin NoM w).newRow _ _) ?_
  intro w1 H1
  obtain ⟨g0, hg0⟩ : ∃ g, w.heap.size = g := ⟨_, rfl⟩
  rw [hg0] at H1 ⊢
  go_upto_region 3 with (first
    | ((with_reducible refine arm_loadRow (H1.out.row 0 rfl) agg512 (bcs HL.out) ?_ ?_); (focus rfl); simp only [Act.put, List.setIfInBounds_toArray, List.set_cons_succ, List.set_cons_zero])
    | ((with_reducible refine arm_storeRow (Row.new w1 37 _) aggBlk HZ.out (bcs HL.out) (bc1 l) ?_ ?_ ?_); (focus rfl); (focus rfl); simp only [Act.put, World.setRow_alloc_new]))
  refine wp_world (R := fun w2 => Hp NoM w w2 [rowA g0 35 (bcells l).toArray, rowA w1.heap.size 37 (bcells l).toArray]) (H1.out.newRow _ _) ?_
  intro w2 H2
  obtain ⟨g1, hg1⟩ : ∃ g, w1.heap.size = g := ⟨_, rfl⟩
  rw [hg1] at H2 ⊢
  clear hg1
  go_wp2_with fail
  refine (HPL.out _).mono ?_
  rintro e w3 ⟨rfl, hb3⟩
  have H3 := Keep.keep (H2.out.call hb3)
  have HFC := Keep.keep (HFD.out g1 37 w3 (HF.out.on (H3.out.below.mono HB.out)) (H3.out.row 1 rfl))
  clear hb3 H2
  go_wp2_with fail
  refine HFC.out.mono ?_
  rintro e w4 ⟨vc, rfl, ho, hb4⟩
  have H4 : Keep (Hp NoM w w4 [rowA g0 35 (bcells l).toArray, rowA g1 37 (bcells l).toArray, someA vc (fldL l (a, n)).length]) := ⟨H3.out.push _ (Chg.of_below hb4) (someA_of ho) (fun b hb => Owns.lt ho b hb)⟩
  have HO := Keep.keep ho
  have HBK : Keep (0 < (fldL l (a, n)).length → ∃ b cap, vc = .slice (some ⟨b, 0, none⟩) (fldL l (a, n)).length cap ∧ (fldL l (a, n)).length ≤ cap) := ⟨owns_blk ho⟩
  obtain ⟨ac, cc, hvc, -⟩ := ho.reads.shape
  subst hvc
  clear hb4 ho HFC H3
  go_upto_region 5 with fail
  refine wp_region_cls (fun w' => Below w4.heap.size w4 w') (by kernel_rfl) (by kernel_rfl) (Below.refl _ _).drew ?_
  have hnn : decide ((0 : Int) < (n : Int)) = decide (0 < n) := by simp only [decide_eq_decide]; omega
  have hwr := IntWalk.i64_in ((a : Int) + (n : Int)) (by omega)
  have HG : Keep (g0 < w4.heap.size ∧ g1 < w4.heap.size) := ⟨(H4.out.row 0 rfl).lt, (H4.out.row 1 rfl).lt⟩
  have hsa : ∀ wx, (Instr.sliceAt 35 (.pointer (some ⟨g0, 0, none⟩)) (some (.int .i64 (a : Int))) (some (.int .i64 ((a : Int) + (n : Int)))) none).run Tryd.prog wx = .ok (.slice (some ⟨g0, a, none⟩) n (512 - a)) wx := fun wx => by
    have := sliceAt_a512 g0 a (a + n) (by omega) (by omega) wx
    rw [if_neg (by omega), show a + n - a = n by omega] at this
    exact_mod_cast this
  have HEQ : Keep (∀ wx, Below w4.heap.size w4 wx → Calls Tryd.prog 16 #[.slice ac (fldL l (a, n)).length cc, .slice (some ⟨g0, a, none⟩) n (512 - a)] wx fun e w' => e = .returned (.bool true) ∧ Below wx.heap.size wx w') := ⟨fun wx h => by
    have r1 := (HO.out.reads.mono (N' := (· < w4.heap.size)) (fun b hb => hb.2.1)).below h (fun b hb => hb)
    have r2 := BlkAt.reads ((H4.out.call h).row 0 rfl) HL.out (N := fun _ => True) trivial a n (512 - a) (by omega) (by omega) (by omega)
    refine (equal_any _ _ _ _ _ _ wx r1 r2).mono ?_
    rintro e w' ⟨rfl, rfl⟩
    exact ⟨by rw [show fldL l (a, n) = (l.drop a).take n from rfl, beq_self_eq_true], Below.refl _ _⟩⟩
  have HSM : Keep (∀ wx, Below w4.heap.size w4 wx → _) := ⟨fun wx h => sum_any g1 37 l HL.out B wx (HF.out.on ((H4.out.call h).below.mono HB.out)) (Nat.le_trans HB.out (H4.out.call h).size) ((H4.out.call h).row 1 rfl)⟩
  have HRS : Keep (∀ wx, Below w4.heap.size w4 wx → _) := ⟨fun wx (_ : Below w4.heap.size w4 wx) => rsum_any l HL.out wx⟩
  have HCK : Keep (∀ wx, Below w4.heap.size w4 wx → _) := ⟨fun wx h => check_any g1 37 l HL.out B wx (HF.out.on ((H4.out.call h).below.mono HB.out)) (Nat.le_trans HB.out (H4.out.call h).size) ((H4.out.call h).row 1 rfl)⟩
  have HRC : Keep (∀ wx, Below w4.heap.size w4 wx → _) := ⟨fun wx (_ : Below w4.heap.size w4 wx) => rcheck_any l HL.out wx⟩
  have HZR : Keep (∀ wx, Below w4.heap.size w4 wx → Calls Tryd.prog 26 #[.pointer (some ⟨g1, 0, none⟩)] wx fun e w' => e = .returned (.bool (l == List.replicate 512 0)) ∧ Below wx.heap.size wx w') := ⟨fun wx h => by
    refine (zero_any g1 37 l HL.out wx ((H4.out.call h).row 1 rfl)).mono ?_
    rintro e w' ⟨rfl, rfl⟩
    exact ⟨by rw [zero_eq HL.out], Below.refl _ _⟩⟩
  have HLZ : Keep ((List.replicate 512 (0 : UInt8)).length = 512) := ⟨List.length_replicate⟩
  have HSZ : Keep ((bcells l).toArray.size = 512) := ⟨bcs HL.out⟩
  repeat (first
    | ((with_reducible refine cls_loadRow ?_ (fun w1 hw1 => (H4.out.call hw1).row 0 rfl) agg512 HSZ.out ?_ ?_); (focus rfl); (focus rfl); simp only [Act.put, List.setIfInBounds_toArray, List.set_cons_succ, List.set_cons_zero])
    | ((with_reducible refine cls_call (f := 16) ?_ (Go.Proofs.enters_of Tryd.func16 (by kernel_rfl) rfl) ?_ (fun w1 hw1 => (HEQ.out w1 hw1).mono (fun e w2 he => ⟨he.1, hw1.trans (he.2.mono hw1.size)⟩)) ?_); (focus rfl); (focus (first | exact Array.map_empty | (simp only [List.map_toArray, List.map_cons, List.map_nil]; rfl))); simp only [Act.put, List.setIfInBounds_toArray, List.set_cons_succ, List.set_cons_zero])
    | ((with_reducible refine cls_call (f := 22) ?_ (Go.Proofs.enters_of Tryd.func22 (by kernel_rfl) rfl) ?_ (fun w1 hw1 => (HSM.out w1 hw1).mono (fun e w2 he => ⟨he.1, hw1.trans (he.2.mono hw1.size)⟩)) ?_); (focus rfl); (focus (first | exact Array.map_empty | (simp only [List.map_toArray, List.map_cons, List.map_nil]; rfl))); simp only [Act.put, List.setIfInBounds_toArray, List.set_cons_succ, List.set_cons_zero])
    | ((with_reducible refine cls_call (f := 24) ?_ (Go.Proofs.enters_of Tryd.func24 (by kernel_rfl) rfl) ?_ (fun w1 hw1 => (HRS.out w1 hw1).mono (fun e w2 he => ⟨he.1, hw1.trans (he.2.mono hw1.size)⟩)) ?_); (focus rfl); (focus (first | exact Array.map_empty | (simp only [List.map_toArray, List.map_cons, List.map_nil]; rfl))); simp only [Act.put, List.setIfInBounds_toArray, List.set_cons_succ, List.set_cons_zero])
    | ((with_reducible refine cls_call (f := 21) ?_ (Go.Proofs.enters_of Tryd.func21 (by kernel_rfl) rfl) ?_ (fun w1 hw1 => (HCK.out w1 hw1).mono (fun e w2 he => ⟨he.1, hw1.trans (he.2.mono hw1.size)⟩)) ?_); (focus rfl); (focus (first | exact Array.map_empty | (simp only [List.map_toArray, List.map_cons, List.map_nil]; rfl))); simp only [Act.put, List.setIfInBounds_toArray, List.set_cons_succ, List.set_cons_zero])
    | ((with_reducible refine cls_call (f := 25) ?_ (Go.Proofs.enters_of Tryd.func25 (by kernel_rfl) rfl) ?_ (fun w1 hw1 => (HRC.out w1 hw1).mono (fun e w2 he => ⟨he.1, hw1.trans (he.2.mono hw1.size)⟩)) ?_); (focus rfl); (focus (first | exact Array.map_empty | (simp only [List.map_toArray, List.map_cons, List.map_nil]; rfl))); simp only [Act.put, List.setIfInBounds_toArray, List.set_cons_succ, List.set_cons_zero])
    | ((with_reducible refine cls_call (f := 26) ?_ (Go.Proofs.enters_of Tryd.func26 (by kernel_rfl) rfl) ?_ (fun w1 hw1 => (HZR.out w1 hw1).mono (fun e w2 he => ⟨he.1, hw1.trans (he.2.mono hw1.size)⟩)) ?_); (focus rfl); (focus (first | exact Array.map_empty | (simp only [List.map_toArray, List.map_cons, List.map_nil]; rfl))); simp only [Act.put, List.setIfInBounds_toArray, List.set_cons_succ, List.set_cons_zero])
    | ((with_reducible refine cls_eqlB (p := l) (q := List.replicate 512 0) ?_ Tryd.underlying35 Tryd.underlying5 (by kernel_rfl) (by kernel_rfl) HL.out HLZ.out ?_ ?_ ?_); (focus rfl); (focus rfl); (focus (first | rfl | kernel_rfl)); simp only [Act.put, List.setIfInBounds_toArray, List.set_cons_succ, List.set_cons_zero])
    | (first | go_big_quiet_step (fail) | (go_big_quiet_want; go_big_quiet_op; (refine ⟨_, fun _ _ => rfl, ?_⟩); go_big_quiet_on)))
  (refine wpQuiet_nil ?_); intro w5 hw5
  have H5 := Keep.keep (H4.out.call hw5)
  have hfl : (fldL l (a, n)).length ≤ 512 := by simp [fldL]; omega
  clear HEQ HSM HRS HCK HRC HZR H4 hsa hwr hnn hw5 HO
  generalize (fldL l (a, n)).length = fl at *
  go_wp2_with fail
  go_loopg [12, 66] fl (fun g _ u66 wx => ∃ k : Nat, k + g = fl ∧ u66 = .int .i64 (k : Int) ∧ Hp NoM w wx [rowA g0 35 (bcells l).toArray, rowA g1 37 (bcells l).toArray, someA (.slice ac fl cc) fl])
  case atStart => exact ⟨0, by omega, rfl, H5.out⟩
  case round =>
    obtain ⟨k, hkg, rfl, hH⟩ := hrel
    have HH := Keep.keep hH
    clear hH
    cases gk with
    | succ g =>
      have hk : k < fl := by omega
      obtain ⟨b, cap, hbe, hcap⟩ := HBK.out (by omega)
      injection hbe with hb1 hb2 hb3
      subst hb1 hb3
      obtain ⟨c', hrow, hcs⟩ := HH.out.get 2 rfl b rfl
      obtain ⟨x, hx⟩ := hcs k hk
      have hcell := hrow.cell hx
      have hfz := hrow.frozen k
      have hd : decide ((k : Int) < (fl : Int)) = true := decide_eq_true (by omega)
      have hxr : bits .xor .u8 (x.toNat : Int) 255 = ((x ^^^ 255).toNat : Int) := by
        have := u8_xor_nat x.toNat 255 x.toNat_lt (by decide)
        rw [UInt8.toNat_xor]; exact this
      have HNX := Keep.keep (someA_set (k := k) HH.out 2 rfl (x ^^^ 255))
      have hxc := x.toNat_lt
      clear hrow hcs hx
      generalize (x ^^^ 255) = y at *
      have hyc := y.toNat_lt
      go_wp2_with fail
      go_roundg g
      case measure => omega
      case rel => exact ⟨k + 1, by omega, by simp, HNX.out⟩
    | zero =>
      obtain rfl : k = fl := by omega
      have hd : decide ((k : Int) < (k : Int)) = false := decide_eq_false (by omega)
      have HST2 := Keep.keep (HST.out g1 37 wr (HF.out.on (HH.out.below.mono HB.out)) (HH.out.row 1 rfl) ((HRD.out.below HH.out.below (fun b hb => hb)).mono (fun b hb => Nat.lt_of_lt_of_le hb HH.out.size)))
      have HZ5 : Keep (Tryd.zeroCells35.size = 512) := ⟨by kernel_rfl⟩
      clear HPL HFD HST H5 HLZ HSZ HBK hst hkm
      by_cases hcd : 0 < n ∧ m.length = n
      · have HR1 : Keep (setR l s m = (setL l a m, 0)) := ⟨by rw [HSR.out, if_pos hcd]⟩
        simp only [HR1.out] at HST2
        have hd0 : decide ((0 : Int) < (n : Int)) = true := decide_eq_true (by omega)
        have hdN : decide (0 < n) = true := decide_eq_true hcd.1
        have hme : ((m.length : Int) == (n : Int)) = true := by rw [hcd.2]; exact beq_self_eq_true _
        have hmeN : (m.length == n) = true := by rw [hcd.2]; exact beq_self_eq_true _
        have HCD := Keep.keep hcd
        have hSL : (setL l a m).length = 512 := by rw [setL_length (by rw [hcd.2, HL.out]; omega), HL.out]
        have HSLL := Keep.keep hSL
        clear hcd HR1 HSR hSL
        go_wp2_with fail
        refine HST2.out.mono ?_
        rintro e w6 ⟨rfl, hr6, hc6⟩
        have H6 : Keep (Hp NoM w w6 [rowA g0 35 (bcells l).toArray, rowA g1 37 (bcells (setL l a m)).toArray, someA (.slice ac k cc) k]) := ⟨HH.out.chgRow 1 rfl hc6 hr6⟩
        clear hr6 hc6 HST2 HH
        go_upto_region 14 with (first
          | ((with_reducible refine arm_loadRow (H6.out.row 0 rfl) agg512 (bcs HL.out) ?_ ?_); (focus rfl); simp only [Act.put, List.setIfInBounds_toArray, List.set_cons_succ, List.set_cons_zero])
          | ((with_reducible refine arm_storeRow (Row.new w6 35 _) agg512 HZ5.out (bcs HL.out) (bc1 l) ?_ ?_ ?_); (focus rfl); (focus rfl); simp only [Act.put, World.setRow_alloc_new]))
        refine wp_world (R := fun w7 => Hp NoM w w7 [rowA g0 35 (bcells l).toArray, rowA g1 37 (bcells (setL l a m)).toArray, someA (.slice ac k cc) k, rowA w6.heap.size 35 (bcells l).toArray]) (H6.out.newRow _ _) ?_
        intro w7 H7
        obtain ⟨g2, hg2⟩ : ∃ g, w6.heap.size = g := ⟨_, rfl⟩
        rw [hg2] at H7 ⊢
        clear hg2 H6
        have hsb := sliceAt_from512 g2 a (by omega)
        have HRM : Keep (Reads w7 (· < w7.heap.size) (.slice av m.length cv) m) := ⟨(HRD.out.below H7.out.below (fun b hb => hb)).mono (fun b hb => Nat.lt_of_lt_of_le hb H7.out.size)⟩
        obtain ⟨bm, om, cm, hbm, -⟩ := HRM.out.has (by have := HCD.out; omega)
        injection hbm with hbm1 hbm2 hbm3
        subst hbm1 hbm3
        go_wp2_with (with_reducible refine arm_stopC ?_)
        refine Stopped.out ?_
        refine arm_copyInto (H7.out.row 3 rfl) (bcells m) _ Tryd.underlying22 (by kernel_rfl) rfl rfl (by rw [bcells_length]; exact (Nat.min_eq_left (by have := HCD.out; omega)).symm) (fun j u hj => by
          have hj2 : j < m.length := by have := (List.getElem?_eq_some_iff.1 hj).1; rwa [bcells_length] at this
          rw [HRM.out.cell bm om _ _ rfl j hj2, ← hj, bcells_get _ _ hj2]) (by rw [bcells_length]; simp [bcells_length, HL.out]; have := HCD.out; omega) (bcells_one m) rfl ?_
        rw [← setL_cells]
        refine wpList_world (R := fun w8 => Hp NoM w w8 [rowA g0 35 (bcells l).toArray, rowA g1 37 (bcells (setL l a m)).toArray, someA (.slice ac k cc) k, rowA g2 35 (bcells (setL l a m)).toArray]) (H7.out.setRow 3 rfl _) ?_
        intro w8 H8
        simp only [bcells_length]
        simp only [Act.put, List.setIfInBounds_toArray, List.set_cons_succ, List.set_cons_zero]
        clear H7 HRM
        have HQ := Keep.keep HSLL.out
        generalize setL l a m = q at *
        have heql : ∀ wx, (binOp .eql 37 (.agg (bcells q).toArray) (.agg (bcells q).toArray)).run Tryd.prog wx = .ok (.bool true) wx := fun wx => by
          rw [run_eql_bytes Tryd.underlying37 Tryd.underlying5 (by kernel_rfl) q q HQ.out HQ.out wx, beq_self_eq_true]
        go_wp2_with (first
          | ((with_reducible refine arm_loadRow (H8.out.row 1 rfl) aggBlk (bcs HQ.out) ?_ ?_); (focus rfl); simp only [Act.put, List.setIfInBounds_toArray, List.set_cons_succ, List.set_cons_zero])
          | ((with_reducible refine arm_loadRow (H8.out.row 3 rfl) agg512 (bcs HQ.out) ?_ ?_); (focus rfl); simp only [Act.put, List.setIfInBounds_toArray, List.set_cons_succ, List.set_cons_zero]))
        refine (wakes_any B w8 (Nat.le_trans HB.out H8.out.size) (HT.out.on (H8.out.below.mono HB.out))).mono ?_
        rintro e w9 ⟨rfl, hb9⟩
        have HB9 := Keep.keep ((H8.out.call hb9).below)
        clear hb9 H8 heql
        go_wp2_with fail
        go_ret
        exact ⟨rfl, HB9.out⟩
      · have HR1 : Keep (setR l s m = (l, 1)) := ⟨by rw [HSR.out, if_neg hcd]⟩
        simp only [HR1.out] at HST2
        have hd0 : decide ((0 : Int) < (n : Int)) = decide (0 < n) := by simp only [decide_eq_decide]; omega
        have HCD : Keep (decide (0 < n) = true → ((m.length : Int) == (n : Int)) = false ∧ (m.length == n) = false) := ⟨fun h => by
          have h1 := of_decide_eq_true h
          have h2 : m.length ≠ n := fun e => hcd ⟨h1, e⟩
          exact ⟨by rw [beq_eq_false_iff_ne]; omega, by rw [beq_eq_false_iff_ne]; exact h2⟩⟩
        obtain ⟨bn, hbn⟩ : ∃ b, decide (0 < n) = b := ⟨_, rfl⟩
        rw [hbn] at hd0 HCD ⊢
        clear hcd HR1 HSR
        go_wp2_with fail
        refine HST2.out.mono ?_
        rintro e w6 ⟨rfl, hr6, hc6⟩
        have H6 : Keep (Hp NoM w w6 [rowA g0 35 (bcells l).toArray, rowA g1 37 (bcells l).toArray, someA (.slice ac k cc) k]) := ⟨HH.out.chgRow 1 rfl hc6 hr6⟩
        clear hr6 hc6 HST2 HH
        go_upto_region 14 with (first
          | ((with_reducible refine arm_loadRow (H6.out.row 0 rfl) agg512 (bcs HL.out) ?_ ?_); (focus rfl); simp only [Act.put, List.setIfInBounds_toArray, List.set_cons_succ, List.set_cons_zero])
          | ((with_reducible refine arm_storeRow (Row.new w6 35 _) agg512 HZ5.out (bcs HL.out) (bc1 l) ?_ ?_ ?_); (focus rfl); (focus rfl); simp only [Act.put, World.setRow_alloc_new]))
        refine wp_world (R := fun w7 => Hp NoM w w7 [rowA g0 35 (bcells l).toArray, rowA g1 37 (bcells l).toArray, someA (.slice ac k cc) k, rowA w6.heap.size 35 (bcells l).toArray]) (H6.out.newRow _ _) ?_
        intro w8 H8
        obtain ⟨g2, hg2⟩ : ∃ g, w6.heap.size = g := ⟨_, rfl⟩
        rw [hg2] at H8 ⊢
        clear hg2 H6
        have heql : ∀ wx, (binOp .eql 37 (.agg (bcells l).toArray) (.agg (bcells l).toArray)).run Tryd.prog wx = .ok (.bool true) wx := fun wx => by
          rw [run_eql_bytes Tryd.underlying37 Tryd.underlying5 (by kernel_rfl) l l HL.out HL.out wx, beq_self_eq_true]
        cases bn with
        | false =>
          clear HCD
          go_wp2_with (first
            | ((with_reducible refine arm_loadRow (H8.out.row 1 rfl) aggBlk (bcs HL.out) ?_ ?_); (focus rfl); simp only [Act.put, List.setIfInBounds_toArray, List.set_cons_succ, List.set_cons_zero])
            | ((with_reducible refine arm_loadRow (H8.out.row 3 rfl) agg512 (bcs HL.out) ?_ ?_); (focus rfl); simp only [Act.put, List.setIfInBounds_toArray, List.set_cons_succ, List.set_cons_zero]))
          refine (wakes_any B w8 (Nat.le_trans HB.out H8.out.size) (HT.out.on (H8.out.below.mono HB.out))).mono ?_
          rintro e w9 ⟨rfl, hb9⟩
          have HB9 := Keep.keep ((H8.out.call hb9).below)
          clear hb9 H8 heql
          go_wp2_with fail
          go_ret
          exact ⟨rfl, HB9.out⟩
        | true =>
          obtain ⟨hme, hmeN⟩ := HCD.out rfl
          clear HCD
          go_wp2_with (first
            | ((with_reducible refine arm_loadRow (H8.out.row 1 rfl) aggBlk (bcs HL.out) ?_ ?_); (focus rfl); simp only [Act.put, List.setIfInBounds_toArray, List.set_cons_succ, List.set_cons_zero])
            | ((with_reducible refine arm_loadRow (H8.out.row 3 rfl) agg512 (bcs HL.out) ?_ ?_); (focus rfl); simp only [Act.put, List.setIfInBounds_toArray, List.set_cons_succ, List.set_cons_zero]))
          refine (wakes_any B w8 (Nat.le_trans HB.out H8.out.size) (HT.out.on (H8.out.below.mono HB.out))).mono ?_
          rintro e w9 ⟨rfl, hb9⟩
          have HB9 := Keep.keep ((H8.out.call hb9).below)
          clear hb9 H8 heql
          go_wp2_with fail
          go_ret
          exact ⟨rfl, HB9.out⟩
end Go.Proofs.YtohballfhhndbaaDoor
