/- PARTS OF ONE PROOF, set in one file: DelM, InsL, InsM, InsG, FewL, Short, FewS1, DifT, DifN, DifP, DifQ, DifS, GrS, CmpA, Conv, ConvS. Each part tells its own conditions. -/
import Derived.Lib.Overlaps
import Derived.Lib.AppendZeros
import Derived.Lib.AppendZerosOnto
import Derived.Laws.Externs
import Derived.Laws.IdiomCopy
import Derived.Shelf.Bytes.SlEqualAll
import Derived.Lib.SlBytesConst
import Derived.Lib.SmallJoins
import Derived.Test.YtplafpokgpolkaaGreatDoorP13
/- slices.Delete, Insert over Members of one's own: one taken out, one put in. -/
namespace Go.Proofs.YtplafpokgpolkaaGreatDoor
open Go.RowKit
section
variable {P : Program}
end
theorem slice_lhm_at (g n cap i : Nat) (hi : i < n) (hn : n ≤ cap) (w : World) : (Instr.slice 35 (.slice (some ⟨g, 0, none⟩) n cap) (some (.int .i64 (i : Int))) (some (.int .i64 ((i : Int) + 1))) (some (.int .i64 (n : Int)))).run Tryz.prog w = .ok (.slice (some ⟨g, i * 9, none⟩) 1 (n - i)) w := by
  have he : Tryz.prog.elem 35 = 32 := by simp [Program.elem, Tryz.underlying35]
  have hs : ∀ w, (sizeOf 32).run Tryz.prog w = .ok 9 w := fun w => by kernel_rfl
  have hci : ¬ n = i := by omega
  have h1 : ((i : Int) + 1).toNat - i = 1 := by omega
  rw [run_slice_lhm w 35 _ n cap (by rw [he]; exact Tryz.underlying35) .i64 .i64 .i64 (i : Int) ((i : Int) + 1) (n : Int) (by omega) (by omega) (by omega) (by omega), he, hs]
  simp [Result.andThen, sliced, hci, Addr.add_mid]
theorem slice_lh_at (g n cap i j : Nat) (hij : i ≤ j) (hj : j ≤ cap) (hc : i < cap) (w : World) : (Instr.slice 35 (.slice (some ⟨g, 0, none⟩) n cap) (some (.int .i64 (i : Int))) (some (.int .i64 (j : Int))) none).run Tryz.prog w = .ok (.slice (some ⟨g, i * 9, none⟩) (j - i) (cap - i)) w := by
  have he : Tryz.prog.elem 35 = 32 := by simp [Program.elem, Tryz.underlying35]
  have hs : ∀ w, (sizeOf 32).run Tryz.prog w = .ok 9 w := fun w => by kernel_rfl
  have hci : ¬ cap = i := by omega
  rw [run_slice_lh w 35 _ n cap (by rw [he]; exact Tryz.underlying35) .i64 .i64 (i : Int) (j : Int) (by omega) (by omega) (by omega), he, hs]
  simp [Result.andThen, sliced, hci, Addr.add_mid]
/-- s[i:], wherever it begins -/
theorem slice_mfrom_any (g n cap i : Nat) (hi : i ≤ n) (hn : n ≤ cap) : ∃ a : Addr, (∀ w, (Instr.slice 35 (.slice (some ⟨g, 0, none⟩) n cap) (some (.int .i64 (i : Int))) none none).run Tryz.prog w = .ok (.slice (some a) (n - i) (cap - i)) w) ∧ (i < cap → a = ⟨g, i * 9, none⟩) := by
  have he : Tryz.prog.elem 35 = 32 := by simp [Program.elem, Tryz.underlying35]
  have hs : ∀ w, (sizeOf 32).run Tryz.prog w = .ok 9 w := fun w => by kernel_rfl
  by_cases hci : cap = i
  · refine ⟨⟨g, 0, none⟩, fun w => ?_, fun h => by omega⟩
    rw [run_slice_l w 35 _ n cap (by rw [he]; exact Tryz.underlying35) .i64 (i : Int) (by omega) (by omega), he, hs]
    simp [Result.andThen, sliced, hci]
  · exact ⟨⟨g, i * 9, none⟩, fun w => slice_mfrom_at g n cap i hi hn (by omega) w, fun _ => rfl⟩
theorem layAt_beyond : ∀ (cs xs : List Value) (j : Nat), xs.length ≤ j → layAt xs j cs = xs
  | [], _, _, _ => rfl
  | v :: r, xs, j, h => by
    rw [layAt, layAt_beyond r _ _ (by rw [List.length_set]; omega), List.set_eq_of_length_le h]
set_option maxHeartbeats 1000000 in
/-- append(s[:i], s[i+1:]...) in place, and clear -/
theorem del_run (base : Nat) (K : Nat → Prop) (g cap i m : Nat) (l : List Mv) (w : World) (at_ : Addr) (hB : base ≤ w.heap.size) (h : RowM base K w (.slice (some ⟨g, 0, none⟩) l.length cap) l) (hl : l.length ≤ 1000000) (hi : i < l.length) (hm1 : m + 1 = l.length) (hat : i + 1 < cap → at_ = ⟨g, (i + 1) * 9, none⟩) :
    ∃ w' W2, (∀ ty, (Builtin.append_ #[35, 35] ty #[.slice (some ⟨g, 0, none⟩) i cap, .slice (some at_) (l.length - (i + 1)) (cap - (i + 1))]).run Tryz.prog w = .ok (.slice (some ⟨g, 0, none⟩) m cap) w') ∧
      (∀ ty, (Builtin.clear_ #[35] ty #[.slice (some ⟨g, m * 9, none⟩) 1 (cap - m)]).run Tryz.prog w' = .ok (.tuple #[]) W2) ∧
      RowM base K W2 (.slice (some ⟨g, 0, none⟩) m cap) (l.take i ++ l.drop (i + 1)) ∧ Below base w W2 := by
  rcases h.own.2 with ⟨h1, -⟩ | ⟨g', cap', cur, h1, hb, hh, hn, hm, hs, ht⟩
  · cases h1
  injection h1 with e1 e2 e3; injection e1 with e1; injection e1 with e1 _ _; subst e1 e3
  have hcells : (mcells l).length = l.length * 9 := mcells_length l
  have hnews : ∀ j u, (mcells (l.drop (i + 1)))[j]? = some u → w.cell? (at_.add j) = some u := fun j u hu => by
    have hj := (List.getElem?_eq_some_iff.1 hu).1
    rw [mcells_length, List.length_drop] at hj
    rw [hat (by omega), Addr.add_mid]
    rw [mcells_drop, List.getElem?_drop] at hu
    have := h.own.cellAt ((i + 1) * 9 + j) (by omega)
    rw [← hu]
    exact this
  have hone : ∀ u ∈ mcells (l.drop (i + 1)), u.oneCell' = true := mcells_one (fun x hx => (h.nd x (List.mem_of_mem_drop hx)).shape)
  obtain ⟨inf, hinf, hiz, hisz, hib⟩ := slMb.i
  have hr := fun ty => run_append_room (P := Tryz.prog) w 35 ty 32 inf Tryz.underlying35 hinf g i cap cur hh at_ (l.length - (i + 1)) (cap - (i + 1)) (mcells (l.drop (i + 1))) (by rw [hisz, mcells_length, List.length_drop]) hnews hone (by omega) (by rw [hisz, mcells_length, List.length_drop, hs]; omega)
  obtain ⟨v', w', e1, ho, hg, -, -⟩ := run_append_own_at (P := Tryz.prog) (w := w) base 35 35 32 inf _ 9 112 Tryz.underlying35 hinf hiz hisz hib rfl (by decide) (.slice (some ⟨g, 0, none⟩) i cap) i (mcells (l.take i)) (owns_take (k := i) h.own (by omega) (mcells_take l i).symm) at_ (l.length - (i + 1)) (cap - (i + 1)) (mcells (l.drop (i + 1))) (by rw [mcells_length, List.length_drop]) hnews hone (by unfold maxLen; omega) (by omega) hB
  rw [hr 35] at e1
  injection e1 with e1 e2
  subst e1
  have hlm : i + (l.length - (i + 1)) = m := by omega
  rw [hlm] at ho hr
  rw [e2] at hr
  have hw1 : base ≤ w'.heap.size := Nat.le_trans hB hg.size
  have hll : mcells (l.take i) ++ mcells (l.drop (i + 1)) = mcells (l.take i ++ l.drop (i + 1)) := (mcells_append _ _).symm
  rw [hll] at ho
  have hlen : (l.take i ++ l.drop (i + 1)).length = m := by rw [List.length_append, List.length_take, List.length_drop]; omega
  obtain ⟨cur2, hh2, hs2⟩ : ∃ cur2, w'.heap[g]? = some (.cells cur2 32 (0, 0)) ∧ cur2.size = cap * 9 := by
    rcases ho.2 with ⟨h1, -⟩ | ⟨g2, cap2, cur2, h1, -, hh2, -, -, hs2, -⟩
    · cases h1
    · injection h1 with q1 q2 q3; injection q1 with q1; injection q1 with q1 _ _; subst q1 q3
      exact ⟨cur2, hh2, hs2⟩
  obtain ⟨zs, hzl, hcl⟩ := run_clear_mbs w' g (m * 9) 1 (cap - m) (by omega) (fun j hj => by
    rw [cell_of_row w' g (m * 9 + j) cur2 32 (0, 0) hh2, Array.getElem?_eq_getElem (by omega)]; rfl) (fun j hj => ho.frozenAt _)
  have hown2 := owns_setCells zs _ w' (m * 9) ho
  rw [layAt_beyond _ _ _ (by rw [mcells_length, hlen]; exact Nat.le_refl _)] at hown2
  refine ⟨w', w'.setCells g (m * 9) zs, hr, hcl, ⟨by rw [hlen]; exact hown2.1, fun x hx => ?_⟩, ?_⟩
  · have hx2 : x ∈ l := by
      rcases List.mem_append.1 hx with hx | hx
      · exact List.mem_of_mem_take hx
      · exact List.mem_of_mem_drop hx
    refine ((h.nd x hx2).loc (fun b e => ?_)).mono (fun b e => ⟨e.1, Nat.lt_of_lt_of_le e.2.1 (Nat.le_trans hg.size hown2.2.size), fun e2 => e.2.2 e2⟩)
    have hne : some b ≠ some g := fun e2 => e.2.2 e2.symm
    rw [hown2.2.block b (Nat.lt_of_lt_of_le e.2.1 hg.size) hne, hg.block b e.2.1 (by simpa [Value.ownBlock] using hne)]
  · have h1 : Below base w w' := (Chg.grown (M := NoM) (.refl _ _ _) hg hB (fun k e => .inl (by simp only [Value.ownBlock, Option.some.injEq] at e; omega))).below (fun _ _ h => h)
    have h2 : Below base w' (w'.setCells g (m * 9) zs) := (Chg.grown (M := NoM) (.refl _ _ _) hown2.2 hw1 (fun k e => .inl (by injection e with e; omega))).below (fun _ _ h => h)
    exact h1.trans h2
set_option maxHeartbeats 4000000 in
set_option maxRecDepth 1000000 in
/-- slices.Delete(s, i, i+1) -/
theorem del_mb (base : Nat) (K : Nat → Prop) (g cap i n m : Nat) (l : List Mv) (w : World) (hB : base ≤ w.heap.size) (h : RowM base K w (.slice (some ⟨g, 0, none⟩) n cap) l) (hl : n ≤ 1000000) (hi : i < n) (hm1 : n = m + 1) :
    Calls Tryz.prog 41 #[.slice (some ⟨g, 0, none⟩) n cap, .int .i64 (i : Int), .int .i64 ((i : Int) + 1)] w fun e w' => e = .returned (.slice (some ⟨g, 0, none⟩) m cap) ∧ RowM base K w' (.slice (some ⟨g, 0, none⟩) m cap) (l.take i ++ l.drop (i + 1)) ∧ Below base w w' := by
  have hnl := len_any h
  have hn : n ≤ cap := by
    rcases h.own.2 with ⟨h1, -⟩ | ⟨g', cap', cur, h1, hb, hh, hn, -⟩
    · cases h1
    · injection h1 with e1 e2 e3; omega
  obtain ⟨at_, hs25, hat⟩ := slice_mfrom_any g n cap (i + 1) (by omega) hn
  have hs13 := fun w => slice_lhm_at g n cap i hi hn w
  have hs22 := fun w => slice_mto (some ⟨g, 0, none⟩) n cap i .i64 (by omega) w
  have hs31 : ∀ w, (Instr.slice 35 (.slice (some ⟨g, 0, none⟩) m cap) (some (.int .i64 (m : Int))) (some (.int .i64 (n : Int))) none).run Tryz.prog w = .ok (.slice (some ⟨g, m * 9, none⟩) 1 (cap - m)) w := fun w => by
    have := slice_lh_at g m cap m n (by omega) hn (by omega) w
    rw [show n - m = 1 by omega] at this
    exact this
  have hs25' : ∀ w, (Instr.slice 35 (.slice (some ⟨g, 0, none⟩) n cap) (some (.int .i64 ((i : Int) + 1))) none none).run Tryz.prog w = .ok (.slice (some at_) (n - (i + 1)) (cap - (i + 1))) w := fun w => hs25 w
  have hne1 : ((i : Int) == (i : Int) + 1) = false := by rw [beq_eq_false_iff_ne]; omega
  have HRUN : Keep (∀ nq, ∃ w' W2, (∀ ty, (Builtin.append_ #[35, 35] ty #[.slice (some ⟨g, 0, none⟩) i cap, .slice (some at_) (n - (i + 1)) (cap - (i + 1))]).run Tryz.prog (w.drewN nq) = .ok (.slice (some ⟨g, 0, none⟩) m cap) w') ∧
      (∀ ty, (Builtin.clear_ #[35] ty #[.slice (some ⟨g, m * 9, none⟩) 1 (cap - m)]).run Tryz.prog w' = .ok (.tuple #[]) W2) ∧
      RowM base K W2 (.slice (some ⟨g, 0, none⟩) m cap) (l.take i ++ l.drop (i + 1)) ∧ Below base w W2) := ⟨fun nq => by
    subst hnl
    obtain ⟨w', W2, h1, h2, h3, h4⟩ := del_run base K g cap i m l (w.drewN nq) at_ hB (h.below (below_drewN' (Below.refl _ _) nq)) hl hi hm1.symm hat
    exact ⟨w', W2, h1, h2, h3, (below_drewN' (Below.refl base w) nq).trans h4⟩⟩
  obtain ⟨q1, hq1⟩ : ∃ q, q = n - (i + 1) := ⟨_, rfl⟩
  obtain ⟨q2, hq2⟩ : ∃ q, q = cap - (i + 1) := ⟨_, rfl⟩
  obtain ⟨q3, hq3⟩ : ∃ q, q = n - i := ⟨_, rfl⟩
  obtain ⟨q4, hq4⟩ : ∃ q, q = cap - m := ⟨_, rfl⟩
  rw [← hq1, ← hq2] at hs25' HRUN
  rw [← hq3] at hs13
  rw [← hq4] at hs31 HRUN
  clear hq1 hq2 hq3 hq4 hs25 hat h hB hnl hm1
  go_enter Tryz.func41, Tryz.ntmps41
  go_upto_region 5 with fail
  refine wp_region_quiet_tail_drawn 6 (by kernel_rfl) (by kernel_rfl) ?_; simp only [List.take_succ_cons, List.take_zero, List.drop_succ_cons, List.drop_zero]; (repeat (go_big_quiet_step (fail))); refine wpQuiet_nil ?_; rintro _ ⟨nq, rfl⟩
  obtain ⟨w', W2, h1, h2, h3, h4⟩ := HRUN.out nq
  have HF := Keep.keep (And.intro h3 h4)
  refine Lib.wpList_append_run _ rfl _ _ _ _ rfl _ _ rfl rfl _ _ (h1 _) ?_
  clear h1 h3 h4 HRUN
  simp only [Act.put, List.setIfInBounds_toArray, List.set_cons_succ, List.set_cons_zero]
  go_wp2_with fail
  go_ret
  exact ⟨rfl, HF.out.1, HF.out.2⟩
end Go.Proofs.YtplafpokgpolkaaGreatDoor
/- slices.Insert over Members: what is laid where. -/
namespace Go.Proofs.YtplafpokgpolkaaGreatDoor
open Go.RowKit
section
variable {P : Program}
theorem wpList_copy_run (w : World) {ops : Array Oper} {rest : List Oper} {o : Oper} {a : Act} {Q : Exit → Act → World → Prop} (hgd : o.guard = none) (d s : Operand) (t t' : TypeId)
    (ho : o.op = .call { callee := .builtin .copy, args := #[d, s], argTypes := #[t, t'] }) (v u : Value) (hd : a.eval d = v) (hs : a.eval s = u) {v' : Value} {w' : World}
    (hr : (Builtin.copy_ #[t, t'] o.type #[v, u]).run P w = .ok v' w') (h : wpList P ops Q rest (a.put o.dst v') w') : wpList P ops Q (o :: rest) a w := by
  refine wpList_plain hgd fun _ hK => ?_
  unfold Oper.wp execOp
  simp only [ho, resolve, invoke, builtin, Sem.run_bind, Sem.run_pure, Result.andThen_ok, List.map_toArray, List.map_cons, List.map_nil, hd, hs, hr]
  exact hK _ _ h
end
theorem run_copy_mbs (w : World) (ty : TypeId) (b o dLen dCap : Nat) (a : Addr) (sLen sCap m : Nat) (cs : List Value) (hm : m = Nat.min sLen dLen) (hl : cs.length = m * 9)
    (hsrc : ∀ j v, cs[j]? = some v → w.cell? (a.add j) = some v) (hc : ∀ j, j < cs.length → (w.cell? ⟨b, o + j, none⟩).isSome = true) (hf : ∀ j, j < cs.length → w.frozen? ⟨b, o + j, none⟩ = false) (h1 : ∀ v ∈ cs, v.oneCell' = true) :
    (Builtin.copy_ #[35, 35] ty #[.slice (some ⟨b, o, none⟩) dLen dCap, .slice (some a) sLen sCap]).run Tryz.prog w = .ok (goInt m) (w.setCells b o cs) := by
  have hld := run_loadCells_list (P := Tryz.prog) w a cs hsrc
  have hst := run_storeCells_cells (P := Tryz.prog) b o cs 0 w (by simpa using hc) (by simpa using hf) h1
  obtain ⟨inf, hinf, hiz, hisz, hib⟩ := slMb.i
  rw [hl] at hld
  simp [Builtin.copy_, run_underlying Tryz.underlying35, Builtin.lenOf, Builtin.firstCells, sizeOf, typeInfo, hinf, hisz, ← hm, hld, hst]
theorem lay_ins1 (xs : List Value) (l : List Mv) (i : Nat) (x : Mv) (hi : i ≤ l.length) (hl : xs.length = (l.length + 1) * 9) (ht : ∀ j, j < i * 9 → xs[j]? = (mcells (l.take i))[j]?) :
    layAt (layAt xs ((i + 1) * 9) (mcells (l.drop i))) (i * 9) (mcell x).toList = mcells (l.take i ++ [x] ++ l.drop i) ∧ layAt (layAt xs (i * 9) (mcell x).toList) ((i + 1) * 9) (mcells (l.drop i)) = mcells (l.take i ++ [x] ++ l.drop i) := by
  have hd : (mcells (l.drop i)).length = (l.length - i) * 9 := by rw [mcells_length, List.length_drop]
  have ht9 : (mcells (l.take i)).length = i * 9 := by rw [mcells_length, List.length_take]; congr 1; omega
  have hx9 : (mcell x).toList.length = 9 := mcell_len x
  have hrhs : ∀ j : Nat, (mcells (l.take i ++ [x] ++ l.drop i))[j]? = if j < i * 9 then (mcells (l.take i))[j]? else if j < i * 9 + 9 then (mcell x).toList[j - i * 9]? else (mcells (l.drop i))[j - (i * 9 + 9)]? := fun j => by
    rw [mcells_append, mcells_append, show mcells [x] = (mcell x).toList from by rw [mcells_cons]; simp [mcells]]
    by_cases h1 : j < i * 9
    · rw [if_pos h1, List.append_assoc, List.getElem?_append_left (by omega)]
    · rw [if_neg h1]
      by_cases h2 : j < i * 9 + 9
      · rw [if_pos h2, List.getElem?_append_left (by rw [List.length_append]; omega), List.getElem?_append_right (by omega), ht9]
      · rw [if_neg h2, List.getElem?_append_right (by rw [List.length_append]; omega), List.length_append, ht9, hx9]
  constructor
  · refine List.ext_getElem? fun j => ?_
    rw [hrhs, layAt_get _ _ _ _ (by rw [layAt_length, hl, hx9]; omega), hx9]
    by_cases h1 : j < i * 9
    · rw [if_neg (by omega), if_pos h1, layAt_get _ _ _ _ (by rw [hl, hd]; omega), if_neg (by omega)]
      exact ht j h1
    · by_cases h2 : j < i * 9 + 9
      · rw [if_pos (by omega), if_neg h1, if_pos h2]
      · rw [if_neg (by omega), if_neg h1, if_neg h2, layAt_get _ _ _ _ (by rw [hl, hd]; omega), hd]
        by_cases h3 : j < (l.length + 1) * 9
        · rw [if_pos (by omega), show (i + 1) * 9 = i * 9 + 9 by omega]
        · rw [if_neg (by omega), List.getElem?_eq_none (by omega), List.getElem?_eq_none (by omega)]
  · refine List.ext_getElem? fun j => ?_
    rw [hrhs, layAt_get _ _ _ _ (by rw [layAt_length, hl, hd]; omega), hd]
    by_cases h1 : j < i * 9
    · rw [if_neg (by omega), if_pos h1, layAt_get _ _ _ _ (by rw [hl, hx9]; omega), hx9, if_neg (by omega)]
      exact ht j h1
    · by_cases h2 : j < i * 9 + 9
      · rw [if_neg (by omega), if_neg h1, if_pos h2, layAt_get _ _ _ _ (by rw [hl, hx9]; omega), hx9, if_pos (by omega)]
      · rw [if_neg h1, if_neg h2]
        by_cases h3 : j < (l.length + 1) * 9
        · rw [if_pos (by omega), show (i + 1) * 9 = i * 9 + 9 by omega]
        · rw [if_neg (by omega), layAt_get _ _ _ _ (by rw [hl, hx9]; omega), hx9, if_neg (by omega), List.getElem?_eq_none (by omega), List.getElem?_eq_none (by omega)]
/-- the two copies, in a row of n + 1 that is the call's own -/
theorem ins_owns {base g cap n i : Nat} {w : World} {xs : List Value} {l : List Mv} (x : Mv) (h : w.ownsRow base 32 9 (.slice (some ⟨g, 0, none⟩) (n + 1) cap) (n + 1) xs) (hn : n = l.length) (hi : i ≤ n) (ht : ∀ j, j < i * 9 → xs[j]? = (mcells (l.take i))[j]?) :
    (((w.setCells g ((i + 1) * 9) (mcells (l.drop i))).setCells g (i * 9) (mcell x).toList).ownsRow base 32 9 (.slice (some ⟨g, 0, none⟩) (n + 1) cap) (n + 1) (mcells (l.take i ++ [x] ++ l.drop i)) ∧ w.grownBy ((w.setCells g ((i + 1) * 9) (mcells (l.drop i))).setCells g (i * 9) (mcell x).toList) (some g)) ∧
    (((w.setCells g (i * 9) (mcell x).toList).setCells g ((i + 1) * 9) (mcells (l.drop i))).ownsRow base 32 9 (.slice (some ⟨g, 0, none⟩) (n + 1) cap) (n + 1) (mcells (l.take i ++ [x] ++ l.drop i)) ∧ w.grownBy ((w.setCells g (i * 9) (mcell x).toList).setCells g ((i + 1) * 9) (mcells (l.drop i))) (some g)) := by
  subst hn
  have hl := h.1
  obtain ⟨e1, e2⟩ := lay_ins1 xs l i x hi hl ht
  obtain ⟨a1, a2⟩ := owns_setCells (mcells (l.drop i)) xs w ((i + 1) * 9) h
  obtain ⟨b1, b2⟩ := owns_setCells (mcell x).toList _ _ (i * 9) a1
  obtain ⟨c1, c2⟩ := owns_setCells (mcell x).toList xs w (i * 9) h
  obtain ⟨d1, d2⟩ := owns_setCells (mcells (l.drop i)) _ _ ((i + 1) * 9) c1
  rw [e1] at b1
  rw [e2] at d1
  exact ⟨⟨b1, a2.trans b2⟩, ⟨d1, c2.trans d2⟩⟩
end Go.Proofs.YtplafpokgpolkaaGreatDoor
/- slices.Insert over Members of one's own: one put in, not behind the last one. -/
namespace Go.Proofs.YtplafpokgpolkaaGreatDoor
open Go.RowKit
section
variable {P : Program} {ops : Array Oper} {rest : List Oper} {a : Act} {w : World} {Q : Exit → Act → World → Prop} {tp : TypeId} {dst : Option Tmp} {args : Array Operand} {ts : Array TypeId} {pos : String} {after : Array Edge}
theorem arm_stopF (f : FuncId) (h : Stopped P ops rest a w Q ⟨dst, .call ⟨.value (.func f), args, ts⟩, tp, pos, after, none⟩) : wpList P ops Q (⟨dst, .call ⟨.value (.func f), args, ts⟩, tp, pos, after, none⟩ :: rest) a w := by cases h; assumption
/-- ARM: a call whose run is known -/
theorem arm_callRun {f : FuncId} {vs : Array Value} {v : Value} (hv : args.map a.eval = vs) (hr : (callFunc f vs).run P w = .ok (.value v) w) (h : wpList P ops Q rest (a.put dst v) w) : wpList P ops Q (⟨dst, .call ⟨.value (.func f), args, ts⟩, tp, pos, after, none⟩ :: rest) a w := by
  refine wpList_plain rfl fun _ hK => ?_
  unfold Oper.wp execOp
  have hK := hK _ _ h
  simp [resolve, Deferred.ofValue, invoke, Act.eval, hv, hr]
  exact hK
end
theorem shape_row {w : World} {b : Nat} {e : TypeId} {c : Array Value} {fr : Nat × Nat} (h : w.heap[b]? = some (.cells c e fr)) : w.shape? b = some (e, c.size) := by
  unfold World.shape?
  rw [h]
theorem run_ovl (w : World) (vb g lb cb kB o : Nat) (cx : Array Value) (hvb : vb ≠ g) (hx : Row w vb 32 cx) (_hx9 : cx.size = 9) (hg : w.shape? g = some (32, kB)) (hk : kB ≠ 0) :
    (callFunc 85 #[.slice (some ⟨vb, 0, none⟩) 1 1, .slice (some ⟨g, o, none⟩) lb cb]).run Tryz.prog w = .ok (.value (.bool false)) w := by
  rw [run_callFunc_extern Tryz.func85 (by kernel_rfl) (by kernel_rfl) (by kernel_rfl) (e := Extern.SlicesOverlaps.overlaps #[35, 35] #[4]) (by kernel_rfl),
    Lib.run_overlaps_apart w 35 4 32 Tryz.underlying35 9 (fun w => by kernel_rfl) ⟨vb, 0, none⟩ ⟨g, o, none⟩ 1 1 lb cb hvb 32 32 cx.size kB (shape_row hx) hg hk (hx.frozen 0) (hx.frozen cx.size)]
  rfl
theorem ins_nd {base : Nat} {K : Nat → Prop} {w w' : World} {v : Value} {l : List Mv} {x : Mv} {i : Nat} (h : RowM base K w v l) {N : Nat → Prop} (hnx : NdR w (fun b => (K b ∨ base ≤ b) ∧ b < w.heap.size ∧ v.ownBlock ≠ some b) x.1.2 x.2.1 x.2.2) (hN : ∀ b, (K b ∨ base ≤ b) → b < w.heap.size → v.ownBlock ≠ some b → w'.heap[b]? = w.heap[b]? ∧ N b) : ∀ y ∈ l.take i ++ [x] ++ l.drop i, NdR w' N y.1.2 y.2.1 y.2.2 := fun y hy => by
  have hy' : NdR w (fun b => (K b ∨ base ≤ b) ∧ b < w.heap.size ∧ v.ownBlock ≠ some b) y.1.2 y.2.1 y.2.2 := by
    rcases List.mem_append.1 hy with hy | hy
    · rcases List.mem_append.1 hy with hy | hy
      · exact h.nd y (List.mem_of_mem_take hy)
      · rw [List.mem_singleton.1 hy]; exact hnx
    · exact h.nd y (List.mem_of_mem_drop hy)
  exact (hy'.loc (fun b e => (hN b e.1 e.2.1 e.2.2).1)).mono (fun b e => (hN b e.1 e.2.1 e.2.2).2)
set_option maxHeartbeats 4000000 in
set_option maxRecDepth 1000000 in
/-- there is room -/
theorem ins_room (base : Nat) (K : Nat → Prop) (g cap i n vb : Nat) (l : List Mv) (x : Mv) (w : World) (hB : base ≤ w.heap.size) (h : RowM base K w (.slice (some ⟨g, 0, none⟩) n cap) l) (hl : n ≤ 1000000) (hi : i < n) (hx : Row w vb 32 (mcell x)) (hvb : vb ≠ g) (hnx : NdR w (fun b => (K b ∨ base ≤ b) ∧ b < w.heap.size ∧ (Value.slice (some ⟨g, 0, none⟩) n cap).ownBlock ≠ some b) x.1.2 x.2.1 x.2.2) (hroom : n + 1 ≤ cap) :
    Calls Tryz.prog 42 #[.slice (some ⟨g, 0, none⟩) n cap, .int .i64 (i : Int), .slice (some ⟨vb, 0, none⟩) 1 1] w fun e w' => e = .returned (.slice (some ⟨g, 0, none⟩) (n + 1) cap) ∧ RowM base K w' (.slice (some ⟨g, 0, none⟩) (n + 1) cap) (l.take i ++ [x] ++ l.drop i) ∧ Below base w w' := by
  have hnl := len_any h
  have hown0 : w.ownsRow base 32 9 (.slice (some ⟨g, 0, none⟩) n cap) n (mcells l) := by have := h.own; rw [← hnl] at this; exact this
  have hone := mcells_one (fun y hy => (h.nd y hy).shape)
  have honex : ∀ u ∈ (mcell x).toList, u.oneCell' = true := fun u hu => mcells_one (l := [x]) (fun y hy => by rw [List.mem_singleton.1 hy]; exact hnx.shape) u (by rw [mcells_cons]; exact List.mem_append_left _ hu)
  rcases hown0.2 with ⟨h1, -⟩ | ⟨g', cap', cur, h1, hb, hh, hn, hm, hs, ht⟩
  · cases h1
  injection h1 with e1 e2 e3; injection e1 with e1; injection e1 with e1 _ _; subst e1 e3
  clear e2
  unfold maxLen at hm
  obtain ⟨xs, hxs⟩ : ∃ xs, xs = cur.toList.take ((n + 1) * 9) := ⟨_, rfl⟩
  have hown1 : ∀ nq, (w.drewN nq).ownsRow base 32 9 (.slice (some ⟨g, 0, none⟩) (n + 1) cap) (n + 1) xs := fun nq => by
    refine ⟨by rw [hxs, List.length_take, Array.length_toList, hs]; omega, .inr ⟨g, cap, cur, rfl, hb, hh, hroom, by unfold maxLen; omega, hs, hxs.symm⟩⟩
  have hxt : ∀ j, j < i * 9 → xs[j]? = (mcells (l.take i))[j]? := fun j hj => by
    rw [mcells_take, ← ht, hxs, List.getElem?_take_of_lt (by omega), List.getElem?_take_of_lt hj, List.getElem?_take_of_lt (by omega)]
  have HFIN : ∀ nq, let W := ((w.drewN nq).setCells g ((i + 1) * 9) (mcells (l.drop i))).setCells g (i * 9) (mcell x).toList
      RowM base K W (.slice (some ⟨g, 0, none⟩) (n + 1) cap) (l.take i ++ [x] ++ l.drop i) ∧ Below base w W := fun nq => by
    obtain ⟨⟨a1, a2⟩, -⟩ := ins_owns x (hown1 nq) hnl (by omega) hxt
    refine ⟨⟨?_, ins_nd h hnx (fun b q1 q2 q3 => ⟨?_, q1, ?_, q3⟩)⟩, ?_⟩
    · have hll : (l.take i ++ [x] ++ l.drop i).length = n + 1 := by simp; omega
      rw [hll]; exact a1
    · rw [a2.block b q2 (fun e => q3 e.symm)]; rfl
    · exact Nat.lt_of_lt_of_le q2 a2.size
    · exact (below_drewN' (Below.refl base w) nq).trans ((Chg.grown (M := NoM) (.refl _ _ _) a2 hB (fun k e => .inl (by injection e with e; omega))).below (fun _ _ h => h))
  have hcp1 : ∀ nq ty c1 c2, (Builtin.copy_ #[35, 35] ty #[.slice (some ⟨g, (i + 1) * 9, none⟩) (n - i) c1, .slice (some ⟨g, i * 9, none⟩) (n + 1 - i) c2]).run Tryz.prog (w.drewN nq) = .ok (goInt (n - i : Nat)) ((w.drewN nq).setCells g ((i + 1) * 9) (mcells (l.drop i))) := fun nq ty c1 c2 =>
    run_copy_mbs (w.drewN nq) ty g ((i + 1) * 9) (n - i) c1 ⟨g, i * 9, none⟩ (n + 1 - i) c2 (n - i) _ (by simp only [Nat.min_def]; split <;> omega) (by rw [mcells_length, List.length_drop]; omega)
      (fun j v hj => by
        have hjl := (List.getElem?_eq_some_iff.1 hj).1
        rw [mcells_length, List.length_drop] at hjl
        rw [Addr.add_mid]
        rw [mcells_drop, List.getElem?_drop] at hj
        have := World.ownsRow.cellAt (n := n) (size := 9) hown0 (i * 9 + j) (by omega)
        rw [← hj]; exact this)
      (fun j hj => by
        rw [mcells_length, List.length_drop] at hj
        rw [(hown1 nq).cellAt ((i + 1) * 9 + j) (by omega), List.getElem?_eq_getElem (by rw [(hown1 nq).1]; omega)]; rfl)
      (fun j hj => (hown1 nq).frozenAt _) (fun v hv => hone v (by rw [mcells_drop] at hv; exact List.mem_of_mem_drop hv))
  have hcp2 : ∀ nq ty c2, (Builtin.copy_ #[35, 35] ty #[.slice (some ⟨g, i * 9, none⟩) (n + 1 - i) c2, .slice (some ⟨vb, 0, none⟩) 1 1]).run Tryz.prog ((w.drewN nq).setCells g ((i + 1) * 9) (mcells (l.drop i))) = .ok (goInt (1 : Nat)) (((w.drewN nq).setCells g ((i + 1) * 9) (mcells (l.drop i))).setCells g (i * 9) (mcell x).toList) := fun nq ty c2 => by
    obtain ⟨a1, -⟩ := owns_setCells (mcells (l.drop i)) xs (w.drewN nq) ((i + 1) * 9) (hown1 nq)
    exact run_copy_mbs _ ty g (i * 9) (n + 1 - i) c2 ⟨vb, 0, none⟩ 1 1 1 _ (by simp only [Nat.min_def]; split <;> omega) (by rw [mcell_len])
      (fun j v hj => by
        rw [Addr.add_mid, Nat.zero_add, World.cell?_setCells_out g _ _ _ _ (fun e _ => absurd e hvb)]
        exact hx.cell (by simpa using hj))
      (fun j hj => by
        rw [mcell_len] at hj
        rw [a1.cellAt (i * 9 + j) (by omega), List.getElem?_eq_getElem (by rw [a1.1]; omega)]; rfl)
      (fun j hj => a1.frozenAt _) honex
  have hov := fun lb cb => run_ovl w vb g lb cb cur.size ((i + 1) * 9) (mcell x) hvb hx rfl (shape_row hh) (by rw [hs]; omega)
  have hs12 := fun w => slice_mfrom_at g n cap i (by omega) (by omega) (by omega) w
  have hs60 : ∀ w, (Instr.slice 35 (.slice (some ⟨g, 0, none⟩) n cap) none (some (.int .i64 ((n : Int) + 1))) none).run Tryz.prog w = .ok (.slice (some ⟨g, 0, none⟩) (n + 1) cap) w := fun w => slice_mto (some ⟨g, 0, none⟩) n cap (n + 1) .i64 hroom w
  have hs66 : ∀ w, (Instr.slice 35 (.slice (some ⟨g, 0, none⟩) (n + 1) cap) (some (.int .i64 ((i : Int) + 1))) none none).run Tryz.prog w = .ok (.slice (some ⟨g, (i + 1) * 9, none⟩) (n - i) (cap - (i + 1))) w := fun w => by
    have := slice_mfrom_at g (n + 1) cap (i + 1) (by omega) hroom (by omega) w
    rw [show n + 1 - (i + 1) = n - i by omega] at this
    exact this
  have hs76 := fun w => slice_mfrom_at g (n + 1) cap i (by omega) hroom (by omega) w
  have hq1 : ((i : Int) == (n : Int)) = false := by rw [beq_eq_false_iff_ne]; omega
  have hq2 : decide ((cap : Int) < (n : Int) + 1) = false := decide_eq_false (by omega)
  have HF := Keep.keep HFIN
  have HC1 := Keep.keep hcp1; have HC2 := Keep.keep hcp2
  obtain ⟨p1, hp1⟩ : ∃ q, q = n - i := ⟨_, rfl⟩
  obtain ⟨p2, hp2⟩ : ∃ q, q = n + 1 - i := ⟨_, rfl⟩
  obtain ⟨p3, hp3⟩ : ∃ q, q = cap - i := ⟨_, rfl⟩
  obtain ⟨p4, hp4⟩ : ∃ q, q = cap - (i + 1) := ⟨_, rfl⟩
  obtain ⟨o1, ho1⟩ : ∃ q, q = (i + 1) * 9 := ⟨_, rfl⟩
  obtain ⟨o0, ho0⟩ : ∃ q, q = i * 9 := ⟨_, rfl⟩
  rw [← hp1, ← ho1, ← ho0, ← hp2] at HC1
  rw [← hp2, ← ho1, ← ho0] at HC2
  rw [← ho1] at hov
  rw [← ho0, ← hp1, ← hp3] at hs12
  rw [← ho1, ← hp1, ← hp4] at hs66
  rw [← ho0, ← hp2, ← hp3] at hs76
  simp only [← ho1, ← ho0] at HF
  clear hp1 hp2 hp3 hp4 ho1 ho0 hcp1 hcp2 HFIN hown1 hxt hxs hone honex h hown0 hnx hx hh hs ht hb hB hnl hvb
  go_enter Tryz.func42, Tryz.ntmps42
  go_upto_region 15 with (with_reducible refine arm_stopF 85 ?_)
  refine Stopped.out ?_
  refine arm_callRun (vs := #[.slice (some ⟨vb, 0, none⟩) 1 1, .slice (some ⟨g, o1, none⟩) p1 p4]) (by first | rfl | simp [Act.eval]) (hov p1 p4) ?_
  simp only [Act.put, List.setIfInBounds_toArray, List.set_cons_succ, List.set_cons_zero]
  go_upto_region 15 with fail
  refine wp_region_quiet_tail_drawn 8 (by kernel_rfl) (by kernel_rfl) ?_; simp only [List.take_succ_cons, List.take_zero, List.drop_succ_cons, List.drop_zero]; (repeat (go_big_quiet_step (fail))); refine wpQuiet_nil ?_; rintro _ ⟨nq, rfl⟩
  refine wpList_copy_run _ rfl _ _ 35 35 rfl _ _ rfl rfl (HC1.out nq _ _ _) ?_
  simp only [Act.put, List.setIfInBounds_toArray, List.set_cons_succ, List.set_cons_zero]
  have hc2 := fun ty => HC2.out nq ty p3
  go_wp2_with fail
  go_ret
  exact ⟨rfl, HF.out nq⟩
end Go.Proofs.YtplafpokgpolkaaGreatDoor
/- slices.Insert over Members: no room. -/
namespace Go.Proofs.YtplafpokgpolkaaGreatDoor
open Go.RowKit
set_option maxHeartbeats 4000000 in
set_option maxRecDepth 1000000 in
theorem ins_grow (base : Nat) (K : Nat → Prop) (g i n vb : Nat) (l : List Mv) (x : Mv) (w : World) (hB : base ≤ w.heap.size) (h : RowM base K w (.slice (some ⟨g, 0, none⟩) n n) l) (hl : n ≤ 1000000) (hi : i < n) (hx : Row w vb 32 (mcell x)) (hnx : NdR w (fun b => (K b ∨ base ≤ b) ∧ b < w.heap.size ∧ (Value.slice (some ⟨g, 0, none⟩) n n).ownBlock ≠ some b) x.1.2 x.2.1 x.2.2) :
    Calls Tryz.prog 42 #[.slice (some ⟨g, 0, none⟩) n n, .int .i64 (i : Int), .slice (some ⟨vb, 0, none⟩) 1 1] w fun e w' => ∃ b0 G, e = .returned (.slice (some ⟨b0, 0, none⟩) (n + 1) G) ∧ RowM base K w' (.slice (some ⟨b0, 0, none⟩) (n + 1) G) (l.take i ++ [x] ++ l.drop i) ∧ Below base w w' := by
  have hnl := len_any h
  have hown0 : w.ownsRow base 32 9 (.slice (some ⟨g, 0, none⟩) n n) n (mcells l) := by have := h.own; rw [← hnl] at this; exact this
  have hone := mcells_one (fun y hy => (h.nd y hy).shape)
  have honex : ∀ u ∈ (mcell x).toList, u.oneCell' = true := fun u hu => mcells_one (l := [x]) (fun y hy => by rw [List.mem_singleton.1 hy]; exact hnx.shape) u (by rw [mcells_cons]; exact List.mem_append_left _ hu)
  have hgl := (h.lt rfl)
  obtain ⟨inf, hinf, hiz, hisz, hib⟩ := slMb.i
  obtain ⟨q0, hq0⟩ : ∃ q, q = n + 1 - i := ⟨_, rfl⟩
  have hiq : i + q0 = n + 1 := by omega
  have hold : (Builtin.firstCells inf.size i (.slice (some ⟨g, 0, none⟩) i n)).run Tryz.prog w.drew = .ok (mcells (l.take i)).toArray w.drew := by
    rw [hisz]
    exact run_firstCells_some w.drew 9 i ⟨g, 0, none⟩ i n (mcells (l.take i)) (by rw [mcells_length, List.length_take]; congr 1; omega) (fun j v hj => by
      have hjl := (List.getElem?_eq_some_iff.1 hj).1
      rw [mcells_length, List.length_take] at hjl
      rw [mcells_take, List.getElem?_take_of_lt (by omega)] at hj
      rw [Addr.add_mid, Nat.zero_add]
      have := World.ownsRow.cellAt (n := n) (size := 9) hown0 j (by omega)
      rw [← hj]; exact this)
  obtain ⟨z, hz⟩ : ∃ z : Value, z = .agg (mbC ([], nd0) nilV nilV) := ⟨_, rfl⟩
  have hzs : z.cells.size = 9 := by rw [hz]; rfl
  rw [← hz] at hiz
  obtain ⟨G, hG⟩ : ∃ G, G = grownCap w (n + 1) n 32 := ⟨_, rfl⟩
  have hGn : n + 1 ≤ G := by rw [hG]; exact grownCap_ge w _ _ _
  have hGm : G ≤ maxLen := by rw [hG]; exact grownCap_le_maxLen w (n + 1) n 32 (by unfold maxLen; omega)
  obtain ⟨ROW, hROW⟩ : ∃ ROW : Array Value, ROW = (mcells (l.take i)).toArray ++ Builtin.zeroCells z.cells q0 ++ Builtin.zeroCells z.cells (G - (n + 1)) := ⟨_, rfl⟩
  have hrz : ∀ ty, (Builtin.append_ #[35, 3] ty #[.slice (some ⟨g, 0, none⟩) i n, .int .i64 (q0 : Int)]).run Tryz.prog w = .ok (.slice (some ⟨w.heap.size, 0, none⟩) (n + 1) G) (w.drew.alloc (.cells ROW 32)) := fun ty => by
    have := Lib.run_append_grow_zeros w 35 3 ty 32 inf z .i64 .i64 Tryz.underlying35 Tryz.underlying3 hinf hiz (some ⟨g, 0, none⟩) i n (mcells (l.take i)) hold q0 (by omega) (by omega) (by omega) (by omega) (by rw [hib]; omega) (by rw [hib, hiq]; exact growslice_fits (by omega) (by omega))
    rw [hiq, ← hG, ← hROW] at this
    exact this
  have hpre : (mcells (l.take i)).length = i * 9 := by rw [mcells_length, List.length_take]; congr 1; omega
  have hRs : ROW.size = G * 9 := by
    rw [hROW, Array.size_append, Array.size_append, size_zeroCells, size_zeroCells, hzs, List.size_toArray, hpre]; omega
  obtain ⟨xs, hxs⟩ : ∃ xs, xs = ROW.toList.take ((n + 1) * 9) := ⟨_, rfl⟩
  obtain ⟨b0, hb0⟩ : ∃ b, b = w.heap.size := ⟨_, rfl⟩
  have hownW : (w.drew.alloc (.cells ROW 32)).ownsRow base 32 9 (.slice (some ⟨b0, 0, none⟩) (n + 1) G) (n + 1) xs := by
    rw [hb0]
    exact ⟨by rw [hxs, List.length_take, Array.length_toList, hRs]; omega, .inr ⟨w.heap.size, G, ROW, rfl, hB, heap_alloc_new w.drew _, hGn, hGm, hRs, hxs.symm⟩⟩
  have hxt : ∀ j, j < i * 9 → xs[j]? = (mcells (l.take i))[j]? := fun j hj => by
    rw [hxs, List.getElem?_take_of_lt (by omega), hROW]
    simp only [Array.toList_append]
    rw [List.getElem?_append_left (by rw [List.length_append]; simp; omega), List.getElem?_append_left (by simpa [hpre] using hj)]
  obtain ⟨W0, hW0⟩ : ∃ W0, W0 = w.drew.alloc (.cells ROW 32) := ⟨_, rfl⟩
  have hblW : Below w.heap.size w W0 := by rw [hW0]; exact (Below.refl _ _).drew.alloc (Nat.le_refl _) _
  rw [← hW0] at hrz hownW
  rw [← hb0] at hrz
  have hg2 : g < w.heap.size := hgl.2
  have hgb : g ≠ b0 := by omega
  have hvbb : vb ≠ b0 := by have := hx.lt; omega
  obtain ⟨W1, hW1⟩ : ∃ W1, W1 = W0.setCells b0 (i * 9) (mcell x).toList := ⟨_, rfl⟩
  obtain ⟨a1, a2⟩ := owns_setCells (mcell x).toList xs W0 (i * 9) hownW
  rw [← hW1] at a1 a2
  have hcpA : ∀ ty c2, (Builtin.copy_ #[35, 35] ty #[.slice (some ⟨b0, i * 9, none⟩) q0 c2, .slice (some ⟨vb, 0, none⟩) 1 1]).run Tryz.prog W0 = .ok (goInt (1 : Nat)) W1 := fun ty c2 => by
    rw [hW1]
    exact run_copy_mbs W0 ty b0 (i * 9) q0 c2 ⟨vb, 0, none⟩ 1 1 1 _ (by simp only [Nat.min_def]; split <;> omega) (by rw [mcell_len])
      (fun j v hj => by
        rw [Addr.add_mid, Nat.zero_add]
        exact (hx.below hblW hx.lt).cell (by simpa using hj))
      (fun j hj => by
        rw [mcell_len] at hj
        rw [World.ownsRow.cellAt (n := n + 1) (size := 9) hownW (i * 9 + j) (by omega), List.getElem?_eq_getElem (by rw [hownW.1]; omega)]; rfl)
      (fun j hj => hownW.frozenAt _) honex
  have hcpB : ∀ nq ty c1 c2, (Builtin.copy_ #[35, 35] ty #[.slice (some ⟨b0, (i + 1) * 9, none⟩) (n - i) c1, .slice (some ⟨g, i * 9, none⟩) (n - i) c2]).run Tryz.prog (W1.drewN nq) = .ok (goInt (n - i : Nat)) ((W1.drewN nq).setCells b0 ((i + 1) * 9) (mcells (l.drop i))) := fun nq ty c1 c2 =>
    run_copy_mbs (W1.drewN nq) ty b0 ((i + 1) * 9) (n - i) c1 ⟨g, i * 9, none⟩ (n - i) c2 (n - i) _ (by simp) (by rw [mcells_length, List.length_drop]; omega)
      (fun j v hj => by
        have hjl := (List.getElem?_eq_some_iff.1 hj).1
        rw [mcells_length, List.length_drop] at hjl
        rw [Addr.add_mid]
        rw [mcells_drop, List.getElem?_drop] at hj
        have h1 := World.ownsRow.cellAt (n := n) (size := 9) hown0 (i * 9 + j) (by omega)
        rw [hj] at h1
        show W1.cell? _ = _
        rw [hW1, World.cell?_setCells_out b0 _ _ _ _ (fun e _ => absurd e hgb), hblW.cell (p := ⟨g, i * 9 + j, none⟩) hgl.2]
        exact h1)
      (fun j hj => by
        rw [mcells_length, List.length_drop] at hj
        show (W1.cell? _).isSome = true
        rw [World.ownsRow.cellAt (n := n + 1) (size := 9) a1 ((i + 1) * 9 + j) (by omega), List.getElem?_eq_getElem (by rw [a1.1]; omega)]; rfl)
      (fun j hj => a1.frozenAt _) (fun v hv => hone v (by rw [mcells_drop] at hv; exact List.mem_of_mem_drop hv))
  have HFIN : ∀ nq, let W := (W1.drewN nq).setCells b0 ((i + 1) * 9) (mcells (l.drop i))
      RowM base K W (.slice (some ⟨b0, 0, none⟩) (n + 1) G) (l.take i ++ [x] ++ l.drop i) ∧ Below base w W := fun nq => by
    have a1' : (W1.drewN nq).ownsRow base 32 9 (.slice (some ⟨b0, 0, none⟩) (n + 1) G) (n + 1) (layAt xs (i * 9) (mcell x).toList) := a1
    obtain ⟨d1, d2⟩ := owns_setCells (mcells (l.drop i)) _ (W1.drewN nq) ((i + 1) * 9) a1'
    have hlen : xs.length = (l.length + 1) * 9 := by rw [hownW.1, hnl]
    rw [(lay_ins1 xs l i x (by omega) hlen hxt).2] at d1
    have hs1 : W0.heap.size ≤ W1.heap.size := a2.size
    have hs2 : W1.heap.size ≤ ((W1.drewN nq).setCells b0 ((i + 1) * 9) (mcells (l.drop i))).heap.size := d2.size
    have hsW := hblW.size
    have hbb : ∀ b, b < w.heap.size → ((W1.drewN nq).setCells b0 ((i + 1) * 9) (mcells (l.drop i))).heap[b]? = w.heap[b]? := fun b hb => by
      rw [d2.block b (show b < W1.heap.size by omega) (fun e => by injection e with e; omega)]
      show W1.heap[b]? = _
      rw [a2.block b (by omega) (fun e => by injection e with e; omega), hblW.block b hb]
    refine ⟨⟨?_, ins_nd h hnx (fun b q1 q2 q3 => ⟨hbb b q2, q1, by omega, fun e => by simp only [Value.ownBlock, Option.some.injEq] at e; omega⟩)⟩, ?_⟩
    · have hll : (l.take i ++ [x] ++ l.drop i).length = n + 1 := by simp; omega
      rw [hll]; exact d1
    · have e1 : Below base W0 W1 := (Chg.grown (M := NoM) (.refl _ _ _) a2 (by omega) (fun k e => .inl (by injection e with e; omega))).below (fun _ _ h => h)
      have e2 : Below base (W1.drewN nq) _ := (Chg.grown (M := NoM) (.refl _ _ _) d2 (show base ≤ W1.heap.size by omega) (fun k e => .inl (by injection e with e; omega))).below (fun _ _ h => h)
      exact (((hblW.mono hB).trans e1).trans (below_drewN' (Below.refl _ _) nq)).trans e2
  have hs12 := fun w => slice_mfrom_at g n n i (by omega) (Nat.le_refl _) (by omega) w
  have hs34 := fun w => slice_mto (some ⟨g, 0, none⟩) n n i .i64 (by omega) w
  have hs43 : ∀ w, (Instr.slice 35 (.slice (some ⟨b0, 0, none⟩) (n + 1) G) (some (.int .i64 (i : Int))) none none).run Tryz.prog w = .ok (.slice (some ⟨b0, i * 9, none⟩) q0 (G - i)) w := fun w => by
    have := slice_mfrom_at b0 (n + 1) G i (by omega) hGn (by omega) w
    rw [← hq0] at this
    exact this
  have hs50 : ∀ w, (Instr.slice 35 (.slice (some ⟨b0, 0, none⟩) (n + 1) G) (some (.int .i64 ((i : Int) + 1))) none none).run Tryz.prog w = .ok (.slice (some ⟨b0, (i + 1) * 9, none⟩) (n - i) (G - (i + 1))) w := fun w => by
    have := slice_mfrom_at b0 (n + 1) G (i + 1) (by omega) hGn (by omega) w
    rw [show n + 1 - (i + 1) = n - i by omega] at this
    exact this
  have hz1 : ((i : Int) == (n : Int)) = false := by rw [beq_eq_false_iff_ne]; omega
  have hz3 : decide ((n : Int) < (n : Int) + 1) = true := decide_eq_true (by omega)
  have hkk : (n : Int) + 1 - (i : Int) = (q0 : Int) := by omega
  have hkw : IntKind.i64.wrap (q0 : Int) = (q0 : Int) := by rw [IntKind.wrap_i64]; omega
  have HF := Keep.keep HFIN
  have HCB := Keep.keep hcpB; have HCA := Keep.keep hcpA; have HRZ := Keep.keep hrz
  obtain ⟨p1, hp1⟩ : ∃ q, q = n - i := ⟨_, rfl⟩
  obtain ⟨p3, hp3⟩ : ∃ q, q = G - i := ⟨_, rfl⟩
  obtain ⟨p4, hp4⟩ : ∃ q, q = G - (i + 1) := ⟨_, rfl⟩
  obtain ⟨o1, ho1⟩ : ∃ q, q = (i + 1) * 9 := ⟨_, rfl⟩
  obtain ⟨o0, ho0⟩ : ∃ q, q = i * 9 := ⟨_, rfl⟩
  rw [← hp1, ← ho1, ← ho0] at HCB
  rw [← ho0] at HCA
  rw [← ho0, ← hp1] at hs12
  rw [← ho1, ← hp1, ← hp4] at hs50
  rw [← ho0, ← hp3] at hs43
  simp only [← ho1] at HF
  have hn1 : n ≤ 1000000 := hl
  clear hp1 hp3 hp4 ho1 ho0 hcpA hcpB HFIN hownW hxt hxs hone honex h hown0 hnx hx hB hnl hgb hg2 hgl hvbb hblW hW0 hW1 a1 a2 hROW hRs hpre hold hrz hiz hzs hz hinf hisz hib hiq hq0 hG hGn hGm hb0 hl
  go_enter Tryz.func42, Tryz.ntmps42
  go_wp2_with (with_reducible refine arm_stop ?_)
  refine Stopped.out ?_
  refine Lib.wpList_append_run _ rfl _ _ _ _ rfl _ _ rfl rfl _ _ (HRZ.out _) ?_
  have hca := fun ty => HCA.out ty p3
  clear HRZ
  simp only [Act.put, List.setIfInBounds_toArray, List.set_cons_succ, List.set_cons_zero]
  go_upto_region 11 with fail
  refine wp_region_quiet_tail_drawn 8 (by kernel_rfl) (by kernel_rfl) ?_; simp only [List.take_succ_cons, List.take_zero, List.drop_succ_cons, List.drop_zero]; (repeat (go_big_quiet_step (fail))); refine wpQuiet_nil ?_; rintro _ ⟨nq, rfl⟩
  refine wpList_copy_run _ rfl _ _ 35 35 rfl _ _ rfl rfl (HCB.out nq _ _ _) ?_
  simp only [Act.put, List.setIfInBounds_toArray, List.set_cons_succ, List.set_cons_zero]
  go_wp2_with fail
  go_ret
  exact ⟨b0, G, rfl, HF.out nq⟩
theorem ins_mb (base : Nat) (K : Nat → Prop) (g cap i n vb : Nat) (l : List Mv) (x : Mv) (w : World) (hB : base ≤ w.heap.size) (h : RowM base K w (.slice (some ⟨g, 0, none⟩) n cap) l) (hl : n ≤ 1000000) (hi : i < n) (hx : Row w vb 32 (mcell x)) (hnx : NdR w (fun b => (K b ∨ base ≤ b) ∧ b < w.heap.size ∧ (Value.slice (some ⟨g, 0, none⟩) n cap).ownBlock ≠ some b) x.1.2 x.2.1 x.2.2) :
    Calls Tryz.prog 42 #[.slice (some ⟨g, 0, none⟩) n cap, .int .i64 (i : Int), .slice (some ⟨vb, 0, none⟩) 1 1] w fun e w' => ∃ b0 G, e = .returned (.slice (some ⟨b0, 0, none⟩) (n + 1) G) ∧ RowM base K w' (.slice (some ⟨b0, 0, none⟩) (n + 1) G) (l.take i ++ [x] ++ l.drop i) ∧ Below base w w' := by
  have hn : n ≤ cap := by
    rcases h.own.2 with ⟨h1, -⟩ | ⟨g', cap', cur, h1, hb, hh, hn, -⟩
    · cases h1
    · have := len_any h
      injection h1 with e1 e2 e3; omega
  by_cases hroom : n + 1 ≤ cap
  · have hvb : vb ≠ g := by
      rintro rfl
      rcases h.own.2 with ⟨h1, -⟩ | ⟨g', cap', cur, h1, hb, hh, -, -, hs, -⟩
      · cases h1
      · injection h1 with e1 e2 e3; injection e1 with e1; injection e1 with e1 _ _; subst e1 e3
        have h2 : w.heap[vb]? = some (.cells (mcell x) 32) := hx
        rw [h2] at hh
        injection hh with hh; injection hh with hh
        rw [← hh] at hs
        have h9 : (mcell x).size = 9 := rfl
        omega
    exact (ins_room base K g cap i n vb l x w hB h hl hi hx hvb hnx hroom).mono (fun e w' h => ⟨g, cap, h⟩)
  · obtain rfl : cap = n := by omega
    exact ins_grow base K g i cap vb l x w hB h hl hi hx hnx
end Go.Proofs.YtplafpokgpolkaaGreatDoor
/- portolanlaw19.Few: what it cuts, plainly. -/
namespace Go.Proofs.YtplafpokgpolkaaGreatDoor
/-- at most 19 slashes -/
def shortG : Tx → Nat → Tx
  | [], _ => []
  | c :: r, n => if c = 47 then (if n + 1 = 20 then [] else c :: shortG r (n + 1)) else c :: shortG r n
def shortS (p : Tx) : Tx := shortG (p.take 300) 0
def cutB (x : R2) : R2 := (x.1.take 40, x.2.take 200)
def cut19 (m : Mb) : Mb := (shortS m.1, { m.2 with link := m.2.link.take 40, data := m.2.data.take 40, attrs := (m.2.attrs.take 4).map cutB })
def few19 (l : List Mb) : List Mb := (l.take 14).map cut19
theorem shortG_len : ∀ (p : Tx) (n : Nat), (shortG p n).length ≤ p.length
  | [], _ => Nat.le_refl _
  | c :: r, n => by
    unfold shortG
    have h1 := shortG_len r (n + 1)
    have h2 := shortG_len r n
    split
    · split
      · simp
      · simp; exact h1
    · simp; exact h2
theorem shortG_cnt : ∀ (p : Tx) (n : Nat), n < 20 → (shortG p n).countP (· == 47) + n < 20
  | [], n, h => by unfold shortG; simpa using h
  | c :: r, n, h => by
    unfold shortG
    split
    · rename_i hc
      split
      · simpa using h
      · have h1 := shortG_cnt r (n + 1) (by omega)
        rw [List.countP_cons_of_pos (by simpa using hc)]
        omega
    · rename_i hc
      have h2 := shortG_cnt r n h
      rw [List.countP_cons_of_neg (by simpa using hc)]
      exact h2
theorem shortS_len (p : Tx) : (shortS p).length ≤ 300 := Nat.le_trans (shortG_len _ _) (List.length_take_le _ _)
theorem shortS_cnt (p : Tx) : (shortS p).countP (· == 47) < 20 := by have := shortG_cnt (p.take 300) 0 (by omega); unfold shortS; omega
/-- the walk's round: i letters are seen, n slashes among them -/
def ShAt (p : Tx) (i n : Nat) : Prop := n < 20 ∧ shortG p 0 = p.take i ++ shortG (p.drop i) n
theorem ShAt.start (p : Tx) : ShAt p 0 0 := ⟨by omega, by simp⟩
theorem ShAt.done {p : Tx} {n : Nat} (h : ShAt p p.length n) : shortG p 0 = p := by
  have := h.2
  rw [List.drop_length, List.take_length] at this
  rw [this]; unfold shortG; simp
theorem ShAt.next {p : Tx} {i n : Nat} (h : ShAt p i n) (hi : i < p.length) (hc : p[i] ≠ 47) : ShAt p (i + 1) n := by
  refine ⟨h.1, ?_⟩
  rw [h.2, List.drop_eq_getElem_cons hi, List.take_succ_eq_append_getElem hi]
  conv => lhs; unfold shortG
  rw [if_neg hc, List.append_assoc]; rfl
theorem ShAt.slash {p : Tx} {i n : Nat} (h : ShAt p i n) (hi : i < p.length) (hc : p[i] = 47) (hn : n + 1 ≠ 20) : ShAt p (i + 1) (n + 1) := by
  refine ⟨by have := h.1; omega, ?_⟩
  rw [h.2, List.drop_eq_getElem_cons hi, List.take_succ_eq_append_getElem hi]
  conv => lhs; unfold shortG
  rw [if_pos hc, if_neg hn, List.append_assoc]; rfl
theorem ShAt.stop {p : Tx} {i n : Nat} (h : ShAt p i n) (hi : i < p.length) (hc : p[i] = 47) (hn : n + 1 = 20) : shortG p 0 = p.take i := by
  rw [h.2, List.drop_eq_getElem_cons hi]
  conv => lhs; unfold shortG
  rw [if_pos hc, if_pos hn]; simp
theorem Kb.cutS {m : Mb} (h : Kb m) : Sm (cut19 m) := by
  refine ⟨?_, ?_, ?_, ?_, fun x hx => ?_, h⟩
  · exact Nat.le_trans (shortS_len _) (by omega)
  · exact Nat.le_trans (List.length_take_le _ _) (by omega)
  · exact Nat.le_trans (List.length_take_le _ _) (by omega)
  · show ((m.2.attrs.take 4).map cutB).length ≤ _
    rw [List.length_map]
    exact Nat.le_trans (List.length_take_le _ _) (by omega)
  · obtain ⟨y, hy, rfl⟩ := List.mem_map.1 (show x ∈ (m.2.attrs.take 4).map cutB from hx)
    exact ⟨Nat.le_trans (List.length_take_le _ _) (by omega), Nat.le_trans (List.length_take_le _ _) (by omega)⟩
theorem few19_sm {l : List Mb} (h : ∀ x ∈ l, Kb x) : ∀ x ∈ few19 l, Sm x := fun x hx => by
  obtain ⟨y, hy, rfl⟩ := List.mem_map.1 hx
  exact (h y ((List.take_sublist 14 l).subset hy)).cutS
theorem few19_len (l : List Mb) : (few19 l).length ≤ 14 := by
  unfold few19
  rw [List.length_map]
  exact List.length_take_le _ _
end Go.Proofs.YtplafpokgpolkaaGreatDoor
/- portolanlaw19.short: a path cut short. -/
namespace Go.Proofs.YtplafpokgpolkaaGreatDoor
open Go.RowKit
set_option maxHeartbeats 2000000 in
set_option maxRecDepth 100000 in
theorem short_any (p0 : Tx) (w : World) : Calls Tryz.prog 66 #[.string ⟨p0.toArray⟩] w fun e w' => e = .returned (.string ⟨(shortS p0).toArray⟩) ∧ w = w' := by
  obtain ⟨p, hpp⟩ : ∃ p, p = p0.take 300 := ⟨_, rfl⟩
  have hlen : min (p0.length : Int) 300 = ((min p0.length 300 : Nat) : Int) := by omega
  have hcut := run_slice_to (P := Tryz.prog) Tryz.underlying9 p0 .i64 (min p0.length 300) (Nat.min_le_left _ _)
  have htk : p0.take (min p0.length 300) = p := by rw [hpp, List.take_eq_take_iff]; omega
  rw [htk] at hcut
  have hps : p.length ≤ 300 := by rw [hpp]; exact List.length_take_le _ _
  have HS : Keep (shortS p0 = shortG p 0) := ⟨by unfold shortS; rw [hpp]⟩
  clear hpp htk
  generalize min p0.length 300 = m0 at *
  go_enter Tryz.func66, Tryz.ntmps66
  go_wp2_with fail
  go_loopg [3, 4] p.length (fun g u3 u4 wx => ∃ k n : Nat, k + g = p.length ∧ u3 = .int .i64 (n : Int) ∧ u4 = .int .i64 (k : Int) ∧ ShAt p k n ∧ w = wx)
  case atStart => exact ⟨0, 0, by omega, rfl, rfl, ShAt.start p, rfl⟩
  case round =>
    obtain ⟨k, n, hkg, rfl, rfl, hsh, rfl⟩ := hrel
    have HSH := Keep.keep hsh
    have hn20 : n < 20 := hsh.1
    clear hsh hcut hlen
    cases gk with
    | zero =>
      obtain rfl : k = p.length := by omega
      have HE : Keep (shortS p0 = p) := ⟨by rw [HS.out]; exact HSH.out.done⟩
      go_wp2_with fail
      go_ret
      exact ⟨by rw [HE.out]; rfl, rfl⟩
    | succ g =>
      have hk : k < p.length := by omega
      have hidx := run_index_str (P := Tryz.prog) Tryz.underlying9 ⟨p.toArray⟩ .i64 k p[k] (by simp [hk])
      have hgi : (⟨p.toArray⟩ : ByteArray)[k]'(hk) = p[k] := rfl
      by_cases h47 : p[k] = 47
      · by_cases hq : n + 1 = 20
        · have HE : Keep (shortS p0 = p.take k) := ⟨by rw [HS.out]; exact HSH.out.stop hk h47 hq⟩
          have hsl := run_slice_to (P := Tryz.prog) Tryz.underlying9 p .i64 k (by omega)
          obtain rfl : n = 19 := by omega
          rw [h47] at hidx hgi
          clear h47 hq
          go_wp2_with fail
          go_ret
          exact ⟨by rw [HE.out]; rfl, rfl⟩
        · have HST := Keep.keep (HSH.out.slash hk h47 hq)
          have hq2 : (((n : Int) + 1) == 20) = false := by rw [beq_eq_false_iff_ne]; omega
          rw [h47] at hidx hgi
          clear h47 hq
          go_wp2_with fail
          go_roundg g
          case measure => omega
          case rel => exact ⟨k + 1, n + 1, by omega, by simp, by simp, HST.out, rfl⟩
      · have HST := Keep.keep (HSH.out.next hk h47)
        have hn47 : ((p[k].toNat : Int) == 47) = false := by
          rw [beq_eq_false_iff_ne]; intro e; exact h47 (UInt8.toNat_inj.1 (by show p[k].toNat = 47; omega))
        have hq2 : ((n : Int) == 20) = false := by rw [beq_eq_false_iff_ne]; omega
        clear h47
        generalize p[k] = c at *
        go_wp2_with fail
        go_roundg g
        case measure => omega
        case rel => exact ⟨k + 1, n, by omega, by simp, by simp, HST.out, rfl⟩
end Go.Proofs.YtplafpokgpolkaaGreatDoor
/- portolanlaw19.Few: single operations. -/
namespace Go.Proofs.YtplafpokgpolkaaGreatDoor
open Go.RowKit
theorem shortG_idem : ∀ (p : Tx) (n : Nat), shortG (shortG p n) n = shortG p n
  | [], n => by unfold shortG; rfl
  | c :: r, n => by
    have h1 := shortG_idem r (n + 1)
    have h2 := shortG_idem r n
    by_cases hc : c = 47
    · by_cases hn : n + 1 = 20
      · have e : shortG (c :: r) n = [] := by unfold shortG; rw [if_pos hc, if_pos hn]
        rw [e]; unfold shortG; rfl
      · have e : ∀ s, shortG (c :: s) n = c :: shortG s (n + 1) := fun s => by
          conv => lhs; unfold shortG
          rw [if_pos hc, if_neg hn]
        rw [e, e, h1]
    · have e : ∀ s, shortG (c :: s) n = c :: shortG s n := fun s => by
        conv => lhs; unfold shortG
        rw [if_neg hc]
      rw [e, e, h2]
theorem shortS_idem (p : Tx) : shortS (shortS p) = shortS p := by
  have h := shortS_len p
  unfold shortS at h ⊢
  rw [List.take_of_length_le h, shortG_idem]
def WasP (p q : Tx) : Prop := q = p ∨ q = shortS p
theorem WasP.cut {p q : Tx} (h : WasP p q) : shortS q = shortS p := by
  rcases h with rfl | rfl
  · rfl
  · exact shortS_idem p
def WasK (s q : Tx) : Prop := q = s ∨ q = s.take 40
theorem WasK.mn {s q : Tx} (h : WasK s q) : min (q.length : Int) 40 = min (s.length : Int) 40 := by
  rcases h with rfl | rfl
  · rfl
  · rw [List.length_take]; omega
theorem WasK.le {s q : Tx} (h : WasK s q) : min s.length 40 ≤ q.length := by
  rcases h with rfl | rfl
  · omega
  · rw [List.length_take]; omega
theorem WasK.cut {s q : Tx} (h : WasK s q) : q.take (min s.length 40) = s.take 40 := by
  rcases h with rfl | rfl
  · rw [List.take_eq_take_iff]; omega
  · rw [List.take_take, List.take_eq_take_iff]; omega
def WasM (n m : Nat) : Prop := m = n ∨ m = min n 40
theorem WasM.mn {n m : Nat} (h : WasM n m) : min (m : Int) 40 = ((min n 40 : Nat) : Int) := by rcases h with rfl | rfl <;> omega
section
variable {ρ : Operand → Value} {d : Option Tmp} {x y : Operand} {t : TypeId} {pos : String} {af : Array Edge} {g : Option (Nat × Bool)} {w : World}
theorem run_lenV {a : Option Addr} {n cap : Nat} (hx : ρ x = .slice a n cap) : (execOp ρ (⟨d, .call ⟨.builtin .len, #[x], #[28]⟩, t, pos, af, g⟩ : Oper)).run Tryz.prog w = .ok (.value (.int .i64 (n : Int))) w := by
  simp [execOp, resolve, invoke, builtin, Builtin.len_, hx, run_underlying Tryz.underlying28]
  rfl
theorem run_sliceV {a : Option Addr} {n cap i : Nat} (hi : i ≤ cap) (hx : ρ x = .slice a n cap) (hy : ρ y = .int .i64 (i : Int)) : (execOp ρ (⟨d, .slice 28 x none (some y) none, t, pos, af, g⟩ : Oper)).run Tryz.prog w = .ok (.value (.slice a i cap)) w := by
  have := slice_to (P := Tryz.prog) slBy a n cap i .i64 hi w
  simp [execOp, Instr.sliceAt, hx, hy, this]
theorem run_storeV {a : Option Addr} {n cap : Nat} {b off : Nat} (hc : ∃ v, w.cell? ⟨b, off, none⟩ = some v) (hf : w.frozen? ⟨b, off, none⟩ = false) (hx : ρ x = .pointer (some ⟨b, off, none⟩)) (hy : ρ y = .slice a n cap) :
    (execOp ρ (⟨d, .store 28 x y, t, pos, af, g⟩ : Oper)).run Tryz.prog w = .ok .skip (w.setCell ⟨b, off, none⟩ (.slice a n cap)) := by
  obtain ⟨v, hc⟩ := hc
  have hz : (sizeOf 28).run Tryz.prog w = .ok 1 w := by kernel_rfl
  simp [go_sem, execOp, hx, hy, hz, hc, hf, Instr.storeAt, storeCells]
end
/-- the row of m, whose path, Data and link are under way -/
def fsR (kind mode uid gid time : Int) (av : Value) (ad : Option Addr) (m cd : Nat) (q k : Tx) : Array Value := #[.string ⟨q.toArray⟩, .int .i64 kind, .int .u32 mode, .int .u32 uid, .int .u32 gid, .int .i64 time, av, .slice ad m cd, .string ⟨k.toArray⟩]
def fsT (B : Nat) (p k : Tx) (ad : Option Addr) (ld cd : Nat) : Nat → Value → World → Prop
  | 1, v, _ => ∃ q, v = .string ⟨q.toArray⟩ ∧ WasP p q
  | 2, v, _ => v = .string ⟨(shortS p).toArray⟩
  | 5, v, _ => ∃ q, v = .string ⟨q.toArray⟩ ∧ WasK k q
  | 8, v, _ => ∃ q, v = .string ⟨q.toArray⟩ ∧ WasK k q
  | 9, v, _ => ∃ q, v = .int .i64 (q.length : Int) ∧ WasK k q
  | 10, v, _ => v = .int .i64 ((min k.length 40 : Nat) : Int)
  | 11, v, _ => v = .string ⟨(k.take 40).toArray⟩
  | 14, v, _ => ∃ m, v = .slice ad m cd ∧ WasM ld m
  | 17, v, _ => ∃ m, v = .slice ad m cd ∧ WasM ld m
  | 18, v, _ => ∃ m : Nat, v = .int .i64 (m : Int) ∧ WasM ld m
  | 19, v, _ => v = .int .i64 ((min ld 40 : Nat) : Int)
  | 20, v, _ => v = .slice ad (min ld 40) cd
  | 22, _, w => w.cell? ⟨B, 0, none⟩ = some (.string ⟨(shortS p).toArray⟩)
  | 25, _, w => w.cell? ⟨B, 8, none⟩ = some (.string ⟨(k.take 40).toArray⟩)
  | 28, _, w => w.cell? ⟨B, 7, none⟩ = some (.slice ad (min ld 40) cd)
  | 0, v, _ => v = .pointer (some ⟨B, 0, none⟩)
  | 21, v, _ => v = .pointer (some ⟨B, 0, none⟩)
  | 3, v, _ => v = .pointer (some ⟨B, 1, none⟩)
  | 6, v, _ => v = .pointer (some ⟨B, 1, none⟩)
  | 12, v, _ => v = .pointer (some ⟨B, 1, none⟩)
  | 15, v, _ => v = .pointer (some ⟨B, 1, none⟩)
  | 23, v, _ => v = .pointer (some ⟨B, 1, none⟩)
  | 26, v, _ => v = .pointer (some ⟨B, 1, none⟩)
  | 4, v, _ => v = .pointer (some ⟨B, 8, none⟩)
  | 7, v, _ => v = .pointer (some ⟨B, 8, none⟩)
  | 24, v, _ => v = .pointer (some ⟨B, 8, none⟩)
  | _, v, _ => v = .pointer (some ⟨B, 7, none⟩)
def fsS (B : Nat) (p k : Tx) (ad : Option Addr) (ld cd : Nat) (w w' : World) : Prop :=
  (w.cell? ⟨B, 0, none⟩ = some (.string ⟨(shortS p).toArray⟩) → w'.cell? ⟨B, 0, none⟩ = some (.string ⟨(shortS p).toArray⟩)) ∧ (w.cell? ⟨B, 8, none⟩ = some (.string ⟨(k.take 40).toArray⟩) → w'.cell? ⟨B, 8, none⟩ = some (.string ⟨(k.take 40).toArray⟩)) ∧
  (w.cell? ⟨B, 7, none⟩ = some (.slice ad (min ld 40) cd) → w'.cell? ⟨B, 7, none⟩ = some (.slice ad (min ld 40) cd))
theorem fsS.refl (B : Nat) (p k : Tx) (ad : Option Addr) (ld cd : Nat) (w : World) : fsS B p k ad ld cd w w := ⟨fun h => h, fun h => h, fun h => h⟩
theorem fsT_stays {B : Nat} {p k : Tx} {ad : Option Addr} {ld cd : Nat} (i : Nat) (v : Value) (w w' : World) (h : fsT B p k ad ld cd i v w) (hs : fsS B p k ad ld cd w w') : fsT B p k ad ld cd i v w' := by
  by_cases e : i = 22
  · subst e; exact hs.1 h
  · by_cases e2 : i = 25
    · subst e2; exact hs.2.1 h
    · by_cases e3 : i = 28
      · subst e3; exact hs.2.2 h
      · unfold fsT at h ⊢
        split at h <;> first | exact h | omega
def fsC (W : World) (B : Nat) (kind mode uid gid time : Int) (av : Value) (ad : Option Addr) (ld cd : Nat) (p k : Tx) (w : World) : Prop :=
  Chg (fun b => b = B) W.heap.size W w ∧ ∃ q j m, WasP p q ∧ WasK k j ∧ WasM ld m ∧ Row w B 32 (fsR kind mode uid gid time av ad m cd q j)
/-- attributes, cut -/
theorem slice_ato (a : Option Addr) (n cap i : Nat) (k : IntKind) (hi : i ≤ cap) (w : World) : (Instr.slice 27 (.slice a n cap) none (some (.int k (i : Int))) none).run Tryz.prog w = .ok (.slice a i cap) w := by
  have he : Tryz.prog.elem 27 = 97 := by simp [Program.elem, Tryz.underlying27]
  have hs : ∀ w, (sizeOf 97).run Tryz.prog w = .ok 2 w := fun w => by kernel_rfl
  rw [run_slice_h w 27 a n cap (by rw [he]; exact Tryz.underlying27) k (i : Int) (by omega) (by omega), he, hs]
  have ha : a.map (·.add 0) = a := by
    cases a <;> simp [Addr.add]
  simp [Result.andThen, sliced, ha]
set_option maxRecDepth 100000 in
theorem rcells_take (l : List R2) (i : Nat) : rcells (l.take i) = (rcells l).take (i * 2) := by
  induction l generalizing i with
  | nil => simp [rcells]
  | cons x l ih =>
    cases i with
    | zero => simp [rcells]
    | succ i => rw [List.take_succ_cons, rcells_cons, rcells_cons, ih, show (i + 1) * 2 = i * 2 + 1 + 1 by omega, List.take_succ_cons, List.take_succ_cons]
theorem RdV.take2 {w : World} {N : Nat → Prop} {a : Option Addr} {n cap : Nat} {l : List R2} (h : RdV w N 2 (.slice a n cap) l.length (rcells l)) (i : Nat) (hi : i ≤ l.length) : RdV w N 2 (.slice a i cap) (l.take i).length (rcells (l.take i)) := by
  obtain ⟨hl, ⟨a0, cap0, he0, g1, g2, g3⟩, hc⟩ := h
  injection he0 with e1 e2 e3
  subst e1 e2 e3
  have hl' : (l.take i).length = i := by rw [List.length_take]; omega
  refine ⟨rcells_length _, ⟨a, cap, by rw [hl'], by omega, g2, g3⟩, fun b off m c he1 j u hj => ?_⟩
  injection he1 with e1 e2 e3
  subst e1 e3
  refine hc b off _ _ rfl j u ?_
  rw [rcells_take] at hj
  have hlt := (List.getElem?_eq_some_iff.1 hj).1
  rw [List.getElem?_take_of_lt (by simp at hlt; omega)] at hj
  exact hj
theorem rcells_at (l : List R2) (i j : Nat) (hj : j < 2) : (rcells l)[i * 2 + j]? = (l[i]?).bind fun x => [strV x.1, strV x.2][j]? := by
  induction l generalizing i with
  | nil => simp [rcells]
  | cons x l ih =>
    rw [rcells_cons]
    cases i with
    | zero =>
      rcases (by omega : j = 0 ∨ j = 1) with rfl | rfl <;> rfl
    | succ i =>
      rw [show (i + 1) * 2 + j = (i * 2 + j) + 1 + 1 by omega, List.getElem?_cons_succ, List.getElem?_cons_succ, ih]
      rfl
theorem layAt_rcells (l : List R2) (k : Nat) (x : R2) (hk : k < l.length) : layAt (rcells l) (k * 2) [strV x.1, strV x.2] = rcells (l.set k x) := by
  refine List.ext_getElem? fun i => ?_
  rw [layAt_get _ _ _ _ (by rw [rcells_length]; simp; omega)]
  have hi : i = i / 2 * 2 + i % 2 := by omega
  by_cases h : k * 2 ≤ i ∧ i < k * 2 + [strV x.1, strV x.2].length
  · rw [if_pos h]
    have hl : [strV x.1, strV x.2].length = 2 := rfl
    have hd : i / 2 = k := by omega
    conv => rhs; rw [hi, rcells_at _ _ _ (Nat.mod_lt _ (by omega)), hd]
    rw [List.getElem?_set_self hk, show i - k * 2 = i % 2 by omega]
    rfl
  · rw [if_neg h]
    have hl : [strV x.1, strV x.2].length = 2 := rfl
    conv => lhs; rw [hi, rcells_at _ _ _ (Nat.mod_lt _ (by omega))]
    conv => rhs; rw [hi, rcells_at _ _ _ (Nat.mod_lt _ (by omega))]
    rw [List.getElem?_set_ne (by omega)]
/-- ARM: an attribute laid into a row of one's own -/
theorem arm_setAt {ops : Array Oper} {rest : List Oper} {a : Act} {w : World} {Q : Exit → Act → World → Prop} {tp : TypeId} {dst : Option Tmp} {x y : Operand} {pos : String} {after : Array Edge} {base g cap n k : Nat} {l : List R2} (m : R2)
    (ho : w.ownsRow base 97 2 (.slice (some ⟨g, 0, none⟩) n cap) n (rcells l)) (hn : n = l.length) (hk : k < l.length) (hx : a.eval x = .pointer (some ⟨g, k * 2, none⟩)) (hy : a.eval y = .agg #[strV m.1, strV m.2])
    (h : ∀ w', w'.ownsRow base 97 2 (.slice (some ⟨g, 0, none⟩) n cap) n (rcells (l.set k m)) → w.grownBy w' (some g) → wpList Tryz.prog ops Q rest (a.put dst undef) w') :
    wpList Tryz.prog ops Q (⟨dst, .store 97 x y, tp, pos, after, none⟩ :: rest) a w := by
  have ht : w.there g (k * 2) 2 := fun j hj => by
    refine ⟨?_, ho.frozenAt _⟩
    rw [ho.cellAt _ (by omega), rcells_at _ _ _ hj, List.getElem?_eq_getElem hk]
    rcases (by omega : j = 0 ∨ j = 1) with rfl | rfl <;> rfl
  have hst := run_storeAt_mid (P := Tryz.prog) w g (k * 2) 97 #[strV m.1, strV m.2] ht (by kernel_rfl) (by simp [strV, Value.oneCell'])
  have h2 := owns_setCells [strV m.1, strV m.2] _ w (k * 2) ho
  rw [layAt_rcells l k m hk] at h2
  refine wpList_skip rfl ?_ (h _ h2.1 h2.2)
  simp [execOp, hx, hy, hst]
theorem own_loadAtA {base g cap n k : Nat} {w : World} {l : List R2} (h : w.ownsRow base 97 2 (.slice (some ⟨g, 0, none⟩) n cap) n (rcells l)) (hn : n = l.length) {x : R2} (hx : l[k]? = some x) : (Instr.loadAt 97 (.pointer (some ⟨g, k * 2, none⟩))).run Tryz.prog w = .ok (.agg #[strV x.1, strV x.2]) w := by
  have hk := (List.getElem?_eq_some_iff.1 hx).1
  have := run_loadAt_mid (P := Tryz.prog) w g (k * 2) 97 [strV x.1, strV x.2] _ (fun j z hj => by
    have hlt := (List.getElem?_eq_some_iff.1 hj).1
    have hlt : j < 2 := hlt
    rw [h.cellAt _ (by omega), rcells_at _ _ _ hlt, hx]
    exact hj) Tryz.underlying97 rfl (by kernel_rfl)
  simpa using this
end Go.Proofs.YtplafpokgpolkaaGreatDoor
/- CHANGESETS, plainly: what is told of two trees; nothing that leads there has fewer Members. -/
namespace Go.Proofs.YtplafpokgpolkaaGreatDoor
/-- what is in each Dir of either tree, each once -/
structure KidsOf (A B : List Mb) (ks : Tx → List Tx) : Prop where
  nd : ∀ d, (ks d).Nodup
  mem : ∀ d p, p ∈ ks d ↔ parentP p = d ∧ ((SM.look A p).isSome = true ∨ (SM.look B p).isSome = true)
theorem KidsOf.path {A B : List Mb} {ks : Tx → List Tx} (hk : KidsOf A B ks) (hA : WellL A) (hB : WellL B) {d c : Tx} (hc : c ∈ ks d) : mayP c = true ∧ c ≠ [] ∧ parentP c = d := by
  obtain ⟨h1, h2⟩ := (hk.mem d c).1 hc
  rcases h2 with h2 | h2
  · obtain ⟨v, hv⟩ := Option.isSome_iff_exists.1 h2
    obtain ⟨g1, g2⟩ := hA.path (SM.look_mem hv)
    exact ⟨g1, g2, h1⟩
  · obtain ⟨v, hv⟩ := Option.isSome_iff_exists.1 h2
    obtain ⟨g1, g2⟩ := hB.path (SM.look_mem hv)
    exact ⟨g1, g2, h1⟩
end Go.Proofs.YtplafpokgpolkaaGreatDoor
/- CHANGESETS, plainly: nothing that leads there has fewer Members than what is told. -/
namespace Go.Proofs.YtplafpokgpolkaaGreatDoor
theorem Leads.told {A B S : List Mb} (h : Leads A B S) {y : Mb} (hy : y ∈ B) (hn : ¬ (y ∈ A ∧ staysC S y.1 = true)) : y ∈ plainC S := ((h.res y).1 hy).resolve_left hn
end Go.Proofs.YtplafpokgpolkaaGreatDoor
/- CHANGESETS, plainly: what is told leads there. -/
namespace Go.Proofs.YtplafpokgpolkaaGreatDoor
/-- WHAT IS TOLD of a region: of paths p with R p -/
structure Good (A B l : List Mb) (R : Tx → Bool) (Q : Mb → Prop) : Prop where
  cl : ∀ m ∈ l, (cls m = 1 ∧ m ∈ B) ∨ (m.2 = bareN ∧ (cls m = 2 ∨ cls m = 3))
  rg : ∀ m ∈ l, Q m
  ab : ∀ m ∈ l, ∀ q ∈ aboveP m.1, R q = true → ∃ x ∈ l, x.1 = q ∧ x.2.kind = 1
  nd : l.Pairwise (fun x y => x.1 ≠ y.1)
  inn : ∀ p y, R p = true → (p, y) ∈ B → (p, y) ∈ l ∨ ((p, y) ∈ A ∧ ∀ m ∈ l, hits m p = false)
  out : ∀ p, R p = true → SM.look B p = none → SM.look A p = none ∨ ∃ m ∈ l, hits m p = true
theorem Good.at {A B l : List Mb} {R : Tx → Bool} {Q : Mb → Prop} (h : Good A B l R Q) {m : Mb} (hm : m ∈ l) : At m := at_of (by rcases h.cl m hm with ⟨e, _⟩ | ⟨_, e | e⟩ <;> omega)
end Go.Proofs.YtplafpokgpolkaaGreatDoor
/- CHANGESETS, plainly: all that is told leads there. -/
namespace Go.Proofs.YtplafpokgpolkaaGreatDoor
theorem pre_lt {q p : Tx} (h : q ++ [47] <+: p) : q < p := by
  obtain ⟨r, rfl⟩ := h
  have := bytesLess_pre q (47 :: r) (by simp)
  rw [less_lt] at this
  simpa using this
end Go.Proofs.YtplafpokgpolkaaGreatDoor
/- MEMBERS SORTED by rising paths, of one path the first one: the law's own sorting, plainly. -/
namespace Go.Proofs.YtplafpokgpolkaaGreatDoor
def insS (out : List Mb) (m : Mb) : List Mb := if (SM.look out m.1).isSome = true then out else SM.put out m
def sortedS (l : List Mb) : List Mb := l.foldl insS []
theorem insS_srt {out : List Mb} (h : SM.Srt out) (m : Mb) : SM.Srt (insS out m) := by
  unfold insS
  split
  · exact h
  · exact h.put m
theorem insS_len {out : List Mb} (h : SM.Srt out) (m : Mb) : (insS out m).length ≤ out.length + 1 := by
  unfold insS
  split
  · omega
  · rw [h.length_put]
    split <;> omega
theorem insS_mem {out : List Mb} {m x : Mb} (h : x ∈ insS out m) : x ∈ out ∨ x = m := by
  unfold insS at h
  split at h
  · exact .inl h
  · rcases SM.mem_put.1 h with h | h
    · exact .inr h
    · exact .inl h.1
theorem foldS (l : List Mb) : ∀ t : List Mb, SM.Srt t → SM.Srt (l.foldl insS t) ∧ (l.foldl insS t).length ≤ t.length + l.length ∧ ∀ x ∈ l.foldl insS t, x ∈ t ∨ x ∈ l := by
  induction l with
  | nil => intro t h; exact ⟨h, Nat.le_refl _, fun x hx => .inl hx⟩
  | cons m l ih =>
    intro t h
    obtain ⟨h1, h2, h3⟩ := ih (insS t m) (insS_srt h m)
    have := insS_len h m
    refine ⟨h1, by rw [List.length_cons, List.foldl_cons]; omega, fun x hx => ?_⟩
    rcases h3 x hx with h4 | h4
    · rcases insS_mem h4 with h5 | h5
      · exact .inl h5
      · exact .inr (by simp [h5])
    · exact .inr (by simp [h4])
theorem sortedS_srt (l : List Mb) : SM.Srt (sortedS l) := (foldS l [] SM.Srt.nil).1
end Go.Proofs.YtplafpokgpolkaaGreatDoor
/- MEMBERS GROWN, plainly: sorted by a stable sort, of one path the first one: as if each were put where it belongs unless its path is there. -/
namespace Go.Proofs.YtplafpokgpolkaaGreatDoor
/-- of neighbours of one path the first one -/
def compK : List Mb → List Mb
  | [] => []
  | [x] => [x]
  | x :: y :: r => if x.1 = y.1 then compK (x :: r) else x :: compK (y :: r)
termination_by l => l.length
theorem look_cons (x : Mb) (L : List Mb) (p : Tx) : SM.look (x :: L) p = if x.1 = p then some x.2 else SM.look L p := by
  unfold SM.look
  by_cases h : x.1 = p
  · rw [List.find?_cons_of_pos (by simpa using h), if_pos h]; rfl
  · rw [List.find?_cons_of_neg (by simpa using h), if_neg h]
theorem look_comp : ∀ (n : Nat) (L : List Mb), L.length ≤ n → ∀ p, SM.look (compK L) p = SM.look L p
  | _, [], _, _ => by unfold compK; rfl
  | _, [x], _, _ => by unfold compK; rfl
  | 0, _ :: _ :: _, h, _ => by simp at h
  | n + 1, x :: y :: r, h, p => by
    have hl : (x :: r).length ≤ n := by simp at h ⊢; omega
    have hl2 : (y :: r).length ≤ n := by simp at h ⊢; omega
    unfold compK
    split
    · rename_i e
      rw [look_comp n (x :: r) hl p, look_cons, look_cons x (y :: r), look_cons y r]
      by_cases hp : x.1 = p
      · rw [if_pos hp, if_pos hp]
      · rw [if_neg hp, if_neg hp, if_neg (fun h2 => hp (e.trans h2))]
    · rw [look_cons, look_cons x (y :: r), look_comp n (y :: r) hl2 p]
theorem comp_sub : ∀ (n : Nat) (L : List Mb), L.length ≤ n → (compK L).Sublist L
  | _, [], _ => by unfold compK; exact List.Sublist.refl _
  | _, [x], _ => by unfold compK; exact List.Sublist.refl _
  | 0, _ :: _ :: _, h => by simp at h
  | n + 1, x :: y :: r, h => by
    have hl : (x :: r).length ≤ n := by simp at h ⊢; omega
    have hl2 : (y :: r).length ≤ n := by simp at h ⊢; omega
    unfold compK
    split
    · exact (comp_sub n (x :: r) hl).trans (List.Sublist.cons_cons x (List.sublist_cons_self y r))
    · exact List.Sublist.cons_cons x (comp_sub n (y :: r) hl2)
theorem comp_srt : ∀ (n : Nat) (L : List Mb), L.length ≤ n → L.Pairwise (fun a b => a.1 ≤ b.1) → SM.Srt (compK L)
  | _, [], _, _ => by unfold compK; exact SM.Srt.nil
  | _, [x], _, _ => by unfold compK; exact List.pairwise_singleton _ _
  | 0, _ :: _ :: _, h, _ => by simp at h
  | n + 1, x :: y :: r, h, hs => by
    have hl : (x :: r).length ≤ n := by simp at h ⊢; omega
    have hl2 : (y :: r).length ≤ n := by simp at h ⊢; omega
    obtain ⟨h1, h2⟩ := List.pairwise_cons.1 hs
    obtain ⟨h3, h4⟩ := List.pairwise_cons.1 h2
    unfold compK
    split
    · exact comp_srt n (x :: r) hl (List.pairwise_cons.2 ⟨fun z hz => h1 z (List.mem_cons_of_mem _ hz), h4⟩)
    · rename_i e
      refine List.pairwise_cons.2 ⟨fun z hz => ?_, comp_srt n (y :: r) hl2 h2⟩
      have hz := (comp_sub n (y :: r) hl2).subset hz
      have hxy : x.1 < y.1 := by
        rcases tx_tri x.1 y.1 with g | g | g
        · exact g
        · exact (e g).elim
        · exact (List.not_le.2 g (h1 y List.mem_cons_self)).elim
      rcases List.mem_cons.1 hz with rfl | hz
      · exact hxy
      · rcases tx_tri y.1 z.1 with g | g | g
        · exact tx_trans hxy g
        · exact g ▸ hxy
        · exact (List.not_le.2 g (h3 z hz)).elim
/-- the stable sort by paths -/
def sortM (L : List Mb) : List Mb := L.mergeSort (leK fun x : Mb => x.1)
theorem sortM_le (L : List Mb) : (sortM L).Pairwise (fun a b => a.1 ≤ b.1) := by
  have := List.pairwise_mergeSort (le := leK fun x : Mb => x.1) (fun a b c h1 h2 => decide_eq_true (List.le_trans (of_decide_eq_true h1) (of_decide_eq_true h2))) (fun a b => by
    rcases List.le_total a.1 b.1 with e | e
    · simp [leK, e]
    · simp [leK, e]) L
  exact List.Pairwise.imp (fun h => of_decide_eq_true h) this
theorem look_sortM (L : List Mb) (p : Tx) : SM.look (sortM L) p = SM.look L p := by
  have h1 : (L.filter fun x => x.1 == p).Sublist (sortM L) := by
    refine List.sublist_mergeSort (le := leK fun x : Mb => x.1) (fun a b c h1 h2 => decide_eq_true (List.le_trans (of_decide_eq_true h1) (of_decide_eq_true h2))) (fun a b => by
      rcases List.le_total a.1 b.1 with e | e
      · simp [leK, e]
      · simp [leK, e]) ?_ List.filter_sublist
    refine List.Pairwise.imp_of_mem (R := fun _ _ => True) (fun {a b} ha hb _ => ?_) (by simp [List.pairwise_iff_getElem])
    have ea : a.1 = p := by simpa using (List.mem_filter.1 ha).2
    have eb : b.1 = p := by simpa using (List.mem_filter.1 hb).2
    show decide (a.1 ≤ b.1) = true
    rw [ea, eb]
    simp
  have h2 : (L.filter fun x => x.1 == p) = (sortM L).filter fun x => x.1 == p := by
    have h3 := h1.filter (fun x => x.1 == p)
    rw [List.filter_filter] at h3
    simp only [Bool.and_self] at h3
    refine h3.eq_of_length ?_
    have := (List.mergeSort_perm L (leK fun x : Mb => x.1)).countP_eq (fun x => x.1 == p)
    rw [List.countP_eq_length_filter, List.countP_eq_length_filter] at this
    exact this.symm
  have h4 : ∀ K : List Mb, SM.look K p = ((K.filter fun x => x.1 == p).head?).map (·.2) := fun K => by
    unfold SM.look
    rw [List.head?_filter]
  rw [h4, h4, h2]
theorem look_app (L K : List Mb) (p : Tx) : SM.look (L ++ K) p = (SM.look L p).or (SM.look K p) := by
  unfold SM.look
  rw [List.find?_append]
  cases L.find? (fun x => x.1 == p) <;> simp
theorem look_insS {out : List Mb} (h : SM.Srt out) (m : Mb) (p : Tx) : SM.look (insS out m) p = (SM.look out p).or (SM.look [m] p) := by
  have h1 : SM.look [m] p = if m.1 = p then some m.2 else none := by rw [look_cons]; rfl
  rw [h1]
  unfold insS
  split
  · rename_i hi
    by_cases e : m.1 = p
    · rw [e] at hi
      obtain ⟨v, hv⟩ := Option.isSome_iff_exists.1 hi
      rw [hv]; rfl
    · rw [if_neg e]; simp
  · rename_i hi
    rw [h.look_put]
    by_cases e : m.1 = p
    · rw [if_pos e.symm, if_pos e]
      have : SM.look out p = none := by
        rw [e] at hi
        cases hx : SM.look out p with
        | none => rfl
        | some v => rw [hx] at hi; exact (hi rfl).elim
      rw [this]; rfl
    · rw [if_neg (fun e2 => e e2.symm), if_neg e]; simp
theorem look_foldS : ∀ (l t : List Mb), SM.Srt t → ∀ p, SM.look (l.foldl insS t) p = (SM.look t p).or (SM.look l p)
  | [], t, _, p => by simp [SM.look]
  | m :: l, t, h, p => by
    rw [List.foldl_cons, look_foldS l (insS t m) (insS_srt h m) p, look_insS h, Option.or_assoc]
    congr 1
    exact (look_app [m] l p).symm
theorem look_sortedS (l : List Mb) (p : Tx) : SM.look (sortedS l) p = SM.look l p := by
  unfold sortedS
  rw [look_foldS l [] SM.Srt.nil p]
  rfl
/-- GROWN -/
theorem comp_sorted (L : List Mb) : compK (sortM L) = sortedS L :=
  (comp_srt _ _ (Nat.le_refl _) (sortM_le L)).ext (sortedS_srt L) (fun p => by rw [look_comp _ _ (Nat.le_refl _), look_sortM, look_sortedS])
end Go.Proofs.YtplafpokgpolkaaGreatDoor
/- slices.CompactFunc, plainly: what differs from what stands ahead of it. -/
namespace Go.Proofs.YtplafpokgpolkaaGreatDoor
section
variable {α : Type} (k : α → Tx)
/-- what stays behind one of key p -/
def keepA (p : Tx) : List α → List α
  | [] => []
  | y :: r => if k y = p then keepA (k y) r else y :: keepA (k y) r
def compA : List α → List α
  | [] => []
  | x :: r => x :: keepA k (k x) r
variable {k}
theorem compA_cons (x : α) (r : List α) : compA k (x :: r) = x :: keepA k (k x) r := rfl
theorem keepA_cons (p : Tx) (y : α) (r : List α) : keepA k p (y :: r) = if k y = p then keepA k (k y) r else y :: keepA k (k y) r := rfl
theorem keepA_snoc : ∀ (l : List α) (p : Tx) (y : α), keepA k p (l ++ [y]) = keepA k p l ++ (if k y = ((l.getLast?.map k).getD p) then [] else [y])
  | [], p, y => by
    rw [List.nil_append, keepA_cons]
    show _ = [] ++ (if k y = p then [] else [y])
    by_cases h : k y = p
    · rw [if_pos h, if_pos h]; rfl
    · rw [if_neg h, if_neg h]; rfl
  | x :: r, p, y => by
    rw [List.cons_append, keepA_cons, keepA_cons]
    have e : (((x :: r).getLast?).map k).getD p = ((r.getLast?).map k).getD (k x) := by
      cases r with
      | nil => rfl
      | cons z s => rw [List.getLast?_cons_cons, List.getLast?_eq_some_getLast (List.cons_ne_nil z s)]; rfl
    rw [keepA_snoc r (k x) y, e]
    split
    · rfl
    · rfl
/-- one more -/
theorem compA_snoc (l : List α) (x y : α) : compA k ((l ++ [x]) ++ [y]) = compA k (l ++ [x]) ++ (if k y = k x then [] else [y]) := by
  cases l with
  | nil => simp [compA, keepA]
  | cons z r =>
    rw [List.cons_append, List.cons_append]
    rw [compA_cons, compA_cons, keepA_snoc, List.getLast?_append]
    rfl
theorem compA_take (l : List α) (j : Nat) (h0 : 0 < j) (hj : j < l.length) : compA k (l.take (j + 1)) = compA k (l.take j) ++ (if k l[j] = k l[j - 1] then [] else [l[j]]) := by
  obtain ⟨i, rfl⟩ : ∃ i, j = i + 1 := ⟨j - 1, by omega⟩
  rw [List.take_succ_eq_append_getElem hj, List.take_succ_eq_append_getElem (i := i) (by omega), compA_snoc]
  rfl
theorem compA_one (l : List α) : compA k (l.take 1) = l.take 1 := by
  cases l with
  | nil => rfl
  | cons x r => rfl
theorem compA_map {β : Type} (f : β → α) (l : List β) : (compA (fun x => k (f x)) l).map f = compA k (l.map f) := by
  have h : ∀ (r : List β) (p : Tx), (keepA (fun x => k (f x)) p r).map f = keepA k p (r.map f) := by
    intro r
    induction r with
    | nil => intro p; rfl
    | cons y r ih =>
      intro p
      rw [List.map_cons, keepA_cons, keepA_cons]
      split
      · exact ih _
      · rw [List.map_cons, ih]
  cases l with
  | nil => rfl
  | cons x r => rw [compA_cons, List.map_cons, List.map_cons, compA_cons, h]
end
/-- of neighbours of one path the first one -/
theorem compA_is : ∀ (n : Nat) (L : List Mb), L.length ≤ n → compA (·.1) L = compK L
  | _, [], _ => by unfold compK; rfl
  | _, [x], _ => by unfold compK; rfl
  | 0, _ :: _ :: _, h => by simp at h
  | n + 1, x :: y :: r, h => by
    have h1 := compA_is n (x :: r) (by simp at h ⊢; omega)
    have h2 := compA_is n (y :: r) (by simp at h ⊢; omega)
    unfold compK
    split
    · rename_i e
      rw [← h1]
      rw [compA_cons, compA_cons, keepA_cons, if_pos e.symm, e]
    · rename_i e
      rw [← h2]
      rw [compA_cons, compA_cons, keepA_cons, if_neg (fun g => e g.symm)]
end Go.Proofs.YtplafpokgpolkaaGreatDoor
/- string(b) of what reads as bytes; []byte of a text that is written out. -/
namespace Go.Proofs.YtplafpokgpolkaaGreatDoor
open Go.RowKit
/-- []byte of a text that is written out: the row that the walk leaves -/
theorem Reads.lit {w : World} (e : TypeId) (c : Array Value) (l : List UInt8) (fr : Nat × Nat) (g n : Nat) (hg : g = w.heap.size) (hc : c = (bcells l).toArray) (hn : n = l.length) (hm : l.length ≤ maxLen) : Reads (w.alloc (.cells c e fr)) (fun b => b = w.heap.size) (.slice (some ⟨g, 0, none⟩) n n) l := by
  subst hg hc hn
  refine ⟨⟨_, _, rfl, Nat.le_refl _, hm, .inr ⟨_, _, rfl, rfl⟩⟩, fun b off m cap he j hj => ?_⟩
  injection he with e1 _ _; injection e1 with e1; injection e1 with e1 e2 _; subst e1 e2
  rw [World.cell?_alloc_mark, Nat.zero_add]
  simpa using bcells_get l j hj
end Go.Proofs.YtplafpokgpolkaaGreatDoor
/- []byte(s) OF ANY TEXT: the capacity that is drawn stays hidden. -/
namespace Go.Proofs.YtplafpokgpolkaaGreatDoor
open Go.RowKit
theorem convS (l : List UInt8) (n : Nat) (hn : l.length = n) (hl : l.length ≤ maxLen) : ∃ cf : World → Nat, ∃ rf : World → Array Value, ∃ mf : World → Nat × Nat,
    (∀ w, (convert 9 28 (.string ⟨l.toArray⟩)).run Tryz.prog w = .ok (.slice (some ⟨w.heap.size, 0, none⟩) n (cf w)) (w.drew.alloc (.cells (rf w) 5 (mf w)))) ∧
    (∀ w, Reads (w.drew.alloc (.cells (rf w) 5 (mf w))) (fun b => b = w.heap.size) (.slice (some ⟨w.heap.size, 0, none⟩) n (cf w)) l) := by
  subst hn
  have hsz : (⟨l.toArray⟩ : ByteArray).size = l.length := by simp [ByteArray.size]
  refine ⟨fun w => grownCap w l.length 0 5, fun w => bytesRow ⟨l.toArray⟩ (grownCap w l.length 0 5), fun w => ((bytesRow ⟨l.toArray⟩ (grownCap w l.length 0 5)).size, (bytesRow ⟨l.toArray⟩ (grownCap w l.length 0 5)).size + 1), fun w => ?_, fun w => ?_⟩
  · have := run_bytes_of_string (P := Tryz.prog) w 9 28 5 ⟨l.toArray⟩ Tryz.underlying9 Tryz.underlying28 Tryz.underlying5
    rw [hsz] at this
    exact this
  · refine ⟨⟨_, _, rfl, grownCap_ge _ _ _ _, grownCap_le_maxLen _ _ _ _ hl, .inr ⟨_, _, rfl, rfl⟩⟩, fun b off m cap he j hj => ?_⟩
    injection he with e1 _ _; injection e1 with e1; injection e1 with e1 e2 _; subst e1 e2
    rw [show w.heap.size = w.drew.heap.size from rfl, World.cell?_alloc_mark, Nat.zero_add]
    have h2 : j < (bytesRow ⟨l.toArray⟩ (grownCap w l.length 0 5)).size := by simp [bytesRow]; omega
    simp [bytesRow, Array.getElem?_append, hj]
end Go.Proofs.YtplafpokgpolkaaGreatDoor
