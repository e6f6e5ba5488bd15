/- PARTS OF ONE PROOF, set in one file: QCls, Gen, Gen2, QCell, SFn, ConB, CrcW, SM, DkS, Jn. Each part tells its own conditions. -/
import Derived.Shelf.Abstract
import Derived.Sort.Grow
import Derived.Lib.AppendStr
import Derived.Deep.MidRow
import Derived.Sort.LoopGhostIn
import Derived.Lib.AppendZeros
import Derived.Deep.SlicePairs
import Derived.WalkSpells
import Derived.WalkLawsBesides
import Derived.Laws.BitsAllLaws
import Derived.Test.YtmkofejijkabnaaGreatDoorP1
/- A REGION THAT DRAWS ITS ORDER, walked in the text's order IN A CLASS OF WORLDS: its operations read, or call what leaves a world of the class (for instance: nothing below block B has changed). -/
namespace Go.Proofs.YtmkofejijkabnaaGreatDoor
open Go.RowKit
theorem wp_region_cls {P : Program} (C : World → Prop) {id : Nat} {Q : Exit → Act → World → Prop} {a : Act} {w : World} {l : List Oper} (hm : P.follows .mixedOrders = true) (hB : Region.lexB .any l.toArray = true) (hC : C w.drew)
    (h : wpQuiet P l.toArray C (fun a' => ∀ w', C w' → Q .normal a' w') l a) : (Code.region id l.toArray true).wp P Q a w :=
  wp_region_quiet (C := C) hm hB hC (by simpa using h)
theorem wp_region_cls_tail {P : Program} (C : World → Prop) {id : Nat} {Q : Exit → Act → World → Prop} {a : Act} {w : World} {l : List Oper} (n : Nat) (hm : P.follows .mixedOrders = true) (hB : Region.lexTailB .any l.toArray n = true) (hC : C w.drew)
    (h : wpQuiet P l.toArray C (fun a' => ∀ w', C w' → wpList P l.toArray Q (l.drop n) a' w') (l.take n) a) : (Code.region id l.toArray true).wp P Q a w :=
  wp_region_quiet_tail n hm hB hC h
section
variable {P : Program} {ops : Array Oper} {rest : List Oper} {a : Act} {C : World → Prop} {Q : Act → Prop} {tp : TypeId} {dst : Option Tmp} {pos : String} {after : Array Edge} {g : Option (Nat × Bool)}
/-- ARM: any operation that yields one value in every world of the class -/
theorem cls_op {o : Oper} {v : Value} (hwt : Region.wanted o (yielded ops a.tmps) = true) (hr : ∀ w, C w → (execOp a.eval o).run P w = .ok (.value v) w) (h : wpQuiet P ops C Q rest (a.put o.dst v)) : wpQuiet P ops C Q (o :: rest) a := by
  unfold wpQuiet
  rw [if_pos hwt]
  refine ⟨v, fun w hw => ?_, h⟩
  unfold Oper.quietAt
  rw [hr w hw]
  exact ⟨rfl, rfl⟩
/-- ARM: a whole variable is read -/
theorem cls_loadRow {b n : Nat} {e ty : TypeId} {c : Array Value} {x : Operand} (hwt : Region.wanted (⟨dst, .load ty x, tp, pos, after, g⟩ : Oper) (yielded ops a.tmps) = true)
    (hrow : ∀ w, C w → Row w b e c) (hA : AggTy P ty n) (hs : c.size = n) (hx : a.eval x = .pointer (some ⟨b, 0, none⟩))
    (h : wpQuiet P ops C Q rest (a.put dst (.agg c))) : wpQuiet P ops C Q (⟨dst, .load ty x, tp, pos, after, g⟩ :: rest) a := by
  obtain ⟨d, hu, hd⟩ := hA.u
  refine cls_op hwt (fun w hw => ?_) h
  have hl := (hrow w hw).loadAt (P := P) ty d hu hd (by rw [hs]; exact hA.i)
  unfold execOp
  simp only [hx, Sem.run_bind, Sem.run_pure, Result.andThen_ok, hl]
/-- ARM: one cell is read -/
theorem cls_load {ad : Addr} {ty : TypeId} {v : Value} {x : Operand} (hwt : Region.wanted (⟨dst, .load ty x, tp, pos, after, g⟩ : Oper) (yielded ops a.tmps) = true)
    (hr : ∀ w, C w → (Instr.loadAt ty (.pointer (some ad))).run P w = .ok v w) (hx : a.eval x = .pointer (some ad))
    (h : wpQuiet P ops C Q rest (a.put dst v)) : wpQuiet P ops C Q (⟨dst, .load ty x, tp, pos, after, g⟩ :: rest) a := by
  refine cls_op hwt (fun w hw => ?_) h
  unfold execOp
  simp only [hx, Sem.run_bind, Sem.run_pure, Result.andThen_ok, hr w hw]
/-- ARM: two values are set side by side (==, +, ..) -/
theorem cls_bin {t1 t2 : TypeId} {b : BinOp} {v : Value} {x y : Operand} (hwt : Region.wanted (⟨dst, .binOp b t1 x y t2, tp, pos, after, g⟩ : Oper) (yielded ops a.tmps) = true)
    (hr : ∀ w, C w → (execOp a.eval (⟨dst, .binOp b t1 x y t2, tp, pos, after, g⟩ : Oper)).run P w = .ok (.value v) w)
    (h : wpQuiet P ops C Q rest (a.put dst v)) : wpQuiet P ops C Q (⟨dst, .binOp b t1 x y t2, tp, pos, after, g⟩ :: rest) a := cls_op hwt hr h
/-- ARM: a string (or an array's value) indexed -/
theorem cls_index {ty : TypeId} {x y : Operand} {u i v : Value} (hwt : Region.wanted (⟨dst, .index ty x y, tp, pos, after, g⟩ : Oper) (yielded ops a.tmps) = true)
    (hr : ∀ w, (Instr.index ty u i).run P w = .ok v w) (hx : a.eval x = u) (hy : a.eval y = i)
    (h : wpQuiet P ops C Q rest (a.put dst v)) : wpQuiet P ops C Q (⟨dst, .index ty x y, tp, pos, after, g⟩ :: rest) a := by
  refine cls_op hwt (fun w hw => ?_) h
  unfold execOp
  simp only [hx, hy, Sem.run_bind, Sem.run_pure, Result.andThen_ok, hr]
/-- ARM: a call that leaves a world of the class -/
theorem cls_call {f : FuncId} {args : Array Operand} {ts : Array TypeId} {vs : Array Value} {v : Value} (hwt : Region.wanted (⟨dst, .call ⟨.value (.func f), args, ts⟩, tp, pos, after, g⟩ : Oper) (yielded ops a.tmps) = true)
    (hent : Enters P f) (hargs : args.map a.eval = vs) (hc : ∀ w, C w → Calls P f vs w fun e w' => e = .returned v ∧ C w')
    (h : wpQuiet P ops C Q rest (a.put dst v)) : wpQuiet P ops C Q (⟨dst, .call ⟨.value (.func f), args, ts⟩, tp, pos, after, g⟩ :: rest) a := by
  unfold wpQuiet
  rw [if_pos hwt]
  refine ⟨v, fun w hw => ?_, h⟩
  unfold Oper.quietAt
  have : (execOp a.eval (⟨dst, .call ⟨.value (.func f), args, ts⟩, tp, pos, after, g⟩ : Oper)).run P w = .ok (.enter f vs) w := by
    have h1 : a.eval (.func f) = .func (.func f) #[] #[] := rfl
    unfold execOp
    simp only [resolve, Deferred.ofValue, hargs, h1, invoke, Sem.run_bind, Sem.run_pure, Result.andThen_ok]
    simp [hent vs w]
  rw [this]
  exact ⟨rfl, hc w hw⟩
end
/-- the class: nothing below block B has changed since W -/
theorem below_drew' {B : Nat} {W w : World} (h : Below B W w) : Below B W w.drew := h.drew
end Go.Proofs.YtmkofejijkabnaaGreatDoor
/- MORE THAT IS ALIKE FROM LAW TO LAW: the memory's name at a call; memory that has only grown; a region that draws its order, by what holds after each set of its operations. -/
namespace Go.Proofs.YtmkofejijkabnaaGreatDoor
open Go.RowKit
theorem calls_at {P : Program} {f : FuncId} {args : Array Value} {W : World} {Q : Ending → World → Prop} {R : World → Prop} (h : R W) (k : ∀ w2, Keep (R w2) → Calls P f args w2 Q) : Calls P f args W Q := k W ⟨h⟩
theorem below_of_grow {w : World} {n : Nat} {os : Array Obj} : Below w.heap.size w (Sort.grow (w.drewN n) os) :=
  ⟨rfl, rfl, rfl, by simp [Sort.grow, World.drewN], fun b hb => by simp only [Sort.grow, World.drewN]; rw [Array.getElem?_append_left hb]⟩
section
variable {P : Program} {ops : Array Oper}
/-- A REGION THAT DRAWS ITS ORDER: Inv says what holds when the operations marked in 'done' have run, whichever they are -/
theorem wp_region_inv {id : Nat} {Q : Exit → Act → World → Prop} {a : Act} {w : World} (Inv : Array Bool → Act → World → Prop) (hm : P.follows .mixedOrders = true)
    (h0 : Inv (Array.replicate ops.size false) a w.drew)
    (hs : ∀ done a w, Inv done a w → done.size = ops.size → ∀ i ∈ Region.ready .any ops done, wpOp P ops Q i (Inv (done.setIfInBounds i true)) a w)
    (he : ∀ done a w, Inv done a w → done.size = ops.size → Region.ready .any ops done = [] → Q .normal a w) : (Code.region id ops true).wp P Q a w := by
  refine wp_region_any hm ?_
  have key : ∀ (f : Nat) (done : Array Bool) (a : Act) (w : World), Inv done a w → done.size = ops.size → (done.toList.filter (· == false)).length ≤ f → wpAny P .any ops Q f done a w := by
    intro f
    induction f with
    | zero =>
      intro done a w hI hsz hf
      have hr : Region.ready .any ops done = [] := by
        refine List.eq_nil_iff_forall_not_mem.2 fun i hi => ?_
        have h1 := (mem_ready.1 hi).1
        have hlt : i < done.size := by
          rcases Nat.lt_or_ge i done.size with h | h
          · exact h
          · simp [Array.getD_eq_getD_getElem?, Array.getElem?_eq_none h] at h1
        have hmem : false ∈ done.toList.filter (· == false) := by
          refine List.mem_filter.2 ⟨?_, rfl⟩
          have : done[i] = false := by simpa [Array.getD_eq_getD_getElem?, Array.getElem?_eq_getElem hlt] using h1
          rw [← this]; simp
        have h0 : (done.toList.filter (· == false)) = [] := List.length_eq_zero_iff.1 (by omega)
        rw [h0] at hmem
        cases hmem
      exact ⟨hr, he done a w hI hsz hr⟩
    | succ f ih =>
      intro done a w hI hsz hf
      refine ⟨fun hr => he done a w hI hsz hr, fun i hi => ?_⟩
      have h1 := (mem_ready.1 hi).1
      have hlt : i < done.size := by
        rcases Nat.lt_or_ge i done.size with h | h
        · exact h
        · simp [Array.getD_eq_getD_getElem?, Array.getElem?_eq_none h] at h1
      refine wpOp_mono (fun a' w' h' => ih _ a' w' h' (by simpa using hsz) ?_) (hs done a w hI hsz i hi)
      have hfi : done.toList[i]? = some false := by
        simpa [Array.getD_eq_getD_getElem?, Array.getElem?_eq_getElem hlt] using h1
      have hl : i < done.toList.length := by simpa using hlt
      rw [Array.toList_setIfInBounds]
      have hsplit : done.toList = done.toList.take i ++ false :: done.toList.drop (i + 1) := by
        have e1 : done.toList[i] = false := by rw [List.getElem?_eq_getElem hl] at hfi; injection hfi
        conv => lhs; rw [← List.take_append_drop i done.toList]
        rw [List.drop_eq_getElem_cons hl, e1]
      have hset : done.toList.set i true = done.toList.take i ++ true :: done.toList.drop (i + 1) := by
        rw [List.set_eq_take_append_cons_drop, if_pos hl]
      rw [hset]
      rw [hsplit] at hf
      simp at hf ⊢
      omega
  refine key ops.size _ a _ h0 (by simp) ?_
  simp
end
end Go.Proofs.YtmkofejijkabnaaGreatDoor
/- SINGLE OPERATIONS RUN, for regions that draw their order (wp_region_inv): moves, a slice of one element, appends. -/
namespace Go.Proofs.YtmkofejijkabnaaGreatDoor
open Go.RowKit
/-- no block, nothing said -/
def noA : As := ⟨fun _ => False, fun _ => True, fun _ _ _ _ => trivial⟩
section
variable {P : Program} {ops : Array Oper} {Q : Exit → Act → World → Prop}
theorem inv_op {i : Nat} {o : Oper} {a : Act} {w w' : World} {v : Value} {K : Act → World → Prop} (hi : ops[i]? = some o) (hg : o.guard = none) (hr : (execOp a.eval o).run P w = .ok (.value v) w') (hK : K (a.put o.dst v) w') : wpOp P ops Q i K a w := by
  unfold wpOp
  rw [hi]
  simp only
  have : Region.wanted o (yielded ops a.tmps) = true := by simp [Region.wanted, hg]
  rw [if_pos this]
  refine .inl ?_
  unfold Oper.wp
  rw [hr]
  exact hK
theorem ready_at {i : Nat} {o : Oper} {done : Array Bool} (hi : i ∈ Region.ready .any ops done) (ho : ops[i]? = some o) :
    done.getD i true = false ∧ ∀ e ∈ o.after, Region.binds .any e = true → done.getD e.on false = true := by
  obtain ⟨h1, o', ho', h2⟩ := mem_ready.1 hi
  obtain rfl := Option.some.inj (ho.symm.trans ho')
  exact ⟨h1, h2⟩
theorem ready_lt {i : Nat} {done : Array Bool} (hi : i ∈ Region.ready .any ops done) : i < ops.size := by
  obtain ⟨_, o, ho, _⟩ := mem_ready.1 hi
  exact (Array.getElem?_eq_some_iff.1 ho).1
theorem ready_not {i : Nat} {done : Array Bool} (hr : Region.ready .any ops done = []) : i ∉ Region.ready .any ops done := by rw [hr]; simp
theorem run_move {ρ : Operand → Value} {d : Option Tmp} {x : Operand} {t : TypeId} {pos : String} {af : Array Edge} {g : Option (Nat × Bool)} {w : World} :
    (execOp ρ (⟨d, .move x, t, pos, af, g⟩ : Oper)).run P w = .ok (.value (ρ x)) w := by simp [execOp]
theorem run_assign {ρ : Operand → Value} {d : Option Tmp} {x : Operand} {t : TypeId} {pos : String} {af : Array Edge} {g : Option (Nat × Bool)} {w : World} :
    (execOp ρ (⟨d, .assign x, t, pos, af, g⟩ : Oper)).run P w = .ok (.value (ρ x)) w := by simp [execOp]
/-- a slice of one element -/
theorem run_build1 {ρ : Operand → Value} {d : Option Tmp} {x : Operand} {st e t : TypeId} {z : Value} {k bytes : Nat} {pos : String} {af : Array Edge} {g : Option (Nat × Bool)} {w : World}
    (hT : SlK P st e z k bytes) (hk : k ≤ 1000) (hx : (ρ x).cells.size = k) :
    (execOp ρ (⟨d, .buildSlice st 1 #[(0, x)], t, pos, af, g⟩ : Oper)).run P w = .ok (.value (.slice (some ⟨w.heap.size, 0, none⟩) 1 1)) (w.alloc (.cells (ρ x).cells e)) := by
  obtain ⟨i, hi, hz, hsize, hby⟩ := hT.i
  have hk0 := hT.k
  have hfill : Instr.fill (fun i => some (i * k, k)) ((Array.range k).map (z.cells[· % z.cells.size]!)) [(0, ρ x)] = some (ρ x).cells := by
    unfold Instr.fill
    simp only [Nat.zero_mul, Nat.zero_add, Array.size_map, Array.size_range, hx]
    rw [if_neg (by simp)]
    unfold Instr.fill
    congr 1
    generalize hc : (ρ x).cells = c at *
    apply Array.ext'
    have key : ∀ (l : List Value) (n : Nat) (acc : List Value), acc.length = n + l.length → (l.zipIdx n).foldl (fun (cs : Array Value) (p : Value × Nat) => cs.setIfInBounds p.2 p.1) acc.toArray = (acc.take n ++ l).toArray := by
      intro l
      induction l with
      | nil => intro n acc h; simp at h; simp [← h]
      | cons y l ih =>
        intro n acc h
        simp only [List.length_cons] at h
        rw [List.zipIdx_cons, List.foldl_cons]
        rw [List.setIfInBounds_toArray, ih (n + 1) _ (by simp; omega)]
        congr 1
        rw [List.take_set, List.take_add_one, List.getElem?_eq_getElem (by omega)]
        simp only [Option.toList_some]
        rw [List.set_append_right _ _ (by simp; omega)]
        simp [List.length_take, Nat.min_eq_left (show n ≤ acc.length by omega)]
    have h2 := key c.toList 0 ((Array.range k).map (z.cells[· % z.cells.size]!)).toList (by simp [hx])
    rw [← Array.foldl_toList, Array.toList_zipIdx]
    have e2 : ((Array.range k).map (z.cells[· % z.cells.size]!)) = (((Array.range k).map (z.cells[· % z.cells.size]!)).toList).toArray := Array.toArray_toList.symm
    rw [e2, h2]
    simp
  have hk' : ¬ (16777216 < k) := by omega
  have hk1 : ¬ (k = 0) := by omega
  simp [execOp, Instr.buildSlice, run_underlying hT.u, sizeOf, typeInfo, hi, hsize, zeroValue, hz, hk', hk1, hfill, newRow]
/-- append(v, x...), v the call's own -/
theorem run_appV {ρ : Operand → Value} {w : World} {t e tp : TypeId} {d : Option Tmp} {s x : Operand} {pos : String} {af : Array Edge} {g : Option (Nat × Bool)} {base k n m bytes : Nat} {z v xv : Value} {vs us : List Value} {N : Nat → Prop}
    (hT : SlK P t e z k bytes) (hown : w.ownsRow base e k v n vs) (hrd : RdV w N k xv m us) (h1 : ∀ u ∈ us, u.oneCell' = true) (hbd : n + m ≤ maxLen) (hbd2 : (n + m) * bytes ≤ 140737488355328) (hbase : base ≤ w.heap.size)
    (hs : ρ s = v) (hx : ρ x = xv) :
    ∃ v' w', (execOp ρ (⟨d, .call ⟨.builtin .append, #[s, x], #[t, t]⟩, tp, pos, af, g⟩ : Oper)).run P w = .ok (.value v') w' ∧ w'.ownsRow base e k v' (n + m) (vs ++ us) ∧ w.grownBy w' v.ownBlock ∧ (v'.ownBlock = v.ownBlock ∨ v'.ownBlock = some w.heap.size) := by
  obtain ⟨i, hi, hz, hsize, hby⟩ := hT.i
  have key : ∃ v' w', (Builtin.append_ #[t, t] tp #[v, xv]).run P w = .ok v' w' ∧ w'.ownsRow base e k v' (n + m) (vs ++ us) ∧ w.grownBy w' v.ownBlock ∧ (v'.ownBlock = v.ownBlock ∨ v'.ownBlock = some w.heap.size) := by
    have hlen := hrd.len
    obtain ⟨_, ⟨ad, cap, rfl, h1', h2, h3⟩, hc⟩ := hrd
    rcases h3 with h3 | ⟨b, off, rfl, _⟩
    · have hm : m = 0 := by omega
      subst hm
      obtain rfl : us = [] := List.eq_nil_of_length_eq_zero (by omega)
      refine ⟨v, w, ?_, by simpa using hown, ⟨rfl, rfl, rfl, Nat.le_refl _, fun _ _ _ => rfl⟩, .inl rfl⟩
      rcases hown.2 with ⟨rfl, h0⟩ | ⟨g, cap', cur, rfl, _, _, hnc, _⟩
      · cases ad <;> simp [Builtin.append_, run_underlying hT.u, sizeOf, typeInfo, hi, Builtin.lenOf, Builtin.firstCells, loadCells, loadCellsFrom]
      · cases ad <;> simp [Builtin.append_, run_underlying hT.u, sizeOf, typeInfo, hi, Builtin.lenOf, Builtin.firstCells, loadCells, loadCellsFrom, hnc, storeCells]
    · have hcells : ∀ j u, us[j]? = some u → w.cell? ((⟨b, off, none⟩ : Addr).add j) = some u := by
        intro j u hu
        rw [Addr.add_mid]
        exact hc b off _ _ rfl j u hu
      obtain ⟨v', w', hrun, ho, hg, hn, hb⟩ := run_append_own_at (P := P) w base t tp e i z k bytes hT.u hi hz hsize hby hT.z hT.k v n vs hown ⟨b, off, none⟩ m cap us hlen hcells h1 hbd hbd2 hbase
      exact ⟨v', w', hrun, ho, hg, hb⟩
  obtain ⟨v', w', hrun, h1, h2, h3⟩ := key
  refine ⟨v', w', ?_, h1, h2, h3⟩
  unfold execOp
  simp only [resolve, invoke, builtin, Sem.run_bind, Sem.run_pure, Result.andThen_ok, List.map_toArray, List.map_cons, List.map_nil, hs, hx, hrun]
theorem slTy_slK {t e : TypeId} (h : SlTy P t e (.int .u8 0) 1) : SlK P t e (.int .u8 0) 1 1 := ⟨h.u, h.i, rfl, by decide⟩
theorem run_appB {ρ : Operand → Value} {w : World} {t e tp : TypeId} {d : Option Tmp} {s x : Operand} {pos : String} {af : Array Edge} {g : Option (Nat × Bool)} {base : Nat} {v xv : Value} {l m : List UInt8} {N : Nat → Prop}
    (hT : SlTy P t e (.int .u8 0) 1) (hown : Owns w base e v l) (hrd : Reads w N xv m) (hbd : l.length + m.length ≤ 140737488355328) (hbase : base ≤ w.heap.size)
    (hs : ρ s = v) (hx : ρ x = xv) :
    ∃ v' w', (execOp ρ (⟨d, .call ⟨.builtin .append, #[s, x], #[t, t]⟩, tp, pos, af, g⟩ : Oper)).run P w = .ok (.value v') w' ∧ Owns w' base e v' (l ++ m) ∧ w.grownBy w' v.ownBlock ∧ (v'.ownBlock = v.ownBlock ∨ v'.ownBlock = some w.heap.size) := by
  obtain ⟨v', w', h1, h2, h3, h4⟩ := run_appV (d := d) (tp := tp) (pos := pos) (af := af) (g := g) (slTy_slK hT) hown (RdV.bytes hrd) (bcells_one m) (by unfold maxLen; omega) (by omega) hbase hs hx
  exact ⟨v', w', h1, by unfold Owns; rw [List.length_append, bcells_append]; exact h2, h3, h4⟩
/-- append(v, s...), v the call's own, s a string -/
theorem run_appS {ρ : Operand → Value} {w : World} {t u e tp : TypeId} {d : Option Tmp} {s x : Operand} {pos : String} {af : Array Edge} {g : Option (Nat × Bool)} {base : Nat} {v : Value} {l m : List UInt8}
    (hT : SlTy P t e (.int .u8 0) 1) (hu : P.underlying u = some .string) (hown : Owns w base e v l) (hbd : l.length + m.length ≤ 140737488355328) (hbase : base ≤ w.heap.size)
    (hs : ρ s = v) (hx : ρ x = .string ⟨m.toArray⟩) :
    ∃ v' w', (execOp ρ (⟨d, .call ⟨.builtin .append, #[s, x], #[t, u]⟩, tp, pos, af, g⟩ : Oper)).run P w = .ok (.value v') w' ∧ Owns w' base e v' (l ++ m) ∧ w.grownBy w' v.ownBlock ∧ (v'.ownBlock = v.ownBlock ∨ v'.ownBlock = some w.heap.size) := by
  obtain ⟨i, hi, hz, hsize, hby⟩ := hT.i
  have hsz : (⟨m.toArray⟩ : ByteArray).size = m.length := rfl
  obtain ⟨v', w', hr, h2, h3, h4⟩ := Lib.run_append_own_string (P := P) w base t u tp e i hT.u hu hi hz hsize hby v l.length (bcells l) hown ⟨m.toArray⟩ (by unfold maxLen; rw [hsz]; omega) (by rw [hsz]; omega) hbase
  rw [hsz] at h2 h4
  have hb : v'.ownBlock = v.ownBlock ∨ v'.ownBlock = some w.heap.size := by
    have hown' : w.ownsRow base e 1 v l.length (bcells l) := hown
    rcases hown'.2 with ⟨rfl, h0⟩ | ⟨g', cap, cur, rfl, hbg, hg, hnc, hcm, hcs, htake⟩
    · by_cases hm : m.length = 0
      · exact .inl (by rw [h4.2 ⟨rfl, hm⟩])
      · have hr2 := run_append_nil_string (P := P) w t u tp e i (.int .u8 0) hT.u hu hi hz ⟨m.toArray⟩ (by rw [hsz]; omega) (by rw [hsz]; omega) (by rw [hby, hsz]; omega)
        rw [hr] at hr2
        injection hr2 with hv _
        exact .inr (by rw [hv]; rfl)
    · by_cases hroom : l.length + m.length ≤ cap
      · have hcs' : cur.size = cap := by simpa using hcs
        have hr2 := Lib.run_append_room_string (P := P) w t u tp e i hT.u hu hi hsize g' l.length cap cur hg ⟨m.toArray⟩ (by rw [hsz]; exact hroom) (by rw [hsz]; omega)
        rw [hr] at hr2
        injection hr2 with hv _
        exact .inl (by rw [hv]; rfl)
      · have holds : ∀ j u, (bcells l)[j]? = some u → w.cell? ((⟨g', 0, none⟩ : Addr).add j) = some u := hown'.cells (g := g') rfl
        have hr2 := Lib.run_append_grow_string (P := P) w t u tp e i (.int .u8 0) hT.u hu hi hz ⟨g', 0, none⟩ l.length cap (bcells l) (by rw [hsize]; simp [bcells_length]) holds ⟨m.toArray⟩ (by rw [hsz]; omega) (by rw [hsz]; omega) (by rw [hby, hsz]; exact growslice_fits (by omega) (by omega))
        rw [hr] at hr2
        injection hr2 with hv _
        exact .inr (by rw [hv]; rfl)
  refine ⟨v', w', ?_, by unfold Owns; rw [List.length_append, bcells_append]; exact h2, h3, hb⟩
  unfold execOp
  simp only [resolve, invoke, builtin, Sem.run_bind, Sem.run_pure, Result.andThen_ok, List.map_toArray, List.map_cons, List.map_nil, hs, hx, hr]
end
/-- ARM: append(v, s...), s a string -/
theorem arm_appendS {P : Program} {ops : Array Oper} {rest : List Oper} {a : Act} {w : World} {Q : Exit → Act → World → Prop} {t u e tp : TypeId} {dst : Option Tmp} {s x : Operand} {pos : String} {after : Array Edge} {base : Nat} {v : Value} {l m : List UInt8}
    (hT : SlTy P t e (.int .u8 0) 1) (hu : P.underlying u = some .string) (hown : Owns w base e v l) (hbd : l.length + m.length ≤ 140737488355328) (hbase : base ≤ w.heap.size)
    (hs : a.eval s = v) (hx : a.eval x = .string ⟨m.toArray⟩)
    (h : ∀ v' w', Owns w' base e v' (l ++ m) → w.grownBy w' v.ownBlock → (v'.ownBlock = v.ownBlock ∨ v'.ownBlock = some w.heap.size) → wpList P ops Q rest (a.put dst v') w') :
    wpList P ops Q (⟨dst, .call ⟨.builtin .append, #[s, x], #[t, u]⟩, tp, pos, after, none⟩ :: rest) a w := by
  obtain ⟨v', w', hrun, h1, h2, h3⟩ := run_appS (ρ := a.eval) (d := dst) (tp := tp) (pos := pos) (af := after) (g := none) hT hu hown hbd hbase hs hx
  refine wpList_plain rfl fun _ hK => ?_
  unfold Oper.wp
  rw [hrun]
  exact hK _ _ (h v' w' h1 h2 h3)
theorem results_row3 {P : Program} {fn : Func} {p q r : Tmp} {ty : TypeId} {n : Nat} {w : World} {b : Nat} {e : TypeId} {c : Array Value} {tmps : Array Value} {v u : Value} (h : fn.results = #[.cell p ty, .tmp q, .tmp r]) (hrow : Row w b e c) (hA : AggTy P ty n) (hs : c.size = n)
    (hp : tmps.getD p undef = .pointer (some ⟨b, 0, none⟩)) (hq : tmps.getD q undef = v) (hr : tmps.getD r undef = u) : (results fn tmps).run P w = .ok (.tuple #[.agg c, v, u]) w := by
  obtain ⟨d, hu, hd⟩ := hA.u
  have hp' : tmps[p]?.getD undef = .pointer (some ⟨b, 0, none⟩) := by simpa using hp
  have hq' : tmps[q]?.getD undef = v := by simpa using hq
  have hr' : tmps[r]?.getD undef = u := by simpa using hr
  have hrow' : w.heap[b]? = some (.cells c e (0, 0)) := hrow
  simp [results, h, hp', hq', hr', asAddr, run_loadVar_row w b e ty c (0, 0) d hrow' hu (by cases d <;> simp_all [TypeDesc.isRow]) (by rw [hs]; exact hA.i)]
/-- a slice's block -/
def blkOf : Value → Nat
  | .slice (some a) _ _ => a.block
  | _ => 0
theorem Hp.pushNo {M : Nat → Prop} {w wr : World} {ls : List As} (h : Hp M w wr ls) : Hp M w wr (ls ++ [noA]) :=
  h.push noA (.refl _ _ _) trivial (fun _ hb => hb.elim)
/-- slot d of the frame -/
def slot (a : Act) (d : Nat) : Value := a.tmps.getD d undef
theorem eval_slot (a : Act) (d : Nat) : a.eval (.tmp d) = slot a d := rfl
theorem slot_put_same (a : Act) (d : Nat) (v : Value) (h : d < a.tmps.size) : slot (a.put (some d) v) d = v := by
  simp [slot, Act.put, Array.getD_eq_getD_getElem?, h]
theorem slot_put_ne (a : Act) (d j : Nat) (v : Value) (h : d ≠ j) : slot (a.put (some d) v) j = slot a j := by
  simp [slot, Act.put, Array.getD_eq_getD_getElem?, Array.getElem?_setIfInBounds_ne h]
/-- a is a0 but for the slots ds -/
structure Fr (a0 : Act) (ds : List Nat) (a : Act) : Prop where
  size : a.tmps.size = a0.tmps.size
  defers : a.defers = a0.defers
  same : ∀ j, j ∉ ds → slot a j = slot a0 j
theorem Fr.refl (a0 : Act) (ds : List Nat) : Fr a0 ds a0 := ⟨rfl, rfl, fun _ _ => rfl⟩
theorem Fr.put {a0 a : Act} {ds : List Nat} (h : Fr a0 ds a) (d : Nat) (hd : d ∈ ds) (v : Value) : Fr a0 ds (a.put (some d) v) :=
  ⟨by simpa [Act.put] using h.size, h.defers, fun j hj => by rw [slot_put_ne _ _ _ _ (fun (e : d = j) => hj (e ▸ hd))]; exact h.same j hj⟩
theorem Fr.eq {a0 a : Act} {ds : List Nat} (h : Fr a0 ds a) : a = ds.foldl (fun b d => b.put (some d) (slot a d)) a0 := by
  have key : ∀ (l : List Nat) (b : Act), b.tmps.size = a.tmps.size → (l.foldl (fun b d => b.put (some d) (slot a d)) b).tmps.size = a.tmps.size ∧ (l.foldl (fun b d => b.put (some d) (slot a d)) b).defers = b.defers ∧
      ∀ j, j < a.tmps.size → slot (l.foldl (fun b d => b.put (some d) (slot a d)) b) j = if j ∈ l then slot a j else slot b j := by
    intro l
    induction l with
    | nil => intro b hb; exact ⟨hb, rfl, fun j _ => by simp⟩
    | cons d l ih =>
      intro b hb
      have := ih (b.put (some d) (slot a d)) (by simpa [Act.put] using hb)
      refine ⟨this.1, this.2.1, fun j hj => ?_⟩
      rw [List.foldl_cons, this.2.2 j hj]
      by_cases e : j = d
      · subst e
        rw [slot_put_same _ _ _ (by omega)]
        simp
      · rw [slot_put_ne _ _ _ _ (Ne.symm e)]
        simp [e]
  have k := key ds a0 h.size.symm
  obtain ⟨k1, k2, k3⟩ := k
  generalize hr : ds.foldl (fun b d => b.put (some d) (slot a d)) a0 = r at *
  have ht : a.tmps = r.tmps := by
    apply Array.ext (by omega)
    intro j h1 h2
    have e := k3 j h1
    have e2 : slot r j = slot a j := by
      rw [e]
      split
      · rfl
      · rename_i hn; exact (h.same j hn).symm
    have e3 : r.tmps[j] = a.tmps[j] := by simpa [slot, Array.getD_eq_getD_getElem?, h1, h2] using e2
    exact e3.symm
  obtain ⟨t1, f1⟩ := a
  obtain ⟨t2, f2⟩ := r
  simp only at ht
  subst ht
  congr 1
  exact h.defers.trans k2.symm
/-- what an operation waits for has run -/
def Closed (ops : Array Oper) (done : Array Bool) : Prop := ∀ j o, ops[j]? = some o → done.getD j false = true → ∀ e ∈ o.after, Region.binds .any e = true → done.getD e.on false = true
theorem Closed.set {ops : Array Oper} {done : Array Bool} (h : Closed ops done) {i : Nat} (hi : i ∈ Region.ready .any ops done) : Closed ops (done.setIfInBounds i true) := by
  have mono : ∀ j, done.getD j false = true → (done.setIfInBounds i true).getD j false = true := by
    intro j hj
    by_cases e : i = j
    · subst e
      rcases Nat.lt_or_ge i done.size with hl | hl
      · simp [Array.getD_eq_getD_getElem?, hl]
      · simp [Array.getD_eq_getD_getElem?, Array.getElem?_eq_none hl] at hj
    · simpa [Array.getD_eq_getD_getElem?, Array.getElem?_setIfInBounds_ne e] using hj
  intro j o ho hd e he hb
  by_cases ej : i = j
  · subst ej
    exact mono _ ((ready_at hi ho).2 e he hb)
  · refine mono _ (h j o ho ?_ e he hb)
    simpa [Array.getD_eq_getD_getElem?, Array.getElem?_setIfInBounds_ne ej] using hd
theorem closed_none (ops : Array Oper) (n : Nat) : Closed ops (Array.replicate n false) := by
  intro j o _ hd
  rcases Nat.lt_or_ge j n with h | h <;> simp [Array.getD_eq_getD_getElem?, h] at hd
/-- the same, the frame as it stands at the region's head handed to Inv -/
theorem wp_region_fr {P : Program} {ops : Array Oper} {id : Nat} {Q : Exit → Act → World → Prop} {a : Act} {w : World} (ds : List Nat) (I : Array Bool → (Nat → Value) → World → Prop) (hm : P.follows .mixedOrders = true)
    (h0 : I (Array.replicate ops.size false) (slot a) w.drew)
    (hs : ∀ done a1 w1, Fr a ds a1 → I done (slot a1) w1 → done.size = ops.size → Closed ops done → ∀ i ∈ Region.ready .any ops done, wpOp P ops Q i (fun a2 w2 => Fr a ds a2 ∧ I (done.setIfInBounds i true) (slot a2) w2) a1 w1)
    (he : ∀ done a1 w1, a1 = ds.foldl (fun b d => b.put (some d) (slot a1 d)) a → I done (slot a1) w1 → done.size = ops.size → Region.ready .any ops done = [] → Q .normal a1 w1) : (Code.region id ops true).wp P Q a w :=
  wp_region_inv (fun done a1 w1 => Closed ops done ∧ Fr a ds a1 ∧ I done (slot a1) w1) hm ⟨closed_none _ _, Fr.refl _ _, h0⟩
    (fun done a1 w1 h hz i hi => wpOp_mono (fun _ _ h2 => ⟨h.1.set hi, h2⟩) (hs done a1 w1 h.2.1 h.2.2 hz h.1 i hi)) (fun done a1 w1 h hz hr => he done a1 w1 h.2.1.eq h.2.2 hz hr)
/-- one operation of such a region -/
theorem fr_op {P : Program} {ops : Array Oper} {Q : Exit → Act → World → Prop} {a a1 : Act} {ds : List Nat} {I : Array Bool → (Nat → Value) → World → Prop} {done : Array Bool} {w w' : World} {i d : Nat} {op : Op} {tp : TypeId} {pos : String} {af : Array Edge} {v : Value}
    (hf : Fr a ds a1) (hd : d ∈ ds) (hi : ops[i]? = some ⟨some d, op, tp, pos, af, none⟩) (hr : (execOp a1.eval (⟨some d, op, tp, pos, af, none⟩ : Oper)).run P w = .ok (.value v) w')
    (hI : ∀ s : Nat → Value, s d = v → (∀ j, j ≠ d → s j = slot a1 j) → I (done.setIfInBounds i true) s w') (hds : ∀ d ∈ ds, d < a.tmps.size) :
    wpOp P ops Q i (fun a2 w2 => Fr a ds a2 ∧ I (done.setIfInBounds i true) (slot a2) w2) a1 w :=
  inv_op (o := ⟨some d, op, tp, pos, af, none⟩) hi rfl hr ⟨hf.put d hd v, hI _ (slot_put_same _ _ _ (by rw [hf.size]; exact hds d hd)) (fun j hj => slot_put_ne _ _ _ _ (Ne.symm hj))⟩
def inOrderB (ops : Array Oper) : Bool := (List.range ops.size).all fun j => ((ops[j]?).map fun o => o.after.all fun e => !Region.binds .any e || decide (e.on < j)).getD true
/-- where nothing is ready, all has run -/
theorem all_done {ops : Array Oper} {done : Array Bool} (hB : inOrderB ops = true) (hsz : done.size = ops.size) (hr : Region.ready .any ops done = []) : ∀ j, j < ops.size → done.getD j false = true := by
  intro j
  induction j using Nat.strongRecOn with
  | _ j ih =>
    intro hj
    cases hd : done.getD j false with
    | true => rfl
    | false =>
      have ho : ops[j]? = some ops[j] := Array.getElem?_eq_getElem hj
      have hB' := List.all_eq_true.1 hB j (List.mem_range.2 hj)
      rw [ho] at hB'
      simp only [Option.map_some, Option.getD_some, Array.all_eq_true_iff_forall_mem, Bool.or_eq_true, Bool.not_eq_true', decide_eq_true_eq] at hB'
      have hm : j ∈ Region.ready .any ops done := mem_ready.2 ⟨by
        have hj2 : j < done.size := by omega
        simpa [Array.getD_eq_getD_getElem?, hj2] using hd, _, ho, fun e he hb => by
          have h1 : e.on < j := (hB' e he).resolve_left (by rw [hb]; exact fun h => by cases h)
          exact ih e.on h1 (by omega)⟩
      rw [hr] at hm
      cases hm
theorem arr9 (d : Array Bool) (h : d.size = 9) : ∃ d0 d1 d2 d3 d4 d5 d6 d7 d8, d = #[d0, d1, d2, d3, d4, d5, d6, d7, d8] := by
  obtain ⟨l⟩ := d
  match l, h with
  | [d0, d1, d2, d3, d4, d5, d6, d7, d8], _ => exact ⟨_, _, _, _, _, _, _, _, _, rfl⟩
theorem arr10 (d : Array Bool) (h : d.size = 10) : ∃ d0 d1 d2 d3 d4 d5 d6 d7 d8 d9, d = #[d0, d1, d2, d3, d4, d5, d6, d7, d8, d9] := by
  obtain ⟨l⟩ := d
  match l, h with
  | [d0, d1, d2, d3, d4, d5, d6, d7, d8, d9], _ => exact ⟨_, _, _, _, _, _, _, _, _, _, rfl⟩
theorem reads_row1 {w : World} {b : Nat} {e : TypeId} {c : UInt8} {N : Nat → Prop} (h : Row w b e #[.int .u8 (c.toNat : Int)]) (hN : N b) : Reads w N (.slice (some ⟨b, 0, none⟩) 1 1) [c] :=
  RdV.toBytes (RdV.ofRow h hN 1 0 1 1 (bcells [c]) rfl (Nat.le_refl _) (by unfold maxLen; omega) (fun j u hu => by
    match j, hu with
    | 0, hu => simpa [bcells] using hu
    | (j + 1), hu => simp [bcells] at hu))
theorem run_fieldAddr {P : Program} {ρ : Operand → Value} {d : Option Tmp} {x : Operand} {T t : TypeId} {n m : Nat} {fs : Array Field} {f : Field} {pos : String} {af : Array Edge} {g : Option (Nat × Bool)} {w : World} {b off : Nat}
    (hu : P.underlying T = some (.struct fs)) (hf : fs[n]? = some f) (hs : (P.info? f.type).map (·.size) = some (m + 1)) (hx : ρ x = .pointer (some ⟨b, off, none⟩)) :
    (execOp ρ (⟨d, .fieldAddr T x n, t, pos, af, g⟩ : Oper)).run P w = .ok (.value (.pointer (some ⟨b, off + f.offset, none⟩))) w := by
  have hz : (sizeOf f.type).run P w = .ok (m + 1) w := by
    cases hi : P.info? f.type with
    | none => simp [hi] at hs
    | some i => simp [hi] at hs; simp [sizeOf, typeInfo, hi, hs]
  simp [go_sem, execOp, hx, Instr.fieldAt, run_underlying hu, hf, fieldPlace, hz]
theorem run_loadCell {P : Program} {ρ : Operand → Value} {d : Option Tmp} {x : Operand} {ty t : TypeId} {pos : String} {af : Array Edge} {g : Option (Nat × Bool)} {w : World} {b off : Nat} {v : Value}
    (hd : ∀ w, (isAgg ty).run P w = .ok false w) (hc : w.cell? ⟨b, off, none⟩ = some v) (hx : ρ x = .pointer (some ⟨b, off, none⟩)) :
    (execOp ρ (⟨d, .load ty x, t, pos, af, g⟩ : Oper)).run P w = .ok (.value v) w := by
  simp [go_sem, execOp, hx, Instr.loadAt, hd, hc]
end Go.Proofs.YtmkofejijkabnaaGreatDoor
/- CELLS THAT ARE READ in a class walk. -/
namespace Go.Proofs.YtmkofejijkabnaaGreatDoor
open Go.RowKit
section
variable {P : Program} {ops : Array Oper} {rest : List Oper} {a : Act} {C : World → Prop} {Q : Act → Prop} {tp : TypeId} {dst : Option Tmp} {pos : String} {after : Array Edge} {g : Option (Nat × Bool)}
/-- ARM: one plain cell is read -/
theorem cls_cell {b o : Nat} {ty : TypeId} {u : Value} {x : Operand} (hwt : Region.wanted (⟨dst, .load ty x, tp, pos, after, g⟩ : Oper) (yielded ops a.tmps) = true)
    (hc : ∀ w, C w → w.cell? ⟨b, o, none⟩ = some u) (hd : ∀ w, (isAgg ty).run P w = .ok false w) (hx : a.eval x = .pointer (some ⟨b, o, none⟩))
    (h : wpQuiet P ops C Q rest (a.put dst u)) : wpQuiet P ops C Q (⟨dst, .load ty x, tp, pos, after, g⟩ :: rest) a :=
  cls_op hwt (fun w hw => run_loadCell hd (hc w hw) hx) h
/-- ARM: an aggregate in the middle of a row is read -/
theorem cls_agg {b o : Nat} {ty : TypeId} {cs : List Value} {d : TypeDesc} {x : Operand} (hwt : Region.wanted (⟨dst, .load ty x, tp, pos, after, g⟩ : Oper) (yielded ops a.tmps) = true)
    (hc : ∀ w, C w → ∀ (j : Nat) (v : Value), cs[j]? = some v → w.cell? ⟨b, o + j, none⟩ = some v) (hu : P.underlying ty = some d) (hd : d.isRow = true) (hi : (P.info? ty).map (·.size) = some cs.length) (hx : a.eval x = .pointer (some ⟨b, o, none⟩))
    (h : wpQuiet P ops C Q rest (a.put dst (.agg cs.toArray))) : wpQuiet P ops C Q (⟨dst, .load ty x, tp, pos, after, g⟩ :: rest) a := by
  refine cls_op hwt (fun w hw => ?_) h
  have hl := run_loadAt_mid (P := P) w b o ty cs d (hc w hw) hu hd hi
  unfold execOp
  simp only [hx, Sem.run_bind, Sem.run_pure, Result.andThen_ok, hl]
end
end Go.Proofs.YtmkofejijkabnaaGreatDoor
/- slices.IndexFunc, ContainsFunc over texts (PathFn2's beginning, without the paths). -/
namespace Go.Proofs.YtmkofejijkabnaaGreatDoor
open Go.RowKit
def strV (l : List UInt8) : Value := .string ⟨l.toArray⟩
abbrev RdS (w : World) (N : Nat → Prop) (v : Value) (l : List (List UInt8)) : Prop := RdV w N 1 v l.length (l.map strV)
/-- the place of the first that p takes; -1 without one -/
def idxF (p : List UInt8 → Bool) (l : List (List UInt8)) : Int := match l.findIdx? p with | some i => (i : Int) | none => -1
/-- a predicate, called -/
def PredF (f : FuncId) (p : List UInt8 → Bool) (l : List (List UInt8)) : Prop := ∀ x ∈ l, ∀ w, Calls Tryz.prog f #[strV x] w fun e w' => e = .returned (.bool (p x)) ∧ Below w.heap.size w w'
theorem idxF_hit {p : List UInt8 → Bool} {l : List (List UInt8)} {k : Nat} (hk : k < l.length) (h : p l[k] = true) (hn : ∀ j, (hj : j < k) → p (l[j]'(by omega)) = false) : idxF p l = (k : Int) := by
  unfold idxF
  rw [List.findIdx?_eq_some_iff_getElem.2 ⟨hk, h, fun j hj => by simpa using hn j hj⟩]
theorem idxF_none {p : List UInt8 → Bool} {l : List (List UInt8)} (hn : ∀ j, (hj : j < l.length) → p l[j] = false) : idxF p l = -1 := by
  unfold idxF
  rw [List.findIdx?_eq_none_iff.2 (fun x hx => by obtain ⟨j, hj, rfl⟩ := List.mem_iff_getElem.1 hx; exact hn j hj)]
set_option maxHeartbeats 1000000 in
set_option maxRecDepth 100000 in
theorem ifunc_any (f : FuncId) (p : List UInt8 → Bool) (v : Value) (l : List (List UInt8)) (w : World) (hent : ∀ args w, (callFunc f args).run Tryz.prog w = .ok (.enter f args) w) (hf : PredF f p l) (hr : RdS w (· < w.heap.size) v l) :
    Calls Tryz.prog 143 #[v, .func (.func f) #[] #[]] w fun e w' => e = .returned (.int .i64 (idxF p l)) ∧ Below w.heap.size w w' := by
  obtain ⟨a, cap, rfl, hcap, hmx, h3⟩ := hr.shape
  have HR := Keep.keep hr; have HF := Keep.keep hf; have H3 := Keep.keep h3
  unfold maxLen at hmx
  clear hr hf h3
  go_enter Tryz.func143, Tryz.ntmps143
  go_wp2_with fail
  go_loopg [5, 8] l.length (fun g _ u8 wx => ∃ k : Nat, k + g = l.length ∧ u8 = .int .i64 (k : Int) ∧ (∀ j, (hj : j < k) → (hl : j < l.length) → p l[j] = false) ∧ Below w.heap.size w wx)
  case atStart => exact ⟨0, by omega, rfl, fun j hj => by omega, Below.refl _ _⟩
  case round =>
    obtain ⟨k, hkg, rfl, hno, hb⟩ := hrel
    have HNO := Keep.keep hno; have HB := Keep.keep hb
    clear hno hb
    cases gk with
    | zero =>
      obtain rfl : k = l.length := by omega
      have hx : Keep (idxF p l = -1) := ⟨idxF_none (fun j hj => HNO.out j hj hj)⟩
      go_wp2_with fail
      go_ret
      exact ⟨by rw [hx.out]; rfl, HB.out⟩
    | succ g =>
      have hk : k < l.length := by omega
      rcases H3.out with ⟨_, h3⟩ | ⟨b, off, rfl, hbl⟩
      · omega
      have hcell := (HR.out.below HB.out (fun b hb => hb)).cell b off _ _ rfl k (strV l[k]) (by simp [hk])
      have HC := Keep.keep (HF.out l[k] (List.getElem_mem hk) wr)
      have HSTEP : Keep (p l[k] = false → ∀ j, (hj : j < k + 1) → (hl : j < l.length) → p l[j] = false) := ⟨fun he j hj hl => by
        rcases Nat.lt_succ_iff_lt_or_eq.1 hj with h | rfl
        · exact HNO.out j h hl
        · exact he⟩
      have HHIT : Keep (p l[k] = true → idxF p l = (k : Int)) := ⟨fun he => idxF_hit hk he (fun j hj => HNO.out j hj (by omega))⟩
      generalize p l[k] = pk at *
      generalize l[k] = x at *
      unfold strV at hcell HC
      go_wp2_with fail
      refine HC.out.mono ?_
      rintro e w2 ⟨rfl, hb2⟩
      have HB2 := Keep.keep (HB.out.trans (hb2.mono HB.out.size))
      clear hb2
      cases pk with
      | true =>
        have hi := HHIT.out rfl
        go_wp2_with fail
        go_ret
        exact ⟨by rw [hi]; rfl, HB2.out⟩
      | false =>
        have HST2 := Keep.keep (HSTEP.out rfl)
        go_wp2_with fail
        go_roundg g
        case measure => omega
        case rel => exact ⟨k + 1, by omega, by simp, HST2.out, HB2.out⟩
set_option maxHeartbeats 1000000 in
theorem cfunc_any (f : FuncId) (p : List UInt8 → Bool) (v : Value) (l : List (List UInt8)) (w : World) (hent : ∀ args w, (callFunc f args).run Tryz.prog w = .ok (.enter f args) w) (hf : PredF f p l) (hr : RdS w (· < w.heap.size) v l) :
    Calls Tryz.prog 102 #[v, .func (.func f) #[] #[]] w fun e w' => e = .returned (.bool (l.any p)) ∧ Below w.heap.size w w' := by
  have HI := Keep.keep (ifunc_any f p v l w hent hf hr)
  obtain ⟨a, cap, rfl, -⟩ := hr.shape
  have hx : decide (0 ≤ idxF p l) = l.any p := by
    unfold idxF
    cases h : l.findIdx? p with
    | none =>
      have := List.findIdx?_eq_none_iff.1 h
      have : l.any p = false := by rw [List.any_eq_false]; intro x hx; simpa using this x hx
      rw [this]; rfl
    | some i =>
      obtain ⟨hi, hp, -⟩ := List.findIdx?_eq_some_iff_getElem.1 h
      have : l.any p = true := List.any_eq_true.2 ⟨_, List.getElem_mem hi, hp⟩
      rw [this]
      exact decide_eq_true (by simp)
  clear hr hf
  generalize idxF p l = i at *
  generalize l.any p = b at *
  go_enter Tryz.func102, Tryz.ntmps102
  go_wp2_with fail
  refine HI.out.mono ?_
  rintro e w1 ⟨rfl, hb⟩
  go_wp2_with fail
  go_ret
  exact ⟨rfl, hb⟩
end Go.Proofs.YtmkofejijkabnaaGreatDoor
/- slices.Grow, Concat, Clone of bytes. -/
namespace Go.Proofs.YtmkofejijkabnaaGreatDoor
open Go.RowKit
theorem slBy : SlTy Tryz.prog 28 5 (.int .u8 0) 1 := SlTy.mk' Tryz.underlying28 (by kernel_rfl) rfl
theorem slice_bto (a : Option Addr) (n cap i : Nat) (hi : i ≤ cap) (w : World) : (Instr.slice 28 (.slice a n cap) none (some (.int .i64 (i : Int))) none).run Tryz.prog w = .ok (.slice a i cap) w := by
  have he : Tryz.prog.elem 28 = 5 := by simp [Program.elem, Tryz.underlying28]
  have hs : ∀ w, (sizeOf 5).run Tryz.prog w = .ok 1 w := fun w => by kernel_rfl
  rw [run_slice_h w 28 a n cap (by rw [he]; exact Tryz.underlying28) .i64 (i : Int) (by omega) (by omega), he, hs]
  have ha : a.map (·.add 0) = a := by
    cases a <;> simp [Addr.add]
  simp [Result.andThen, sliced, ha]
set_option maxHeartbeats 1000000 in
set_option maxRecDepth 100000 in
theorem grow_bytes (n : Nat) (hn : n ≤ 1000000000) (w : World) :
    Calls Tryz.prog 139 #[.slice none 0 0, .int .i64 (n : Int)] w fun e w' => ∃ v, e = .returned v ∧ Owns w' w.heap.size 5 v [] ∧ Below w.heap.size w w' := by
  have hneg : decide ((n : Int) < 0) = false := decide_eq_false (by omega)
  by_cases h0 : n = 0
  · subst h0
    go_enter Tryz.func139, Tryz.ntmps139
    go_wp2_with fail
    go_ret
    exact ⟨_, rfl, World.ownsRow_nil _ _ _ _, Below.refl _ _⟩
  · have hpos : decide (0 < (n : Int)) = true := decide_eq_true (by omega)
    have hpos2 : decide (0 < n) = true := decide_eq_true (by omega)
    have hsl := fun wx => slice_bto none 0 0 0 (Nat.le_refl _) wx
    obtain ⟨i, hi, hz, hsize, hby⟩ := slBy.i
    have hrun := Lib.run_append_nil_zeros (P := Tryz.prog) w 28 3 28 5 i (.int .u8 0) .i64 .i64 Tryz.underlying28 Tryz.underlying3 hi hz n (by omega) (by rw [hsize]; decide) (by omega) (by rw [hby]; omega)
    have hge := grownCap_ge w n 0 5
    have hle := grownCap_le_maxLen w n 0 5 (by unfold maxLen; omega)
    generalize hc : grownCap w n 0 5 = cap at *
    have HSZ : Keep ((Builtin.zeroCells (Value.int .u8 0).cells n ++ Builtin.zeroCells (Value.int .u8 0).cells (cap - n)).size = cap) := ⟨by
      have hz1 : ∀ m, (Builtin.zeroCells (Value.int .u8 0).cells m).size = m := fun m => by simp [Builtin.zeroCells, Value.cells]
      rw [Array.size_append, hz1, hz1]; omega⟩
    generalize Builtin.zeroCells (Value.int .u8 0).cells n ++ Builtin.zeroCells (Value.int .u8 0).cells (cap - n) = cs at *
    have hst := fun wx => slice_bto (some ⟨w.heap.size, 0, none⟩) n cap 0 (Nat.zero_le _) wx
    have HLE := Keep.keep hle; have HGE := Keep.keep hge; have HRUN := Keep.keep hrun
    clear hc hle hge hrun hi hz hsize hby
    go_enter Tryz.func139, Tryz.ntmps139
    go_wp2_with (at_builtin; refine Lib.wpList_append_run _ rfl _ _ _ _ rfl _ _ rfl rfl _ _ HRUN.out ?_)
    go_ret
    refine ⟨_, rfl, ⟨rfl, .inr ⟨w.heap.size, cap, cs, rfl, Nat.le_refl _, Row.new w.drew 5 cs, Nat.zero_le _, HLE.out, by rw [HSZ.out, Nat.mul_one], by simp [bcells]⟩⟩, ?_⟩
    exact (Below.refl _ _).drew.alloc (Nat.le_refl _) _
/-- a slice of rows of bytes -/
structure RdB (w : World) (v : Value) (ps : List (List UInt8)) (vs : List Value) : Prop where
  rd : RdV w (· < w.heap.size) 1 v ps.length vs
  el : ∀ (k : Nat) (x : Value) (p : List UInt8), vs[k]? = some x → ps[k]? = some p → Reads w (· < w.heap.size) x p
theorem RdB.below {w w' : World} {v : Value} {ps : List (List UInt8)} {vs : List Value} (h : RdB w v ps vs) (hb : Below w.heap.size w w') : RdB w' v ps vs :=
  ⟨(h.rd.below hb (fun _b hb => hb)).mono (fun _b hb2 => Nat.lt_of_lt_of_le hb2 hb.size), fun k x p h1 h2 => ((h.el k x p h1 h2).below hb (fun _b hb => hb)).mono (fun _b hb2 => Nat.lt_of_lt_of_le hb2 hb.size)⟩
theorem flat_take (ps : List (List UInt8)) (k : Nat) (hk : k < ps.length) : (ps.take (k + 1)).flatten = (ps.take k).flatten ++ ps[k] := by
  rw [List.take_add_one, List.getElem?_eq_getElem hk, List.flatten_append]
  simp
theorem flat_le (ps : List (List UInt8)) (k : Nat) : (ps.take k).flatten.length ≤ ps.flatten.length := by
  conv => rhs; rw [← List.take_append_drop k ps, List.flatten_append, List.length_append]
  omega
set_option maxHeartbeats 4000000 in
set_option maxRecDepth 100000 in
theorem concat_bytes (v : Value) (ps : List (List UInt8)) (vs : List Value) (w : World) (hr : RdB w v ps vs) (hn : ps.flatten.length ≤ 1000000000) :
    Calls Tryz.prog 98 #[v] w fun e w' => ∃ v', e = .returned v' ∧ Owns w' w.heap.size 5 v' ps.flatten ∧ Below w.heap.size w w' := by
  obtain ⟨a, cap, hv, hcap, hmx, h3⟩ := hr.rd.shape
  have HR := Keep.keep hr; have H3 := Keep.keep h3; have HN := Keep.keep hn
  have HVL : Keep (vs.length = ps.length) := ⟨by have := hr.rd.len; omega⟩
  obtain ⟨np, hnp⟩ : ∃ np, ps.length = np := ⟨_, rfl⟩
  have HNP := Keep.keep hnp
  rw [hnp] at hv hcap
  clear hnp
  unfold maxLen at hmx
  clear hr h3 hn
  subst hv
  go_enter Tryz.func98, Tryz.ntmps98
  go_wp2_with fail
  go_loopg [3, 11] np (fun g u3 u11 wx => w = wx ∧ ∃ k s : Nat, k + g = np ∧ u11 = .int .i64 (k : Int) ∧ u3 = .int .i64 (s : Int) ∧ Keep (s = (ps.take k).flatten.length))
  case atStart => exact ⟨rfl, 0, 0, by omega, rfl, rfl, ⟨rfl⟩⟩
  case round =>
    obtain ⟨rfl, k, s, hkg, rfl, rfl, HS⟩ := hrel
    cases gk with
    | zero =>
      obtain rfl : np = k := by omega
      have HSA : Keep (s = ps.flatten.length) := ⟨by rw [HS.out, ← HNP.out, List.take_length]⟩
      have hs1 : (s : Int) ≤ 1000000000 := by have := HSA.out; have := HN.out; omega
      have HG2 : Keep (∀ wx, Calls Tryz.prog 139 #[.slice none 0 0, .int .i64 (s : Int)] wx fun e w' => ∃ v, e = .returned v ∧ Owns w' wx.heap.size 5 v [] ∧ Below wx.heap.size wx w') := ⟨fun wx => grow_bytes s (by omega) wx⟩
      go_wp2_with fail
      refine (HG2.out w).mono ?_
      rintro e w2 ⟨v6, rfl, ho6, hb2⟩
      have HO6 := Keep.keep ho6; have HB2 := Keep.keep hb2
      obtain ⟨a6, c6, hv6, -⟩ := (ownsV_reads ho6).shape
      rw [List.length_nil] at hv6
      clear ho6 hb2 HG2 hs1
      subst hv6
      go_wp2_with fail
      go_loopg [6, 27] np (fun g u6 u27 wx => Keep (Below w.heap.size w wx) ∧ ∃ k : Nat, k + g = np ∧ u27 = .int .i64 (k : Int) ∧ Keep (Owns wx w.heap.size 5 u6 (ps.take k).flatten))
      case atStart => exact ⟨HB2, 0, by omega, rfl, HO6⟩
      case round =>
        obtain ⟨HBX, k, hkg, rfl, HO⟩ := hrel
        have hsx := HBX.out.size
        obtain ⟨a7, n7, c7, hv7⟩ : ∃ a7 n7 c7, u6 = .slice a7 n7 c7 := by
          obtain ⟨a8, c8, hv8, -⟩ := (ownsV_reads HO.out).shape
          exact ⟨a8, _, c8, hv8⟩
        cases gk with
        | zero =>
          obtain rfl : np = k := by omega
          rw [← HNP.out, List.take_length] at HO
          subst hv7
          go_wp2_with fail
          go_ret
          exact ⟨_, rfl, HO.out, HBX.out⟩
        | succ g =>
          have hk : k < ps.length := by have := HNP.out; omega
          rcases H3.out with h3 | ⟨b, off, rfl, hbl⟩
          · have := HNP.out; omega
          obtain ⟨x, hx⟩ : ∃ x, vs[k]? = some x := ⟨_, List.getElem?_eq_getElem (by rw [HVL.out]; exact hk)⟩
          have hrx := (HR.out.below HBX.out)
          have hcell := hrx.rd.cell b off _ _ rfl k x (by simpa using hx)
          have hel := hrx.el k x ps[k] hx (List.getElem?_eq_getElem hk)
          have HEL := Keep.keep hel
          have hfl := flat_take ps k hk
          have hle := flat_le ps (k + 1)
          rw [hfl, List.length_append] at hle
          obtain ⟨ax, nx, cx, hvx⟩ : ∃ ax nx cx, x = .slice ax nx cx := by
            obtain ⟨a8, c8, hv8, -⟩ := hel.shape
            exact ⟨a8, _, c8, hv8⟩
          have HFL := Keep.keep hfl; have HLE := Keep.keep hle
          clear hrx hel hfl hle
          generalize ps[k] = pk at *
          subst hv7 hvx
          go_wp2_with (with_reducible refine arm_stop ?_)
          refine Stopped.out ?_
          refine arm_append slBy HO.out HEL.out (by have := HLE.out; have := HN.out; omega) hsx rfl rfl ?_
          intro v8 w8 ho8 hg8 hov8
          have HO8 : Keep (Owns w8 w.heap.size 5 v8 (ps.take (k + 1)).flatten) := ⟨by rw [HFL.out]; exact ho8⟩
          have HB8 : Keep (Below w.heap.size w w8) := ⟨HBX.out.trans ((Chg.grown (M := NoM) (.refl _ _ _) hg8 hsx (fun k e => .inl (World.ownsRow.lt HO.out k e).1)).below (fun _ _ h => h))⟩
          obtain ⟨a8, n8, c8, hv8⟩ : ∃ a8 n8 c8, v8 = .slice a8 n8 c8 := by
            obtain ⟨a8, c8, hv8, -⟩ := (ownsV_reads ho8).shape
            exact ⟨a8, _, c8, hv8⟩
          clear ho8 hg8 hov8 hcell
          subst hv8
          simp only [Act.put, List.setIfInBounds_toArray, List.set_cons_succ, List.set_cons_zero]
          go_wp2_with fail
          go_roundg g
          case measure => omega
          case rel => exact ⟨HB8, k + 1, by omega, by simp, HO8⟩
    | succ g =>
      have hk : k < ps.length := by have := HNP.out; omega
      rcases H3.out with h3 | ⟨b, off, rfl, hbl⟩
      · have := HNP.out; omega
      obtain ⟨x, hx⟩ : ∃ x, vs[k]? = some x := ⟨_, List.getElem?_eq_getElem (by rw [HVL.out]; exact hk)⟩
      have hcell := HR.out.rd.cell b off _ _ rfl k x (by simpa using hx)
      have hel := HR.out.el k x ps[k] hx (List.getElem?_eq_getElem hk)
      obtain ⟨ax, nx, cx, hvx, hnx⟩ : ∃ ax nx cx, x = .slice ax nx cx ∧ nx = ps[k].length := by
        obtain ⟨a8, c8, hv8, -⟩ := hel.shape
        exact ⟨a8, _, c8, hv8, rfl⟩
      have hfl := flat_take ps k hk
      have hle := flat_le ps (k + 1)
      have HLN : Keep (s + nx = (ps.take (k + 1)).flatten.length) := ⟨by rw [hfl, List.length_append, HS.out, hnx]⟩
      have hs1 : (s : Int) + (nx : Int) ≤ 1000000000 := by have := HN.out; have := HLN.out; omega
      clear hel hfl hle hnx hx
      subst hvx
      go_wp2_with fail
      go_roundg g
      case measure => omega
      case rel => exact ⟨rfl, k + 1, s + nx, by omega, by simp, by simp, HLN⟩
set_option maxHeartbeats 1000000 in
set_option maxRecDepth 100000 in
theorem clone_bytes (v : Value) (l : List UInt8) (w : World) (hr : Reads w (· < w.heap.size) v l) (hl : l.length ≤ 1000000000) :
    Calls Tryz.prog 38 #[v] w fun e w' => ∃ v', e = .returned v' ∧ Owns w' w.heap.size 5 v' l ∧ Below w.heap.size w w' := by
  obtain ⟨a, n, cap, hv, hnn⟩ : ∃ a n cap, v = .slice a n cap ∧ (a = none → l = []) := by
    obtain ⟨a8, c8, hv8, h1, h2, h3⟩ := hr.shape
    refine ⟨a8, _, c8, hv8, fun e => ?_⟩
    rcases h3 with h3 | ⟨b, off, h3, -⟩
    · exact List.eq_nil_of_length_eq_zero (by omega)
    · rw [e] at h3; cases h3
  have HR := Keep.keep hr; have HL := Keep.keep hl
  clear hr hl
  cases a with
  | none =>
    have HNN : Keep (l = []) := ⟨hnn rfl⟩
    clear hnn
    subst hv
    have hq : ∀ w, (Go.binOp .eql 28 (.slice none n cap) (.slice none 0 0)).run Tryz.prog w = .ok (.bool true) w := fun w => by kernel_rfl
    go_enter Tryz.func38, Tryz.ntmps38
    go_wp2_with fail
    go_ret
    refine ⟨_, rfl, ?_, Below.refl _ _⟩
    rw [HNN.out]
    exact Owns.nil _ _ _
  | some ad =>
    clear hnn
    subst hv
    have hq : ∀ w, (Go.binOp .eql 28 (.slice (some ad) n cap) (.slice none 0 0)).run Tryz.prog w = .ok (.bool false) w := fun w => by kernel_rfl
    go_enter Tryz.func38, Tryz.ntmps38
    go_wp2_with (with_reducible refine arm_stop ?_)
    refine Stopped.out ?_
    have hal : Below w.heap.size w (w.alloc (.cells #[] 5)) := (Below.refl _ _).alloc (Nat.le_refl _) _
    have hown : Owns (w.alloc (.cells #[] 5)) w.heap.size 5 (.slice (some ⟨w.heap.size, 0, none⟩) 0 0) [] := ownsV_new 5 [] 1 0 w.heap.size w.heap.size rfl (Nat.le_refl _) rfl (by decide)
    refine arm_append slBy hown (HR.out.below hal (fun b hb => hb)) (by have := HL.out; simp; omega) hal.size rfl rfl ?_
    intro v8 w8 ho8 hg8 hov8
    have HO8 := Keep.keep ho8
    have HB8 : Keep (Below w.heap.size w w8) := ⟨hal.trans ((Chg.grown (M := NoM) (.refl _ _ _) hg8 hal.size (fun k e => .inl (World.ownsRow.lt hown k e).1)).below (fun _ _ h => h))⟩
    obtain ⟨a8, n8, c8, hv8⟩ : ∃ a8 n8 c8, v8 = .slice a8 n8 c8 := by
      obtain ⟨a8, c8, hv8, -⟩ := (ownsV_reads ho8).shape
      exact ⟨a8, _, c8, hv8⟩
    clear ho8 hg8 hov8 hown hal
    subst hv8
    simp only [Act.put, List.setIfInBounds_toArray, List.set_cons_succ, List.set_cons_zero]
    go_wp2_with fail
    go_ret
    exact ⟨_, rfl, HO8.out, HB8.out⟩
end Go.Proofs.YtmkofejijkabnaaGreatDoor
/- crc.half, whole, Add, Sum, Of. -/
namespace Go.Proofs.YtmkofejijkabnaaGreatDoor
open Go.RowKit
/-- the package's table, where it is laid -/
structure CrcT (w : World) : Prop where
  c : ∀ i, i < 16 → w.cell? ⟨0, i, none⟩ = some (.int .u32 (tabN i : Int))
  l : 0 < w.heap.size
theorem CrcT.on {w w' : World} (h : CrcT w) (hb : Below w.heap.size w w') : CrcT w' :=
  ⟨fun i hi => by rw [(Chg.of_below (M := fun _ => False) hb).cell (p := ⟨0, i, none⟩) h.l (fun e => e)]; exact h.c i hi, Nat.lt_of_lt_of_le h.l hb.size⟩
theorem and15 (x : Nat) (hx : x < 4294967296) : bits .and .u32 (x : Int) 15 = ((x % 16 : Nat) : Int) := by
  have h := u32_and_nat x 15 hx (by decide)
  rw [show ((15 : Nat) : Int) = 15 from rfl] at h
  rw [h]
  congr 1
  exact Nat.and_two_pow_sub_one_eq_mod x 4
set_option maxHeartbeats 1000000 in
theorem half_any (x : Nat) (hx : x < 4294967296) (w : World) (hT : CrcT w) : Calls Tryz.prog 180 #[.int .u32 (x : Int)] w fun e w' => e = .returned (.int .u32 (halfN x : Int)) ∧ w' = w := by
  have hm : x % 16 < 16 := Nat.mod_lt _ (by decide)
  have hc := hT.c (x % 16) hm
  have ha := and15 x hx
  have hX : Keep (bits .xor .u32 ((x : Int) / 16) (tabN (x % 16) : Int) = (halfN x : Int)) := ⟨by
    have h := u32_xor_nat (x / 16) (tabN (x % 16)) (by omega) (tab_lt _ hm)
    rw [show ((x / 16 : Nat) : Int) = (x : Int) / 16 by simp] at h
    rw [h]; rfl⟩
  generalize x % 16 = m at *
  generalize tabN m = t at *
  generalize halfN x = hx' at *
  clear hT
  go_enter Tryz.func180, Tryz.ntmps180
  go_wp2_with fail
  go_ret
  exact ⟨by show Ending.returned (.int .u32 (bits .xor .u32 ((x : Int) / 16) (t : Int))) = _; rw [hX.out], rfl⟩
set_option maxHeartbeats 1000000 in
theorem whole_any (x : Nat) (hx : x < 4294967296) (w : World) (hT : CrcT w) : Calls Tryz.prog 157 #[.int .u32 (x : Int)] w fun e w' => e = .returned (.int .u32 (wholeN x : Int)) ∧ w' = w := by
  have H1 := Keep.keep (half_any x hx w hT)
  have H2 := Keep.keep (half_any (halfN x) (half_lt hx) w hT)
  have HW : Keep (wholeN x = halfN (halfN x)) := ⟨rfl⟩
  generalize wholeN x = wx at *
  generalize halfN (halfN x) = h2 at *
  generalize halfN x = h1 at *
  clear hT
  go_enter Tryz.func157, Tryz.ntmps157
  go_wp2_with fail
  refine H1.out.mono ?_
  rintro e w1 ⟨rfl, rfl⟩
  go_wp2_with fail
  refine H2.out.mono ?_
  rintro e w2 ⟨rfl, rfl⟩
  go_wp2_with fail
  go_ret
  exact ⟨by rw [HW.out]; rfl, rfl⟩
theorem compl32 (x : Nat) (hx : x < 4294967296) : bits .xor .u32 4294967295 (x : Int) = ((4294967295 - x : Nat) : Int) := by
  have h := u32_xor_nat 4294967295 x (by decide) hx
  rw [show ((4294967295 : Nat) : Int) = 4294967295 from rfl] at h
  rw [h]
  congr 1
  have e : 4294967295 = 2 ^ 32 - 1 := rfl
  refine Nat.eq_of_testBit_eq fun i => ?_
  have hx2 : x < 2 ^ 32 := hx
  rw [Nat.testBit_xor, e, Nat.testBit_two_pow_sub_one, show (2 ^ 32 - 1 - x) = 2 ^ 32 - (x + 1) by omega, Nat.testBit_two_pow_sub_succ hx2]
  by_cases hi : i < 32
  · simp [hi]
  · have : x.testBit i = false := Nat.testBit_lt_two_pow (Nat.lt_of_lt_of_le hx2 (Nat.pow_le_pow_right (by decide) (by omega)))
    simp [hi, this]
set_option maxHeartbeats 4000000 in
set_option maxRecDepth 100000 in
theorem add_any (R b0 : Nat) (bv : Value) (l : List UInt8) (w : World) (hT : CrcT w) (hR : Row w R 182 #[.int .u32 0, .int .i64 0]) (h0 : Row w b0 28 #[bv]) (hr : Reads w (· < w.heap.size) bv l) (hl : l.length ≤ 1000000000) :
    Calls Tryz.prog 130 #[.pointer (some ⟨R, 0, none⟩), .slice (some ⟨b0, 0, none⟩) 1 1] w fun e w' => e = .returned (.tuple #[]) ∧ Row w' R 182 #[.int .u32 (crcN l : Int), .int .i64 (l.length : Int)] ∧ Chg (fun j => j = R) w.heap.size w w' := by
  obtain ⟨a, n, cap, hv, hn, h3⟩ : ∃ a n cap, bv = .slice a n cap ∧ n = l.length ∧ (n = 0 ∨ ∃ b off, a = some ⟨b, off, none⟩) := by
    obtain ⟨a8, c8, hv8, q1, q2, q3⟩ := hr.shape
    refine ⟨a8, _, c8, hv8, rfl, ?_⟩
    rcases q3 with q3 | ⟨b, off, q3, -⟩
    · exact .inl (by omega)
    · exact .inr ⟨b, off, q3⟩
  have HR := Keep.keep hr; have HL := Keep.keep hl; have H3 := Keep.keep h3; have HN := Keep.keep hn; have HROW := Keep.keep hR
  have c0 := h0.cell (i := 0) rfl
  have r0 := hR.cell (i := 0) rfl
  have r1 := hR.cell (i := 1) rfl
  have f0 := hR.frozen 0
  have f1 := hR.frozen 1
  have hcm := compl32 0 (by decide)
  have hcm : bits .xor .u32 4294967295 0 = 4294967295 := hcm
  have HWH : Keep (∀ (r : Nat), r < 4294967296 → Calls Tryz.prog 157 #[.int .u32 (r : Int)] w fun e w' => e = .returned (.int .u32 (wholeN r : Int)) ∧ w' = w) := ⟨fun r hr => whole_any r hr w hT⟩
  have hn9 : (n : Int) ≤ 1000000000 := by rw [hn]; omega
  clear hr hl h3 hn hR hT h0
  subst hv
  go_enter Tryz.func130, Tryz.ntmps130
  go_wp2_with fail
  go_loopg [4, 18] 1 (fun g u4 u18 wx => (g = 1 ∧ u18 = .int .i64 0 ∧ u4 = .int .u32 4294967295 ∧ w = wx) ∨ (g = 0 ∧ u18 = .int .i64 1 ∧ ∃ r : Nat, u4 = .int .u32 (r : Int) ∧ Keep (r = regN 4294967295 l) ∧ Keep (Row wx R 182 #[.int .u32 0, .int .i64 (n : Int)]) ∧ Keep (Chg (fun j => j = R) w.heap.size w wx)))
  case atStart => exact .inl ⟨rfl, rfl, rfl, rfl⟩
  case round =>
    rcases hrel with ⟨rfl, rfl, rfl, rfl⟩ | ⟨rfl, rfl, r, rfl, HRG, HRW, HCH⟩
    · go_wp2_with fail
      go_loopg [4, 24] n (fun g u4 u24 wx => w = wx ∧ ∃ k r : Nat, k + g = n ∧ u24 = .int .i64 (k : Int) ∧ u4 = .int .u32 (r : Int) ∧ Keep (r < 4294967296 ∧ r = regN 4294967295 (l.take k)))
      case atStart => exact ⟨rfl, 0, 4294967295, by omega, rfl, rfl, ⟨by decide, rfl⟩⟩
      case round =>
        obtain ⟨rfl, k, r, hkg, rfl, rfl, HK⟩ := hrel
        cases gk with
        | zero =>
          obtain rfl : n = k := by omega
          have HRG : Keep (r = regN 4294967295 l) := ⟨by rw [HK.out.2, HN.out, List.take_length]⟩
          have hcs : ∀ v, Chg (fun j => j = R) w.heap.size w (w.setCell ⟨R, 1, none⟩ v) := fun v => (Chg.refl (fun j => j = R) w.heap.size w).setCell (p := ⟨R, 1, none⟩) (.inr rfl) v
          have HCS := Keep.keep hcs
          clear hcs
          go_wp2_with fail
          go_roundg 0
          case measure => omega
          case rel => exact .inr ⟨rfl, rfl, r, rfl, HRG, ⟨HROW.out.set' 1 _ (by simp)⟩, ⟨HCS.out _⟩⟩
        | succ g =>
          have hk : k < l.length := by have := HN.out; omega
          rcases H3.out with h3 | ⟨b, off, rfl⟩
          · omega
          have hcell := HR.out.cell b off _ _ rfl k hk
          have hxr := u32_xor_nat r (l[k].toNat) HK.out.1 (Nat.lt_of_lt_of_le l[k].toNat_lt (by decide))
          have hlt : r ^^^ l[k].toNat < 4294967296 := Nat.xor_lt_two_pow (n := 32) HK.out.1 (Nat.lt_of_lt_of_le l[k].toNat_lt (by decide))
          have HW2 := Keep.keep (HWH.out (r ^^^ l[k].toNat) hlt)
          have HST : Keep (wholeN (r ^^^ l[k].toNat) < 4294967296 ∧ wholeN (r ^^^ l[k].toNat) = regN 4294967295 (l.take (k + 1))) := ⟨whole_lt hlt, by
            have e : l.take (k + 1) = l.take k ++ [l[k]] := by rw [List.take_add_one, List.getElem?_eq_getElem hk]; rfl
            rw [e]
            unfold regN
            rw [List.foldl_append]
            have h2 := HK.out.2
            unfold regN at h2
            rw [← h2]
            rfl⟩
          have hc8 : (l[k].toNat : Int) < 256 := by have := l[k].toNat_lt; omega
          generalize l[k].toNat = c at *
          generalize wholeN (r ^^^ c) = r2 at *
          generalize r ^^^ c = rx at *
          clear hlt
          go_wp2_with fail
          refine HW2.out.mono ?_
          rintro e w2 ⟨rfl, rfl⟩
          go_wp2_with fail
          go_roundg g
          case measure => omega
          case rel => exact ⟨rfl, k + 1, r2, by omega, by simp, rfl, HST⟩
    · have hreg : r < 4294967296 := by rw [HRG.out]; exact reg_lt l (by decide)
      have hcm2 : bits .xor .u32 IntKind.u32.max (r : Int) = ((4294967295 - r : Nat) : Int) := compl32 r hreg
      have HCR : Keep ((4294967295 - r : Nat) = crcN l) := ⟨by rw [HRG.out]; rfl⟩
      have q0 := HRW.out.cell (i := 0) rfl
      have g0 := HRW.out.frozen 0
      have hcs : ∀ v, Chg (fun j => j = R) wr.heap.size wr (wr.setCell ⟨R, 0, none⟩ v) := fun v => (Chg.refl (fun j => j = R) wr.heap.size wr).setCell (p := ⟨R, 0, none⟩) (.inr rfl) v
      have HCS := Keep.keep hcs
      generalize 4294967295 - r = cr at *
      clear hcs
      go_wp2_with fail
      refine bodyPost_end (results_none rfl _ _ _) rfl ?_
      refine ⟨rfl, HRW.out.set' 0 _ (by rw [← HCR.out, ← HN.out]; rfl), HCH.out.trans ((HCS.out _).lower HCH.out.size)⟩
end Go.Proofs.YtmkofejijkabnaaGreatDoor
/- SORTED LISTS OF KEYS AND VALUES: the plain picture of a map that is keyed by texts. -/
namespace Go.Proofs.YtmkofejijkabnaaGreatDoor
abbrev Tx := List UInt8
theorem tx_irrefl (a : Tx) : ¬ a < a := List.lt_irrefl a
theorem tx_trans {a b c : Tx} (h : a < b) (k : b < c) : a < c := List.lt_trans h k
theorem tx_asymm {a b : Tx} (h : a < b) : ¬ b < a := fun k => tx_irrefl a (tx_trans h k)
theorem tx_tri (a b : Tx) : a < b ∨ a = b ∨ b < a := by
  by_cases h : a < b
  · exact .inl h
  · by_cases k : b < a
    · exact .inr (.inr k)
    · exact .inr (.inl (List.le_antisymm (List.not_lt.1 k) (List.not_lt.1 h)))
theorem less_lt : ∀ a b : Tx, Op.bytesLess a b = decide (a < b)
  | [], [] => by simp [Op.bytesLess]
  | [], _ :: _ => by simp [Op.bytesLess]
  | _ :: _, [] => by simp [Op.bytesLess]
  | x :: a, y :: b => by
    unfold Op.bytesLess
    rw [less_lt a b, Bool.eq_iff_iff]
    simp [List.cons_lt_cons_iff]
namespace SM
section
variable {α : Type}
/-- the keys rise -/
def Srt (L : List (Tx × α)) : Prop := L.Pairwise (fun a b => a.1 < b.1)
/-- what stands at a key -/
def look (L : List (Tx × α)) (p : Tx) : Option α := (L.find? (fun x => x.1 == p)).map (·.2)
def lo (L : List (Tx × α)) (p : Tx) : List (Tx × α) := L.filter (fun x => decide (x.1 < p))
def hi (L : List (Tx × α)) (p : Tx) : List (Tx × α) := L.filter (fun x => decide (p < x.1))
def put (L : List (Tx × α)) (m : Tx × α) : List (Tx × α) := lo L m.1 ++ m :: hi L m.1
theorem Srt.nil : Srt ([] : List (Tx × α)) := List.Pairwise.nil
theorem Srt.filter {L : List (Tx × α)} (h : Srt L) (f : Tx × α → Bool) : Srt (L.filter f) := List.Pairwise.filter f h
theorem Srt.put {L : List (Tx × α)} (h : Srt L) (m : Tx × α) : Srt (put L m) := by
  unfold SM.put Srt
  rw [List.pairwise_append]
  refine ⟨h.filter _, List.pairwise_cons.2 ⟨fun x hx => ?_, h.filter _⟩, fun a ha b hb => ?_⟩
  · simpa using (List.mem_filter.1 hx).2
  · have h1 : a.1 < m.1 := by simpa using (List.mem_filter.1 ha).2
    rcases List.mem_cons.1 hb with rfl | hb
    · exact h1
    · exact tx_trans h1 (by simpa using (List.mem_filter.1 hb).2)
/-- a sorted list has a key once -/
theorem Srt.one {L : List (Tx × α)} (h : Srt L) {p : Tx} {u v : α} (hu : (p, u) ∈ L) (hv : (p, v) ∈ L) : u = v := by
  induction L with
  | nil => cases hu
  | cons x r ih =>
    obtain ⟨h1, h2⟩ := List.pairwise_cons.1 h
    rcases List.mem_cons.1 hu with e | hu
    · rcases List.mem_cons.1 hv with e' | hv
      · rw [← e] at e'; injection e' with _ e'; exact e'.symm
      · have := h1 _ hv; rw [← e] at this; exact (tx_irrefl _ this).elim
    · rcases List.mem_cons.1 hv with e' | hv
      · have := h1 _ hu; rw [← e'] at this; exact (tx_irrefl _ this).elim
      · exact ih h2 hu hv
theorem look_mem {L : List (Tx × α)} {p : Tx} {v : α} (h : look L p = some v) : (p, v) ∈ L := by
  unfold look at h
  cases hf : L.find? (fun x => x.1 == p) with
  | none => rw [hf] at h; cases h
  | some x =>
    rw [hf] at h
    have e : x.1 = p := by simpa using List.find?_some hf
    have hm := List.mem_of_find?_eq_some hf
    obtain ⟨k, u⟩ := x
    injection h with h
    simp only at e h
    subst e h
    exact hm
theorem Srt.look {L : List (Tx × α)} (h : Srt L) {p : Tx} {v : α} : SM.look L p = some v ↔ (p, v) ∈ L := by
  refine ⟨look_mem, fun hm => ?_⟩
  cases hl : SM.look L p with
  | none =>
    unfold SM.look at hl
    rw [Option.map_eq_none_iff, List.find?_eq_none] at hl
    exact absurd (by simp) (hl _ hm)
  | some u => rw [h.one (look_mem hl) hm]
theorem look_none {L : List (Tx × α)} {p : Tx} : look L p = none ↔ ∀ x ∈ L, x.1 ≠ p := by
  unfold look
  rw [Option.map_eq_none_iff, List.find?_eq_none]
  simp
/-- two sorted lists that tell the same are the same -/
theorem Srt.ext {L K : List (Tx × α)} (h : Srt L) (k : Srt K) (he : ∀ p, SM.look L p = SM.look K p) : L = K := by
  have hm : ∀ x, x ∈ L ↔ x ∈ K := fun ⟨p, v⟩ => by rw [← h.look, ← k.look, he]
  have hp : L.Perm K := by
    refine (List.perm_ext_iff_of_nodup ?_ ?_).2 hm
    · exact List.Pairwise.imp (R := fun a b : Tx × α => a.1 < b.1) (fun {a b} hab (e : a = b) => tx_irrefl a.1 (by rw [← e] at hab; exact hab)) h
    · exact List.Pairwise.imp (R := fun a b : Tx × α => a.1 < b.1) (fun {a b} hab (e : a = b) => tx_irrefl a.1 (by rw [← e] at hab; exact hab)) k
  exact List.Perm.eq_of_pairwise (le := fun (a b : Tx × α) => a.1 < b.1) (fun a b _ _ h1 h2 => (tx_asymm h1 h2).elim) h k hp
theorem mem_put {L : List (Tx × α)} {m x : Tx × α} : x ∈ put L m ↔ x = m ∨ (x ∈ L ∧ x.1 ≠ m.1) := by
  unfold put lo hi
  simp only [List.mem_append, List.mem_cons, List.mem_filter, decide_eq_true_eq]
  constructor
  · rintro (⟨h, k⟩ | h | ⟨h, k⟩)
    · exact .inr ⟨h, fun e => tx_irrefl _ (e ▸ k)⟩
    · exact .inl h
    · exact .inr ⟨h, fun e => tx_irrefl _ (e ▸ k)⟩
  · rintro (h | ⟨h, k⟩)
    · exact .inr (.inl h)
    · rcases tx_tri x.1 m.1 with e | e | e
      · exact .inl ⟨h, e⟩
      · exact (k e).elim
      · exact .inr (.inr ⟨h, e⟩)
theorem Srt.look_put {L : List (Tx × α)} (h : Srt L) (m : Tx × α) (p : Tx) : SM.look (SM.put L m) p = if p = m.1 then some m.2 else SM.look L p := by
  by_cases e : p = m.1
  · subst e
    rw [if_pos rfl, (h.put m).look, mem_put]
    exact .inl rfl
  · rw [if_neg e]
    cases hl : SM.look L p with
    | none =>
      rw [look_none] at hl ⊢
      intro x hx
      rcases mem_put.1 hx with rfl | ⟨hx, _⟩
      · exact fun e' => e e'.symm
      · exact hl x hx
    | some v =>
      rw [(h.put m).look, mem_put]
      exact .inr ⟨h.look.1 hl, e⟩
theorem Srt.look_filter {L : List (Tx × α)} (h : Srt L) (f : Tx → Bool) (p : Tx) : SM.look (L.filter (fun x => f x.1)) p = if f p = true then SM.look L p else none := by
  split
  · rename_i hf
    cases hl : SM.look L p with
    | none =>
      rw [look_none] at hl ⊢
      exact fun x hx => hl x (List.mem_filter.1 hx).1
    | some v =>
      rw [(h.filter _).look, List.mem_filter]
      exact ⟨h.look.1 hl, hf⟩
  · rename_i hf
    rw [look_none]
    intro x hx e
    have := (List.mem_filter.1 hx).2
    rw [e] at this
    exact hf this
/-- in a sorted list the lesser keys stand ahead -/
theorem Srt.split {L : List (Tx × α)} (h : Srt L) (p : Tx) : L = lo L p ++ (L.filter (fun x => x.1 == p) ++ hi L p) := by
  induction L with
  | nil => rfl
  | cons x r ih =>
    obtain ⟨h1, h2⟩ := List.pairwise_cons.1 h
    have ih := ih h2
    rcases tx_tri x.1 p with e | e | e
    · unfold lo hi at *
      rw [List.filter_cons_of_pos (by simpa using e), List.filter_cons_of_neg (by simpa using fun e' : x.1 = p => tx_irrefl _ (e' ▸ e)), List.filter_cons_of_neg (by simpa using tx_asymm e), List.cons_append, ← ih]
    · have hl : lo (x :: r) p = [] := by
        unfold lo
        rw [List.filter_eq_nil_iff]
        intro y hy
        rcases List.mem_cons.1 hy with rfl | hy
        · rw [e]; simp [tx_irrefl p]
        · have := h1 y hy; rw [e] at this; simpa using tx_asymm this
      have hr : ∀ y ∈ r, p < y.1 := fun y hy => e ▸ h1 y hy
      have hf : r.filter (fun x => x.1 == p) = [] := by
        rw [List.filter_eq_nil_iff]
        intro y hy
        simpa using fun e' : y.1 = p => tx_irrefl _ (e' ▸ hr y hy)
      have hh : hi r p = r := by
        unfold hi
        rw [List.filter_eq_self]
        intro y hy
        simpa using hr y hy
      rw [hl, List.nil_append, List.filter_cons_of_pos (by simpa using e), hf]
      unfold hi at hh ⊢
      rw [List.filter_cons_of_neg (by rw [e]; simp [tx_irrefl p]), hh]
      rfl
    · have hr : ∀ y ∈ r, p < y.1 := fun y hy => tx_trans e (h1 y hy)
      have hl : lo (x :: r) p = [] := by
        unfold lo
        rw [List.filter_eq_nil_iff]
        intro y hy
        rcases List.mem_cons.1 hy with rfl | hy
        · simpa using tx_asymm e
        · simpa using tx_asymm (hr y hy)
      have hf : (x :: r).filter (fun x => x.1 == p) = [] := by
        rw [List.filter_eq_nil_iff]
        intro y hy
        rcases List.mem_cons.1 hy with rfl | hy
        · simpa using fun e' : y.1 = p => tx_irrefl _ (e' ▸ e)
        · simpa using fun e' : y.1 = p => tx_irrefl _ (e' ▸ hr y hy)
      have hh : hi (x :: r) p = x :: r := by
        unfold hi
        rw [List.filter_eq_self]
        intro y hy
        rcases List.mem_cons.1 hy with rfl | hy
        · simpa using e
        · simpa using hr y hy
      rw [hl, hf, hh]; rfl
theorem Srt.mid {L : List (Tx × α)} (h : Srt L) (p : Tx) : L.filter (fun x => x.1 == p) = (match SM.look L p with | some v => [(p, v)] | none => []) := by
  cases hl : SM.look L p with
  | none =>
    rw [look_none] at hl
    rw [List.filter_eq_nil_iff]
    intro y hy
    simpa using hl y hy
  | some v =>
    have hs : Srt (L.filter (fun x => x.1 == p)) := h.filter _
    refine hs.ext (List.pairwise_singleton _ _) (fun q => ?_)
    rw [h.look_filter (fun k => k == p)]
    by_cases e : q = p
    · subst e; rw [if_pos (by simp), hl]; unfold SM.look; simp
    · rw [if_neg (by simpa using e), eq_comm, look_none]
      intro x hx
      obtain rfl : x = (p, v) := by simpa using hx
      exact fun e' => e e'.symm
theorem Srt.length_put {L : List (Tx × α)} (h : Srt L) (m : Tx × α) : (SM.put L m).length = if (SM.look L m.1).isSome then L.length else L.length + 1 := by
  have key := congrArg List.length (h.split m.1)
  rw [List.length_append, List.length_append, h.mid] at key
  unfold SM.put
  rw [List.length_append, List.length_cons]
  cases hl : SM.look L m.1 with
  | none => rw [hl] at key; simp only [List.length_nil] at key; simp; omega
  | some v => rw [hl] at key; simp only [List.length_cons, List.length_nil] at key; simp; omega
/-- how many keys are less: the place -/
theorem Srt.takeWhile {L : List (Tx × α)} (h : Srt L) (p : Tx) : L.takeWhile (fun x => decide (x.1 < p)) = lo L p := by
  induction L with
  | nil => rfl
  | cons x r ih =>
    obtain ⟨h1, h2⟩ := List.pairwise_cons.1 h
    unfold lo at *
    by_cases e : x.1 < p
    · rw [List.takeWhile_cons_of_pos (by simpa using e), List.filter_cons_of_pos (by simpa using e), ih h2]
    · rw [List.takeWhile_cons_of_neg (by simpa using e), List.filter_cons_of_neg (by simpa using e)]
      symm
      rw [List.filter_eq_nil_iff]
      intro y hy
      simp only [decide_eq_true_eq]
      exact fun hyp => e (tx_trans (h1 y hy) hyp)
end
end SM
end Go.Proofs.YtmkofejijkabnaaGreatDoor
/- A DISK, plainly: files by their numbers, the settled folder, the deeds behind it; what each call does, and tells. -/
namespace Go.Proofs.YtmkofejijkabnaaGreatDoor
/-- a folder: names, rising, and their files' numbers -/
abbrev Fol := List (Tx × Nat)
structure FileS where
  bytes : List UInt8
  safe : Nat
inductive DeedS
  | create (name : Tx) (f : Nat)
  | rename (a b : Tx)
  | remove (a : Tx)
  | becomes (F : Fol)
def delF (F : Fol) (p : Tx) : Fol := F.filter (fun x => x.1 != p)
def doD (F : Fol) : DeedS → Fol
  | .create n f => SM.put F (n, f)
  | .rename a b => match SM.look F a with | some f => SM.put (delF F a) (b, f) | none => F
  | .remove a => delF F a
  | .becomes G => G
structure DkS where
  files : Nat → FileS
  many : Nat
  settled : Fol
  deeds : List DeedS
  quota : Int
  off : Bool
  fuse : Int
  done : Bool
/-- the settled folder, and so many deeds -/
def DkS.after (d : DkS) (n : Nat) : Fol := (d.deeds.take n).foldl doD d.settled
def DkS.now (d : DkS) : Fol := d.deeds.foldl doD d.settled
def newDk (q : Int) : DkS := ⟨fun _ => ⟨[], 0⟩, 0, [], [], q, false, -1, false⟩
def nameC (c : UInt8) : Bool := (97 ≤ c && c ≤ 122) || (65 ≤ c && c ≤ 90) || (48 ≤ c && c ≤ 57) || c == 45 || c == 46 || c == 95
def nameP (s : Tx) : Bool := !s.isEmpty && decide (s.length ≤ 255) && s.all nameC
def DkS.asks (d : DkS) (names : List Tx) : Int := if d.off then 25 else if names.any (fun s => !nameP s) then 1 else 0
def DkS.find (d : DkS) (name : Tx) : Option Nat × Int := if d.asks [name] ≠ 0 then (none, d.asks [name]) else match SM.look d.now name with | some f => (some f, 0) | none => (none, 6)
/-- a step, unless the power fails -/
def DkS.step (d : DkS) (f : DkS → DkS) : Int × DkS := if d.fuse ≠ 0 then (0, f { d with fuse := max (d.fuse - 1) (-1) }) else (25, if d.done then f { d with off := true } else { d with off := true })
def DkS.deed (d : DkS) (x : DeedS) : Int × DkS := d.step fun d => { d with deeds := d.deeds ++ [x] }
def setF (fs : Nat → FileS) (k : Nat) (f : FileS) : Nat → FileS := fun j => if j = k then f else fs j
def DkS.setFile (d : DkS) (k : Nat) (f : FileS) : DkS := { d with files := setF d.files k f }
def DkS.create (d : DkS) (name : Tx) : Int × DkS :=
  match d.find name with
  | (_, 0) => (9, d)
  | (_, e) => if e ≠ 6 then (e, d) else if 8192 ≤ d.now.length then (7, d) else d.step fun x => { x with deeds := x.deeds ++ [.create name d.many], many := d.many + 1, files := setF x.files d.many ⟨[], 0⟩ }
def DkS.used (d : DkS) : Nat := (d.now.map fun x => (d.files x.2).bytes.length).sum
def DkS.append (d : DkS) (name : Tx) (b : List UInt8) : Int × DkS :=
  match d.find name with
  | (some f, _) => if d.quota - (d.used : Int) < (b.length : Int) then (26, d) else d.step fun x => x.setFile f ⟨(x.files f).bytes ++ b, (x.files f).safe⟩
  | (none, e) => (e, d)
def DkS.sync (d : DkS) (name : Tx) : Int × DkS :=
  match d.find name with
  | (some f, _) => d.step fun x => x.setFile f ⟨(x.files f).bytes, (x.files f).bytes.length⟩
  | (none, e) => (e, d)
def DkS.settle (d : DkS) : Int × DkS := if d.asks [] ≠ 0 then (d.asks [], d) else d.step fun x => { x with settled := x.now, deeds := [] }
def DkS.rename (d : DkS) (a b : Tx) : Int × DkS := if d.asks [a, b] ≠ 0 then (d.asks [a, b], d) else match d.find a with | (some _, _) => d.deed (.rename a b) | (none, e) => (e, d)
def DkS.remove (d : DkS) (a : Tx) : Int × DkS := match d.find a with | (some _, _) => d.deed (.remove a) | (none, e) => (e, d)
def DkS.read (d : DkS) (name : Tx) (i j : Int) : List UInt8 × Int :=
  match d.find name with
  | (some f, _) => if i < 0 ∨ j < i ∨ ((d.files f).bytes.length : Int) < j then ([], 1) else (((d.files f).bytes.take j.toNat).drop i.toNat, 0)
  | (none, e) => ([], e)
def DkS.size (d : DkS) (name : Tx) : Int × Int := match d.find name with | (some f, _) => (((d.files f).bytes.length : Nat), 0) | (none, e) => (0, e)
def DkS.list (d : DkS) : List Tx := if d.off then [] else d.now.map (·.1)
/-- the files that may be there behind a crash, by their numbers -/
def DkS.mayBe (d : DkS) (k : Nat) : Bool := (List.range (d.deeds.length + 1)).any fun i => (d.after i).any fun x => x.2 == k
def DkS.all (d : DkS) : List Nat := (List.range d.many).filter d.mayBe
def DkS.loose (d : DkS) : Nat := (d.all.map fun k => (d.files k).bytes.length - (d.files k).safe).sum
def DkS.setFuse (d : DkS) (n : Int) (done : Bool) : Int × DkS := if d.asks [] ≠ 0 then (d.asks [], d) else (0, { d with fuse := max n (-1), done := done })
def DkS.setQuota (d : DkS) (n : Int) : Int × DkS := if n < 0 ∨ 268435456 < n then (1, d) else (0, { d with quota := n })
def pick (ps : List Int) (many : Nat) : Nat × List Int := match ps with | [] => (0, []) | p :: r => ((p % ((many : Int) + 1)).toNat, r)
/-- what a crash leaves of a file, and the picks that are left -/
def cutFile (fs : Nat → FileS) (ps : List Int) (k : Nat) : (Nat → FileS) × List Int :=
  if (fs k).safe < (fs k).bytes.length then (setF fs k ⟨(fs k).bytes.take ((fs k).safe + (pick ps ((fs k).bytes.length - (fs k).safe)).1), (fs k).safe + (pick ps ((fs k).bytes.length - (fs k).safe)).1⟩, (pick ps ((fs k).bytes.length - (fs k).safe)).2) else (fs, ps)
def cutAll (fs : Nat → FileS) (ps : List Int) (l : List Nat) : (Nat → FileS) × List Int := l.foldl (fun x k => cutFile x.1 x.2 k) (fs, ps)
def DkS.crash (d : DkS) (ps : List Int) : Int × DkS :=
  if ps.any (fun p => decide (p < 0)) then (1, d) else
    (0, { d with files := (cutAll d.files (pick ps d.deeds.length).2 d.all).1, settled := d.after (pick ps d.deeds.length).1, deeds := [], off := false, fuse := -1 })
def DkS.flip (d : DkS) (name : Tx) (i : Int) (bits : UInt8) : Int × DkS :=
  match d.find name with
  | (some f, _) => if 0 < d.deeds.length ∨ 0 < d.loose ∨ i < 0 ∨ ((d.files f).bytes.length : Int) ≤ i then (1, d) else (0, d.setFile f ⟨(d.files f).bytes.set i.toNat (((d.files f).bytes[i.toNat]?).getD 0 ^^^ bits), (d.files f).safe⟩)
  | (none, e) => (e, d)
end Go.Proofs.YtmkofejijkabnaaGreatDoor
/- A JOURNAL OF TAGS, plainly: frames; what is read of a journal's beginning; a byte that is turned. -/
namespace Go.Proofs.YtmkofejijkabnaaGreatDoor
abbrev Dg := List UInt8
abbrev Tgs := List (Tx × Dg)
def tagP (t : Tx) : Bool := nameP t && decide (t.length ≤ 64) && !(t.head? == some 45) && !(t.head? == some 46)
def setBd (t : Tx) (g : Dg) : List UInt8 := 83 :: UInt8.ofNat t.length :: (t ++ g)
def dropBd (t : Tx) : List UInt8 := 68 :: UInt8.ofNat t.length :: t
def byteN (n : Nat) : UInt8 := UInt8.ofNat (n % 256)
/-- what stands ahead of a body -/
def headB (body : List UInt8) : List UInt8 :=
  [byteN body.length, byteN (body.length / 256), ~~~ byteN body.length, ~~~ byteN (body.length / 256), byteN (crcN body), byteN (crcN body / 256), byteN (crcN body / 65536), byteN (crcN body / 16777216)]
def frameB (body : List UInt8) : List UInt8 := headB body ++ body
/-- what a body says; whether it is one -/
def doesB (m : Tgs) (body : List UInt8) : Tgs × Bool :=
  match body with
  | k :: n :: r =>
    if r.length < n.toNat then (m, false) else if tagP (r.take n.toNat) = false then (m, false)
    else if k = 83 ∧ (r.drop n.toNat).length = 32 then (SM.put m (r.take n.toNat, r.drop n.toNat), decide ((SM.put m (r.take n.toNat, r.drop n.toNat)).length ≤ 64))
    else if k = 68 ∧ (r.drop n.toNat).length = 0 then (m.filter (fun x => x.1 != r.take n.toNat), true) else (m, false)
  | _ => (m, false)
def sizeB (b : List UInt8) : Nat := (b.getD 0 0).toNat + (b.getD 1 0).toNat * 256
/-- frame by frame: the tags (none: it is corrupt), whether it is torn -/
def readF : Nat → Tgs → List UInt8 → Option (Tgs × Bool)
  | 0, m, _ => some (m, false)
  | f + 1, m, b =>
    if b = [] then some (m, false) else if b.length < 4 then some (m, true)
    else if b.getD 2 0 ≠ ~~~ b.getD 0 0 ∨ b.getD 3 0 ≠ ~~~ b.getD 1 0 then none
    else if b.length < 8 + sizeB b then some (m, true)
    else if frameB ((b.drop 8).take (sizeB b)) ≠ b.take (8 + sizeB b) ∨ (doesB m ((b.drop 8).take (sizeB b))).2 = false then none
    else readF f (doesB m ((b.drop 8).take (sizeB b))).1 (b.drop (8 + sizeB b))
def magicB : List UInt8 := [80, 84, 65, 71, 83, 0, 0, 1]
/-- a whole journal, or a beginning of it -/
def readB (b : List UInt8) : Option (Tgs × Bool) :=
  if b.length < 8 ∧ b <+: magicB then some ([], true) else if b.take 8 = magicB then readF b.length [] (b.drop 8) else none
theorem headB_len (body : List UInt8) : (headB body).length = 8 := rfl
theorem byte_nat (n : Nat) : (byteN n).toNat = n % 256 := by
  unfold byteN
  rw [UInt8.toNat_ofNat']
  exact Nat.mod_eq_of_lt (Nat.mod_lt _ (by decide))
theorem size_frame {body : List UInt8} (h : body.length < 65536) (r : List UInt8) : sizeB (frameB body ++ r) = body.length := by
  unfold sizeB frameB headB
  show (byteN body.length).toNat + (byteN (body.length / 256)).toNat * 256 = _
  rw [byte_nat, byte_nat]
  omega
theorem read_nil (f : Nat) (m : Tgs) : readF f m [] = some (m, false) := by
  cases f with
  | zero => rfl
  | succ f => unfold readF; rw [if_pos rfl]
/-- a frame that says something is read -/
theorem read_frame {body : List UInt8} (h : body.length < 65536) (f : Nat) (m : Tgs) (r : List UInt8) : readF (f + 1) m (frameB body ++ r) = if (doesB m body).2 = false then none else readF f (doesB m body).1 r := by
  have hl : (frameB body ++ r).length = 8 + body.length + r.length := by unfold frameB; rw [List.length_append, List.length_append, headB_len]
  have hd : ((frameB body ++ r).drop 8).take body.length = body := by
    unfold frameB
    rw [List.append_assoc, List.drop_left' (headB_len body), List.take_left' rfl]
  have ht : (frameB body ++ r).take (8 + body.length) = frameB body := List.take_left' (by unfold frameB; rw [List.length_append, headB_len])
  have hr : (frameB body ++ r).drop (8 + body.length) = r := List.drop_left' (by unfold frameB; rw [List.length_append, headB_len])
  have hne : ¬ (frameB body ++ r) = [] := fun e => by rw [e] at hl; simp at hl; omega
  conv => lhs; unfold readF
  rw [size_frame h, hd, ht, hr, if_neg hne, if_neg (by omega), if_neg (by
    rintro (e | e)
    · exact e rfl
    · exact e rfl), if_neg (by omega)]
  by_cases hb : (doesB m body).2 = false
  · rw [if_pos (.inr hb), if_pos hb]
  · rw [if_neg (fun e => e.elim (fun e => e rfl) hb), if_neg hb]
/-- a frame's beginning is torn -/
theorem read_torn {body : List UInt8} (h : body.length < 65536) (f : Nat) (m : Tgs) {k : Nat} (h0 : 0 < k) (hk : k < 8 + body.length) : readF (f + 1) m ((frameB body).take k) = some (m, true) := by
  have hfl : (frameB body).length = 8 + body.length := by unfold frameB; rw [List.length_append, headB_len]
  have hl : ((frameB body).take k).length = k := by rw [List.length_take, hfl]; omega
  have hne : ¬ (frameB body).take k = [] := fun e => by rw [e] at hl; simp at hl; omega
  unfold readF
  rw [if_neg hne]
  by_cases h4 : k < 4
  · rw [if_pos (by omega)]
  · rw [if_neg (by omega)]
    have hg : ∀ i, i < k → ((frameB body).take k).getD i 0 = (frameB body).getD i 0 := fun i hi => by
      rw [List.getD_eq_getElem?_getD, List.getD_eq_getElem?_getD, List.getElem?_take_of_lt hi]
    have hs : sizeB ((frameB body).take k) = body.length := by
      have := size_frame h ([] : List UInt8)
      rw [List.append_nil] at this
      unfold sizeB at this ⊢
      rw [hg 0 (by omega), hg 1 (by omega)]
      exact this
    rw [hg 0 (by omega), hg 1 (by omega), hg 2 (by omega), hg 3 (by omega), if_neg (by
      rintro (e | e)
      · exact e rfl
      · exact e rfl), hs, if_pos (by omega)]
/-- what bodies say, one behind the other -/
def runB (m : Tgs) (l : List (List UInt8)) : Tgs := l.foldl (fun m b => (doesB m b).1) m
/-- bodies each of which says something -/
def AllB : Tgs → List (List UInt8) → Prop
  | _, [] => True
  | m, b :: l => b.length < 65536 ∧ (doesB m b).2 = true ∧ AllB (doesB m b).1 l
def jrn (l : List (List UInt8)) : List UInt8 := (l.map frameB).flatten
theorem jrn_cons (b : List UInt8) (l : List (List UInt8)) : jrn (b :: l) = frameB b ++ jrn l := rfl
theorem frame_len (b : List UInt8) : (frameB b).length = 8 + b.length := by unfold frameB; rw [List.length_append, headB_len]
theorem read_all : ∀ (l : List (List UInt8)) (m : Tgs) (f : Nat), AllB m l → l.length ≤ f → readF f m (jrn l) = some (runB m l, false)
  | [], m, 0, _, _ => rfl
  | [], m, f + 1, _, _ => read_nil _ m
  | b :: l, m, 0, _, h => by simp at h
  | b :: l, m, f + 1, ha, h => by
    obtain ⟨h1, h2, h3⟩ := ha
    rw [jrn_cons, read_frame h1, if_neg (by rw [h2]; decide)]
    exact read_all l _ f h3 (by simpa using h)
/-- where frames end, so many of them -/
def endB (l : List (List UInt8)) (i : Nat) : Nat := (jrn (l.take i)).length
/-- A JOURNAL'S BEGINNING: what its whole frames say; torn just if it ends within one -/
theorem read_cut : ∀ (l : List (List UInt8)) (m : Tgs) (f : Nat) (k : Nat), AllB m l → l.length ≤ f → k ≤ (jrn l).length →
    ∃ i, i ≤ l.length ∧ endB l i ≤ k ∧ (∀ j, j ≤ l.length → endB l j ≤ k → endB l j ≤ endB l i) ∧ readF f m ((jrn l).take k) = some (runB m (l.take i), decide (endB l i ≠ k))
  | [], m, f, k, _, _, hk => by
    have : k = 0 := by simpa [jrn] using hk
    subst this
    refine ⟨0, Nat.le_refl _, Nat.le_refl _, fun j hj _ => by have : j = 0 := by simpa using hj
                                                              subst this; exact Nat.le_refl _, ?_⟩
    exact read_nil f m
  | b :: l, m, 0, _, _, h, _ => by simp at h
  | b :: l, m, f + 1, k, ha, h, hk => by
    obtain ⟨h1, h2, h3⟩ := ha
    have e0 : endB (b :: l) 0 = 0 := rfl
    have es : ∀ i, endB (b :: l) (i + 1) = 8 + b.length + endB l i := fun i => by
      unfold endB
      rw [List.take_succ_cons, jrn_cons, List.length_append, frame_len]
    by_cases hlt : k < 8 + b.length
    · refine ⟨0, Nat.zero_le _, Nat.zero_le _, fun j hj hjk => ?_, ?_⟩
      · cases j with
        | zero => exact Nat.le_refl _
        | succ j => rw [es] at hjk; omega
      · rw [jrn_cons, List.take_append_of_le_length (by rw [frame_len]; omega), e0]
        by_cases hz : k = 0
        · subst hz
          rw [List.take_zero, read_nil]
          rfl
        · rw [read_torn h1 f m (by omega) hlt]
          have : decide (0 ≠ k) = true := decide_eq_true (fun e => hz e.symm)
          rw [this]
          rfl
    · have hk2 : k - (8 + b.length) ≤ (jrn l).length := by rw [jrn_cons, List.length_append, frame_len] at hk; omega
      obtain ⟨i, g1, g2, g3, g4⟩ := read_cut l (doesB m b).1 f (k - (8 + b.length)) h3 (by simpa using h) hk2
      refine ⟨i + 1, Nat.succ_le_succ g1, by rw [es]; omega, fun j hj hjk => ?_, ?_⟩
      · cases j with
        | zero => rw [e0]; exact Nat.zero_le _
        | succ j =>
          rw [es] at hjk ⊢
          rw [es]
          have := g3 j (Nat.le_of_succ_le_succ hj) (by omega)
          omega
      · have ht : (jrn (b :: l)).take k = frameB b ++ (jrn l).take (k - (8 + b.length)) := by
          rw [jrn_cons, List.take_append, frame_len, List.take_of_length_le (by rw [frame_len]; omega)]
        rw [ht, read_frame h1, if_neg (by rw [h2]; decide), g4, List.take_succ_cons]
        have hd : decide (endB l i ≠ k - (8 + b.length)) = decide (endB (b :: l) (i + 1) ≠ k) := by
          rw [es, Bool.eq_iff_iff, decide_eq_true_iff, decide_eq_true_iff]
          omega
        rw [hd]
        rfl
end Go.Proofs.YtmkofejijkabnaaGreatDoor
