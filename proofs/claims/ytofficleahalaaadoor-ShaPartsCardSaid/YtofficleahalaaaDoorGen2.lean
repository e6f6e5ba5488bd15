/- SINGLE OPERATIONS RUN, for regions that draw their order (wp_region_inv): moves, a slice of one element, appends. -/
import Derived.Test.YtofficleahalaaaDoorGen
import Derived.Lib.AppendStr
namespace Go.Proofs.YtofficleahalaaaDoor
open Go.RowKit
/-- no block, nothing said -/
def noA : As := ⟨fun _ => False, fun _ => True, fun _ _ _ _ => trivial⟩
section
variable {P : Program} {ops : Array Oper} {Q : Exit → Act → World → Prop}
theorem inv_op {i : Nat} {o : Oper} {a : Act} {w w' : World} {v : Value} {K : Act → World → Prop} (hi : ops[i]? = some o) (hg : o.guard = none) (hr : (execOp a.eval o).run P w = .ok (.value v) w') (hK : K (a.put o.dst v) w') : wpOp P ops Q i K a w := by
  unfold wpOp
  rw [hi]
  simp only
  have : Region.wanted o (yielded ops a.tmps) = true := by simp [Region.wanted, hg]
  rw [if_pos this]
  refine .inl ?_
  unfold Oper.wp
  rw [hr]
  exact hK
theorem ready_at {i : Nat} {o : Oper} {done : Array Bool} (hi : i ∈ Region.ready .any ops done) (ho : ops[i]? = some o) :
    done.getD i true = false ∧ ∀ e ∈ o.after, Region.binds .any e = true → done.getD e.on false = true := by
  obtain ⟨h1, o', ho', h2⟩ := mem_ready.1 hi
  obtain rfl := Option.some.inj (ho.symm.trans ho')
  exact ⟨h1, h2⟩
theorem ready_lt {i : Nat} {done : Array Bool} (hi : i ∈ Region.ready .any ops done) : i < ops.size := by
  obtain ⟨_, o, ho, _⟩ := mem_ready.1 hi
  exact (Array.getElem?_eq_some_iff.1 ho).1
theorem ready_not {i : Nat} {done : Array Bool} (hr : Region.ready .any ops done = []) : i ∉ Region.ready .any ops done := by rw [hr]; simp
theorem run_move {ρ : Operand → Value} {d : Option Tmp} {x : Operand} {t : TypeId} {pos : String} {af : Array Edge} {g : Option (Nat × Bool)} {w : World} :
    (execOp ρ (⟨d, .move x, t, pos, af, g⟩ : Oper)).run P w = .ok (.value (ρ x)) w := by simp [execOp]
theorem run_assign {ρ : Operand → Value} {d : Option Tmp} {x : Operand} {t : TypeId} {pos : String} {af : Array Edge} {g : Option (Nat × Bool)} {w : World} :
    (execOp ρ (⟨d, .assign x, t, pos, af, g⟩ : Oper)).run P w = .ok (.value (ρ x)) w := by simp [execOp]
/-- a slice of one element -/
theorem run_build1 {ρ : Operand → Value} {d : Option Tmp} {x : Operand} {st e t : TypeId} {z : Value} {k bytes : Nat} {pos : String} {af : Array Edge} {g : Option (Nat × Bool)} {w : World}
    (hT : SlK P st e z k bytes) (hk : k ≤ 1000) (hx : (ρ x).cells.size = k) :
    (execOp ρ (⟨d, .buildSlice st 1 #[(0, x)], t, pos, af, g⟩ : Oper)).run P w = .ok (.value (.slice (some ⟨w.heap.size, 0, none⟩) 1 1)) (w.alloc (.cells (ρ x).cells e)) := by
  obtain ⟨i, hi, hz, hsize, hby⟩ := hT.i
  have hk0 := hT.k
  have hfill : Instr.fill (fun i => some (i * k, k)) ((Array.range k).map (z.cells[· % z.cells.size]!)) [(0, ρ x)] = some (ρ x).cells := by
    unfold Instr.fill
    simp only [Nat.zero_mul, Nat.zero_add, Array.size_map, Array.size_range, hx]
    rw [if_neg (by simp)]
    unfold Instr.fill
    congr 1
    generalize hc : (ρ x).cells = c at *
    apply Array.ext'
    have key : ∀ (l : List Value) (n : Nat) (acc : List Value), acc.length = n + l.length → (l.zipIdx n).foldl (fun (cs : Array Value) (p : Value × Nat) => cs.setIfInBounds p.2 p.1) acc.toArray = (acc.take n ++ l).toArray := by
      intro l
      induction l with
      | nil => intro n acc h; simp at h; simp [← h]
      | cons y l ih =>
        intro n acc h
        simp only [List.length_cons] at h
        rw [List.zipIdx_cons, List.foldl_cons]
        rw [List.setIfInBounds_toArray, ih (n + 1) _ (by simp; omega)]
        congr 1
        rw [List.take_set, List.take_add_one, List.getElem?_eq_getElem (by omega)]
        simp only [Option.toList_some]
        rw [List.set_append_right _ _ (by simp; omega)]
        simp [List.length_take, Nat.min_eq_left (show n ≤ acc.length by omega)]
    have h2 := key c.toList 0 ((Array.range k).map (z.cells[· % z.cells.size]!)).toList (by simp [hx])
    rw [← Array.foldl_toList, Array.toList_zipIdx]
    have e2 : ((Array.range k).map (z.cells[· % z.cells.size]!)) = (((Array.range k).map (z.cells[· % z.cells.size]!)).toList).toArray := Array.toArray_toList.symm
    rw [e2, h2]
    simp
  have hk' : ¬ (16777216 < k) := by omega
  have hk1 : ¬ (k = 0) := by omega
  simp [execOp, Instr.buildSlice, run_underlying hT.u, sizeOf, typeInfo, hi, hsize, zeroValue, hz, hk', hk1, hfill, newRow]
/-- append(v, x...), v the call's own -/
theorem run_appV {ρ : Operand → Value} {w : World} {t e tp : TypeId} {d : Option Tmp} {s x : Operand} {pos : String} {af : Array Edge} {g : Option (Nat × Bool)} {base k n m bytes : Nat} {z v xv : Value} {vs us : List Value} {N : Nat → Prop}
    (hT : SlK P t e z k bytes) (hown : w.ownsRow base e k v n vs) (hrd : RdV w N k xv m us) (h1 : ∀ u ∈ us, u.oneCell' = true) (hbd : n + m ≤ maxLen) (hbd2 : (n + m) * bytes ≤ 140737488355328) (hbase : base ≤ w.heap.size)
    (hs : ρ s = v) (hx : ρ x = xv) :
    ∃ v' w', (execOp ρ (⟨d, .call ⟨.builtin .append, #[s, x], #[t, t]⟩, tp, pos, af, g⟩ : Oper)).run P w = .ok (.value v') w' ∧ w'.ownsRow base e k v' (n + m) (vs ++ us) ∧ w.grownBy w' v.ownBlock ∧ (v'.ownBlock = v.ownBlock ∨ v'.ownBlock = some w.heap.size) := by
  obtain ⟨i, hi, hz, hsize, hby⟩ := hT.i
  have key : ∃ v' w', (Builtin.append_ #[t, t] tp #[v, xv]).run P w = .ok v' w' ∧ w'.ownsRow base e k v' (n + m) (vs ++ us) ∧ w.grownBy w' v.ownBlock ∧ (v'.ownBlock = v.ownBlock ∨ v'.ownBlock = some w.heap.size) := by
    have hlen := hrd.len
    obtain ⟨_, ⟨ad, cap, rfl, h1', h2, h3⟩, hc⟩ := hrd
    rcases h3 with h3 | ⟨b, off, rfl, _⟩
    · have hm : m = 0 := by omega
      subst hm
      obtain rfl : us = [] := List.eq_nil_of_length_eq_zero (by omega)
      refine ⟨v, w, ?_, by simpa using hown, ⟨rfl, rfl, rfl, Nat.le_refl _, fun _ _ _ => rfl⟩, .inl rfl⟩
      rcases hown.2 with ⟨rfl, h0⟩ | ⟨g, cap', cur, rfl, _, _, hnc, _⟩
      · cases ad <;> simp [Builtin.append_, run_underlying hT.u, sizeOf, typeInfo, hi, Builtin.lenOf, Builtin.firstCells, loadCells, loadCellsFrom]
      · cases ad <;> simp [Builtin.append_, run_underlying hT.u, sizeOf, typeInfo, hi, Builtin.lenOf, Builtin.firstCells, loadCells, loadCellsFrom, hnc, storeCells]
    · have hcells : ∀ j u, us[j]? = some u → w.cell? ((⟨b, off, none⟩ : Addr).add j) = some u := by
        intro j u hu
        rw [Addr.add_mid]
        exact hc b off _ _ rfl j u hu
      obtain ⟨v', w', hrun, ho, hg, hn, hb⟩ := run_append_own_at (P := P) w base t tp e i z k bytes hT.u hi hz hsize hby hT.z hT.k v n vs hown ⟨b, off, none⟩ m cap us hlen hcells h1 hbd hbd2 hbase
      exact ⟨v', w', hrun, ho, hg, hb⟩
  obtain ⟨v', w', hrun, h1, h2, h3⟩ := key
  refine ⟨v', w', ?_, h1, h2, h3⟩
  unfold execOp
  simp only [resolve, invoke, builtin, Sem.run_bind, Sem.run_pure, Result.andThen_ok, List.map_toArray, List.map_cons, List.map_nil, hs, hx, hrun]
theorem slTy_slK {t e : TypeId} (h : SlTy P t e (.int .u8 0) 1) : SlK P t e (.int .u8 0) 1 1 := ⟨h.u, h.i, rfl, by decide⟩
theorem run_appB {ρ : Operand → Value} {w : World} {t e tp : TypeId} {d : Option Tmp} {s x : Operand} {pos : String} {af : Array Edge} {g : Option (Nat × Bool)} {base : Nat} {v xv : Value} {l m : List UInt8} {N : Nat → Prop}
    (hT : SlTy P t e (.int .u8 0) 1) (hown : Owns w base e v l) (hrd : Reads w N xv m) (hbd : l.length + m.length ≤ 140737488355328) (hbase : base ≤ w.heap.size)
    (hs : ρ s = v) (hx : ρ x = xv) :
    ∃ v' w', (execOp ρ (⟨d, .call ⟨.builtin .append, #[s, x], #[t, t]⟩, tp, pos, af, g⟩ : Oper)).run P w = .ok (.value v') w' ∧ Owns w' base e v' (l ++ m) ∧ w.grownBy w' v.ownBlock ∧ (v'.ownBlock = v.ownBlock ∨ v'.ownBlock = some w.heap.size) := by
  obtain ⟨v', w', h1, h2, h3, h4⟩ := run_appV (d := d) (tp := tp) (pos := pos) (af := af) (g := g) (slTy_slK hT) hown (RdV.bytes hrd) (bcells_one m) (by unfold maxLen; omega) (by omega) hbase hs hx
  exact ⟨v', w', h1, by unfold Owns; rw [List.length_append, bcells_append]; exact h2, h3, h4⟩
/-- append(v, s...), v the call's own, s a string -/
theorem run_appS {ρ : Operand → Value} {w : World} {t u e tp : TypeId} {d : Option Tmp} {s x : Operand} {pos : String} {af : Array Edge} {g : Option (Nat × Bool)} {base : Nat} {v : Value} {l m : List UInt8}
    (hT : SlTy P t e (.int .u8 0) 1) (hu : P.underlying u = some .string) (hown : Owns w base e v l) (hbd : l.length + m.length ≤ 140737488355328) (hbase : base ≤ w.heap.size)
    (hs : ρ s = v) (hx : ρ x = .string ⟨m.toArray⟩) :
    ∃ v' w', (execOp ρ (⟨d, .call ⟨.builtin .append, #[s, x], #[t, u]⟩, tp, pos, af, g⟩ : Oper)).run P w = .ok (.value v') w' ∧ Owns w' base e v' (l ++ m) ∧ w.grownBy w' v.ownBlock ∧ (v'.ownBlock = v.ownBlock ∨ v'.ownBlock = some w.heap.size) := by
  obtain ⟨i, hi, hz, hsize, hby⟩ := hT.i
  have hsz : (⟨m.toArray⟩ : ByteArray).size = m.length := rfl
  obtain ⟨v', w', hr, h2, h3, h4⟩ := Lib.run_append_own_string (P := P) w base t u tp e i hT.u hu hi hz hsize hby v l.length (bcells l) hown ⟨m.toArray⟩ (by unfold maxLen; rw [hsz]; omega) (by rw [hsz]; omega) hbase
  rw [hsz] at h2 h4
  have hb : v'.ownBlock = v.ownBlock ∨ v'.ownBlock = some w.heap.size := by
    have hown' : w.ownsRow base e 1 v l.length (bcells l) := hown
    rcases hown'.2 with ⟨rfl, h0⟩ | ⟨g', cap, cur, rfl, hbg, hg, hnc, hcm, hcs, htake⟩
    · by_cases hm : m.length = 0
      · exact .inl (by rw [h4.2 ⟨rfl, hm⟩])
      · have hr2 := run_append_nil_string (P := P) w t u tp e i (.int .u8 0) hT.u hu hi hz ⟨m.toArray⟩ (by rw [hsz]; omega) (by rw [hsz]; omega) (by rw [hby, hsz]; omega)
        rw [hr] at hr2
        injection hr2 with hv _
        exact .inr (by rw [hv]; rfl)
    · by_cases hroom : l.length + m.length ≤ cap
      · have hcs' : cur.size = cap := by simpa using hcs
        have hr2 := Lib.run_append_room_string (P := P) w t u tp e i hT.u hu hi hsize g' l.length cap cur hg ⟨m.toArray⟩ (by rw [hsz]; exact hroom) (by rw [hsz]; omega)
        rw [hr] at hr2
        injection hr2 with hv _
        exact .inl (by rw [hv]; rfl)
      · have holds : ∀ j u, (bcells l)[j]? = some u → w.cell? ((⟨g', 0, none⟩ : Addr).add j) = some u := hown'.cells (g := g') rfl
        have hr2 := Lib.run_append_grow_string (P := P) w t u tp e i (.int .u8 0) hT.u hu hi hz ⟨g', 0, none⟩ l.length cap (bcells l) (by rw [hsize]; simp [bcells_length]) holds ⟨m.toArray⟩ (by rw [hsz]; omega) (by rw [hsz]; omega) (by rw [hby, hsz]; exact growslice_fits (by omega) (by omega))
        rw [hr] at hr2
        injection hr2 with hv _
        exact .inr (by rw [hv]; rfl)
  refine ⟨v', w', ?_, by unfold Owns; rw [List.length_append, bcells_append]; exact h2, h3, hb⟩
  unfold execOp
  simp only [resolve, invoke, builtin, Sem.run_bind, Sem.run_pure, Result.andThen_ok, List.map_toArray, List.map_cons, List.map_nil, hs, hx, hr]
end
/-- ARM: append(v, s...), s a string -/
theorem arm_appendS {P : Program} {ops : Array Oper} {rest : List Oper} {a : Act} {w : World} {Q : Exit → Act → World → Prop} {t u e tp : TypeId} {dst : Option Tmp} {s x : Operand} {pos : String} {after : Array Edge} {base : Nat} {v : Value} {l m : List UInt8}
    (hT : SlTy P t e (.int .u8 0) 1) (hu : P.underlying u = some .string) (hown : Owns w base e v l) (hbd : l.length + m.length ≤ 140737488355328) (hbase : base ≤ w.heap.size)
    (hs : a.eval s = v) (hx : a.eval x = .string ⟨m.toArray⟩)
    (h : ∀ v' w', Owns w' base e v' (l ++ m) → w.grownBy w' v.ownBlock → (v'.ownBlock = v.ownBlock ∨ v'.ownBlock = some w.heap.size) → wpList P ops Q rest (a.put dst v') w') :
    wpList P ops Q (⟨dst, .call ⟨.builtin .append, #[s, x], #[t, u]⟩, tp, pos, after, none⟩ :: rest) a w := by
  obtain ⟨v', w', hrun, h1, h2, h3⟩ := run_appS (ρ := a.eval) (d := dst) (tp := tp) (pos := pos) (af := after) (g := none) hT hu hown hbd hbase hs hx
  refine wpList_plain rfl fun _ hK => ?_
  unfold Oper.wp
  rw [hrun]
  exact hK _ _ (h v' w' h1 h2 h3)
theorem results_row3 {P : Program} {fn : Func} {p q r : Tmp} {ty : TypeId} {n : Nat} {w : World} {b : Nat} {e : TypeId} {c : Array Value} {tmps : Array Value} {v u : Value} (h : fn.results = #[.cell p ty, .tmp q, .tmp r]) (hrow : Row w b e c) (hA : AggTy P ty n) (hs : c.size = n)
    (hp : tmps.getD p undef = .pointer (some ⟨b, 0, none⟩)) (hq : tmps.getD q undef = v) (hr : tmps.getD r undef = u) : (results fn tmps).run P w = .ok (.tuple #[.agg c, v, u]) w := by
  obtain ⟨d, hu, hd⟩ := hA.u
  have hp' : tmps[p]?.getD undef = .pointer (some ⟨b, 0, none⟩) := by simpa using hp
  have hq' : tmps[q]?.getD undef = v := by simpa using hq
  have hr' : tmps[r]?.getD undef = u := by simpa using hr
  have hrow' : w.heap[b]? = some (.cells c e (0, 0)) := hrow
  simp [results, h, hp', hq', hr', asAddr, run_loadVar_row w b e ty c (0, 0) d hrow' hu (by cases d <;> simp_all [TypeDesc.isRow]) (by rw [hs]; exact hA.i)]
/-- a slice's block -/
def blkOf : Value → Nat
  | .slice (some a) _ _ => a.block
  | _ => 0
theorem Hp.pushNo {M : Nat → Prop} {w wr : World} {ls : List As} (h : Hp M w wr ls) : Hp M w wr (ls ++ [noA]) :=
  h.push noA (.refl _ _ _) trivial (fun _ hb => hb.elim)
/-- slot d of the frame -/
def slot (a : Act) (d : Nat) : Value := a.tmps.getD d undef
theorem eval_slot (a : Act) (d : Nat) : a.eval (.tmp d) = slot a d := rfl
theorem slot_put_same (a : Act) (d : Nat) (v : Value) (h : d < a.tmps.size) : slot (a.put (some d) v) d = v := by
  simp [slot, Act.put, Array.getD_eq_getD_getElem?, h]
theorem slot_put_ne (a : Act) (d j : Nat) (v : Value) (h : d ≠ j) : slot (a.put (some d) v) j = slot a j := by
  simp [slot, Act.put, Array.getD_eq_getD_getElem?, Array.getElem?_setIfInBounds_ne h]
/-- a is a0 but for the slots ds -/
structure Fr (a0 : Act) (ds : List Nat) (a : Act) : Prop where
  size : a.tmps.size = a0.tmps.size
  defers : a.defers = a0.defers
  same : ∀ j, j ∉ ds → slot a j = slot a0 j
theorem Fr.refl (a0 : Act) (ds : List Nat) : Fr a0 ds a0 := ⟨rfl, rfl, fun _ _ => rfl⟩
theorem Fr.put {a0 a : Act} {ds : List Nat} (h : Fr a0 ds a) (d : Nat) (hd : d ∈ ds) (v : Value) : Fr a0 ds (a.put (some d) v) :=
  ⟨by simpa [Act.put] using h.size, h.defers, fun j hj => by rw [slot_put_ne _ _ _ _ (fun (e : d = j) => hj (e ▸ hd))]; exact h.same j hj⟩
theorem Fr.eq {a0 a : Act} {ds : List Nat} (h : Fr a0 ds a) : a = ds.foldl (fun b d => b.put (some d) (slot a d)) a0 := by
  have key : ∀ (l : List Nat) (b : Act), b.tmps.size = a.tmps.size → (l.foldl (fun b d => b.put (some d) (slot a d)) b).tmps.size = a.tmps.size ∧ (l.foldl (fun b d => b.put (some d) (slot a d)) b).defers = b.defers ∧
      ∀ j, j < a.tmps.size → slot (l.foldl (fun b d => b.put (some d) (slot a d)) b) j = if j ∈ l then slot a j else slot b j := by
    intro l
    induction l with
    | nil => intro b hb; exact ⟨hb, rfl, fun j _ => by simp⟩
    | cons d l ih =>
      intro b hb
      have := ih (b.put (some d) (slot a d)) (by simpa [Act.put] using hb)
      refine ⟨this.1, this.2.1, fun j hj => ?_⟩
      rw [List.foldl_cons, this.2.2 j hj]
      by_cases e : j = d
      · subst e
        rw [slot_put_same _ _ _ (by omega)]
        simp
      · rw [slot_put_ne _ _ _ _ (Ne.symm e)]
        simp [e]
  have k := key ds a0 h.size.symm
  obtain ⟨k1, k2, k3⟩ := k
  generalize hr : ds.foldl (fun b d => b.put (some d) (slot a d)) a0 = r at *
  have ht : a.tmps = r.tmps := by
    apply Array.ext (by omega)
    intro j h1 h2
    have e := k3 j h1
    have e2 : slot r j = slot a j := by
      rw [e]
      split
      · rfl
      · rename_i hn; exact (h.same j hn).symm
    have e3 : r.tmps[j] = a.tmps[j] := by simpa [slot, Array.getD_eq_getD_getElem?, h1, h2] using e2
    exact e3.symm
  obtain ⟨t1, f1⟩ := a
  obtain ⟨t2, f2⟩ := r
  simp only at ht
  subst ht
  congr 1
  exact h.defers.trans k2.symm
/-- what an operation waits for has run -/
def Closed (ops : Array Oper) (done : Array Bool) : Prop := ∀ j o, ops[j]? = some o → done.getD j false = true → ∀ e ∈ o.after, Region.binds .any e = true → done.getD e.on false = true
theorem Closed.set {ops : Array Oper} {done : Array Bool} (h : Closed ops done) {i : Nat} (hi : i ∈ Region.ready .any ops done) : Closed ops (done.setIfInBounds i true) := by
  have mono : ∀ j, done.getD j false = true → (done.setIfInBounds i true).getD j false = true := by
    intro j hj
    by_cases e : i = j
    · subst e
      rcases Nat.lt_or_ge i done.size with hl | hl
      · simp [Array.getD_eq_getD_getElem?, hl]
      · simp [Array.getD_eq_getD_getElem?, Array.getElem?_eq_none hl] at hj
    · simpa [Array.getD_eq_getD_getElem?, Array.getElem?_setIfInBounds_ne e] using hj
  intro j o ho hd e he hb
  by_cases ej : i = j
  · subst ej
    exact mono _ ((ready_at hi ho).2 e he hb)
  · refine mono _ (h j o ho ?_ e he hb)
    simpa [Array.getD_eq_getD_getElem?, Array.getElem?_setIfInBounds_ne ej] using hd
theorem closed_none (ops : Array Oper) (n : Nat) : Closed ops (Array.replicate n false) := by
  intro j o _ hd
  rcases Nat.lt_or_ge j n with h | h <;> simp [Array.getD_eq_getD_getElem?, h] at hd
/-- the same, the frame as it stands at the region's head handed to Inv -/
theorem wp_region_fr {P : Program} {ops : Array Oper} {id : Nat} {Q : Exit → Act → World → Prop} {a : Act} {w : World} (ds : List Nat) (I : Array Bool → (Nat → Value) → World → Prop) (hm : P.follows .mixedOrders = true)
    (h0 : I (Array.replicate ops.size false) (slot a) w.drew)
    (hs : ∀ done a1 w1, Fr a ds a1 → I done (slot a1) w1 → done.size = ops.size → Closed ops done → ∀ i ∈ Region.ready .any ops done, wpOp P ops Q i (fun a2 w2 => Fr a ds a2 ∧ I (done.setIfInBounds i true) (slot a2) w2) a1 w1)
    (he : ∀ done a1 w1, a1 = ds.foldl (fun b d => b.put (some d) (slot a1 d)) a → I done (slot a1) w1 → done.size = ops.size → Region.ready .any ops done = [] → Q .normal a1 w1) : (Code.region id ops true).wp P Q a w :=
  wp_region_inv (fun done a1 w1 => Closed ops done ∧ Fr a ds a1 ∧ I done (slot a1) w1) hm ⟨closed_none _ _, Fr.refl _ _, h0⟩
    (fun done a1 w1 h hz i hi => wpOp_mono (fun _ _ h2 => ⟨h.1.set hi, h2⟩) (hs done a1 w1 h.2.1 h.2.2 hz h.1 i hi)) (fun done a1 w1 h hz hr => he done a1 w1 h.2.1.eq h.2.2 hz hr)
/-- one operation of such a region -/
theorem fr_op {P : Program} {ops : Array Oper} {Q : Exit → Act → World → Prop} {a a1 : Act} {ds : List Nat} {I : Array Bool → (Nat → Value) → World → Prop} {done : Array Bool} {w w' : World} {i d : Nat} {op : Op} {tp : TypeId} {pos : String} {af : Array Edge} {v : Value}
    (hf : Fr a ds a1) (hd : d ∈ ds) (hi : ops[i]? = some ⟨some d, op, tp, pos, af, none⟩) (hr : (execOp a1.eval (⟨some d, op, tp, pos, af, none⟩ : Oper)).run P w = .ok (.value v) w')
    (hI : ∀ s : Nat → Value, s d = v → (∀ j, j ≠ d → s j = slot a1 j) → I (done.setIfInBounds i true) s w') (hds : ∀ d ∈ ds, d < a.tmps.size) :
    wpOp P ops Q i (fun a2 w2 => Fr a ds a2 ∧ I (done.setIfInBounds i true) (slot a2) w2) a1 w :=
  inv_op (o := ⟨some d, op, tp, pos, af, none⟩) hi rfl hr ⟨hf.put d hd v, hI _ (slot_put_same _ _ _ (by rw [hf.size]; exact hds d hd)) (fun j hj => slot_put_ne _ _ _ _ (Ne.symm hj))⟩
def inOrderB (ops : Array Oper) : Bool := (List.range ops.size).all fun j => ((ops[j]?).map fun o => o.after.all fun e => decide (e.on < j)).getD true
/-- where nothing is ready, all has run -/
theorem all_done {ops : Array Oper} {done : Array Bool} (hB : inOrderB ops = true) (hsz : done.size = ops.size) (hr : Region.ready .any ops done = []) : ∀ j, j < ops.size → done.getD j false = true := by
  intro j
  induction j using Nat.strongRecOn with
  | _ j ih =>
    intro hj
    cases hd : done.getD j false with
    | true => rfl
    | false =>
      have ho : ops[j]? = some ops[j] := Array.getElem?_eq_getElem hj
      have hB' := List.all_eq_true.1 hB j (List.mem_range.2 hj)
      rw [ho] at hB'
      simp only [Option.map_some, Option.getD_some, Array.all_eq_true_iff_forall_mem, decide_eq_true_eq] at hB'
      have hm : j ∈ Region.ready .any ops done := mem_ready.2 ⟨by
        have hj2 : j < done.size := by omega
        simpa [Array.getD_eq_getD_getElem?, hj2] using hd, _, ho, fun e he _ => ih e.on (hB' e he) (by have := hB' e he; omega)⟩
      rw [hr] at hm
      cases hm
theorem arr9 (d : Array Bool) (h : d.size = 9) : ∃ d0 d1 d2 d3 d4 d5 d6 d7 d8, d = #[d0, d1, d2, d3, d4, d5, d6, d7, d8] := by
  obtain ⟨l⟩ := d
  match l, h with
  | [d0, d1, d2, d3, d4, d5, d6, d7, d8], _ => exact ⟨_, _, _, _, _, _, _, _, _, rfl⟩
theorem arr10 (d : Array Bool) (h : d.size = 10) : ∃ d0 d1 d2 d3 d4 d5 d6 d7 d8 d9, d = #[d0, d1, d2, d3, d4, d5, d6, d7, d8, d9] := by
  obtain ⟨l⟩ := d
  match l, h with
  | [d0, d1, d2, d3, d4, d5, d6, d7, d8, d9], _ => exact ⟨_, _, _, _, _, _, _, _, _, _, rfl⟩
theorem reads_row1 {w : World} {b : Nat} {e : TypeId} {c : UInt8} {N : Nat → Prop} (h : Row w b e #[.int .u8 (c.toNat : Int)]) (hN : N b) : Reads w N (.slice (some ⟨b, 0, none⟩) 1 1) [c] :=
  RdV.toBytes (RdV.ofRow h hN 1 0 1 1 (bcells [c]) rfl (Nat.le_refl _) (by unfold maxLen; omega) (fun j u hu => by
    match j, hu with
    | 0, hu => simpa [bcells] using hu
    | (j + 1), hu => simp [bcells] at hu))
theorem run_fieldAddr {P : Program} {ρ : Operand → Value} {d : Option Tmp} {x : Operand} {T t : TypeId} {n m : Nat} {fs : Array Field} {f : Field} {pos : String} {af : Array Edge} {g : Option (Nat × Bool)} {w : World} {b off : Nat}
    (hu : P.underlying T = some (.struct fs)) (hf : fs[n]? = some f) (hs : (P.info? f.type).map (·.size) = some (m + 1)) (hx : ρ x = .pointer (some ⟨b, off, none⟩)) :
    (execOp ρ (⟨d, .fieldAddr T x n, t, pos, af, g⟩ : Oper)).run P w = .ok (.value (.pointer (some ⟨b, off + f.offset, none⟩))) w := by
  have hz : (sizeOf f.type).run P w = .ok (m + 1) w := by
    cases hi : P.info? f.type with
    | none => simp [hi] at hs
    | some i => simp [hi] at hs; simp [sizeOf, typeInfo, hi, hs]
  simp [go_sem, execOp, hx, Instr.fieldAt, run_underlying hu, hf, fieldPlace, hz]
theorem run_loadCell {P : Program} {ρ : Operand → Value} {d : Option Tmp} {x : Operand} {ty t : TypeId} {pos : String} {af : Array Edge} {g : Option (Nat × Bool)} {w : World} {b off : Nat} {v : Value}
    (hd : ∀ w, (isAgg ty).run P w = .ok false w) (hc : w.cell? ⟨b, off, none⟩ = some v) (hx : ρ x = .pointer (some ⟨b, off, none⟩)) :
    (execOp ρ (⟨d, .load ty x, t, pos, af, g⟩ : Oper)).run P w = .ok (.value v) w := by
  simp [go_sem, execOp, hx, Instr.loadAt, hd, hc]
end Go.Proofs.YtofficleahalaaaDoor
