/- A REGION THAT DRAWS ITS ORDER, ONE FACT AN OPERATION: what each operation yields is said of its value and of the world (a predicate that stays true when memory is added); an operation may use what is said of those that it waits for. -/
import Derived.Test.YtofficleahalaaaDoorGen2
namespace Go.Proofs.YtofficleahalaaaDoor
open Go.RowKit
/-- what op i waits for -/
theorem waits_of {ops : Array Oper} {i j : Nat} {o : Oper} (ho : ops[i]? = some o) (h : Region.waitsFor .any ops i j = true) : ∃ e ∈ o.after, Region.binds .any e = true ∧ e.on = j := by
  obtain ⟨oj, h1, h2⟩ := Region.waitsFor_spec h
  obtain rfl := Option.some.inj (ho.symm.trans h1)
  exact h2
theorem getD_set_iff {d : Array Bool} {i j : Nat} (h : (d.setIfInBounds i true).getD j false = true) : i = j ∨ d.getD j false = true := by
  by_cases e : i = j
  · exact .inl e
  · right; simpa [Array.getD_eq_getD_getElem?, Array.getElem?_setIfInBounds_ne e] using h
theorem wpOp_dst {P : Program} {ops : Array Oper} {Q : Exit → Act → World → Prop} {K K' : Act → World → Prop} {i : Nat} {a : Act} {w : World} (h : ∀ a w, K a w → K' a w) (hh : wpOp P ops Q i K a w) : wpOp P ops Q i K' a w := wpOp_mono h hh
/-- D: the slots, one an operation; C: the class of worlds; St: what every operation does to the world; T i v w: what is said of operation i's value v in world w -/
theorem wp_region_spcS {P : Program} {ops : Array Oper} {id : Nat} {Q : Exit → Act → World → Prop} {a : Act} {w : World} (D : List Nat) (C : World → Prop) (T : Nat → Value → World → Prop) (St : World → World → Prop) (hm : P.follows .mixedOrders = true)
    (hD : ops.toList.map (·.dst) = D.map some) (hnd : D.Nodup) (hds : ∀ d ∈ D, d < a.tmps.size) (hB : inOrderB ops = true) (h0 : C w.drew)
    (hst : ∀ i v w w', T i v w → C w → St w w' → T i v w')
    (hs : ∀ i, i < ops.size → ∀ a1 w1, Fr a D a1 → C w1 → (∀ j, Region.waitsFor .any ops i j = true → T j (slot a1 (D.getD j 0)) w1) →
      wpOp P ops Q i (fun a2 w2 => ∃ v, a2 = a1.put (some (D.getD i 0)) v ∧ C w2 ∧ St w1 w2 ∧ T i v w2) a1 w1)
    (he : ∀ a1 w1, a1 = D.foldl (fun b d => b.put (some d) (slot a1 d)) a → C w1 → (∀ j, j < ops.size → T j (slot a1 (D.getD j 0)) w1) → Q .normal a1 w1) : (Code.region id ops true).wp P Q a w := by
  have hlen : D.length = ops.size := by have := congrArg List.length hD; simpa using this.symm
  have hmem : ∀ i, i < ops.size → D.getD i 0 ∈ D := fun i hi => by
    rw [List.getD_eq_getElem?_getD, List.getElem?_eq_getElem (by omega)]
    exact List.getElem_mem _
  have hinj : ∀ i j, i < ops.size → j < ops.size → D.getD i 0 = D.getD j 0 → i = j := fun i j hi hj h => by
    rw [List.getD_eq_getElem?_getD, List.getD_eq_getElem?_getD, List.getElem?_eq_getElem (by omega), List.getElem?_eq_getElem (by omega)] at h
    exact (List.getElem_inj hnd).1 h
  refine wp_region_fr D (fun done s w1 => C w1 ∧ ∀ j, j < ops.size → done.getD j false = true → T j (s (D.getD j 0)) w1) hm ⟨h0, fun j hj hd => ?_⟩ ?_ ?_
  · simp [Array.getD_eq_getD_getElem?, hj] at hd
  · intro done a1 w1 hF hI hz hcl i hi
    have hlt := ready_lt hi
    refine wpOp_mono ?_ (hs i hlt a1 w1 hF hI.1 (fun j hj => ?_))
    · rintro a2 w2 ⟨v, rfl, hC2, hb, hT⟩
      refine ⟨hF.put _ (hmem i hlt) v, hC2, fun j hj hd => ?_⟩
      by_cases e : i = j
      · subst e
        rw [slot_put_same _ _ _ (by rw [hF.size]; exact hds _ (hmem i hlt))]
        exact hT
      · have hd' := (getD_set_iff hd).resolve_left e
        rw [slot_put_ne _ _ _ _ (fun e2 => e (hinj i j hlt hj e2))]
        exact hst j _ _ _ (hI.2 j hj hd') hI.1 hb
    · obtain ⟨e, he1, he2, he3⟩ := waits_of (Array.getElem?_eq_getElem hlt) hj
      have hdn := (ready_at hi (Array.getElem?_eq_getElem hlt)).2 e he1 he2
      rw [he3] at hdn
      refine hI.2 j ?_ hdn
      rcases Nat.lt_or_ge j done.size with h | h
      · omega
      · simp [Array.getD_eq_getD_getElem?, Array.getElem?_eq_none h] at hdn
  · intro done a1 w1 ha hI hz hr
    exact he a1 w1 ha hI.1 (fun j hj => hI.2 j hj (all_done hB hz hr j hj))
/-- D: the slots, one an operation; C: the class of worlds; T i v w: what is said of operation i's value v in world w -/
theorem wp_region_spc {P : Program} {ops : Array Oper} {id : Nat} {Q : Exit → Act → World → Prop} {a : Act} {w : World} (D : List Nat) (C : World → Prop) (T : Nat → Value → World → Prop) (hm : P.follows .mixedOrders = true)
    (hD : ops.toList.map (·.dst) = D.map some) (hnd : D.Nodup) (hds : ∀ d ∈ D, d < a.tmps.size) (hB : inOrderB ops = true) (h0 : C w.drew)
    (hst : ∀ i v w w', T i v w → C w → Below w.heap.size w w' → T i v w')
    (hs : ∀ i, i < ops.size → ∀ a1 w1, Fr a D a1 → C w1 → (∀ j, Region.waitsFor .any ops i j = true → T j (slot a1 (D.getD j 0)) w1) →
      wpOp P ops Q i (fun a2 w2 => ∃ v, a2 = a1.put (some (D.getD i 0)) v ∧ C w2 ∧ Below w1.heap.size w1 w2 ∧ T i v w2) a1 w1)
    (he : ∀ a1 w1, a1 = D.foldl (fun b d => b.put (some d) (slot a1 d)) a → C w1 → (∀ j, j < ops.size → T j (slot a1 (D.getD j 0)) w1) → Q .normal a1 w1) : (Code.region id ops true).wp P Q a w :=
  wp_region_spcS D C T (fun w w' => Below w.heap.size w w') hm hD hnd hds hB h0 hst hs he
/-- an operation that yields a value at once -/
theorem spc_val {P : Program} {ops : Array Oper} {Q : Exit → Act → World → Prop} {C : World → Prop} {T : Nat → Value → World → Prop} {i d : Nat} {a1 : Act} {w1 w2 : World} {op : Op} {tp : TypeId} {pos : String} {af : Array Edge} {g : Option (Nat × Bool)} {v : Value}
    (hi : ops[i]? = some ⟨some d, op, tp, pos, af, g⟩) (hg : Region.wanted (⟨some d, op, tp, pos, af, g⟩ : Oper) (yielded ops a1.tmps) = true)
    (hr : (execOp a1.eval (⟨some d, op, tp, pos, af, g⟩ : Oper)).run P w1 = .ok (.value v) w2) (hC : C w2) (hb : Below w1.heap.size w1 w2) (hT : T i v w2) :
    wpOp P ops Q i (fun a2 w2 => ∃ v, a2 = a1.put (some d) v ∧ C w2 ∧ Below w1.heap.size w1 w2 ∧ T i v w2) a1 w1 := by
  unfold wpOp
  rw [hi]
  simp only
  rw [if_pos hg]
  refine .inl ?_
  unfold Oper.wp
  rw [hr]
  exact ⟨v, rfl, hC, hb, hT⟩
/-- an operation that calls -/
theorem spc_call {P : Program} {ops : Array Oper} {Q : Exit → Act → World → Prop} {C : World → Prop} {T : Nat → Value → World → Prop} {i d : Nat} {a1 : Act} {w1 : World} {f : FuncId} {args : Array Operand} {ts : Array TypeId} {tp : TypeId} {pos : String} {af : Array Edge} {g : Option (Nat × Bool)} {vs : Array Value}
    (hi : ops[i]? = some ⟨some d, .call ⟨.value (.func f), args, ts⟩, tp, pos, af, g⟩) (hg : Region.wanted (⟨some d, .call ⟨.value (.func f), args, ts⟩, tp, pos, af, g⟩ : Oper) (yielded ops a1.tmps) = true)
    (hent : Enters P f) (hargs : args.map a1.eval = vs) (hc : Calls P f vs w1 fun e w2 => ∃ v, e = .returned v ∧ C w2 ∧ Below w1.heap.size w1 w2 ∧ T i v w2) :
    wpOp P ops Q i (fun a2 w2 => ∃ v, a2 = a1.put (some d) v ∧ C w2 ∧ Below w1.heap.size w1 w2 ∧ T i v w2) a1 w1 := by
  unfold wpOp
  rw [hi]
  simp only
  rw [if_pos hg]
  refine .inl ?_
  unfold Oper.wp
  have : (execOp a1.eval (⟨some d, .call ⟨.value (.func f), args, ts⟩, tp, pos, af, g⟩ : Oper)).run P w1 = .ok (.enter f vs) w1 := by
    have h1 : a1.eval (.func f) = .func (.func f) #[] #[] := rfl
    unfold execOp
    simp only [resolve, Deferred.ofValue, hargs, h1, invoke, Sem.run_bind, Sem.run_pure, Result.andThen_ok]
    simp [hent vs w1]
  rw [this, Oper.upon_enter]
  refine hc.mono ?_
  rintro e w2 ⟨v, rfl, h⟩
  exact ⟨v, rfl, h⟩
/-- an operation that yields a value at once -/
theorem spcS_val {P : Program} {ops : Array Oper} {Q : Exit → Act → World → Prop} {C : World → Prop} {T : Nat → Value → World → Prop} {St : World → World → Prop} {i d : Nat} {a1 : Act} {w1 w2 : World} {op : Op} {tp : TypeId} {pos : String} {af : Array Edge} {g : Option (Nat × Bool)} {v : Value}
    (hi : ops[i]? = some ⟨some d, op, tp, pos, af, g⟩) (hg : Region.wanted (⟨some d, op, tp, pos, af, g⟩ : Oper) (yielded ops a1.tmps) = true)
    (hr : (execOp a1.eval (⟨some d, op, tp, pos, af, g⟩ : Oper)).run P w1 = .ok (.value v) w2) (hC : C w2) (hb : St w1 w2) (hT : T i v w2) :
    wpOp P ops Q i (fun a2 w2 => ∃ v, a2 = a1.put (some d) v ∧ C w2 ∧ St w1 w2 ∧ T i v w2) a1 w1 := by
  unfold wpOp
  rw [hi]
  simp only
  rw [if_pos hg]
  refine .inl ?_
  unfold Oper.wp
  rw [hr]
  exact ⟨v, rfl, hC, hb, hT⟩
/-- an operation that calls -/
theorem spcS_call {P : Program} {ops : Array Oper} {Q : Exit → Act → World → Prop} {C : World → Prop} {T : Nat → Value → World → Prop} {St : World → World → Prop} {i d : Nat} {a1 : Act} {w1 : World} {f : FuncId} {args : Array Operand} {ts : Array TypeId} {tp : TypeId} {pos : String} {af : Array Edge} {g : Option (Nat × Bool)} {vs : Array Value}
    (hi : ops[i]? = some ⟨some d, .call ⟨.value (.func f), args, ts⟩, tp, pos, af, g⟩) (hg : Region.wanted (⟨some d, .call ⟨.value (.func f), args, ts⟩, tp, pos, af, g⟩ : Oper) (yielded ops a1.tmps) = true)
    (hent : Enters P f) (hargs : args.map a1.eval = vs) (hc : Calls P f vs w1 fun e w2 => ∃ v, e = .returned v ∧ C w2 ∧ St w1 w2 ∧ T i v w2) :
    wpOp P ops Q i (fun a2 w2 => ∃ v, a2 = a1.put (some d) v ∧ C w2 ∧ St w1 w2 ∧ T i v w2) a1 w1 := by
  unfold wpOp
  rw [hi]
  simp only
  rw [if_pos hg]
  refine .inl ?_
  unfold Oper.wp
  have : (execOp a1.eval (⟨some d, .call ⟨.value (.func f), args, ts⟩, tp, pos, af, g⟩ : Oper)).run P w1 = .ok (.enter f vs) w1 := by
    have h1 : a1.eval (.func f) = .func (.func f) #[] #[] := rfl
    unfold execOp
    simp only [resolve, Deferred.ofValue, hargs, h1, invoke, Sem.run_bind, Sem.run_pure, Result.andThen_ok]
    simp [hent vs w1]
  rw [this, Oper.upon_enter]
  refine hc.mono ?_
  rintro e w2 ⟨v, rfl, h⟩
  exact ⟨v, rfl, h⟩
theorem wanted_none {o : Oper} {y : Nat → Option Bool} (h : o.guard = none) : Region.wanted o y = true := by simp [Region.wanted, h]
theorem wanted_of {ops : Array Oper} {o : Oper} {a : Act} {g d : Nat} {b : Bool} (ho : o.guard = some (g, b)) (hog : (ops[g]?).bind (·.dst) = some d) (hv : slot a d = .bool b) : Region.wanted o (yielded ops a.tmps) = true := by
  have h1 : a.tmps[d]? = some (.bool b) := by
    unfold slot at hv
    rcases Nat.lt_or_ge d a.tmps.size with h | h
    · simpa [Array.getD_eq_getD_getElem?, h] using hv
    · simp [Array.getD_eq_getD_getElem?, Array.getElem?_eq_none h, undef] at hv
  have h2 : yielded ops a.tmps g = some b := by simp [yielded, hog, h1]
  simp [Region.wanted, ho, h2]
section
variable {P : Program} {ρ : Operand → Value} {d : Option Tmp} {x y c m n : Operand} {t t1 t2 : TypeId} {pos : String} {af : Array Edge} {g : Option (Nat × Bool)} {w : World}
theorem run_pickT (hc : ρ c = .bool true) : (execOp ρ (⟨d, .pick c x y, t, pos, af, g⟩ : Oper)).run P w = .ok (.value (ρ x)) w := by
  simp [execOp, hc, asBool]
theorem run_pickF (hc : ρ c = .bool false) : (execOp ρ (⟨d, .pick c x y, t, pos, af, g⟩ : Oper)).run P w = .ok (.value (ρ y)) w := by
  simp [execOp, hc, asBool]
theorem run_lenSl {a : Option Addr} {k cap : Nat} {e : TypeId} (hu : P.underlying t1 = some (.slice e)) (hx : ρ x = .slice a k cap) : (execOp ρ (⟨d, .call ⟨.builtin .len, #[x], #[t1]⟩, t, pos, af, g⟩ : Oper)).run P w = .ok (.value (.int .i64 (k : Int))) w := by
  simp [execOp, resolve, invoke, builtin, Builtin.len_, hx, run_underlying hu]
  rfl
theorem run_slB {lo hi mx : Option Operand} {v : Value} (h : (Instr.sliceAt t1 (ρ x) (lo.map ρ) (hi.map ρ) (mx.map ρ)).run P w = .ok v w) : (execOp ρ (⟨d, .slice t1 x lo hi mx, t, pos, af, g⟩ : Oper)).run P w = .ok (.value v) w := by
  simp [execOp, h]
theorem run_mkB {v : Value} {w' : World} (h : (Instr.makeSlice t1 (ρ m) (ρ n)).run P w = .ok v w') : (execOp ρ (⟨d, .makeSlice t1 m n, t, pos, af, g⟩ : Oper)).run P w = .ok (.value v) w' := by
  simp [execOp, h]
end
end Go.Proofs.YtofficleahalaaaDoor
