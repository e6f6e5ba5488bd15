/- PARTS OF ONE PROOF, set in one file: Spc, TreeGet, Grown, Conv, DfSideO, RowO, DfOneO, MbDelO. Each part tells its own conditions. -/
import Derived.Shelf.Bytes.SlEqualAll
import Derived.Lib.SlBytesConst
import Derived.Lib.SmallJoins
import Derived.Test.YtmnknmpfkjhgbaaGreatDoorP16
/- A REGION THAT DRAWS ITS ORDER, ONE FACT AN OPERATION: what each operation yields is said of its value and of the world (a predicate that stays true when memory is added); an operation may use what is said of those that it waits for. -/
namespace Go.Proofs.YtmnknmpfkjhgbaaGreatDoor
open Go.RowKit
/-- D: the slots, one an operation; C: the class of worlds; St: what every operation does to the world; T i v w: what is said of operation i's value v in world w -/
theorem wp_region_spcS {P : Program} {ops : Array Oper} {id : Nat} {Q : Exit → Act → World → Prop} {a : Act} {w : World} (D : List Nat) (C : World → Prop) (T : Nat → Value → World → Prop) (St : World → World → Prop) (hm : P.follows .mixedOrders = true)
    (hD : ops.toList.map (·.dst) = D.map some) (hnd : D.Nodup) (hds : ∀ d ∈ D, d < a.tmps.size) (hB : inOrderB ops = true) (h0 : C w.drew)
    (hst : ∀ i v w w', T i v w → C w → St w w' → T i v w')
    (hs : ∀ i, i < ops.size → ∀ a1 w1, Fr a D a1 → C w1 → (∀ j, Region.waitsFor .any ops i j = true → T j (slot a1 (D.getD j 0)) w1) →
      wpOp P ops Q i (fun a2 w2 => ∃ v, a2 = a1.put (some (D.getD i 0)) v ∧ C w2 ∧ St w1 w2 ∧ T i v w2) a1 w1)
    (he : ∀ a1 w1, a1 = D.foldl (fun b d => b.put (some d) (slot a1 d)) a → C w1 → (∀ j, j < ops.size → T j (slot a1 (D.getD j 0)) w1) → Q .normal a1 w1) : (Code.region id ops true).wp P Q a w := by
  have hlen : D.length = ops.size := by have := congrArg List.length hD; simpa using this.symm
  have hmem : ∀ i, i < ops.size → D.getD i 0 ∈ D := fun i hi => by
    rw [List.getD_eq_getElem?_getD, List.getElem?_eq_getElem (by omega)]
    exact List.getElem_mem _
  have hinj : ∀ i j, i < ops.size → j < ops.size → D.getD i 0 = D.getD j 0 → i = j := fun i j hi hj h => by
    rw [List.getD_eq_getElem?_getD, List.getD_eq_getElem?_getD, List.getElem?_eq_getElem (by omega), List.getElem?_eq_getElem (by omega)] at h
    exact (List.getElem_inj hnd).1 h
  refine wp_region_fr D (fun done s w1 => C w1 ∧ ∀ j, j < ops.size → done.getD j false = true → T j (s (D.getD j 0)) w1) hm ⟨h0, fun j hj hd => ?_⟩ ?_ ?_
  · simp [Array.getD_eq_getD_getElem?, hj] at hd
  · intro done a1 w1 hF hI hz hcl i hi
    have hlt := ready_lt hi
    refine wpOp_mono ?_ (hs i hlt a1 w1 hF hI.1 (fun j hj => ?_))
    · rintro a2 w2 ⟨v, rfl, hC2, hb, hT⟩
      refine ⟨hF.put _ (hmem i hlt) v, hC2, fun j hj hd => ?_⟩
      by_cases e : i = j
      · subst e
        rw [slot_put_same _ _ _ (by rw [hF.size]; exact hds _ (hmem i hlt))]
        exact hT
      · have hd' := (getD_set_iff hd).resolve_left e
        rw [slot_put_ne _ _ _ _ (fun e2 => e (hinj i j hlt hj e2))]
        exact hst j _ _ _ (hI.2 j hj hd') hI.1 hb
    · obtain ⟨e, he1, he2, he3⟩ := waits_of (Array.getElem?_eq_getElem hlt) hj
      have hdn := (ready_at hi (Array.getElem?_eq_getElem hlt)).2 e he1 he2
      rw [he3] at hdn
      refine hI.2 j ?_ hdn
      rcases Nat.lt_or_ge j done.size with h | h
      · omega
      · simp [Array.getD_eq_getD_getElem?, Array.getElem?_eq_none h] at hdn
  · intro done a1 w1 ha hI hz hr
    exact he a1 w1 ha hI.1 (fun j hj => hI.2 j hj (all_done hB hz hr j hj))
/-- D: the slots, one an operation; C: the class of worlds; T i v w: what is said of operation i's value v in world w -/
theorem wp_region_spc {P : Program} {ops : Array Oper} {id : Nat} {Q : Exit → Act → World → Prop} {a : Act} {w : World} (D : List Nat) (C : World → Prop) (T : Nat → Value → World → Prop) (hm : P.follows .mixedOrders = true)
    (hD : ops.toList.map (·.dst) = D.map some) (hnd : D.Nodup) (hds : ∀ d ∈ D, d < a.tmps.size) (hB : inOrderB ops = true) (h0 : C w.drew)
    (hst : ∀ i v w w', T i v w → C w → Below w.heap.size w w' → T i v w')
    (hs : ∀ i, i < ops.size → ∀ a1 w1, Fr a D a1 → C w1 → (∀ j, Region.waitsFor .any ops i j = true → T j (slot a1 (D.getD j 0)) w1) →
      wpOp P ops Q i (fun a2 w2 => ∃ v, a2 = a1.put (some (D.getD i 0)) v ∧ C w2 ∧ Below w1.heap.size w1 w2 ∧ T i v w2) a1 w1)
    (he : ∀ a1 w1, a1 = D.foldl (fun b d => b.put (some d) (slot a1 d)) a → C w1 → (∀ j, j < ops.size → T j (slot a1 (D.getD j 0)) w1) → Q .normal a1 w1) : (Code.region id ops true).wp P Q a w :=
  wp_region_spcS D C T (fun w w' => Below w.heap.size w w') hm hD hnd hds hB h0 hst hs he
/-- an operation that yields a value at once -/
theorem spc_val {P : Program} {ops : Array Oper} {Q : Exit → Act → World → Prop} {C : World → Prop} {T : Nat → Value → World → Prop} {i d : Nat} {a1 : Act} {w1 w2 : World} {op : Op} {tp : TypeId} {pos : String} {af : Array Edge} {g : Option (Nat × Bool)} {v : Value}
    (hi : ops[i]? = some ⟨some d, op, tp, pos, af, g⟩) (hg : Region.wanted (⟨some d, op, tp, pos, af, g⟩ : Oper) (yielded ops a1.tmps) = true)
    (hr : (execOp a1.eval (⟨some d, op, tp, pos, af, g⟩ : Oper)).run P w1 = .ok (.value v) w2) (hC : C w2) (hb : Below w1.heap.size w1 w2) (hT : T i v w2) :
    wpOp P ops Q i (fun a2 w2 => ∃ v, a2 = a1.put (some d) v ∧ C w2 ∧ Below w1.heap.size w1 w2 ∧ T i v w2) a1 w1 := by
  unfold wpOp
  rw [hi]
  simp only
  rw [if_pos hg]
  refine .inl ?_
  unfold Oper.wp
  rw [hr]
  exact ⟨v, rfl, hC, hb, hT⟩
/-- an operation that calls -/
theorem spc_call {P : Program} {ops : Array Oper} {Q : Exit → Act → World → Prop} {C : World → Prop} {T : Nat → Value → World → Prop} {i d : Nat} {a1 : Act} {w1 : World} {f : FuncId} {args : Array Operand} {ts : Array TypeId} {tp : TypeId} {pos : String} {af : Array Edge} {g : Option (Nat × Bool)} {vs : Array Value}
    (hi : ops[i]? = some ⟨some d, .call ⟨.value (.func f), args, ts⟩, tp, pos, af, g⟩) (hg : Region.wanted (⟨some d, .call ⟨.value (.func f), args, ts⟩, tp, pos, af, g⟩ : Oper) (yielded ops a1.tmps) = true)
    (hent : Enters P f) (hargs : args.map a1.eval = vs) (hc : Calls P f vs w1 fun e w2 => ∃ v, e = .returned v ∧ C w2 ∧ Below w1.heap.size w1 w2 ∧ T i v w2) :
    wpOp P ops Q i (fun a2 w2 => ∃ v, a2 = a1.put (some d) v ∧ C w2 ∧ Below w1.heap.size w1 w2 ∧ T i v w2) a1 w1 := by
  unfold wpOp
  rw [hi]
  simp only
  rw [if_pos hg]
  refine .inl ?_
  unfold Oper.wp
  have : (execOp a1.eval (⟨some d, .call ⟨.value (.func f), args, ts⟩, tp, pos, af, g⟩ : Oper)).run P w1 = .ok (.enter f vs) w1 := by
    have h1 : a1.eval (.func f) = .func (.func f) #[] #[] := rfl
    unfold execOp
    simp only [resolve, Deferred.ofValue, hargs, h1, invoke, Sem.run_bind, Sem.run_pure, Result.andThen_ok]
    simp [hent vs w1]
  rw [this, Oper.upon_enter]
  refine hc.mono ?_
  rintro e w2 ⟨v, rfl, h⟩
  exact ⟨v, rfl, h⟩
theorem wanted_of {ops : Array Oper} {o : Oper} {a : Act} {g d : Nat} {b : Bool} (ho : o.guard = some (g, b)) (hog : (ops[g]?).bind (·.dst) = some d) (hv : slot a d = .bool b) : Region.wanted o (yielded ops a.tmps) = true := by
  have h1 : a.tmps[d]? = some (.bool b) := by
    unfold slot at hv
    rcases Nat.lt_or_ge d a.tmps.size with h | h
    · simpa [Array.getD_eq_getD_getElem?, h] using hv
    · simp [Array.getD_eq_getD_getElem?, Array.getElem?_eq_none h, undef] at hv
  have h2 : yielded ops a.tmps g = some b := by simp [yielded, hog, h1]
  simp [Region.wanted, ho, h2]
section
variable {P : Program} {ρ : Operand → Value} {d : Option Tmp} {x y c m n : Operand} {t t1 t2 : TypeId} {pos : String} {af : Array Edge} {g : Option (Nat × Bool)} {w : World}
theorem run_pickF (hc : ρ c = .bool false) : (execOp ρ (⟨d, .pick c x y, t, pos, af, g⟩ : Oper)).run P w = .ok (.value (ρ y)) w := by
  simp [execOp, hc, asBool]
end
end Go.Proofs.YtmnknmpfkjhgbaaGreatDoor
/- tree.Get. -/
namespace Go.Proofs.YtmnknmpfkjhgbaaGreatDoor
open Go.RowKit
theorem buildN (w : World) : (Instr.build 39 #[]).run Tryz.prog w = .ok (.agg (ndC nd0 nilV nilV)) w := by kernel_rfl
end Go.Proofs.YtmnknmpfkjhgbaaGreatDoor
/- portolanlaw18.Grown: a tree under calls. -/
namespace Go.Proofs.YtmnknmpfkjhgbaaGreatDoor
open Go.RowKit
theorem newT_nil : newT [] = (0, some []) := rfl
end Go.Proofs.YtmnknmpfkjhgbaaGreatDoor
/- string(b) of what reads as bytes; []byte of a text that is written out. -/
namespace Go.Proofs.YtmnknmpfkjhgbaaGreatDoor
open Go.RowKit
theorem run_string_of {w : World} {N : Nat → Prop} {v : Value} {l : List UInt8} (h : Reads w N v l) : (convert 37 9 v).run Tryz.prog w = .ok (.string ⟨l.toArray⟩) w := by
  obtain ⟨a, cap, hu, _⟩ := h.shape
  subst hu
  have := Lib.BytesIn.convert h.bytesIn.2 (ints_length l) cap 37 5 9 Tryz.underlying37 Tryz.underlying5 Tryz.underlying9
  rw [this]
  rw [show strOfNums (ints l) = ⟨l.toArray⟩ by simp [strOfNums, ints, Function.comp_def]]
end Go.Proofs.YtmnknmpfkjhgbaaGreatDoor
/- As in DfSide, with nodes whose slices are rows of their types (printed by gen_o.py). -/
namespace Go.Proofs.YtmnknmpfkjhgbaaGreatDoor
open Go.RowKit
/-- a node at every path -/
def NodesIsO (w : World) (N : Nat → Prop) (M : List (Tx × Value)) (L : List Mb) : Prop := ∀ p, ∃ av dv, SM.look M p = (SM.look L p).map (fun n => .agg (ndC n av dv)) ∧ ∀ n, SM.look L p = some n → NdO w N n av dv
theorem NodesIsO.put {w : World} {N : Nat → Prop} {M : List (Tx × Value)} {L : List Mb} {x : Mb} {av dv : Value} (hs : SM.Srt M) (h : NodesIsO w N M L) (hx : ∀ y ∈ L, y.1 ≠ x.1) (hn : NdO w N x.2 av dv) : NodesIsO w N (SM.put M (x.1, .agg (ndC x.2 av dv))) (L ++ [x]) := fun p => by
  rw [hs.look_put, look_snoc hx]
  by_cases e : p = x.1
  · rw [if_pos e, if_pos e]
    exact ⟨av, dv, rfl, fun n hn' => by injection hn' with hn'; subst hn'; exact hn⟩
  · rw [if_neg e, if_neg e]
    exact h p
theorem NodesIsO.loc {w w' : World} {N : Nat → Prop} {M : List (Tx × Value)} {L : List Mb} (h : NodesIsO w N M L) (hb : ∀ b, N b → w'.heap[b]? = w.heap[b]?) : NodesIsO w' N M L := fun p => by
  obtain ⟨av, dv, h1, h2⟩ := h p
  exact ⟨av, dv, h1, fun n hn => (h2 n hn).loc hb⟩
theorem NodesIsO.mono {w : World} {N N' : Nat → Prop} {M : List (Tx × Value)} {L : List Mb} (h : NodesIsO w N M L) (hb : ∀ b, N b → N' b) : NodesIsO w N' M L := fun p => by
  obtain ⟨av, dv, h1, h2⟩ := h p
  exact ⟨av, dv, h1, fun n hn => (h2 n hn).mono hb⟩
/-- a side -/
structure SideInO (w : World) (N : Nat → Prop) (nb mb yb : Nat) (L : List Mb) : Prop where
  nodes : ∃ M, MapS w 9 nb M ∧ NodesIsO w N M L
  names : ∃ M, MapS w 9 mb M ∧ ∀ d, RdS w N ((SM.look M d).getD nilV) ((kids d L).map (·.1))
  many : ∃ Y, MapS w 9 yb Y ∧ MapIs (.int .i64 0) Y (fun t => .int .i64 ((cntM L t : Nat) : Int))
theorem SideInO.lt {w : World} {N : Nat → Prop} {nb mb yb : Nat} {L : List Mb} (h : SideInO w N nb mb yb L) : nb < w.heap.size ∧ mb < w.heap.size ∧ yb < w.heap.size := by
  obtain ⟨_, h1, _⟩ := h.nodes
  obtain ⟨_, h2, _⟩ := h.names
  obtain ⟨_, h3, _⟩ := h.many
  exact ⟨h1.lt, h2.lt, h3.lt⟩
theorem SideInO.loc {w w' : World} {N : Nat → Prop} {nb mb yb : Nat} {L : List Mb} (h : SideInO w N nb mb yb L) (hb : ∀ b, (b = nb ∨ b = mb ∨ b = yb ∨ N b) → w'.heap[b]? = w.heap[b]?) : SideInO w' N nb mb yb L := by
  obtain ⟨_, h1, g1⟩ := h.nodes
  obtain ⟨_, h2, g2⟩ := h.names
  obtain ⟨_, h3, g3⟩ := h.many
  exact ⟨⟨_, h1.loc (hb _ (.inl rfl)), g1.loc (fun b e => hb b (.inr (.inr (.inr e))))⟩, ⟨_, h2.loc (hb _ (.inr (.inl rfl))), fun d => (g2 d).loc (fun b e => hb b (.inr (.inr (.inr e))))⟩, ⟨_, h3.loc (hb _ (.inr (.inr (.inl rfl)))), g3⟩⟩
theorem SideInO.mono {w : World} {N N' : Nat → Prop} {nb mb yb : Nat} {L : List Mb} (h : SideInO w N nb mb yb L) (hN : ∀ b, N b → N' b) : SideInO w N' nb mb yb L := by
  obtain ⟨_, h1, g1⟩ := h.nodes
  obtain ⟨_, h2, g2⟩ := h.names
  exact ⟨⟨_, h1, g1.mono hN⟩, ⟨_, h2, fun d => (g2 d).mono hN⟩, h.many⟩
end Go.Proofs.YtmnknmpfkjhgbaaGreatDoor
/- As in RowM, with nodes whose slices are rows of their types (printed by gen_o.py). -/
namespace Go.Proofs.YtmnknmpfkjhgbaaGreatDoor
open Go.RowKit
theorem ndO_nil {w : World} {N : Nat → Prop} {n : Nd} (h1 : n.attrs = []) (h2 : n.data = []) : NdO w N n nilV nilV := ⟨ndR_nil h1 h2, (fun _ _ _ _ e => (by injection e with e; cases e)), (fun _ _ _ _ e => (by injection e with e; cases e))⟩
structure MbsO (w : World) (N N' : Nat → Prop) (v : Value) (l : List Mv) : Prop where
  rd : RdV w N 9 v l.length (mcells l)
  nd : ∀ x ∈ l, NdO w N' x.1.2 x.2.1 x.2.2
/-- K: old blocks in which the nodes' slices may lie, too -/
structure RowO (B : Nat) (K : Nat → Prop) (w : World) (v : Value) (l : List Mv) : Prop where
  own : w.ownsRow B 41 9 v l.length (mcells l)
  nd : ∀ x ∈ l, NdO w (fun b => (K b ∨ B ≤ b) ∧ b < w.heap.size ∧ v.ownBlock ≠ some b) x.1.2 x.2.1 x.2.2
theorem RowO.nil (B : Nat) (K : Nat → Prop) (w : World) : RowO B K w (.slice none 0 0) [] := ⟨World.ownsRow_nil _ _ _ _, fun _x hx => (List.not_mem_nil hx).elim⟩
theorem RowO.lt {B : Nat} {K : Nat → Prop} {w : World} {v : Value} {l : List Mv} (h : RowO B K w v l) {b : Nat} (hb : v.ownBlock = some b) : B ≤ b ∧ b < w.heap.size := World.ownsRow.lt h.own b hb
theorem RowO.below {B : Nat} {K : Nat → Prop} {w w' : World} {v : Value} {l : List Mv} (h : RowO B K w v l) (hb : Below w.heap.size w w') : RowO B K w' v l :=
  ⟨ownsRow_loc _ _ (fun b e => hb.block b (h.lt e).2) h.own, fun x hx => ((h.nd x hx).loc (fun b e => hb.block b e.2.1)).mono (fun _b e => ⟨e.1, Nat.lt_of_lt_of_le e.2.1 hb.size, e.2.2⟩)⟩
theorem RowO.lower {B B' : Nat} {K K' : Nat → Prop} {w : World} {v : Value} {l : List Mv} (h : RowO B K w v l) (hB : B' ≤ B) (hK : ∀ b, K b → K' b) : RowO B' K' w v l :=
  ⟨ownsRow_base h.own hB, fun x hx => (h.nd x hx).mono (fun b e => ⟨e.1.imp (hK b) (Nat.le_trans hB), e.2⟩)⟩
theorem RowO.mbso {B : Nat} {K : Nat → Prop} {w : World} {v : Value} {l : List Mv} (h : RowO B K w v l) : MbsO w (Fresh B w) (fun b => (K b ∨ B ≤ b) ∧ b < w.heap.size ∧ v.ownBlock ≠ some b) v l :=
  ⟨(ownsV_reads h.own).mono (fun _ hb => ⟨hb.1, hb.2.1⟩), h.nd⟩
theorem RowO.row {B : Nat} {K : Nat → Prop} {w : World} {v : Value} {l : List Mv} (h : RowO B K w v l) : RowM B K w v l := ⟨h.own, fun x hx => (h.nd x hx).r⟩
theorem RowO.mbs {B : Nat} {K : Nat → Prop} {w : World} {v : Value} {l : List Mv} (h : RowO B K w v l) : Mbs w (Fresh B w) (fun b => (K b ∨ B ≤ b) ∧ b < w.heap.size ∧ v.ownBlock ≠ some b) v l := h.row.mbs
theorem RowO.ofOwn {B : Nat} {w : World} {v : Value} {l : List Mv} (h : OwnMbs B w v l) (K : Nat → Prop) : RowO B K w v l :=
  ⟨h.own, fun x hx => (h.nd x hx).mono (fun _b e => ⟨.inr e.1, e.2.1, e.2.2⟩)⟩
theorem RowO.app {B : Nat} {K : Nat → Prop} {w w' : World} {v v' : Value} {l l2 : List Mv} (h : RowO B K w v l) (h2 : ∀ x ∈ l2, NdO w (fun b => (K b ∨ B ≤ b) ∧ b < w.heap.size ∧ v.ownBlock ≠ some b) x.1.2 x.2.1 x.2.2)
    (ho : w'.ownsRow B 41 9 v' (l.length + l2.length) (mcells l ++ mcells l2)) (hg : w.grownBy w' v.ownBlock) (hov : v'.ownBlock = v.ownBlock ∨ v'.ownBlock = some w.heap.size) : RowO B K w' v' (l ++ l2) := by
  refine ⟨by rw [List.length_append, mcells_append]; exact ho, fun x hx => ?_⟩
  have hx' : NdO w (fun b => (K b ∨ B ≤ b) ∧ b < w.heap.size ∧ v.ownBlock ≠ some b) x.1.2 x.2.1 x.2.2 := by
    rcases List.mem_append.1 hx with hx | hx
    · exact h.nd x hx
    · exact h2 x hx
  refine (hx'.loc (fun b e => hg.block b e.2.1 (fun e2 => e.2.2 e2.symm))).mono (fun b e => ⟨e.1, Nat.lt_of_lt_of_le e.2.1 hg.size, ?_⟩)
  rcases hov with e1 | e1
  · rw [e1]; exact e.2.2
  · rw [e1]; intro e2; injection e2 with e2; have := e.2.1; omega
/-- ARM: Members are appended -/
theorem arm_appMO {ops : Array Oper} {rest : List Oper} {a : Act} {w : World} {Q : Exit → Act → World → Prop} {tp : TypeId} {dst : Option Tmp} {s x : Operand} {pos : String} {after : Array Edge} {B : Nat} {K N N' : Nat → Prop} {v xv : Value} {l l2 : List Mv}
    (h : RowO B K w v l) (hB : B ≤ w.heap.size) (h2 : MbsO w N N' xv l2) (hN : ∀ b, N' b → (K b ∨ B ≤ b) ∧ b < w.heap.size ∧ v.ownBlock ≠ some b) (hl : l.length + l2.length ≤ 1000000000000)
    (hs : a.eval s = v) (hx : a.eval x = xv)
    (k : ∀ v' w', RowO B K w' v' (l ++ l2) → w.grownBy w' v.ownBlock → (v'.ownBlock = v.ownBlock ∨ v'.ownBlock = some w.heap.size) → (∃ aa cc, v' = .slice aa (l.length + l2.length) cc) → wpList Tryz.prog ops Q rest (a.put dst v') w') :
    wpList Tryz.prog ops Q (⟨dst, .call ⟨.builtin .append, #[s, x], #[23, 23]⟩, tp, pos, after, none⟩ :: rest) a w := by
  refine arm_appendV slMb h.own h2.rd (mcells_one (fun y hy => (h2.nd y hy).shape)) (by unfold maxLen; omega) (by omega) hB hs hx ?_
  intro v' w' ho hg hov _
  refine k v' w' (h.app (fun y hy => (h2.nd y hy).mono hN) ho hg hov) hg hov ?_
  obtain ⟨aa, cc, e, -⟩ := (ownsV_reads ho).shape
  exact ⟨aa, cc, e⟩
/-- a row that has grown: nothing below its base has changed -/
theorem RowO.chg {B : Nat} {K : Nat → Prop} {w w' : World} {v : Value} {l : List Mv} (h : RowO B K w v l) (hB : B ≤ w.heap.size) (hg : w.grownBy w' v.ownBlock) : Below B w w' :=
  (Chg.grown (M := NoM) (.refl _ _ _) hg hB (fun _k e => .inl (h.lt e).1)).below (fun _ _ h => h)
end Go.Proofs.YtmnknmpfkjhgbaaGreatDoor
/- As in DfOne, with nodes whose slices are rows of their types (printed by gen_o.py). -/
namespace Go.Proofs.YtmnknmpfkjhgbaaGreatDoor
open Go.RowKit
structure TInO (W : World) (d : TD) : Prop where
  ra : Row W d.ba 110 #[.map (some d.na), .map (some d.ma), .map (some d.ya), .func (.func 18) #[.pointer (some ⟨d.Ta, 0, none⟩)] #[]]
  rb : Row W d.bb 110 #[.map (some d.nb), .map (some d.mb), .map (some d.yb), .func (.func 18) #[.pointer (some ⟨d.Tb, 0, none⟩)] #[]]
  rw : Row W d.bw 44 #[.func (.func 120) #[] #[.pointer (some ⟨d.ba, 0, none⟩), .pointer (some ⟨d.bb, 0, none⟩), .pointer (some ⟨d.bo, 0, none⟩)]]
  ro : Row W d.bo 44 #[.func (.func 119) #[] #[.pointer (some ⟨d.ba, 0, none⟩), .pointer (some ⟨d.bb, 0, none⟩), .pointer (some ⟨d.bw, 0, none⟩)]]
  sa : SideInO W d.Na d.na d.ma d.ya d.A
  sb : SideInO W d.Nb d.nb d.mb d.yb d.B
  tr : TreeIn W d.Tb d.tb d.Bk d.f d.B
  lt : ∀ b, d.Na b ∨ d.Nb b ∨ d.Bk b → b < W.heap.size
theorem TInO.below {W w' : World} {d : TD} (h : TInO W d) (hb : Below W.heap.size W w') : TInO w' d := by
  have l1 := h.sa.lt
  have l2 := h.sb.lt
  refine ⟨h.ra.below hb h.ra.lt, h.rb.below hb h.rb.lt, h.rw.below hb h.rw.lt, h.ro.below hb h.ro.lt, h.sa.loc (fun b hb' => hb.block b ?_), h.sb.loc (fun b hb' => hb.block b ?_), h.tr.loc (fun b hb' => hb.block b ?_), fun b hb' => Nat.lt_of_lt_of_le (h.lt b hb') hb.size⟩
  · rcases hb' with rfl | rfl | rfl | h'
    · omega
    · omega
    · omega
    · exact h.lt b (.inl h')
  · rcases hb' with rfl | rfl | rfl | h'
    · omega
    · omega
    · omega
    · exact h.lt b (.inr (.inl h'))
  · rcases hb' with rfl | rfl | h'
    · exact h.tr.row.lt
    · exact h.tr.map.lt
    · exact h.lt b (.inr (.inr h'))
/-- a node looked up -/
theorem SideInO.look {w : World} {N : Nat → Prop} {nb mb yb : Nat} {L : List Mb} (h : SideInO w N nb mb yb L) {p : Tx} (hp : p.length ≤ 1000000) : ∃ av dv, (Instr.lookup 86 (.map (some nb)) (.string ⟨p.toArray⟩) true).run Tryz.prog w = .ok (.tuple #[.agg (ndC ((SM.look L p).getD nd0) av dv), .bool (SM.look L p).isSome]) w ∧ NdO w N ((SM.look L p).getD nd0) av dv := by
  obtain ⟨M, h1, h2⟩ := h.nodes
  have hl := h1.lookOk Tryz.underlying9 Tryz.underlying86 (zeroN w) (p := p) (by unfold maxLen; omega)
  obtain ⟨av, dv, e, hn⟩ := h2 p
  rw [e] at hl
  cases ho : SM.look L p with
  | none => rw [ho] at hl; exact ⟨nilV, nilV, hl, ndO_nil rfl rfl⟩
  | some n => rw [ho] at hl; exact ⟨av, dv, hl, hn n ho⟩
/-- the answer of 'below' -/
def BelAnsO (d : TD) (bl : List Mb) (wx : World) (e : Ending) (w' : World) : Prop := ∃ v l, e = .returned v ∧ l.map (·.1) = bl ∧ RowO wx.heap.size d.Nb w' v l ∧ Below wx.heap.size wx w'
theorem RowO.one {w : World} {K : Nat → Prop} {x : Mv} (B : Nat) (hB : B ≤ w.heap.size) (hn : NdO w (fun b => (K b ∨ B ≤ b) ∧ b < w.heap.size) x.1.2 x.2.1 x.2.2) : RowO B K (w.alloc (.cells (mcell x) 41)) (.slice (some ⟨w.heap.size, 0, none⟩) 1 1) [x] :=
  ⟨ownsRow_base (ownsOneM _ rfl) hB, fun y hy => by
    obtain rfl : y = x := by simpa using hy
    refine (hn.loc (fun b hb => Below.heap_alloc w _ b hb.2)).mono (fun b hb => ⟨hb.1, by simp; omega, fun e => ?_⟩)
    simp [Value.ownBlock] at e
    omega⟩
set_option maxHeartbeats 8000000 in
set_option maxRecDepth 100000 in
theorem one_anyO (d : TD) (c : Tx) (bl : List Mb) (T : Nat) (w : World) (hT : Tabs T w) (hc : c.length ≤ 400000) (hL : d.B.length ≤ 100000) (hbl : bl.length ≤ 1000000) (h : TInO w d)
    (hbel : (∃ y, SM.look d.B c = some y ∧ y.kind = 1) → ∀ wx, Below w.heap.size w wx → Calls Tryz.prog 120 #[.string ⟨c.toArray⟩, .pointer (some ⟨d.ba, 0, none⟩), .pointer (some ⟨d.bb, 0, none⟩), .pointer (some ⟨d.bo, 0, none⟩)] wx (BelAnsO d bl wx)) :
    Calls Tryz.prog 119 #[.string ⟨c.toArray⟩, .pointer (some ⟨d.ba, 0, none⟩), .pointer (some ⟨d.bb, 0, none⟩), .pointer (some ⟨d.bw, 0, none⟩)] w (BelAnsO d (oneF d.A d.B bl c) w) := by
  have HON : Keep (∀ wx, Below w.heap.size w wx → TInO wx d) := ⟨fun wx hb => h.below hb⟩
  have HLT : Keep (∀ b, d.Na b ∨ d.Nb b ∨ d.Bk b → b < w.heap.size) := ⟨h.lt⟩
  obtain ⟨av, dv, hla, hna⟩ := h.sa.look (p := c) (by omega)
  obtain ⟨bv, ev, hlb, hnb⟩ := h.sb.look (p := c) (by omega)
  have HNA := Keep.keep hna; have HNB := Keep.keep hnb
  have HLB : Keep (∀ wx, Below w.heap.size w wx → (Instr.lookup 86 (.map (some d.nb)) (.string ⟨c.toArray⟩) true).run Tryz.prog wx = .ok (.tuple #[.agg (ndC ((SM.look d.B c).getD nd0) bv ev), .bool (SM.look d.B c).isSome]) wx) := ⟨fun wx hb => by
    obtain ⟨M, h1, h2⟩ := h.sb.nodes
    have e1 := h1.lookOk Tryz.underlying9 Tryz.underlying86 (zeroN w) (p := c) (by unfold maxLen; omega)
    have e2 := (h1.loc (hb.block _ h1.lt)).lookOk Tryz.underlying9 Tryz.underlying86 (zeroN wx) (p := c) (by unfold maxLen; omega)
    rw [e1] at hlb
    injection hlb with hlb _
    rw [e2, hlb]⟩
  have HWH : Keep (∀ wx, Below w.heap.size w wx → Calls Tryz.prog 17 #[.string ⟨c.toArray⟩] wx fun e w' => e = .returned (.agg (mbC (whM c) nilV nilV)) ∧ Below wx.heap.size wx w') := ⟨fun wx hb => dwhite_any c (by omega) T wx (Nat.le_trans hT.b hb.size) (hT.m.on (hb.mono hT.b))⟩
  have HUN : Keep (∀ wx, Below w.heap.size w wx → Calls Tryz.prog 18 #[.pointer (some ⟨d.Tb, 0, none⟩), .string ⟨c.toArray⟩] wx (BelAnsO d (underL c d.B) wx)) := ⟨fun wx hb => by
    have ht := h.below hb
    refine (under_own d.Tb d.tb d.Bk d.f d.B c wx hL (by omega) ht.tr ⟨ht.tr.row.lt, ht.tr.map.lt, fun b hb => ht.lt b (.inr (.inr hb))⟩).mono ?_
    rintro e w' ⟨v, l, rfl, hl, ho, hb'⟩
    exact ⟨v, l, rfl, hl, RowO.ofOwn ho _, hb'⟩⟩
  have HBE := Keep.keep hbel
  obtain ⟨qw, kw, hqw⟩ := signM_cells (whiteoutP c)
  have HQW : Keep (mbC (whM c) nilV nilV = #[.string ⟨qw.toArray⟩, .int .i64 kw, .int .u32 0, .int .u32 0, .int .u32 0, .int .i64 0, .slice none 0 0, .slice none 0 0, .string ⟨#[]⟩]) := ⟨hqw⟩
  rw [HQW.out] at HWH
  clear hqw
  have HOF : Keep (oneF d.A d.B bl c = (match SM.look d.B c with | none => [whM c] | some y => if y.kind = 1 ∧ dirB d.A c = false then underL c d.B else if y.kind = 1 then (if bl ≠ [] ∨ SM.look d.A c ≠ some y then bl ++ [(c, y)] else bl) else if SM.look d.A c ≠ some y then [(c, y)] else [])) := ⟨rfl⟩
  have HDA : Keep (dirB d.A c = (((SM.look d.A c).getD nd0).kind == 1)) := ⟨by
    unfold dirB
    cases SM.look d.A c with
    | none => rfl
    | some n => rfl⟩
  obtain ⟨isA, hisA⟩ : ∃ b, (SM.look d.A c).isSome = b := ⟨_, rfl⟩
  obtain ⟨isB, hisB⟩ : ∃ b, (SM.look d.B c).isSome = b := ⟨_, rfl⟩
  rw [hisA] at hla
  rw [hisB] at HLB
  obtain ⟨nA, hnA⟩ : ∃ n, (SM.look d.A c).getD nd0 = n := ⟨_, rfl⟩
  obtain ⟨nB, hnB⟩ : ∃ n, (SM.look d.B c).getD nd0 = n := ⟨_, rfl⟩
  rw [hnA] at hla HNA HDA
  rw [hnB] at HLB HNB
  have HA : Keep (SM.look d.A c = if isA = true then some nA else none) := ⟨by
    rw [← hisA, ← hnA]; cases SM.look d.A c <;> rfl⟩
  have HB : Keep (SM.look d.B c = if isB = true then some nB else none) := ⟨by
    rw [← hisB, ← hnB]; cases SM.look d.B c <;> rfl⟩
  obtain ⟨sm, hsm⟩ : ∃ b, decide (SM.look d.A c = some nB) = b := ⟨_, rfl⟩
  have HSM : Keep (sm = true ↔ SM.look d.A c = some nB) := ⟨by rw [← hsm]; exact decide_eq_true_iff⟩
  have HOF2 : Keep (oneF d.A d.B bl c = if isB = true then (if (nB.kind == 1 && !(nA.kind == 1)) = true then underL c d.B else if (nB.kind == 1) = true then (if (bl.isEmpty && sm) = true then bl else bl ++ [(c, nB)]) else (if sm = true then [] else [(c, nB)])) else [whM c]) := ⟨by
    rw [HOF.out, HB.out]
    cases isB with
    | false => rfl
    | true =>
      simp only [if_true, HDA.out]
      by_cases h1 : nB.kind = 1 <;> by_cases h2 : nA.kind = 1 <;> by_cases h3 : SM.look d.A c = some nB <;> (have h4 : sm = decide (SM.look d.A c = some nB) := hsm.symm) <;> cases bl <;> simp [h1, h2, h3, h4]⟩
  have hent1 := ent_undf
  have hent2 := ent_below
  have HBX : Keep (isB = true → nB.kind = 1 → ∀ wx, Below w.heap.size w wx → Calls Tryz.prog 120 #[.string ⟨c.toArray⟩, .pointer (some ⟨d.ba, 0, none⟩), .pointer (some ⟨d.bb, 0, none⟩), .pointer (some ⟨d.bo, 0, none⟩)] wx (BelAnsO d bl wx)) := ⟨fun h1 h2 => HBE.out ⟨nB, by rw [HB.out, if_pos h1], h2⟩⟩
  generalize oneF d.A d.B bl c = out at *
  have ca0 := h.ra.cell (i := 0) rfl
  have HRB := Keep.keep h.rb; have HRW := Keep.keep h.rw
  obtain ⟨aa, la, ca, ad, ld, cd, e1, e2⟩ := HNA.out.shape
  obtain ⟨ba, lb, cb, bd, le, ce, e3, e4⟩ := HNB.out.shape
  subst e1 e2 e3 e4
  obtain ⟨k6, m6, u6, g6, t6, at6, da6, l6⟩ := nA
  obtain ⟨k8, m8, u8, g8, t8, at8, da8, l8⟩ := nB
  have HNCA : Keep (ndC ⟨k6, m6, u6, g6, t6, at6, da6, l6⟩ (.slice aa la ca) (.slice ad ld cd) = #[.int .i64 k6, .int .u32 m6, .int .u32 u6, .int .u32 g6, .int .i64 t6, .slice aa la ca, .slice ad ld cd, .string ⟨l6.toArray⟩]) := ⟨rfl⟩
  have HNCB : Keep (ndC ⟨k8, m8, u8, g8, t8, at8, da8, l8⟩ (.slice ba lb cb) (.slice bd le ce) = #[.int .i64 k8, .int .u32 m8, .int .u32 u8, .int .u32 g8, .int .i64 t8, .slice ba lb cb, .slice bd le ce, .string ⟨l8.toArray⟩]) := ⟨rfl⟩
  rw [HNCA.out] at hla
  rw [HNCB.out] at HLB
  dsimp only at HOF2 HBX
  have hbmA : ∀ w, (Instr.build 41 #[(1, .agg #[.int .i64 k6, .int .u32 m6, .int .u32 u6, .int .u32 g6, .int .i64 t6, .slice aa la ca, .slice ad ld cd, .string ⟨l6.toArray⟩])]).run Tryz.prog w = .ok (.agg (mbC ([], ⟨k6, m6, u6, g6, t6, at6, da6, l6⟩) (.slice aa la ca) (.slice ad ld cd))) w := fun w => buildM1 ⟨k6, m6, u6, g6, t6, at6, da6, l6⟩ _ _ w
  have hbmB : ∀ w, (Instr.build 41 #[(1, .agg #[.int .i64 k8, .int .u32 m8, .int .u32 u8, .int .u32 g8, .int .i64 t8, .slice ba lb cb, .slice bd le ce, .string ⟨l8.toArray⟩])]).run Tryz.prog w = .ok (.agg (mbC ([], ⟨k8, m8, u8, g8, t8, at8, da8, l8⟩) (.slice ba lb cb) (.slice bd le ce))) w := fun w => buildM1 ⟨k8, m8, u8, g8, t8, at8, da8, l8⟩ _ _ w
  have hbmC : ∀ w, (Instr.build 41 #[(0, .string ⟨c.toArray⟩), (1, .agg #[.int .i64 k8, .int .u32 m8, .int .u32 u8, .int .u32 g8, .int .i64 t8, .slice ba lb cb, .slice bd le ce, .string ⟨l8.toArray⟩])]).run Tryz.prog w = .ok (.agg #[.string ⟨c.toArray⟩, .int .i64 k8, .int .u32 m8, .int .u32 u8, .int .u32 g8, .int .i64 t8, .slice ba lb cb, .slice bd le ce, .string ⟨l8.toArray⟩]) w := fun w => buildM (c, ⟨k8, m8, u8, g8, t8, at8, da8, l8⟩) (.slice ba lb cb) (.slice bd le ce) w
  have HSA : Keep (∀ wx, Below w.heap.size w wx → Calls Tryz.prog 51 #[.agg (mbC ([], ⟨k6, m6, u6, g6, t6, at6, da6, l6⟩) (.slice aa la ca) (.slice ad ld cd)), .agg (mbC ([], ⟨k8, m8, u8, g8, t8, at8, da8, l8⟩) (.slice ba lb cb) (.slice bd le ce))] wx fun e w' => SaysB ((([], ⟨k6, m6, u6, g6, t6, at6, da6, l6⟩) : Mb) = ([], ⟨k8, m8, u8, g8, t8, at8, da8, l8⟩)) e ∧ Below wx.heap.size wx w') :=
    ⟨fun wx hb => same_tar ([], ⟨k6, m6, u6, g6, t6, at6, da6, l6⟩) ([], ⟨k8, m8, u8, g8, t8, at8, da8, l8⟩) _ _ _ _ wx ((HNA.out.below hb (fun b hb => HLT.out b (.inl hb))).mono (fun b hb' => Nat.lt_of_lt_of_le (HLT.out b (.inl hb')) hb.size)).r ((HNB.out.below hb (fun b hb => HLT.out b (.inr (.inl hb)))).mono (fun b hb' => Nat.lt_of_lt_of_le (HLT.out b (.inr (.inl hb'))) hb.size)).r⟩
  clear hna hnb hlb hisA hisB hnA hnB hsm h hbel HOF HDA
  go_enter Tryz.func119, Tryz.ntmps119
  go_upto_region 2 with fail
  refine wp_world (R := fun w1 => Hp NoM w w1 [rowA w.heap.size 39 #[.int .i64 k6, .int .u32 m6, .int .u32 u6, .int .u32 g6, .int .i64 t6, .slice aa la ca, .slice ad ld cd, .string ⟨l6.toArray⟩]]) ((Hp.begin NoM w).newRow _ _) ?_
  intro w1 H1
  have hlb := HLB.out w1 H1.out.below
  have cb0 : w1.cell? ⟨d.bb, 0, none⟩ = some (.map (some d.nb)) := (HRB.out.below H1.out.below HRB.out.lt).cell rfl
  clear hla ca0
  go_upto_region 3 with fail
  obtain ⟨b8, hb8⟩ : ∃ b, w1.heap.size = b := ⟨_, rfl⟩
  refine wp_world (R := fun w2 => Hp NoM w w2 [rowA w.heap.size 39 #[.int .i64 k6, .int .u32 m6, .int .u32 u6, .int .u32 g6, .int .i64 t6, .slice aa la ca, .slice ad ld cd, .string ⟨l6.toArray⟩], rowA b8 39 #[.int .i64 k8, .int .u32 m8, .int .u32 u8, .int .u32 g8, .int .i64 t8, .slice ba lb cb, .slice bd le ce, .string ⟨l8.toArray⟩]]) (by have := H1.out.newRow 39 #[.int .i64 k8, .int .u32 m8, .int .u32 u8, .int .u32 g8, .int .i64 t8, .slice ba lb cb, .slice bd le ce, .string ⟨l8.toArray⟩]; rw [hb8] at this; exact this) ?_
  intro w2 H2
  rw [hb8]
  have HW2 := Keep.keep H2.out.below
  have HR6 := Keep.keep (H2.out.row 0 rfl)
  have HR8 := Keep.keep (H2.out.row 1 rfl)
  have HS6 : Keep ((#[.int .i64 k6, .int .u32 m6, .int .u32 u6, .int .u32 g6, .int .i64 t6, .slice aa la ca, .slice ad ld cd, .string ⟨l6.toArray⟩] : Array Value).size = 8) := ⟨rfl⟩
  have HS8 : Keep ((#[.int .i64 k8, .int .u32 m8, .int .u32 u8, .int .u32 g8, .int .i64 t8, .slice ba lb cb, .slice bd le ce, .string ⟨l8.toArray⟩] : Array Value).size = 8) := ⟨rfl⟩
  clear hlb cb0 H1 hb8 HLB
  cases isA
  case false =>
    have hs0 : sm = false := by
      cases hx : sm with
      | false => rfl
      | true => have := HSM.out.1 hx; rw [HA.out] at this; cases this
    subst hs0
    go_upto_region 4 with fail
    refine wp_world (R := fun w3 => Below w.heap.size w w3 ∧ Row w3 w.heap.size 39 #[.int .i64 k6, .int .u32 m6, .int .u32 u6, .int .u32 g6, .int .i64 t6, .slice aa la ca, .slice ad ld cd, .string ⟨l6.toArray⟩] ∧ Row w3 b8 39 #[.int .i64 k8, .int .u32 m8, .int .u32 u8, .int .u32 g8, .int .i64 t8, .slice ba lb cb, .slice bd le ce, .string ⟨l8.toArray⟩]) ⟨HW2.out, HR6.out, HR8.out⟩ ?_
    intro w3 H3
    clear HW2 HR6 HR8 H2
    have HB3 := Keep.keep H3.out.1
    have HR6 := Keep.keep H3.out.2.1
    have HR8 := Keep.keep H3.out.2.2
    clear H3
    cases isB
    case false =>
      go_wp2_with fail
      refine (HWH.out w3 HB3.out).mono ?_
      rintro e w4 ⟨rfl, hb4⟩
      have HB4 := Keep.keep (HB3.out.trans (hb4.mono HB3.out.size))
      clear hb4
      go_wp2_with fail
      go_ret
      have hone := RowO.one (K := d.Nb) (x := ((whM c, nilV, nilV) : Mv)) w.heap.size HB4.out.size (ndO_nil (by unfold whM signM; split <;> rfl) (by unfold whM signM; split <;> rfl))
      have hmc : mcell ((whM c, nilV, nilV) : Mv) = #[.string ⟨qw.toArray⟩, .int .i64 kw, .int .u32 0, .int .u32 0, .int .u32 0, .int .i64 0, .slice none 0 0, .slice none 0 0, .string ⟨#[]⟩] := HQW.out
      rw [hmc] at hone
      exact ⟨_, [((whM c, nilV, nilV) : Mv)], rfl, by rw [HOF2.out]; rfl, hone, HB4.out.alloc HB4.out.size _⟩
    have k80 := HR8.out.cell (i := 0) rfl
    have k60 := HR6.out.cell (i := 0) rfl
    cases h8 : (k8 == 1)
    case false =>
      have HR4 : Keep (RowO w.heap.size d.Nb w3 (.slice none 0 0) []) := ⟨RowO.nil _ _ _⟩
      obtain ⟨w4, hw4⟩ : ∃ w4, w3 = w4 := ⟨_, rfl⟩
      subst hw4
      have HB4 := HB3
      go_wp2_with (first | ((with_reducible refine arm_loadRow HR8.out aggN HS8.out ?_ ?_); (focus rfl); simp only [Act.put, List.setIfInBounds_toArray, List.set_cons_succ, List.set_cons_zero]) | (with_reducible refine arm_stop ?_))
      refine Stopped.out ?_
      have hal : Below w3.heap.size w3 (w3.alloc (.cells #[.string ⟨c.toArray⟩, .int .i64 k8, .int .u32 m8, .int .u32 u8, .int .u32 g8, .int .i64 t8, .slice ba lb cb, .slice bd le ce, .string ⟨l8.toArray⟩] 41)) := (Below.refl _ _).alloc (Nat.le_refl _) _
      have hrA := HR4.out.below hal
      have hs4 := HB4.out.size
      have hmN : MbsO (w3.alloc (.cells #[.string ⟨c.toArray⟩, .int .i64 k8, .int .u32 m8, .int .u32 u8, .int .u32 g8, .int .i64 t8, .slice ba lb cb, .slice bd le ce, .string ⟨l8.toArray⟩] 41)) (fun _ => True) d.Nb (.slice (some ⟨w3.heap.size, 0, none⟩) 1 1) [((c, ⟨k8, m8, u8, g8, t8, at8, da8, l8⟩), .slice ba lb cb, .slice bd le ce)] :=
        ⟨RdV.new (N := fun _ => True) 41 [.string ⟨c.toArray⟩, .int .i64 k8, .int .u32 m8, .int .u32 u8, .int .u32 g8, .int .i64 t8, .slice ba lb cb, .slice bd le ce, .string ⟨l8.toArray⟩] 9 1 _ rfl rfl (by unfold maxLen; omega) trivial, fun y hy => by
          obtain rfl : y = ((c, ⟨k8, m8, u8, g8, t8, at8, da8, l8⟩), .slice ba lb cb, .slice bd le ce) := by simpa using hy
          exact ((HNB.out.below HB4.out (fun b hb => HLT.out b (.inr (.inl hb)))).below (hal.mono HB4.out.size) (fun b hb => HLT.out b (.inr (.inl hb))))⟩
      refine arm_appMO (B := w.heap.size) hrA (Nat.le_trans hs4 hal.size) hmN (fun b hb => ⟨.inl hb, by have := HLT.out b (.inr (.inl hb)); have := hal.size; omega, fun e => by have := (hrA.lt e).1; have := HLT.out b (.inr (.inl hb)); omega⟩) (by simp) rfl rfl ?_
      intro v5 w5 hr5 hg5 hov5 hsh5
      obtain ⟨a5, c5, rfl⟩ := hsh5
      have HR5 := Keep.keep hr5
      have HB5 : Keep (Below w.heap.size w w5) := ⟨(HB4.out.trans (hal.mono HB4.out.size)).trans (hrA.chg (Nat.le_trans hs4 hal.size) hg5)⟩
      clear hr5 hg5 hov5 hmN hrA hal
      simp only [Act.put, List.setIfInBounds_toArray, List.set_cons_succ, List.set_cons_zero]
      go_wp2_with fail
      go_ret
      exact ⟨_, _, rfl, by rw [HOF2.out, h8]; rfl, HR5.out, HB5.out⟩
    have HK8 : Keep (k8 = 1) := ⟨by simpa using h8⟩
    cases h6 : (k6 == 1)
    case false =>
      have h6' : (k6 != 1) = true := by rw [bne, h6]; rfl
      have cb3 := (HRB.out.below HB3.out HRB.out.lt).cell (i := 3) rfl
      go_wp2_with fail
      refine (HUN.out w3 HB3.out).mono ?_
      rintro e w4 ⟨v4, l4, rfl, hl4, hr4, hb4⟩
      have HL4 := Keep.keep hl4
      have HR4 := Keep.keep (hr4.lower HB3.out.size (fun b hb => hb))
      have HB4 := Keep.keep (HB3.out.trans (hb4.mono HB3.out.size))
      obtain ⟨a4, c4, hv4, -⟩ := (ownsV_reads hr4.own).shape
      generalize l4.length = n4 at hv4
      clear hl4 hr4 hb4
      subst hv4
      go_wp2_with fail
      go_ret
      exact ⟨_, l4, rfl, by rw [HL4.out, HOF2.out, h8, h6]; rfl, HR4.out, HB4.out⟩
    have h6' : (k6 != 1) = false := by rw [bne, h6]; rfl
    have cw0 := (HRW.out.below HB3.out HRW.out.lt).cell (i := 0) rfl
    go_wp2_with fail
    refine (HBX.out (by first | trivial | rfl) HK8.out w3 HB3.out).mono ?_
    rintro e w4 ⟨v4, l4, rfl, hl4, hr4, hb4⟩
    have HL4 := Keep.keep hl4
    have HR4 := Keep.keep (hr4.lower HB3.out.size (fun b hb => hb))
    have HB4 := Keep.keep (HB3.out.trans (hb4.mono HB3.out.size))
    obtain ⟨a4, c4, hv4, -⟩ := (ownsV_reads hr4.own).shape
    have HN4 : Keep (l4.length = bl.length) := ⟨by rw [← hl4, List.length_map]⟩
    rw [HN4.out] at hv4
    have HR84 := Keep.keep (HR8.out.below hb4 HR8.out.lt)
    clear hl4 hr4 hb4 HR8 HR6 k80 k60 cw0
    have HR8 := HR84
    subst hv4
    obtain ⟨nbl, hnbl⟩ : ∃ n, bl.length = n := ⟨_, rfl⟩
    have HNBL := Keep.keep hnbl
    rw [hnbl] at HN4 hbl HR4
    rw [hnbl]
    clear hnbl
    by_cases hz : nbl = 0
    · have hbe : bl.isEmpty = true := by
        have := HNBL.out
        cases bl with
        | nil => rfl
        | cons a r => rw [hz] at this; cases this
      have hd0 : decide (0 < (nbl : Int)) = false := decide_eq_false (by omega)
      have hd1 : decide (0 < nbl) = false := decide_eq_false (by omega)
      clear hz
      go_wp2_with (first | ((with_reducible refine arm_loadRow HR8.out aggN HS8.out ?_ ?_); (focus rfl); simp only [Act.put, List.setIfInBounds_toArray, List.set_cons_succ, List.set_cons_zero]) | (with_reducible refine arm_stop ?_))
      refine Stopped.out ?_
      have hal : Below w4.heap.size w4 (w4.alloc (.cells #[.string ⟨c.toArray⟩, .int .i64 k8, .int .u32 m8, .int .u32 u8, .int .u32 g8, .int .i64 t8, .slice ba lb cb, .slice bd le ce, .string ⟨l8.toArray⟩] 41)) := (Below.refl _ _).alloc (Nat.le_refl _) _
      have hrA := HR4.out.below hal
      have hs4 := HB4.out.size
      have hmN : MbsO (w4.alloc (.cells #[.string ⟨c.toArray⟩, .int .i64 k8, .int .u32 m8, .int .u32 u8, .int .u32 g8, .int .i64 t8, .slice ba lb cb, .slice bd le ce, .string ⟨l8.toArray⟩] 41)) (fun _ => True) d.Nb (.slice (some ⟨w4.heap.size, 0, none⟩) 1 1) [((c, ⟨k8, m8, u8, g8, t8, at8, da8, l8⟩), .slice ba lb cb, .slice bd le ce)] :=
        ⟨RdV.new (N := fun _ => True) 41 [.string ⟨c.toArray⟩, .int .i64 k8, .int .u32 m8, .int .u32 u8, .int .u32 g8, .int .i64 t8, .slice ba lb cb, .slice bd le ce, .string ⟨l8.toArray⟩] 9 1 _ rfl rfl (by unfold maxLen; omega) trivial, fun y hy => by
          obtain rfl : y = ((c, ⟨k8, m8, u8, g8, t8, at8, da8, l8⟩), .slice ba lb cb, .slice bd le ce) := by simpa using hy
          exact ((HNB.out.below HB4.out (fun b hb => HLT.out b (.inr (.inl hb)))).below (hal.mono HB4.out.size) (fun b hb => HLT.out b (.inr (.inl hb))))⟩
      refine arm_appMO (B := w.heap.size) hrA (Nat.le_trans hs4 hal.size) hmN (fun b hb => ⟨.inl hb, by have := HLT.out b (.inr (.inl hb)); have := hal.size; omega, fun e => by have := (hrA.lt e).1; have := HLT.out b (.inr (.inl hb)); omega⟩) (by rw [HN4.out]; simp; omega) rfl rfl ?_
      intro v5 w5 hr5 hg5 hov5 hsh5
      obtain ⟨a5, c5, rfl⟩ := hsh5
      have HR5 := Keep.keep hr5
      have HB5 : Keep (Below w.heap.size w w5) := ⟨(HB4.out.trans (hal.mono HB4.out.size)).trans (hrA.chg (Nat.le_trans hs4 hal.size) hg5)⟩
      clear hr5 hg5 hov5 hmN hrA hal
      simp only [Act.put, List.setIfInBounds_toArray, List.set_cons_succ, List.set_cons_zero]
      go_wp2_with fail
      go_ret
      exact ⟨_, _, rfl, by rw [List.map_append, HL4.out, HOF2.out, h8, h6, hbe]; rfl, HR5.out, HB5.out⟩
    · have hbe : bl.isEmpty = false := by
        have := HNBL.out
        cases bl with
        | nil => exact (hz this.symm).elim
        | cons a r => rfl
      have hd0 : decide (0 < (nbl : Int)) = true := decide_eq_true (by omega)
      have hd1 : decide (0 < nbl) = true := decide_eq_true (by omega)
      clear hz
      go_wp2_with (first | ((with_reducible refine arm_loadRow HR8.out aggN HS8.out ?_ ?_); (focus rfl); simp only [Act.put, List.setIfInBounds_toArray, List.set_cons_succ, List.set_cons_zero]) | (with_reducible refine arm_stop ?_))
      refine Stopped.out ?_
      have hal : Below w4.heap.size w4 (w4.alloc (.cells #[.string ⟨c.toArray⟩, .int .i64 k8, .int .u32 m8, .int .u32 u8, .int .u32 g8, .int .i64 t8, .slice ba lb cb, .slice bd le ce, .string ⟨l8.toArray⟩] 41)) := (Below.refl _ _).alloc (Nat.le_refl _) _
      have hrA := HR4.out.below hal
      have hs4 := HB4.out.size
      have hmN : MbsO (w4.alloc (.cells #[.string ⟨c.toArray⟩, .int .i64 k8, .int .u32 m8, .int .u32 u8, .int .u32 g8, .int .i64 t8, .slice ba lb cb, .slice bd le ce, .string ⟨l8.toArray⟩] 41)) (fun _ => True) d.Nb (.slice (some ⟨w4.heap.size, 0, none⟩) 1 1) [((c, ⟨k8, m8, u8, g8, t8, at8, da8, l8⟩), .slice ba lb cb, .slice bd le ce)] :=
        ⟨RdV.new (N := fun _ => True) 41 [.string ⟨c.toArray⟩, .int .i64 k8, .int .u32 m8, .int .u32 u8, .int .u32 g8, .int .i64 t8, .slice ba lb cb, .slice bd le ce, .string ⟨l8.toArray⟩] 9 1 _ rfl rfl (by unfold maxLen; omega) trivial, fun y hy => by
          obtain rfl : y = ((c, ⟨k8, m8, u8, g8, t8, at8, da8, l8⟩), .slice ba lb cb, .slice bd le ce) := by simpa using hy
          exact ((HNB.out.below HB4.out (fun b hb => HLT.out b (.inr (.inl hb)))).below (hal.mono HB4.out.size) (fun b hb => HLT.out b (.inr (.inl hb))))⟩
      refine arm_appMO (B := w.heap.size) hrA (Nat.le_trans hs4 hal.size) hmN (fun b hb => ⟨.inl hb, by have := HLT.out b (.inr (.inl hb)); have := hal.size; omega, fun e => by have := (hrA.lt e).1; have := HLT.out b (.inr (.inl hb)); omega⟩) (by rw [HN4.out]; simp; omega) rfl rfl ?_
      intro v5 w5 hr5 hg5 hov5 hsh5
      obtain ⟨a5, c5, rfl⟩ := hsh5
      have HR5 := Keep.keep hr5
      have HB5 : Keep (Below w.heap.size w w5) := ⟨(HB4.out.trans (hal.mono HB4.out.size)).trans (hrA.chg (Nat.le_trans hs4 hal.size) hg5)⟩
      clear hr5 hg5 hov5 hmN hrA hal
      simp only [Act.put, List.setIfInBounds_toArray, List.set_cons_succ, List.set_cons_zero]
      go_wp2_with fail
      go_ret
      exact ⟨_, _, rfl, by rw [List.map_append, HL4.out, HOF2.out, h8, h6, hbe]; rfl, HR5.out, HB5.out⟩
  case true =>
    go_wp2_with (first | ((with_reducible refine arm_loadRowG ?_ HR6.out aggN HS6.out ?_ ?_); (focus rfl); (focus rfl); simp only [Act.put, List.setIfInBounds_toArray, List.set_cons_succ, List.set_cons_zero]) | ((with_reducible refine arm_loadRowG ?_ HR8.out aggN HS8.out ?_ ?_); (focus rfl); (focus rfl); simp only [Act.put, List.setIfInBounds_toArray, List.set_cons_succ, List.set_cons_zero]))
    refine (HSA.out w2 HW2.out).mono ?_
    rintro e w2' ⟨⟨r, rfl, hr⟩, hb2⟩
    have hrs : r = sm := by
      have h1 := HSM.out
      rw [HA.out] at h1
      rw [Bool.eq_iff_iff, hr, h1]
      simp
    subst hrs
    have HW2' := Keep.keep (HW2.out.trans (hb2.mono HW2.out.size))
    have HR6' := Keep.keep (HR6.out.below hb2 HR6.out.lt)
    have HR8' := Keep.keep (HR8.out.below hb2 HR8.out.lt)
    clear hb2 hr HW2 HR6 HR8 H2
    have HW2 := HW2'
    have HR6 := HR6'
    have HR8 := HR8'
    have H2 := HW2
    clear HW2' HR6' HR8'
    cases r
    case false =>
      go_upto_region 4 with fail
      refine wp_world (R := fun w3 => Below w.heap.size w w3 ∧ Row w3 w.heap.size 39 #[.int .i64 k6, .int .u32 m6, .int .u32 u6, .int .u32 g6, .int .i64 t6, .slice aa la ca, .slice ad ld cd, .string ⟨l6.toArray⟩] ∧ Row w3 b8 39 #[.int .i64 k8, .int .u32 m8, .int .u32 u8, .int .u32 g8, .int .i64 t8, .slice ba lb cb, .slice bd le ce, .string ⟨l8.toArray⟩]) ⟨HW2.out, HR6.out, HR8.out⟩ ?_
      intro w3 H3
      clear HW2 HR6 HR8 H2
      have HB3 := Keep.keep H3.out.1
      have HR6 := Keep.keep H3.out.2.1
      have HR8 := Keep.keep H3.out.2.2
      clear H3
      cases isB
      case false =>
        go_wp2_with fail
        refine (HWH.out w3 HB3.out).mono ?_
        rintro e w4 ⟨rfl, hb4⟩
        have HB4 := Keep.keep (HB3.out.trans (hb4.mono HB3.out.size))
        clear hb4
        go_wp2_with fail
        go_ret
        have hone := RowO.one (K := d.Nb) (x := ((whM c, nilV, nilV) : Mv)) w.heap.size HB4.out.size (ndO_nil (by unfold whM signM; split <;> rfl) (by unfold whM signM; split <;> rfl))
        have hmc : mcell ((whM c, nilV, nilV) : Mv) = #[.string ⟨qw.toArray⟩, .int .i64 kw, .int .u32 0, .int .u32 0, .int .u32 0, .int .i64 0, .slice none 0 0, .slice none 0 0, .string ⟨#[]⟩] := HQW.out
        rw [hmc] at hone
        exact ⟨_, [((whM c, nilV, nilV) : Mv)], rfl, by rw [HOF2.out]; rfl, hone, HB4.out.alloc HB4.out.size _⟩
      have k80 := HR8.out.cell (i := 0) rfl
      have k60 := HR6.out.cell (i := 0) rfl
      cases h8 : (k8 == 1)
      case false =>
        have HR4 : Keep (RowO w.heap.size d.Nb w3 (.slice none 0 0) []) := ⟨RowO.nil _ _ _⟩
        obtain ⟨w4, hw4⟩ : ∃ w4, w3 = w4 := ⟨_, rfl⟩
        subst hw4
        have HB4 := HB3
        go_wp2_with (first | ((with_reducible refine arm_loadRow HR8.out aggN HS8.out ?_ ?_); (focus rfl); simp only [Act.put, List.setIfInBounds_toArray, List.set_cons_succ, List.set_cons_zero]) | (with_reducible refine arm_stop ?_))
        refine Stopped.out ?_
        have hal : Below w3.heap.size w3 (w3.alloc (.cells #[.string ⟨c.toArray⟩, .int .i64 k8, .int .u32 m8, .int .u32 u8, .int .u32 g8, .int .i64 t8, .slice ba lb cb, .slice bd le ce, .string ⟨l8.toArray⟩] 41)) := (Below.refl _ _).alloc (Nat.le_refl _) _
        have hrA := HR4.out.below hal
        have hs4 := HB4.out.size
        have hmN : MbsO (w3.alloc (.cells #[.string ⟨c.toArray⟩, .int .i64 k8, .int .u32 m8, .int .u32 u8, .int .u32 g8, .int .i64 t8, .slice ba lb cb, .slice bd le ce, .string ⟨l8.toArray⟩] 41)) (fun _ => True) d.Nb (.slice (some ⟨w3.heap.size, 0, none⟩) 1 1) [((c, ⟨k8, m8, u8, g8, t8, at8, da8, l8⟩), .slice ba lb cb, .slice bd le ce)] :=
          ⟨RdV.new (N := fun _ => True) 41 [.string ⟨c.toArray⟩, .int .i64 k8, .int .u32 m8, .int .u32 u8, .int .u32 g8, .int .i64 t8, .slice ba lb cb, .slice bd le ce, .string ⟨l8.toArray⟩] 9 1 _ rfl rfl (by unfold maxLen; omega) trivial, fun y hy => by
            obtain rfl : y = ((c, ⟨k8, m8, u8, g8, t8, at8, da8, l8⟩), .slice ba lb cb, .slice bd le ce) := by simpa using hy
            exact ((HNB.out.below HB4.out (fun b hb => HLT.out b (.inr (.inl hb)))).below (hal.mono HB4.out.size) (fun b hb => HLT.out b (.inr (.inl hb))))⟩
        refine arm_appMO (B := w.heap.size) hrA (Nat.le_trans hs4 hal.size) hmN (fun b hb => ⟨.inl hb, by have := HLT.out b (.inr (.inl hb)); have := hal.size; omega, fun e => by have := (hrA.lt e).1; have := HLT.out b (.inr (.inl hb)); omega⟩) (by simp) rfl rfl ?_
        intro v5 w5 hr5 hg5 hov5 hsh5
        obtain ⟨a5, c5, rfl⟩ := hsh5
        have HR5 := Keep.keep hr5
        have HB5 : Keep (Below w.heap.size w w5) := ⟨(HB4.out.trans (hal.mono HB4.out.size)).trans (hrA.chg (Nat.le_trans hs4 hal.size) hg5)⟩
        clear hr5 hg5 hov5 hmN hrA hal
        simp only [Act.put, List.setIfInBounds_toArray, List.set_cons_succ, List.set_cons_zero]
        go_wp2_with fail
        go_ret
        exact ⟨_, _, rfl, by rw [HOF2.out, h8]; rfl, HR5.out, HB5.out⟩
      have HK8 : Keep (k8 = 1) := ⟨by simpa using h8⟩
      cases h6 : (k6 == 1)
      case false =>
        have h6' : (k6 != 1) = true := by rw [bne, h6]; rfl
        have cb3 := (HRB.out.below HB3.out HRB.out.lt).cell (i := 3) rfl
        go_wp2_with fail
        refine (HUN.out w3 HB3.out).mono ?_
        rintro e w4 ⟨v4, l4, rfl, hl4, hr4, hb4⟩
        have HL4 := Keep.keep hl4
        have HR4 := Keep.keep (hr4.lower HB3.out.size (fun b hb => hb))
        have HB4 := Keep.keep (HB3.out.trans (hb4.mono HB3.out.size))
        obtain ⟨a4, c4, hv4, -⟩ := (ownsV_reads hr4.own).shape
        generalize l4.length = n4 at hv4
        clear hl4 hr4 hb4
        subst hv4
        go_wp2_with fail
        go_ret
        exact ⟨_, l4, rfl, by rw [HL4.out, HOF2.out, h8, h6]; rfl, HR4.out, HB4.out⟩
      have h6' : (k6 != 1) = false := by rw [bne, h6]; rfl
      have cw0 := (HRW.out.below HB3.out HRW.out.lt).cell (i := 0) rfl
      go_wp2_with fail
      refine (HBX.out (by first | trivial | rfl) HK8.out w3 HB3.out).mono ?_
      rintro e w4 ⟨v4, l4, rfl, hl4, hr4, hb4⟩
      have HL4 := Keep.keep hl4
      have HR4 := Keep.keep (hr4.lower HB3.out.size (fun b hb => hb))
      have HB4 := Keep.keep (HB3.out.trans (hb4.mono HB3.out.size))
      obtain ⟨a4, c4, hv4, -⟩ := (ownsV_reads hr4.own).shape
      have HN4 : Keep (l4.length = bl.length) := ⟨by rw [← hl4, List.length_map]⟩
      rw [HN4.out] at hv4
      have HR84 := Keep.keep (HR8.out.below hb4 HR8.out.lt)
      clear hl4 hr4 hb4 HR8 HR6 k80 k60 cw0
      have HR8 := HR84
      subst hv4
      obtain ⟨nbl, hnbl⟩ : ∃ n, bl.length = n := ⟨_, rfl⟩
      have HNBL := Keep.keep hnbl
      rw [hnbl] at HN4 hbl HR4
      rw [hnbl]
      clear hnbl
      by_cases hz : nbl = 0
      · have hbe : bl.isEmpty = true := by
          have := HNBL.out
          cases bl with
          | nil => rfl
          | cons a r => rw [hz] at this; cases this
        have hd0 : decide (0 < (nbl : Int)) = false := decide_eq_false (by omega)
        have hd1 : decide (0 < nbl) = false := decide_eq_false (by omega)
        clear hz
        go_wp2_with (first | ((with_reducible refine arm_loadRow HR8.out aggN HS8.out ?_ ?_); (focus rfl); simp only [Act.put, List.setIfInBounds_toArray, List.set_cons_succ, List.set_cons_zero]) | (with_reducible refine arm_stop ?_))
        refine Stopped.out ?_
        have hal : Below w4.heap.size w4 (w4.alloc (.cells #[.string ⟨c.toArray⟩, .int .i64 k8, .int .u32 m8, .int .u32 u8, .int .u32 g8, .int .i64 t8, .slice ba lb cb, .slice bd le ce, .string ⟨l8.toArray⟩] 41)) := (Below.refl _ _).alloc (Nat.le_refl _) _
        have hrA := HR4.out.below hal
        have hs4 := HB4.out.size
        have hmN : MbsO (w4.alloc (.cells #[.string ⟨c.toArray⟩, .int .i64 k8, .int .u32 m8, .int .u32 u8, .int .u32 g8, .int .i64 t8, .slice ba lb cb, .slice bd le ce, .string ⟨l8.toArray⟩] 41)) (fun _ => True) d.Nb (.slice (some ⟨w4.heap.size, 0, none⟩) 1 1) [((c, ⟨k8, m8, u8, g8, t8, at8, da8, l8⟩), .slice ba lb cb, .slice bd le ce)] :=
          ⟨RdV.new (N := fun _ => True) 41 [.string ⟨c.toArray⟩, .int .i64 k8, .int .u32 m8, .int .u32 u8, .int .u32 g8, .int .i64 t8, .slice ba lb cb, .slice bd le ce, .string ⟨l8.toArray⟩] 9 1 _ rfl rfl (by unfold maxLen; omega) trivial, fun y hy => by
            obtain rfl : y = ((c, ⟨k8, m8, u8, g8, t8, at8, da8, l8⟩), .slice ba lb cb, .slice bd le ce) := by simpa using hy
            exact ((HNB.out.below HB4.out (fun b hb => HLT.out b (.inr (.inl hb)))).below (hal.mono HB4.out.size) (fun b hb => HLT.out b (.inr (.inl hb))))⟩
        refine arm_appMO (B := w.heap.size) hrA (Nat.le_trans hs4 hal.size) hmN (fun b hb => ⟨.inl hb, by have := HLT.out b (.inr (.inl hb)); have := hal.size; omega, fun e => by have := (hrA.lt e).1; have := HLT.out b (.inr (.inl hb)); omega⟩) (by rw [HN4.out]; simp; omega) rfl rfl ?_
        intro v5 w5 hr5 hg5 hov5 hsh5
        obtain ⟨a5, c5, rfl⟩ := hsh5
        have HR5 := Keep.keep hr5
        have HB5 : Keep (Below w.heap.size w w5) := ⟨(HB4.out.trans (hal.mono HB4.out.size)).trans (hrA.chg (Nat.le_trans hs4 hal.size) hg5)⟩
        clear hr5 hg5 hov5 hmN hrA hal
        simp only [Act.put, List.setIfInBounds_toArray, List.set_cons_succ, List.set_cons_zero]
        go_wp2_with fail
        go_ret
        exact ⟨_, _, rfl, by rw [List.map_append, HL4.out, HOF2.out, h8, h6, hbe]; rfl, HR5.out, HB5.out⟩
      · have hbe : bl.isEmpty = false := by
          have := HNBL.out
          cases bl with
          | nil => exact (hz this.symm).elim
          | cons a r => rfl
        have hd0 : decide (0 < (nbl : Int)) = true := decide_eq_true (by omega)
        have hd1 : decide (0 < nbl) = true := decide_eq_true (by omega)
        clear hz
        go_wp2_with (first | ((with_reducible refine arm_loadRow HR8.out aggN HS8.out ?_ ?_); (focus rfl); simp only [Act.put, List.setIfInBounds_toArray, List.set_cons_succ, List.set_cons_zero]) | (with_reducible refine arm_stop ?_))
        refine Stopped.out ?_
        have hal : Below w4.heap.size w4 (w4.alloc (.cells #[.string ⟨c.toArray⟩, .int .i64 k8, .int .u32 m8, .int .u32 u8, .int .u32 g8, .int .i64 t8, .slice ba lb cb, .slice bd le ce, .string ⟨l8.toArray⟩] 41)) := (Below.refl _ _).alloc (Nat.le_refl _) _
        have hrA := HR4.out.below hal
        have hs4 := HB4.out.size
        have hmN : MbsO (w4.alloc (.cells #[.string ⟨c.toArray⟩, .int .i64 k8, .int .u32 m8, .int .u32 u8, .int .u32 g8, .int .i64 t8, .slice ba lb cb, .slice bd le ce, .string ⟨l8.toArray⟩] 41)) (fun _ => True) d.Nb (.slice (some ⟨w4.heap.size, 0, none⟩) 1 1) [((c, ⟨k8, m8, u8, g8, t8, at8, da8, l8⟩), .slice ba lb cb, .slice bd le ce)] :=
          ⟨RdV.new (N := fun _ => True) 41 [.string ⟨c.toArray⟩, .int .i64 k8, .int .u32 m8, .int .u32 u8, .int .u32 g8, .int .i64 t8, .slice ba lb cb, .slice bd le ce, .string ⟨l8.toArray⟩] 9 1 _ rfl rfl (by unfold maxLen; omega) trivial, fun y hy => by
            obtain rfl : y = ((c, ⟨k8, m8, u8, g8, t8, at8, da8, l8⟩), .slice ba lb cb, .slice bd le ce) := by simpa using hy
            exact ((HNB.out.below HB4.out (fun b hb => HLT.out b (.inr (.inl hb)))).below (hal.mono HB4.out.size) (fun b hb => HLT.out b (.inr (.inl hb))))⟩
        refine arm_appMO (B := w.heap.size) hrA (Nat.le_trans hs4 hal.size) hmN (fun b hb => ⟨.inl hb, by have := HLT.out b (.inr (.inl hb)); have := hal.size; omega, fun e => by have := (hrA.lt e).1; have := HLT.out b (.inr (.inl hb)); omega⟩) (by rw [HN4.out]; simp; omega) rfl rfl ?_
        intro v5 w5 hr5 hg5 hov5 hsh5
        obtain ⟨a5, c5, rfl⟩ := hsh5
        have HR5 := Keep.keep hr5
        have HB5 : Keep (Below w.heap.size w w5) := ⟨(HB4.out.trans (hal.mono HB4.out.size)).trans (hrA.chg (Nat.le_trans hs4 hal.size) hg5)⟩
        clear hr5 hg5 hov5 hmN hrA hal
        simp only [Act.put, List.setIfInBounds_toArray, List.set_cons_succ, List.set_cons_zero]
        go_wp2_with fail
        go_ret
        exact ⟨_, _, rfl, by rw [List.map_append, HL4.out, HOF2.out, h8, h6, hbe]; rfl, HR5.out, HB5.out⟩
    case true =>
      go_upto_region 4 with fail
      refine wp_world (R := fun w3 => Below w.heap.size w w3 ∧ Row w3 w.heap.size 39 #[.int .i64 k6, .int .u32 m6, .int .u32 u6, .int .u32 g6, .int .i64 t6, .slice aa la ca, .slice ad ld cd, .string ⟨l6.toArray⟩] ∧ Row w3 b8 39 #[.int .i64 k8, .int .u32 m8, .int .u32 u8, .int .u32 g8, .int .i64 t8, .slice ba lb cb, .slice bd le ce, .string ⟨l8.toArray⟩]) ⟨HW2.out, HR6.out, HR8.out⟩ ?_
      intro w3 H3
      clear HW2 HR6 HR8 H2
      have HB3 := Keep.keep H3.out.1
      have HR6 := Keep.keep H3.out.2.1
      have HR8 := Keep.keep H3.out.2.2
      clear H3
      cases isB
      case false =>
        go_wp2_with fail
        refine (HWH.out w3 HB3.out).mono ?_
        rintro e w4 ⟨rfl, hb4⟩
        have HB4 := Keep.keep (HB3.out.trans (hb4.mono HB3.out.size))
        clear hb4
        go_wp2_with fail
        go_ret
        have hone := RowO.one (K := d.Nb) (x := ((whM c, nilV, nilV) : Mv)) w.heap.size HB4.out.size (ndO_nil (by unfold whM signM; split <;> rfl) (by unfold whM signM; split <;> rfl))
        have hmc : mcell ((whM c, nilV, nilV) : Mv) = #[.string ⟨qw.toArray⟩, .int .i64 kw, .int .u32 0, .int .u32 0, .int .u32 0, .int .i64 0, .slice none 0 0, .slice none 0 0, .string ⟨#[]⟩] := HQW.out
        rw [hmc] at hone
        exact ⟨_, [((whM c, nilV, nilV) : Mv)], rfl, by rw [HOF2.out]; rfl, hone, HB4.out.alloc HB4.out.size _⟩
      have k80 := HR8.out.cell (i := 0) rfl
      have k60 := HR6.out.cell (i := 0) rfl
      cases h8 : (k8 == 1)
      case false =>
        go_wp2_with fail
        go_ret
        exact ⟨_, [], rfl, by rw [HOF2.out, h8]; rfl, RowO.nil _ _ _, HB3.out⟩
      have HK8 : Keep (k8 = 1) := ⟨by simpa using h8⟩
      cases h6 : (k6 == 1)
      case false =>
        have h6' : (k6 != 1) = true := by rw [bne, h6]; rfl
        have cb3 := (HRB.out.below HB3.out HRB.out.lt).cell (i := 3) rfl
        go_wp2_with fail
        refine (HUN.out w3 HB3.out).mono ?_
        rintro e w4 ⟨v4, l4, rfl, hl4, hr4, hb4⟩
        have HL4 := Keep.keep hl4
        have HR4 := Keep.keep (hr4.lower HB3.out.size (fun b hb => hb))
        have HB4 := Keep.keep (HB3.out.trans (hb4.mono HB3.out.size))
        obtain ⟨a4, c4, hv4, -⟩ := (ownsV_reads hr4.own).shape
        generalize l4.length = n4 at hv4
        clear hl4 hr4 hb4
        subst hv4
        go_wp2_with fail
        go_ret
        exact ⟨_, l4, rfl, by rw [HL4.out, HOF2.out, h8, h6]; rfl, HR4.out, HB4.out⟩
      have h6' : (k6 != 1) = false := by rw [bne, h6]; rfl
      have cw0 := (HRW.out.below HB3.out HRW.out.lt).cell (i := 0) rfl
      go_wp2_with fail
      refine (HBX.out (by first | trivial | rfl) HK8.out w3 HB3.out).mono ?_
      rintro e w4 ⟨v4, l4, rfl, hl4, hr4, hb4⟩
      have HL4 := Keep.keep hl4
      have HR4 := Keep.keep (hr4.lower HB3.out.size (fun b hb => hb))
      have HB4 := Keep.keep (HB3.out.trans (hb4.mono HB3.out.size))
      obtain ⟨a4, c4, hv4, -⟩ := (ownsV_reads hr4.own).shape
      have HN4 : Keep (l4.length = bl.length) := ⟨by rw [← hl4, List.length_map]⟩
      rw [HN4.out] at hv4
      have HR84 := Keep.keep (HR8.out.below hb4 HR8.out.lt)
      clear hl4 hr4 hb4 HR8 HR6 k80 k60 cw0
      have HR8 := HR84
      subst hv4
      obtain ⟨nbl, hnbl⟩ : ∃ n, bl.length = n := ⟨_, rfl⟩
      have HNBL := Keep.keep hnbl
      rw [hnbl] at HN4 hbl HR4
      rw [hnbl]
      clear hnbl
      by_cases hz : nbl = 0
      · have hbe : bl.isEmpty = true := by
          have := HNBL.out
          cases bl with
          | nil => rfl
          | cons a r => rw [hz] at this; cases this
        have hd0 : decide (0 < (nbl : Int)) = false := decide_eq_false (by omega)
        have hd1 : decide (0 < nbl) = false := decide_eq_false (by omega)
        clear hz
        go_wp2_with fail
        go_ret
        exact ⟨_, l4, rfl, by rw [HL4.out, HOF2.out, h8, h6, hbe]; rfl, HR4.out, HB4.out⟩
      · have hbe : bl.isEmpty = false := by
          have := HNBL.out
          cases bl with
          | nil => exact (hz this.symm).elim
          | cons a r => rfl
        have hd0 : decide (0 < (nbl : Int)) = true := decide_eq_true (by omega)
        have hd1 : decide (0 < nbl) = true := decide_eq_true (by omega)
        clear hz
        go_wp2_with (first | ((with_reducible refine arm_loadRow HR8.out aggN HS8.out ?_ ?_); (focus rfl); simp only [Act.put, List.setIfInBounds_toArray, List.set_cons_succ, List.set_cons_zero]) | (with_reducible refine arm_stop ?_))
        refine Stopped.out ?_
        have hal : Below w4.heap.size w4 (w4.alloc (.cells #[.string ⟨c.toArray⟩, .int .i64 k8, .int .u32 m8, .int .u32 u8, .int .u32 g8, .int .i64 t8, .slice ba lb cb, .slice bd le ce, .string ⟨l8.toArray⟩] 41)) := (Below.refl _ _).alloc (Nat.le_refl _) _
        have hrA := HR4.out.below hal
        have hs4 := HB4.out.size
        have hmN : MbsO (w4.alloc (.cells #[.string ⟨c.toArray⟩, .int .i64 k8, .int .u32 m8, .int .u32 u8, .int .u32 g8, .int .i64 t8, .slice ba lb cb, .slice bd le ce, .string ⟨l8.toArray⟩] 41)) (fun _ => True) d.Nb (.slice (some ⟨w4.heap.size, 0, none⟩) 1 1) [((c, ⟨k8, m8, u8, g8, t8, at8, da8, l8⟩), .slice ba lb cb, .slice bd le ce)] :=
          ⟨RdV.new (N := fun _ => True) 41 [.string ⟨c.toArray⟩, .int .i64 k8, .int .u32 m8, .int .u32 u8, .int .u32 g8, .int .i64 t8, .slice ba lb cb, .slice bd le ce, .string ⟨l8.toArray⟩] 9 1 _ rfl rfl (by unfold maxLen; omega) trivial, fun y hy => by
            obtain rfl : y = ((c, ⟨k8, m8, u8, g8, t8, at8, da8, l8⟩), .slice ba lb cb, .slice bd le ce) := by simpa using hy
            exact ((HNB.out.below HB4.out (fun b hb => HLT.out b (.inr (.inl hb)))).below (hal.mono HB4.out.size) (fun b hb => HLT.out b (.inr (.inl hb))))⟩
        refine arm_appMO (B := w.heap.size) hrA (Nat.le_trans hs4 hal.size) hmN (fun b hb => ⟨.inl hb, by have := HLT.out b (.inr (.inl hb)); have := hal.size; omega, fun e => by have := (hrA.lt e).1; have := HLT.out b (.inr (.inl hb)); omega⟩) (by rw [HN4.out]; simp; omega) rfl rfl ?_
        intro v5 w5 hr5 hg5 hov5 hsh5
        obtain ⟨a5, c5, rfl⟩ := hsh5
        have HR5 := Keep.keep hr5
        have HB5 : Keep (Below w.heap.size w w5) := ⟨(HB4.out.trans (hal.mono HB4.out.size)).trans (hrA.chg (Nat.le_trans hs4 hal.size) hg5)⟩
        clear hr5 hg5 hov5 hmN hrA hal
        simp only [Act.put, List.setIfInBounds_toArray, List.set_cons_succ, List.set_cons_zero]
        go_wp2_with fail
        go_ret
        exact ⟨_, _, rfl, by rw [List.map_append, HL4.out, HOF2.out, h8, h6, hbe]; rfl, HR5.out, HB5.out⟩
end Go.Proofs.YtmnknmpfkjhgbaaGreatDoor
/- As in MbDel, with nodes whose slices are rows of their types (printed by gen_o.py). -/
namespace Go.Proofs.YtmnknmpfkjhgbaaGreatDoor
open Go.RowKit
set_option maxHeartbeats 4000000 in
set_option maxRecDepth 100000 in
theorem dfuncMO (F : FuncId) (cs : Array Value) (p : Mb → Bool) (v : Value) (l : List Mv) (base : Nat) (K : Nat → Prop) (w : World) (hent : ∀ args w, (callFunc F args).run Tryz.prog w = .ok (.enter F args) w) (_hB : base ≤ w.heap.size) (hl : l.length ≤ 1000000000000)
    (hf : ∀ wx, Chg (fun b => v.ownBlock = some b) w.heap.size w wx → ∀ x ∈ l, Calls Tryz.prog F (#[.agg (mcell x)] ++ cs) wx fun e w' => e = .returned (.bool (p x.1)) ∧ Below wx.heap.size wx w') (h : RowO base K w v l) :
    Calls Tryz.prog 92 #[v, .func (.func F) #[] cs] w fun e w' => ∃ v', e = .returned v' ∧ RowO base K w' v' (l.filter fun x => !p x.1) ∧ v'.ownBlock = v.ownBlock ∧ Chg (fun b => v.ownBlock = some b) w.heap.size w w' := by
  have HI := Keep.keep (ifuncM F cs p v l w hent (fun wx hb x hx => hf wx (.of_below hb) x hx) (h.mbs.mono (fun b hb => hb.2) (fun b hb => hb.2.1)))
  have HF := Keep.keep hf
  have HM := Keep.keep h
  obtain ⟨hlen, hcase⟩ := h.own
  have HCASE := Keep.keep hcase
  clear hf hlen hcase
  by_cases hall : ∀ x ∈ l, p x.1 = false
  · have hi : idxM p l = -1 := idxM_none (fun j hj => hall _ (List.getElem_mem hj))
    have hfl : (l.filter fun x => !p x.1) = l := List.filter_eq_self.2 (fun x hx => by simp [hall x hx])
    obtain ⟨a, cap, rfl, -⟩ := (ownsV_reads HM.out.own).shape
    rw [hi] at HI
    rw [hfl]
    clear hi hfl hall h
    go_enter Tryz.func92, Tryz.ntmps92
    go_wp2_with fail
    refine HI.out.mono ?_
    rintro e w1 ⟨rfl, hb⟩
    have HB := Keep.keep hb
    clear hb
    go_wp2_with fail
    go_ret
    exact ⟨_, rfl, HM.out.below HB.out, rfl, .of_below HB.out⟩
  · obtain ⟨i, hi, hpi, hno⟩ : ∃ i, ∃ h : i < l.length, p l[i].1 = true ∧ ∀ j, (hj : j < i) → p (l[j]'(by omega)).1 = false := by
      cases hx : l.findIdx? (fun x => p x.1) with
      | none => exact absurd (fun x hx' => by simpa using List.findIdx?_eq_none_iff.1 hx x hx') hall
      | some i =>
        obtain ⟨h1, h2, h3⟩ := List.findIdx?_eq_some_iff_getElem.1 hx
        exact ⟨i, h1, h2, fun j hj => by simpa using h3 j hj⟩
    have hidx := idxM_hit hi hpi hno
    rw [hidx] at HI
    rcases HCASE.out with ⟨_, h0⟩ | ⟨g, cap, cur, rfl, hbase, hrow, hn, hmx, hsz, htk⟩
    · omega
    have hkp : kpM p l i = l.take i := by
      unfold kpM
      rw [List.filter_eq_self]
      intro x hx
      obtain ⟨j, hj, rfl⟩ := List.mem_iff_getElem.1 hx
      rw [List.length_take] at hj
      simp [hno j (by omega)]
    have hkl : (kpM p l i).length = i := by rw [hkp, List.length_take]; omega
    have hk1 := kpM_succ p l i hi
    rw [if_pos hpi] at hk1
    have HDF : Keep (DFM p l l (i + 1)) := ⟨⟨rfl, by rw [hk1, hkl, hkp], fun m _ _ => rfl⟩⟩
    have HKL : Keep ((kpM p l (i + 1)).length = i) := ⟨by rw [hk1]; exact hkl⟩
    have HTOT : Keep ((kpM p l l.length).length < l.length) := ⟨by
      rw [kpM_all]
      refine Nat.lt_of_le_of_ne (List.length_filter_le _ _) (fun e => ?_)
      have := List.length_filter_eq_length_iff.1 e l[i] (List.getElem_mem hi)
      simp [hpi] at this⟩
    have HGW : Keep (base ≤ g ∧ g < w.heap.size ∧ l.length ≤ cap ∧ cap ≤ maxLen) := ⟨hbase, (Array.getElem?_eq_some_iff.1 hrow).1, hn, hmx⟩
    unfold maxLen at hmx
    clear hidx hpi hno hall hkp hkl hk1 hsz htk hrow hbase HCASE h cur
    have hbig : l.length ≤ 9223372036854775807 := by omega
    go_enter Tryz.func92, Tryz.ntmps92
    go_wp2_with fail
    refine HI.out.mono ?_
    rintro e w1 ⟨rfl, hb⟩
    have HB := Keep.keep hb
    clear hb HI
    have hne : ((i : Int) == -1) = false := by rw [beq_eq_false_iff_ne]; omega
    go_wp2_with fail
    go_loopg [5, 6] (l.length - (i + 1)) (fun q u5 u6 wx => ∃ (j : Nat) (ls : List Mv), j + q = l.length ∧ u6 = .int .i64 (j : Int) ∧ u5 = .int .i64 ((kpM p l j).length : Int) ∧ wx.ownsRow base 41 9 (.slice (some ⟨g, 0, none⟩) l.length cap) l.length (mcells ls) ∧ DFM p l ls j ∧ Chg (fun b => b = g) w.heap.size w wx)
    case atStart => exact ⟨i + 1, l, by omega, by simp, by rw [HKL.out], (HM.out.below HB.out).own, HDF.out, .of_below HB.out⟩
    case round =>
      obtain ⟨j, ls, hjq, rfl, rfl, hown, hdf, hch⟩ := hrel
      have HO := Keep.keep hown; have HD := Keep.keep hdf; have HC := Keep.keep hch
      have hle := kpM_le p l j
      clear hown hdf hch
      cases gk with
      | zero =>
        obtain rfl : j = l.length := by omega
        have HFL : Keep (kpM p l l.length = l.filter fun x => !p x.1) := ⟨kpM_all p l⟩
        have htot := HTOT.out
        generalize hkk : (kpM p l l.length).length = i2 at *
        have HKK := Keep.keep hkk
        have hsz := HD.out.sz
        have hsl := slice_mfrom_at g l.length cap i2 (by omega) HGW.out.2.2.1 (by have := HGW.out.2.2.1; omega) wr
        obtain ⟨zs, hzl, hcl⟩ := run_clear_mbs wr g (i2 * 9) (l.length - i2) (cap - i2) (by omega) (fun m hm => by
          rw [HO.out.cellAt _ (by omega), List.getElem?_eq_getElem (by rw [mcells_length]; omega)]; rfl) (fun m hm => HO.out.frozenAt _)
        have hown2 := owns_setCells zs _ wr (i2 * 9) HO.out
        have hown3 := owns_take (k := i2) hown2.1 (by omega) (by rw [layAt_take _ _ _ (by rw [mcells_length]; omega), ← mcells_take, ← HKK.out, HD.out.pre])
        have HO3 := Keep.keep hown3
        have HC3 : Keep (Chg (fun b => b = g) w.heap.size w (wr.setCells g (i2 * 9) zs)) := ⟨HC.out.trans (((chg_grown hown2.2).mono (Nat.le_refl _) (fun b e => by injection e with e; exact e.symm)).lower HC.out.size)⟩
        clear hown2 hown3 hzl hkk hsz
        generalize wr.setCells g (i2 * 9) zs = w9 at *
        have hst := slice_mto (some ⟨g, 0, none⟩) l.length cap i2 .i64 (by have := HGW.out.2.2.1; omega) w9
        go_wp2_with fail
        go_ret
        refine ⟨_, rfl, ⟨?_, fun x hx => ?_⟩, rfl, HC3.out.mono (Nat.le_refl _) (fun b hb => by rw [hb]; rfl)⟩
        · rw [← HFL.out, HKK.out]; exact HO3.out
        · have hx2 := (List.mem_filter.1 hx).1
          refine ((HM.out.nd x hx2).loc (fun b e => HC3.out.block b e.2.1 (fun e2 => e.2.2 (by rw [e2]; rfl)))).mono (fun b e => ⟨e.1, Nat.lt_of_lt_of_le e.2.1 HC3.out.size, e.2.2⟩)
      | succ q =>
        have hj : j < l.length := by omega
        have hlj : ls[j]? = some l[j] := by rw [HD.out.post j (Nat.le_refl _) hj, List.getElem?_eq_getElem hj]
        have hld := own_loadAt HO.out HD.out.sz.symm hlj
        have HCF := Keep.keep (fun wx (hc : Chg (fun b => (Value.slice (some ⟨g, 0, none⟩) l.length cap).ownBlock = some b) w.heap.size w wx) => HF.out wx hc l[j] (List.getElem_mem hj))
        have HSK := Keep.keep (fun h => HD.out.skip hj h)
        have HPU := Keep.keep (fun h => HD.out.put hj h)
        have HK1 := Keep.keep (kpM_succ p l j hj)
        have HND := Keep.keep (HM.out.nd l[j] (List.getElem_mem hj))
        have HKT : Keep ((kpM p l j).length < l.length) := ⟨by omega⟩
        generalize hkk : (kpM p l j).length = k at *
        have HKK := Keep.keep hkk
        clear hkk hlj
        generalize p l[j].1 = pk at *
        generalize l[j] = x at *
        have HONE := Keep.keep (mcell_one HND.out.r)
        obtain ⟨⟨xp, ⟨kind, mode, uid, gid, time, attrs, data, link⟩⟩, av, dv⟩ := x
        obtain ⟨aa, la, ca, ad, ld, cd, e1, e2⟩ := HND.out.r.shape
        dsimp only at e1 e2
        subst e1 e2
        have HMC : Keep (mcell (((xp, ⟨kind, mode, uid, gid, time, attrs, data, link⟩), .slice aa la ca, .slice ad ld cd) : Mv) = #[.string ⟨xp.toArray⟩, .int .i64 kind, .int .u32 mode, .int .u32 uid, .int .u32 gid, .int .i64 time, .slice aa la ca, .slice ad ld cd, .string ⟨link.toArray⟩]) := ⟨rfl⟩
        have HSZ : Keep ((#[.string ⟨xp.toArray⟩, .int .i64 kind, .int .u32 mode, .int .u32 uid, .int .u32 gid, .int .i64 time, .slice aa la ca, .slice ad ld cd, .string ⟨link.toArray⟩] : Array Value).size = 9) := ⟨rfl⟩
        rw [HMC.out] at hld HCF
        clear HND
        go_upto_region 8 with ((with_reducible refine arm_loadM hld ?_ ?_); (focus rfl); simp only [Act.put, List.setIfInBounds_toArray, List.set_cons_succ, List.set_cons_zero])
        refine wp_world (R := fun wq => Hp NoM wr wq [rowA wr.heap.size 41 #[.string ⟨xp.toArray⟩, .int .i64 kind, .int .u32 mode, .int .u32 uid, .int .u32 gid, .int .i64 time, .slice aa la ca, .slice ad ld cd, .string ⟨link.toArray⟩]]) ((Hp.begin NoM wr).newRow _ _) ?_
        intro w2 H2
        have HRV := Keep.keep (H2.out.row 0 rfl)
        have HC2 := Keep.keep (HC.out.trans ((Chg.of_below (M := fun b => b = g) H2.out.below).lower HC.out.size))
        obtain ⟨b7, hb7⟩ : ∃ b7, wr.heap.size = b7 := ⟨_, rfl⟩
        have HB7 := Keep.keep hb7
        rw [hb7] at HRV ⊢
        clear hb7 hld
        go_wp2_with ((with_reducible refine arm_loadRow HRV.out aggM HSZ.out ?_ ?_); (focus rfl); simp only [Act.put, List.setIfInBounds_toArray, List.set_cons_succ, List.set_cons_zero])
        refine (HCF.out w2 (HC2.out.mono (Nat.le_refl _) (fun b hb => by rw [hb]; rfl))).mono ?_
        rintro e w3 ⟨rfl, hb3⟩
        have HB3 := Keep.keep (H2.out.below.trans (hb3.mono H2.out.below.size))
        have HRV3 := Keep.keep (HRV.out.below hb3 HRV.out.lt)
        have HO3 := Keep.keep (ownsRow_loc _ _ (fun b hb => HB3.out.block b (ownsV_lt HO.out b hb).2) HO.out)
        have HC3 := Keep.keep (HC2.out.trans ((Chg.of_below (M := fun b => b = g) hb3).lower HC2.out.size))
        clear hb3 HRV HCF
        cases pk with
        | true =>
          have HX := Keep.keep (HSK.out rfl)
          have HL : Keep ((kpM p l (j + 1)).length = k) := ⟨by rw [HK1.out, if_pos rfl]; exact HKK.out⟩
          go_wp2_with fail
          go_roundg q
          case measure => omega
          case rel => exact ⟨j + 1, ls, by omega, by simp, by rw [HL.out], HO3.out, HX.out, HC3.out⟩
        | false =>
          have HX := Keep.keep (HPU.out rfl)
          have HL : Keep ((kpM p l (j + 1)).length = k + 1) := ⟨by rw [HK1.out, if_neg (by decide), List.length_append, HKK.out]; rfl⟩
          have hkt := HKT.out
          clear HPU HSK
          go_upto_region 9 with fail
          go_wp2_with (first | ((with_reducible refine arm_loadRow HRV3.out aggM HSZ.out ?_ ?_); (focus rfl); simp only [Act.put, List.setIfInBounds_toArray, List.set_cons_succ, List.set_cons_zero]) | (with_reducible refine arm_sSt ?_))
          refine StM.out ?_
          refine arm_setMb (((xp, ⟨kind, mode, uid, gid, time, attrs, data, link⟩), .slice aa la ca, .slice ad ld cd) : Mv) HO3.out HD.out.sz.symm (by rw [HD.out.sz]; exact hkt) HONE.out rfl rfl ?_
          intro w4 ho4 hg4
          have HO4 := Keep.keep ho4
          have HC4 := Keep.keep (HC3.out.trans (((chg_grown hg4).mono (Nat.le_refl _) (fun b e => by injection e with e; exact e.symm)).lower HC3.out.size))
          clear ho4 hg4
          simp only [Act.put]
          go_wp2_with fail
          go_roundg q
          case measure => omega
          case rel => exact ⟨j + 1, _, by omega, by simp, by rw [HL.out]; simp, HO4.out, HX.out, HC4.out⟩
end Go.Proofs.YtmnknmpfkjhgbaaGreatDoor
