/- PARTS OF ONE PROOF, set in one file: SM, Law, Ins, PathDel, Spc, TreeGet, TreeList, PathPartsL, DfSideO, RowO, Conv, NodeSame, DfOne, DfOneO. Each part tells its own conditions. -/
import Derived.Test.YtmnknmpfkjhgbaaGreatDoorCards
import Derived.Test.YtmnknmpfkjhgbaaGreatDoorTie
import Derived.ProofKit
import Derived.OpenShut
import Derived.Carry
import Derived.ChangeSame
import Derived.Deep.DeepHandedRow
import Derived.Lib.LaidTab
import Derived.ChangeKeysEq
import Derived.Laws.StructEq
import Derived.Laws.Concat
import Derived.BigFrame
import Derived.Lib.SliceRun
import Derived.Shelf.Bytes.SlEqualAll
import Derived.Lib.SlBytesConst
import Derived.Lib.SmallJoins
import Derived.Test.YtmnknmpfkjhgbaaGreatDoorP13
/- SORTED LISTS OF KEYS AND VALUES: the plain picture of a map that is keyed by texts. -/
namespace Go.Proofs.YtmnknmpfkjhgbaaGreatDoor
namespace SM
section
variable {α : Type}
/-- how many keys are less: the place -/
theorem Srt.takeWhile {L : List (Tx × α)} (h : Srt L) (p : Tx) : L.takeWhile (fun x => decide (x.1 < p)) = lo L p := by
  induction L with
  | nil => rfl
  | cons x r ih =>
    obtain ⟨h1, h2⟩ := List.pairwise_cons.1 h
    unfold lo at *
    by_cases e : x.1 < p
    · rw [List.takeWhile_cons_of_pos (by simpa using e), List.filter_cons_of_pos (by simpa using e), ih h2]
    · rw [List.takeWhile_cons_of_neg (by simpa using e), List.filter_cons_of_neg (by simpa using e)]
      symm
      rw [List.filter_eq_nil_iff]
      intro y hy
      simp only [decide_eq_true_eq]
      exact fun hyp => e (tx_trans (h1 y hy) hyp)
end
end SM
end Go.Proofs.YtmnknmpfkjhgbaaGreatDoor
/- WHAT IS ALIKE FROM LAW TO LAW: the post out of 'true, and nothing that was there has changed'; arguments opened; listed variables. -/
namespace Go.Proofs.YtmnknmpfkjhgbaaGreatDoor
open Go.ChangeShapes Go.WideShapes Go.ChangeAt Go.RowKit
/-- an argument that is a text -/
theorem okStr {P : Program} {w : World} {r : Reach} {base : Nat} {t : TypeId} {v : Value} (ht : P.underlying t = some .string) (h : Value.okWide P w r base t v) : ∃ l : List UInt8, v = .string ⟨l.toArray⟩ ∧ l.length ≤ 9223372036854775807 := by
  obtain ⟨s, rfl⟩ := okWide_string ht h
  obtain ⟨⟨l⟩⟩ := s
  refine ⟨l, rfl, ?_⟩
  simp only [Value.okWide, ht, Cell.okWide, Cell.ok] at h
  have hm : IntKind.i64.max = 9223372036854775807 := rfl
  rw [hm] at h
  have : (ByteArray.mk ⟨l⟩).size = l.length := rfl
  rw [this] at h
  omega
end Go.Proofs.YtmnknmpfkjhgbaaGreatDoor
/- SMALL RUNS OF INSTRUCTIONS, as rules of the walk. -/
namespace Go.Proofs.YtmnknmpfkjhgbaaGreatDoor
open Go.RowKit
/-- a part of a string -/
theorem run_slice_str {P : Program} {T : TypeId} (hu : P.underlying T = some .string) (l : List UInt8) (k1 k2 : IntKind) (i j : Int) (h0 : 0 ≤ i) (h1 : i ≤ j) (h2 : j ≤ l.length) (w : World) :
    (Instr.slice T (.string ⟨l.toArray⟩) (some (.int k1 i)) (some (.int k2 j)) none).run P w = .ok (.string ⟨((l.drop i.toNat).take (j.toNat - i.toNat)).toArray⟩) w := by
  have hsz : ByteArray.size ⟨l.toArray⟩ = l.length := rfl
  have e1 : 0 ≤ j ∧ j ≤ (l.length : Int) := by omega
  have e2 : 0 ≤ i ∧ i ≤ (j.toNat : Int) := by omega
  have e3 : ¬ (max j 0 < i) := by omega
  simp [Instr.slice, Instr.sliceBounds, Instr.sliceBound, asIntOf, run_underlying hu, hsz, e1, e2, ByteArray.extract_mk]
  intro h; exact absurd h e3
end Go.Proofs.YtmnknmpfkjhgbaaGreatDoor
/- slices.DeleteFunc over names of the call's own. -/
namespace Go.Proofs.YtmnknmpfkjhgbaaGreatDoor
open Go.RowKit
theorem slSt : SlTy Tryz.prog 42 9 (strV []) 16 := SlTy.mk' Tryz.underlying42 (by kernel_rfl) rfl
end Go.Proofs.YtmnknmpfkjhgbaaGreatDoor
/- A REGION THAT DRAWS ITS ORDER, ONE FACT AN OPERATION: what each operation yields is said of its value and of the world (a predicate that stays true when memory is added); an operation may use what is said of those that it waits for. -/
namespace Go.Proofs.YtmnknmpfkjhgbaaGreatDoor
open Go.RowKit
/-- D: the slots, one an operation; C: the class of worlds; St: what every operation does to the world; T i v w: what is said of operation i's value v in world w -/
theorem wp_region_spcS {P : Program} {ops : Array Oper} {id : Nat} {Q : Exit → Act → World → Prop} {a : Act} {w : World} (D : List Nat) (C : World → Prop) (T : Nat → Value → World → Prop) (St : World → World → Prop) (hm : P.follows .mixedOrders = true)
    (hD : ops.toList.map (·.dst) = D.map some) (hnd : D.Nodup) (hds : ∀ d ∈ D, d < a.tmps.size) (hB : inOrderB ops = true) (h0 : C w.drew)
    (hst : ∀ i v w w', T i v w → C w → St w w' → T i v w')
    (hs : ∀ i, i < ops.size → ∀ a1 w1, Fr a D a1 → C w1 → (∀ j, Region.waitsFor .any ops i j = true → T j (slot a1 (D.getD j 0)) w1) →
      wpOp P ops Q i (fun a2 w2 => ∃ v, a2 = a1.put (some (D.getD i 0)) v ∧ C w2 ∧ St w1 w2 ∧ T i v w2) a1 w1)
    (he : ∀ a1 w1, a1 = D.foldl (fun b d => b.put (some d) (slot a1 d)) a → C w1 → (∀ j, j < ops.size → T j (slot a1 (D.getD j 0)) w1) → Q .normal a1 w1) : (Code.region id ops true).wp P Q a w := by
  have hlen : D.length = ops.size := by have := congrArg List.length hD; simpa using this.symm
  have hmem : ∀ i, i < ops.size → D.getD i 0 ∈ D := fun i hi => by
    rw [List.getD_eq_getElem?_getD, List.getElem?_eq_getElem (by omega)]
    exact List.getElem_mem _
  have hinj : ∀ i j, i < ops.size → j < ops.size → D.getD i 0 = D.getD j 0 → i = j := fun i j hi hj h => by
    rw [List.getD_eq_getElem?_getD, List.getD_eq_getElem?_getD, List.getElem?_eq_getElem (by omega), List.getElem?_eq_getElem (by omega)] at h
    exact (List.getElem_inj hnd).1 h
  refine wp_region_fr D (fun done s w1 => C w1 ∧ ∀ j, j < ops.size → done.getD j false = true → T j (s (D.getD j 0)) w1) hm ⟨h0, fun j hj hd => ?_⟩ ?_ ?_
  · simp [Array.getD_eq_getD_getElem?, hj] at hd
  · intro done a1 w1 hF hI hz hcl i hi
    have hlt := ready_lt hi
    refine wpOp_mono ?_ (hs i hlt a1 w1 hF hI.1 (fun j hj => ?_))
    · rintro a2 w2 ⟨v, rfl, hC2, hb, hT⟩
      refine ⟨hF.put _ (hmem i hlt) v, hC2, fun j hj hd => ?_⟩
      by_cases e : i = j
      · subst e
        rw [slot_put_same _ _ _ (by rw [hF.size]; exact hds _ (hmem i hlt))]
        exact hT
      · have hd' := (getD_set_iff hd).resolve_left e
        rw [slot_put_ne _ _ _ _ (fun e2 => e (hinj i j hlt hj e2))]
        exact hst j _ _ _ (hI.2 j hj hd') hI.1 hb
    · obtain ⟨e, he1, he2, he3⟩ := waits_of (Array.getElem?_eq_getElem hlt) hj
      have hdn := (ready_at hi (Array.getElem?_eq_getElem hlt)).2 e he1 he2
      rw [he3] at hdn
      refine hI.2 j ?_ hdn
      rcases Nat.lt_or_ge j done.size with h | h
      · omega
      · simp [Array.getD_eq_getD_getElem?, Array.getElem?_eq_none h] at hdn
  · intro done a1 w1 ha hI hz hr
    exact he a1 w1 ha hI.1 (fun j hj => hI.2 j hj (all_done hB hz hr j hj))
/-- D: the slots, one an operation; C: the class of worlds; T i v w: what is said of operation i's value v in world w -/
theorem wp_region_spc {P : Program} {ops : Array Oper} {id : Nat} {Q : Exit → Act → World → Prop} {a : Act} {w : World} (D : List Nat) (C : World → Prop) (T : Nat → Value → World → Prop) (hm : P.follows .mixedOrders = true)
    (hD : ops.toList.map (·.dst) = D.map some) (hnd : D.Nodup) (hds : ∀ d ∈ D, d < a.tmps.size) (hB : inOrderB ops = true) (h0 : C w.drew)
    (hst : ∀ i v w w', T i v w → C w → Below w.heap.size w w' → T i v w')
    (hs : ∀ i, i < ops.size → ∀ a1 w1, Fr a D a1 → C w1 → (∀ j, Region.waitsFor .any ops i j = true → T j (slot a1 (D.getD j 0)) w1) →
      wpOp P ops Q i (fun a2 w2 => ∃ v, a2 = a1.put (some (D.getD i 0)) v ∧ C w2 ∧ Below w1.heap.size w1 w2 ∧ T i v w2) a1 w1)
    (he : ∀ a1 w1, a1 = D.foldl (fun b d => b.put (some d) (slot a1 d)) a → C w1 → (∀ j, j < ops.size → T j (slot a1 (D.getD j 0)) w1) → Q .normal a1 w1) : (Code.region id ops true).wp P Q a w :=
  wp_region_spcS D C T (fun w w' => Below w.heap.size w w') hm hD hnd hds hB h0 hst hs he
/-- an operation that yields a value at once -/
theorem spc_val {P : Program} {ops : Array Oper} {Q : Exit → Act → World → Prop} {C : World → Prop} {T : Nat → Value → World → Prop} {i d : Nat} {a1 : Act} {w1 w2 : World} {op : Op} {tp : TypeId} {pos : String} {af : Array Edge} {g : Option (Nat × Bool)} {v : Value}
    (hi : ops[i]? = some ⟨some d, op, tp, pos, af, g⟩) (hg : Region.wanted (⟨some d, op, tp, pos, af, g⟩ : Oper) (yielded ops a1.tmps) = true)
    (hr : (execOp a1.eval (⟨some d, op, tp, pos, af, g⟩ : Oper)).run P w1 = .ok (.value v) w2) (hC : C w2) (hb : Below w1.heap.size w1 w2) (hT : T i v w2) :
    wpOp P ops Q i (fun a2 w2 => ∃ v, a2 = a1.put (some d) v ∧ C w2 ∧ Below w1.heap.size w1 w2 ∧ T i v w2) a1 w1 := by
  unfold wpOp
  rw [hi]
  simp only
  rw [if_pos hg]
  refine .inl ?_
  unfold Oper.wp
  rw [hr]
  exact ⟨v, rfl, hC, hb, hT⟩
/-- an operation that calls -/
theorem spc_call {P : Program} {ops : Array Oper} {Q : Exit → Act → World → Prop} {C : World → Prop} {T : Nat → Value → World → Prop} {i d : Nat} {a1 : Act} {w1 : World} {f : FuncId} {args : Array Operand} {ts : Array TypeId} {tp : TypeId} {pos : String} {af : Array Edge} {g : Option (Nat × Bool)} {vs : Array Value}
    (hi : ops[i]? = some ⟨some d, .call ⟨.value (.func f), args, ts⟩, tp, pos, af, g⟩) (hg : Region.wanted (⟨some d, .call ⟨.value (.func f), args, ts⟩, tp, pos, af, g⟩ : Oper) (yielded ops a1.tmps) = true)
    (hent : Enters P f) (hargs : args.map a1.eval = vs) (hc : Calls P f vs w1 fun e w2 => ∃ v, e = .returned v ∧ C w2 ∧ Below w1.heap.size w1 w2 ∧ T i v w2) :
    wpOp P ops Q i (fun a2 w2 => ∃ v, a2 = a1.put (some d) v ∧ C w2 ∧ Below w1.heap.size w1 w2 ∧ T i v w2) a1 w1 := by
  unfold wpOp
  rw [hi]
  simp only
  rw [if_pos hg]
  refine .inl ?_
  unfold Oper.wp
  have : (execOp a1.eval (⟨some d, .call ⟨.value (.func f), args, ts⟩, tp, pos, af, g⟩ : Oper)).run P w1 = .ok (.enter f vs) w1 := by
    have h1 : a1.eval (.func f) = .func (.func f) #[] #[] := rfl
    unfold execOp
    simp only [resolve, Deferred.ofValue, hargs, h1, invoke, Sem.run_bind, Sem.run_pure, Result.andThen_ok]
    simp [hent vs w1]
  rw [this, Oper.upon_enter]
  refine hc.mono ?_
  rintro e w2 ⟨v, rfl, h⟩
  exact ⟨v, rfl, h⟩
theorem wanted_of {ops : Array Oper} {o : Oper} {a : Act} {g d : Nat} {b : Bool} (ho : o.guard = some (g, b)) (hog : (ops[g]?).bind (·.dst) = some d) (hv : slot a d = .bool b) : Region.wanted o (yielded ops a.tmps) = true := by
  have h1 : a.tmps[d]? = some (.bool b) := by
    unfold slot at hv
    rcases Nat.lt_or_ge d a.tmps.size with h | h
    · simpa [Array.getD_eq_getD_getElem?, h] using hv
    · simp [Array.getD_eq_getD_getElem?, Array.getElem?_eq_none h, undef] at hv
  have h2 : yielded ops a.tmps g = some b := by simp [yielded, hog, h1]
  simp [Region.wanted, ho, h2]
section
variable {P : Program} {ρ : Operand → Value} {d : Option Tmp} {x y c m n : Operand} {t t1 t2 : TypeId} {pos : String} {af : Array Edge} {g : Option (Nat × Bool)} {w : World}
theorem run_pickF (hc : ρ c = .bool false) : (execOp ρ (⟨d, .pick c x y, t, pos, af, g⟩ : Oper)).run P w = .ok (.value (ρ y)) w := by
  simp [execOp, hc, asBool]
end
end Go.Proofs.YtmnknmpfkjhgbaaGreatDoor
/- tree.Get. -/
namespace Go.Proofs.YtmnknmpfkjhgbaaGreatDoor
open Go.RowKit
theorem buildN (w : World) : (Instr.build 39 #[]).run Tryz.prog w = .ok (.agg (ndC nd0 nilV nilV)) w := by kernel_rfl
end Go.Proofs.YtmnknmpfkjhgbaaGreatDoor
/- tree.List. -/
namespace Go.Proofs.YtmnknmpfkjhgbaaGreatDoor
open Go.RowKit Go.Shelf
theorem slStr : SlK Tryz.prog 42 9 (.string ⟨#[]⟩) 1 16 := SlK.mk' Tryz.underlying42 (by kernel_rfl) rfl (by decide)
/-- the names of what stands in dir, in the order of the paths -/
def namesT (dir : Tx) (L : List Mb) : List Tx := (L.filter (fun x => parentP x.1 == dir)).map (fun x => baseP x.1)
def listT (L : List Mb) (dir : Tx) : List Tx × Int := if (getT L dir).2 = false then ([], 6) else if (getT L dir).1.kind ≠ 1 then ([], 31) else ((namesT dir L).mergeSort (fun x y => decide (x ≤ y)), 0)
end Go.Proofs.YtmnknmpfkjhgbaaGreatDoor
/- PATHS: plain facts on parents, bases and what is above. -/
namespace Go.Proofs.YtmnknmpfkjhgbaaGreatDoor
theorem joinS_snoc : ∀ (l : List (List UInt8)) (b : List UInt8), l ≠ [] → joinS (l ++ [b]) = joinS l ++ 47 :: b
  | [], _, h => absurd rfl h
  | [x], b, _ => rfl
  | x :: y :: r, b, _ => by
    have ih := joinS_snoc (y :: r) b (by simp)
    rw [List.cons_append] at ih
    show x ++ 47 :: joinS (y :: (r ++ [b])) = (x ++ 47 :: joinS (y :: r)) ++ 47 :: b
    rw [ih]; simp
theorem joinS_take_len : ∀ (l : List (List UInt8)) (j : Nat), (joinS (l.take j)).length ≤ (joinS l).length
  | [], j => by simp [joinS]
  | [x], 0 => by simp [joinS]
  | [x], j + 1 => by simp
  | x :: y :: r, 0 => by simp [joinS]
  | x :: y :: r, 1 => by simp [joinS]
  | x :: y :: r, j + 2 => by
    have ih := joinS_take_len (y :: r) (j + 1)
    rw [List.take_succ_cons] at ih ⊢
    rw [List.take_succ_cons, joinS, joinS, List.length_append, List.length_append, List.length_cons, List.length_cons]
    omega
end Go.Proofs.YtmnknmpfkjhgbaaGreatDoor
/- As in DfSide, with nodes whose slices are rows of their types (printed by gen_o.py). -/
namespace Go.Proofs.YtmnknmpfkjhgbaaGreatDoor
open Go.RowKit
/-- a node at every path -/
def NodesIsO (w : World) (N : Nat → Prop) (M : List (Tx × Value)) (L : List Mb) : Prop := ∀ p, ∃ av dv, SM.look M p = (SM.look L p).map (fun n => .agg (ndC n av dv)) ∧ ∀ n, SM.look L p = some n → NdO w N n av dv
theorem NodesIsO.put {w : World} {N : Nat → Prop} {M : List (Tx × Value)} {L : List Mb} {x : Mb} {av dv : Value} (hs : SM.Srt M) (h : NodesIsO w N M L) (hx : ∀ y ∈ L, y.1 ≠ x.1) (hn : NdO w N x.2 av dv) : NodesIsO w N (SM.put M (x.1, .agg (ndC x.2 av dv))) (L ++ [x]) := fun p => by
  rw [hs.look_put, look_snoc hx]
  by_cases e : p = x.1
  · rw [if_pos e, if_pos e]
    exact ⟨av, dv, rfl, fun n hn' => by injection hn' with hn'; subst hn'; exact hn⟩
  · rw [if_neg e, if_neg e]
    exact h p
theorem NodesIsO.loc {w w' : World} {N : Nat → Prop} {M : List (Tx × Value)} {L : List Mb} (h : NodesIsO w N M L) (hb : ∀ b, N b → w'.heap[b]? = w.heap[b]?) : NodesIsO w' N M L := fun p => by
  obtain ⟨av, dv, h1, h2⟩ := h p
  exact ⟨av, dv, h1, fun n hn => (h2 n hn).loc hb⟩
theorem NodesIsO.mono {w : World} {N N' : Nat → Prop} {M : List (Tx × Value)} {L : List Mb} (h : NodesIsO w N M L) (hb : ∀ b, N b → N' b) : NodesIsO w N' M L := fun p => by
  obtain ⟨av, dv, h1, h2⟩ := h p
  exact ⟨av, dv, h1, fun n hn => (h2 n hn).mono hb⟩
/-- a side -/
structure SideInO (w : World) (N : Nat → Prop) (nb mb yb : Nat) (L : List Mb) : Prop where
  nodes : ∃ M, MapS w 9 nb M ∧ NodesIsO w N M L
  names : ∃ M, MapS w 9 mb M ∧ ∀ d, RdS w N ((SM.look M d).getD nilV) ((kids d L).map (·.1))
  many : ∃ Y, MapS w 9 yb Y ∧ MapIs (.int .i64 0) Y (fun t => .int .i64 ((cntM L t : Nat) : Int))
theorem SideInO.lt {w : World} {N : Nat → Prop} {nb mb yb : Nat} {L : List Mb} (h : SideInO w N nb mb yb L) : nb < w.heap.size ∧ mb < w.heap.size ∧ yb < w.heap.size := by
  obtain ⟨_, h1, _⟩ := h.nodes
  obtain ⟨_, h2, _⟩ := h.names
  obtain ⟨_, h3, _⟩ := h.many
  exact ⟨h1.lt, h2.lt, h3.lt⟩
theorem SideInO.loc {w w' : World} {N : Nat → Prop} {nb mb yb : Nat} {L : List Mb} (h : SideInO w N nb mb yb L) (hb : ∀ b, (b = nb ∨ b = mb ∨ b = yb ∨ N b) → w'.heap[b]? = w.heap[b]?) : SideInO w' N nb mb yb L := by
  obtain ⟨_, h1, g1⟩ := h.nodes
  obtain ⟨_, h2, g2⟩ := h.names
  obtain ⟨_, h3, g3⟩ := h.many
  exact ⟨⟨_, h1.loc (hb _ (.inl rfl)), g1.loc (fun b e => hb b (.inr (.inr (.inr e))))⟩, ⟨_, h2.loc (hb _ (.inr (.inl rfl))), fun d => (g2 d).loc (fun b e => hb b (.inr (.inr (.inr e))))⟩, ⟨_, h3.loc (hb _ (.inr (.inr (.inl rfl)))), g3⟩⟩
theorem SideInO.mono {w : World} {N N' : Nat → Prop} {nb mb yb : Nat} {L : List Mb} (h : SideInO w N nb mb yb L) (hN : ∀ b, N b → N' b) : SideInO w N' nb mb yb L := by
  obtain ⟨_, h1, g1⟩ := h.nodes
  obtain ⟨_, h2, g2⟩ := h.names
  exact ⟨⟨_, h1, g1.mono hN⟩, ⟨_, h2, fun d => (g2 d).mono hN⟩, h.many⟩
end Go.Proofs.YtmnknmpfkjhgbaaGreatDoor
/- As in RowM, with nodes whose slices are rows of their types (printed by gen_o.py). -/
namespace Go.Proofs.YtmnknmpfkjhgbaaGreatDoor
open Go.RowKit
theorem ndO_nil {w : World} {N : Nat → Prop} {n : Nd} (h1 : n.attrs = []) (h2 : n.data = []) : NdO w N n nilV nilV := ⟨ndR_nil h1 h2, (fun _ _ _ _ e => (by injection e with e; cases e)), (fun _ _ _ _ e => (by injection e with e; cases e))⟩
structure MbsO (w : World) (N N' : Nat → Prop) (v : Value) (l : List Mv) : Prop where
  rd : RdV w N 9 v l.length (mcells l)
  nd : ∀ x ∈ l, NdO w N' x.1.2 x.2.1 x.2.2
/-- K: old blocks in which the nodes' slices may lie, too -/
structure RowO (B : Nat) (K : Nat → Prop) (w : World) (v : Value) (l : List Mv) : Prop where
  own : w.ownsRow B 41 9 v l.length (mcells l)
  nd : ∀ x ∈ l, NdO w (fun b => (K b ∨ B ≤ b) ∧ b < w.heap.size ∧ v.ownBlock ≠ some b) x.1.2 x.2.1 x.2.2
theorem RowO.nil (B : Nat) (K : Nat → Prop) (w : World) : RowO B K w (.slice none 0 0) [] := ⟨World.ownsRow_nil _ _ _ _, fun _x hx => (List.not_mem_nil hx).elim⟩
theorem RowO.lt {B : Nat} {K : Nat → Prop} {w : World} {v : Value} {l : List Mv} (h : RowO B K w v l) {b : Nat} (hb : v.ownBlock = some b) : B ≤ b ∧ b < w.heap.size := World.ownsRow.lt h.own b hb
theorem RowO.below {B : Nat} {K : Nat → Prop} {w w' : World} {v : Value} {l : List Mv} (h : RowO B K w v l) (hb : Below w.heap.size w w') : RowO B K w' v l :=
  ⟨ownsRow_loc _ _ (fun b e => hb.block b (h.lt e).2) h.own, fun x hx => ((h.nd x hx).loc (fun b e => hb.block b e.2.1)).mono (fun _b e => ⟨e.1, Nat.lt_of_lt_of_le e.2.1 hb.size, e.2.2⟩)⟩
theorem RowO.lower {B B' : Nat} {K K' : Nat → Prop} {w : World} {v : Value} {l : List Mv} (h : RowO B K w v l) (hB : B' ≤ B) (hK : ∀ b, K b → K' b) : RowO B' K' w v l :=
  ⟨ownsRow_base h.own hB, fun x hx => (h.nd x hx).mono (fun b e => ⟨e.1.imp (hK b) (Nat.le_trans hB), e.2⟩)⟩
theorem RowO.mbso {B : Nat} {K : Nat → Prop} {w : World} {v : Value} {l : List Mv} (h : RowO B K w v l) : MbsO w (Fresh B w) (fun b => (K b ∨ B ≤ b) ∧ b < w.heap.size ∧ v.ownBlock ≠ some b) v l :=
  ⟨(ownsV_reads h.own).mono (fun _ hb => ⟨hb.1, hb.2.1⟩), h.nd⟩
theorem RowO.row {B : Nat} {K : Nat → Prop} {w : World} {v : Value} {l : List Mv} (h : RowO B K w v l) : RowM B K w v l := ⟨h.own, fun x hx => (h.nd x hx).r⟩
theorem RowO.mbs {B : Nat} {K : Nat → Prop} {w : World} {v : Value} {l : List Mv} (h : RowO B K w v l) : Mbs w (Fresh B w) (fun b => (K b ∨ B ≤ b) ∧ b < w.heap.size ∧ v.ownBlock ≠ some b) v l := h.row.mbs
theorem RowO.ofOwn {B : Nat} {w : World} {v : Value} {l : List Mv} (h : OwnMbs B w v l) (K : Nat → Prop) : RowO B K w v l :=
  ⟨h.own, fun x hx => (h.nd x hx).mono (fun _b e => ⟨.inr e.1, e.2.1, e.2.2⟩)⟩
theorem RowO.app {B : Nat} {K : Nat → Prop} {w w' : World} {v v' : Value} {l l2 : List Mv} (h : RowO B K w v l) (h2 : ∀ x ∈ l2, NdO w (fun b => (K b ∨ B ≤ b) ∧ b < w.heap.size ∧ v.ownBlock ≠ some b) x.1.2 x.2.1 x.2.2)
    (ho : w'.ownsRow B 41 9 v' (l.length + l2.length) (mcells l ++ mcells l2)) (hg : w.grownBy w' v.ownBlock) (hov : v'.ownBlock = v.ownBlock ∨ v'.ownBlock = some w.heap.size) : RowO B K w' v' (l ++ l2) := by
  refine ⟨by rw [List.length_append, mcells_append]; exact ho, fun x hx => ?_⟩
  have hx' : NdO w (fun b => (K b ∨ B ≤ b) ∧ b < w.heap.size ∧ v.ownBlock ≠ some b) x.1.2 x.2.1 x.2.2 := by
    rcases List.mem_append.1 hx with hx | hx
    · exact h.nd x hx
    · exact h2 x hx
  refine (hx'.loc (fun b e => hg.block b e.2.1 (fun e2 => e.2.2 e2.symm))).mono (fun b e => ⟨e.1, Nat.lt_of_lt_of_le e.2.1 hg.size, ?_⟩)
  rcases hov with e1 | e1
  · rw [e1]; exact e.2.2
  · rw [e1]; intro e2; injection e2 with e2; have := e.2.1; omega
/-- ARM: Members are appended -/
theorem arm_appMO {ops : Array Oper} {rest : List Oper} {a : Act} {w : World} {Q : Exit → Act → World → Prop} {tp : TypeId} {dst : Option Tmp} {s x : Operand} {pos : String} {after : Array Edge} {B : Nat} {K N N' : Nat → Prop} {v xv : Value} {l l2 : List Mv}
    (h : RowO B K w v l) (hB : B ≤ w.heap.size) (h2 : MbsO w N N' xv l2) (hN : ∀ b, N' b → (K b ∨ B ≤ b) ∧ b < w.heap.size ∧ v.ownBlock ≠ some b) (hl : l.length + l2.length ≤ 1000000000000)
    (hs : a.eval s = v) (hx : a.eval x = xv)
    (k : ∀ v' w', RowO B K w' v' (l ++ l2) → w.grownBy w' v.ownBlock → (v'.ownBlock = v.ownBlock ∨ v'.ownBlock = some w.heap.size) → (∃ aa cc, v' = .slice aa (l.length + l2.length) cc) → wpList Tryz.prog ops Q rest (a.put dst v') w') :
    wpList Tryz.prog ops Q (⟨dst, .call ⟨.builtin .append, #[s, x], #[23, 23]⟩, tp, pos, after, none⟩ :: rest) a w := by
  refine arm_appendV slMb h.own h2.rd (mcells_one (fun y hy => (h2.nd y hy).shape)) (by unfold maxLen; omega) (by omega) hB hs hx ?_
  intro v' w' ho hg hov _
  refine k v' w' (h.app (fun y hy => (h2.nd y hy).mono hN) ho hg hov) hg hov ?_
  obtain ⟨aa, cc, e, -⟩ := (ownsV_reads ho).shape
  exact ⟨aa, cc, e⟩
/-- a row that has grown: nothing below its base has changed -/
theorem RowO.chg {B : Nat} {K : Nat → Prop} {w w' : World} {v : Value} {l : List Mv} (h : RowO B K w v l) (hB : B ≤ w.heap.size) (hg : w.grownBy w' v.ownBlock) : Below B w w' :=
  (Chg.grown (M := NoM) (.refl _ _ _) hg hB (fun _k e => .inl (h.lt e).1)).below (fun _ _ h => h)
end Go.Proofs.YtmnknmpfkjhgbaaGreatDoor
/- string(b) of what reads as bytes; []byte of a text that is written out. -/
namespace Go.Proofs.YtmnknmpfkjhgbaaGreatDoor
open Go.RowKit
theorem run_string_of {w : World} {N : Nat → Prop} {v : Value} {l : List UInt8} (h : Reads w N v l) : (convert 37 9 v).run Tryz.prog w = .ok (.string ⟨l.toArray⟩) w := by
  obtain ⟨a, cap, hu, _⟩ := h.shape
  subst hu
  have := Lib.BytesIn.convert h.bytesIn.2 (ints_length l) cap 37 5 9 Tryz.underlying37 Tryz.underlying5 Tryz.underlying9
  rw [this]
  rw [show strOfNums (ints l) = ⟨l.toArray⟩ by simp [strOfNums, ints, Function.comp_def]]
end Go.Proofs.YtmnknmpfkjhgbaaGreatDoor
/- tar.Same: two Members are the same. -/
namespace Go.Proofs.YtmnknmpfkjhgbaaGreatDoor
open Go.RowKit
/-- the box at slot d: a new row -/
def Bx (n d : Nat) (c : Array Value) (s : Nat → Value) (w : World) : Prop := ∃ b, s d = .pointer (some ⟨b, 0, none⟩) ∧ n ≤ b ∧ Row w b 39 c
def Bx8 (n d : Nat) (s : Nat → Value) (w : World) : Prop := ∃ c, Bx n d c s w ∧ c.size = 8
def twT (n b2 b3 : Nat) (A B : Array Value) : Nat → (Nat → Value) → World → Prop
  | 0, s, _ => s 7 = .pointer (some ⟨b2, 1, none⟩)
  | 1, s, _ => s 8 = .agg A
  | 2, s, _ => s 9 = .pointer (some ⟨b3, 1, none⟩)
  | 3, s, _ => s 10 = .agg B
  | 4, s, w => Bx8 n 5 s w
  | 5, s, w => Bx8 n 6 s w
  | 6, s, w => Bx n 5 A s w
  | 7, s, w => Bx n 6 B s w
  | _, _, _ => True
theorem Bx.keep {n d : Nat} {c : Array Value} {s s' : Nat → Value} {w w' : World} (h : Bx n d c s w) (hs : s' d = s d) (hb : ∀ b, s d = .pointer (some ⟨b, 0, none⟩) → w'.heap[b]? = w.heap[b]?) : Bx n d c s' w' := by
  obtain ⟨b, h1, h2, h3⟩ := h
  exact ⟨b, hs.trans h1, h2, (hb b h1).trans h3⟩
theorem Bx8.keep {n d : Nat} {s s' : Nat → Value} {w w' : World} (h : Bx8 n d s w) (hs : s' d = s d) (hb : ∀ b, s d = .pointer (some ⟨b, 0, none⟩) → w'.heap[b]? = w.heap[b]?) : Bx8 n d s' w' := by
  obtain ⟨c, h1, h2⟩ := h
  exact ⟨c, h1.keep hs hb, h2⟩
theorem Bx.lt {n d : Nat} {c : Array Value} {s : Nat → Value} {w : World} (h : Bx n d c s w) {b : Nat} (hb : s d = .pointer (some ⟨b, 0, none⟩)) : b < w.heap.size := by
  obtain ⟨b', h1, _, h3⟩ := h
  rw [h1] at hb; cases hb
  exact Row.lt h3
theorem Bx8.lt {n d : Nat} {s : Nat → Value} {w : World} (h : Bx8 n d s w) {b : Nat} (hb : s d = .pointer (some ⟨b, 0, none⟩)) : b < w.heap.size := by
  obtain ⟨c, h1, _⟩ := h
  exact h1.lt hb
/-- what holds throughout: two boxes lie apart -/
structure twC (n : Nat) (w : World) (s : Nat → Value) (wx : World) : Prop where
  b : Below w.heap.size w wx
  p : ∀ b, s 5 = .pointer (some ⟨b, 0, none⟩) → n ≤ b ∧ b < wx.heap.size
  q : ∀ b, s 6 = .pointer (some ⟨b, 0, none⟩) → n ≤ b ∧ b < wx.heap.size
  a : ∀ b b', s 5 = .pointer (some ⟨b, 0, none⟩) → s 6 = .pointer (some ⟨b', 0, none⟩) → b ≠ b'
/-- a quiet operation of slot d, or one that makes a new row -/
theorem twT_keep {n b2 b3 : Nat} {A B : Array Value} {s s' : Nat → Value} {w w' : World} (d : Nat) (hs : ∀ j, j ≠ d → s' j = s j) (hw : ∀ b, b < w.heap.size → w'.heap[b]? = w.heap[b]?) (j : Nat) (hj : (j = 0 → d ≠ 7) ∧ (j = 1 → d ≠ 8) ∧ (j = 2 → d ≠ 9) ∧ (j = 3 → d ≠ 10) ∧ (j = 4 ∨ j = 6 → d ≠ 5) ∧ (j = 5 ∨ j = 7 → d ≠ 6)) (h : twT n b2 b3 A B j s w) : twT n b2 b3 A B j s' w' := by
  obtain ⟨j0, j1, j2, j3, j4, j5⟩ := hj
  rcases (by omega : j = 0 ∨ j = 1 ∨ j = 2 ∨ j = 3 ∨ j = 4 ∨ j = 5 ∨ j = 6 ∨ j = 7 ∨ 8 ≤ j) with rfl | rfl | rfl | rfl | rfl | rfl | rfl | rfl | h8
  · exact (hs 7 (Ne.symm (j0 rfl))).trans h
  · exact (hs 8 (Ne.symm (j1 rfl))).trans h
  · exact (hs 9 (Ne.symm (j2 rfl))).trans h
  · exact (hs 10 (Ne.symm (j3 rfl))).trans h
  · have h : Bx8 n 5 s w := h
    exact h.keep (hs 5 (Ne.symm (j4 (.inl rfl)))) (fun b hb => hw b (h.lt hb))
  · have h : Bx8 n 6 s w := h
    exact h.keep (hs 6 (Ne.symm (j5 (.inl rfl)))) (fun b hb => hw b (h.lt hb))
  · have h : Bx n 5 A s w := h
    exact h.keep (hs 5 (Ne.symm (j4 (.inr rfl)))) (fun b hb => hw b (h.lt hb))
  · have h : Bx n 6 B s w := h
    exact h.keep (hs 6 (Ne.symm (j5 (.inr rfl)))) (fun b hb => hw b (h.lt hb))
  · obtain ⟨i, rfl⟩ : ∃ i, j = i + 8 := ⟨j - 8, by omega⟩
    trivial
/-- the first box is written -/
theorem twT_store5 {n b2 b3 b : Nat} {A B c : Array Value} {w0 : World} {s : Nat → Value} {w : World} (hC : twC n w0 s w) (h5 : s 5 = .pointer (some ⟨b, 0, none⟩)) (hrow : Row w b 39 c) (hA : A.size = 8) (j : Nat) (h : twT n b2 b3 A B j s w) : twT n b2 b3 A B j s (w.setRow b A) := by
  have hoth : ∀ k, k ≠ b → (w.setRow b A).heap[k]? = w.heap[k]? := fun k hk => Go.setRow_other w b k A hk
  have h6 : ∀ b', s 6 = .pointer (some ⟨b', 0, none⟩) → (w.setRow b A).heap[b']? = w.heap[b']? := fun b' h' => hoth b' (Ne.symm (hC.a b b' h5 h'))
  rcases (by omega : j = 0 ∨ j = 1 ∨ j = 2 ∨ j = 3 ∨ j = 4 ∨ j = 5 ∨ j = 6 ∨ j = 7 ∨ 8 ≤ j) with rfl | rfl | rfl | rfl | rfl | rfl | rfl | rfl | h8
  · exact h
  · exact h
  · exact h
  · exact h
  · exact ⟨A, ⟨b, h5, (hC.p b h5).1, hrow.setRow A⟩, hA⟩
  · have h : Bx8 n 6 s w := h
    exact h.keep rfl h6
  · exact ⟨b, h5, (hC.p b h5).1, hrow.setRow A⟩
  · have h : Bx n 6 B s w := h
    exact h.keep rfl h6
  · obtain ⟨i, rfl⟩ : ∃ i, j = i + 8 := ⟨j - 8, by omega⟩
    trivial
/-- the second box is written -/
theorem twT_store6 {n b2 b3 b : Nat} {A B c : Array Value} {w0 : World} {s : Nat → Value} {w : World} (hC : twC n w0 s w) (h5 : s 6 = .pointer (some ⟨b, 0, none⟩)) (hrow : Row w b 39 c) (hB : B.size = 8) (j : Nat) (h : twT n b2 b3 A B j s w) : twT n b2 b3 A B j s (w.setRow b B) := by
  have hoth : ∀ k, k ≠ b → (w.setRow b B).heap[k]? = w.heap[k]? := fun k hk => Go.setRow_other w b k B hk
  have h6 : ∀ b', s 5 = .pointer (some ⟨b', 0, none⟩) → (w.setRow b B).heap[b']? = w.heap[b']? := fun b' h' => hoth b' (hC.a b' b h' h5)
  rcases (by omega : j = 0 ∨ j = 1 ∨ j = 2 ∨ j = 3 ∨ j = 4 ∨ j = 5 ∨ j = 6 ∨ j = 7 ∨ 8 ≤ j) with rfl | rfl | rfl | rfl | rfl | rfl | rfl | rfl | h8
  · exact h
  · exact h
  · exact h
  · exact h
  · have h : Bx8 n 5 s w := h
    exact h.keep rfl h6
  · exact ⟨B, ⟨b, h5, (hC.q b h5).1, hrow.setRow B⟩, hB⟩
  · have h : Bx n 5 A s w := h
    exact h.keep rfl h6
  · exact ⟨b, h5, (hC.q b h5).1, hrow.setRow B⟩
  · obtain ⟨i, rfl⟩ : ∃ i, j = i + 8 := ⟨j - 8, by omega⟩
    trivial
/-- a bool is handed back, which tells whether P -/
def SaysB (P : Prop) (e : Ending) : Prop := ∃ r : Bool, e = .returned (.bool r) ∧ (r = true ↔ P)
theorem mb_eq {a b : Mb} : a = b ↔ a.1 = b.1 ∧ a.2.kind = b.2.kind ∧ a.2.mode = b.2.mode ∧ a.2.uid = b.2.uid ∧ a.2.gid = b.2.gid ∧ a.2.time = b.2.time ∧ a.2.link = b.2.link ∧ a.2.data = b.2.data ∧ a.2.attrs = b.2.attrs := by
  obtain ⟨p, ⟨k, m, u, g, t, at_, d, l⟩⟩ := a
  obtain ⟨p', ⟨k', m', u', g', t', at', d', l'⟩⟩ := b
  simp only [Prod.mk.injEq, Nd.mk.injEq]
  constructor
  · rintro ⟨h1, h2, h3, h4, h5, h6, h7, h8, h9⟩; exact ⟨h1, h2, h3, h4, h5, h6, h9, h8, h7⟩
  · rintro ⟨h1, h2, h3, h4, h5, h6, h7, h8, h9⟩; exact ⟨h1, h2, h3, h4, h5, h6, h9, h8, h7⟩
set_option maxHeartbeats 4000000 in
set_option maxRecDepth 100000 in
theorem same_tar (a b : Mb) (av dv bv ev : Value) (w : World) (ha : NdR w (· < w.heap.size) a.2 av dv) (hb : NdR w (· < w.heap.size) b.2 bv ev) :
    Calls Tryz.prog 51 #[.agg (mbC a av dv), .agg (mbC b bv ev)] w fun e w' => SaysB (a = b) e ∧ Below w.heap.size w w' := by
  obtain ⟨aa, la, ca, ad, ld, cd, e1, e2⟩ := ha.shape
  obtain ⟨ba, lb, cb, bd, le, ce, e3, e4⟩ := hb.shape
  subst e1 e2 e3 e4
  have HA := Keep.keep ha; have HB := Keep.keep hb
  have HEQ := Keep.keep (mb_eq (a := a) (b := b))
  clear ha hb
  obtain ⟨ap, ⟨kind, mode, uid, gid, time, attrs, data, link⟩⟩ := a
  obtain ⟨bp, ⟨kind2, mode2, uid2, gid2, time2, attrs2, data2, link2⟩⟩ := b
  unfold mbC strV
  dsimp only at HEQ HA HB ⊢
  obtain ⟨PEQ, hP⟩ : ∃ P : Prop, (((ap, ⟨kind, mode, uid, gid, time, attrs, data, link⟩) : Mb) = (bp, ⟨kind2, mode2, uid2, gid2, time2, attrs2, data2, link2⟩)) = P := ⟨_, rfl⟩
  rw [hP] at HEQ ⊢
  clear hP
  go_enter Tryz.func51, Tryz.ntmps51
  go_upto_region 1 with fail
  refine wp_world (R := fun w1 => Hp NoM w w1 [rowA w.heap.size 41 #[.string ⟨ap.toArray⟩, .int .i64 kind, .int .u32 mode, .int .u32 uid, .int .u32 gid, .int .i64 time, .slice aa la ca, .slice ad ld cd, .string ⟨link.toArray⟩], rowA (w.heap.size + 1) 41 #[.string ⟨bp.toArray⟩, .int .i64 kind2, .int .u32 mode2, .int .u32 uid2, .int .u32 gid2, .int .i64 time2, .slice ba lb cb, .slice bd le ce, .string ⟨link2.toArray⟩]]) ?_ ?_
  · exact ((Hp.begin NoM w).newRow _ _).newRow' _ _ _ _ (by simp) rfl
  intro w1 H1
  obtain ⟨b2, hb2⟩ : ∃ b2, w.heap.size = b2 := ⟨_, rfl⟩
  have HB2 := Keep.keep hb2
  have hsz1 := (H1.out.row 1 rfl).lt
  rw [hb2] at H1 hsz1 ⊢
  clear hb2
  obtain ⟨A, hA⟩ : ∃ A : Array Value, #[.int .i64 kind, .int .u32 mode, .int .u32 uid, .int .u32 gid, .int .i64 time, .slice aa la ca, .slice ad ld cd, .string ⟨link.toArray⟩] = A := ⟨_, rfl⟩
  obtain ⟨C, hC⟩ : ∃ C : Array Value, #[.int .i64 kind2, .int .u32 mode2, .int .u32 uid2, .int .u32 gid2, .int .i64 time2, .slice ba lb cb, .slice bd le ce, .string ⟨link2.toArray⟩] = C := ⟨_, rfl⟩
  refine wp_region_spcF [some 7, some 8, some 9, some 10, some 5, some 6, none, none] (twC w1.heap.size w1) (twT w1.heap.size b2 (b2 + 1) A C) (by kernel_rfl) rfl (by kernel_rfl) ?_ ?_ ?_
  · exact ⟨(Below.refl _ _).drew, fun b h => (by cases h), fun b h => (by cases h), fun b b' h => (by cases h)⟩
  · intro k hk a1 w2 hF hCC hT
    have s2 : a1.eval (.tmp 2) = .pointer (some ⟨b2, 0, none⟩) := (hF.same 2 (by decide)).trans rfl
    have s3 : a1.eval (.tmp 3) = .pointer (some ⟨b2 + 1, 0, none⟩) := (hF.same 3 (by decide)).trans rfl
    have hsz : a1.tmps.size = 72 := hF.size
    have HP := H1.out.call hCC.b
    have hb12 := HP.size
    have hk : k < 8 := hk
    have hoC : C.all (·.oneCell') = true := by rw [← hC]; simp [Value.oneCell']
    have hoA : A.all (·.oneCell') = true := by rw [← hA]; simp [Value.oneCell']
    have hzA : A.size = 8 := by rw [← hA]; rfl
    have hzC : C.size = 8 := by rw [← hC]; rfl
    have hcq : ∀ d, d ≠ 5 → d ≠ 6 → ∀ s : Nat → Value, (∀ j, j ≠ d → s j = slot a1 j) → twC w1.heap.size w1 s w2 := fun d h5 h6 s hs => ⟨hCC.b, fun b h => hCC.p b (by rw [← hs 5 (Ne.symm h5)]; exact h), fun b h => hCC.q b (by rw [← hs 6 (Ne.symm h6)]; exact h), fun b b' h h' => hCC.a b b' (by rw [← hs 5 (Ne.symm h5)]; exact h) (by rw [← hs 6 (Ne.symm h6)]; exact h')⟩
    rcases (by omega : k = 0 ∨ k = 1 ∨ k = 2 ∨ k = 3 ∨ k = 4 ∨ k = 5 ∨ k = 6 ∨ k = 7) with rfl | rfl | rfl | rfl | rfl | rfl | rfl | rfl
    · refine spcF_val (d := 7) rfl (wanted_none rfl) (run_fieldAddr (m := 7) Tryz.underlying41 rfl (by kernel_rfl) s2) (by omega) (fun s hd hs => ⟨hcq 7 (by decide) (by decide) s hs, hd, fun j hj _ h => twT_keep 7 hs (fun _ _ => rfl) j (by omega) h⟩)
    · have hx : a1.eval (.tmp 7) = .pointer (some ⟨b2, 1, none⟩) := hT 0 (by kernel_rfl)
      have HL := Keep.keep (HP)
      exact spcF_val (d := 8) rfl (wanted_none rfl) (run_loadNd (m := (ap, ⟨kind, mode, uid, gid, time, attrs, data, link⟩)) (HL.out.row 0 rfl) hx) (by omega) (fun s hd hs => ⟨hcq 8 (by decide) (by decide) s hs, hd.trans (by rw [← hA]; rfl), fun j hj _ h => twT_keep 8 hs (fun _ _ => rfl) j (by omega) h⟩)
    · exact spcF_val (d := 9) rfl (wanted_none rfl) (run_fieldAddr (m := 7) Tryz.underlying41 rfl (by kernel_rfl) s3) (by omega) (fun s hd hs => ⟨hcq 9 (by decide) (by decide) s hs, hd, fun j hj _ h => twT_keep 9 hs (fun _ _ => rfl) j (by omega) h⟩)
    · have hx : a1.eval (.tmp 9) = .pointer (some ⟨b2 + 1, 1, none⟩) := hT 2 (by kernel_rfl)
      have HL := Keep.keep (HP)
      exact spcF_val (d := 10) rfl (wanted_none rfl) (run_loadNd (m := (bp, ⟨kind2, mode2, uid2, gid2, time2, attrs2, data2, link2⟩)) (HL.out.row 1 rfl) hx) (by omega) (fun s hd hs => ⟨hcq 10 (by decide) (by decide) s hs, hd.trans (by rw [← hC]; rfl), fun j hj _ h => twT_keep 10 hs (fun _ _ => rfl) j (by omega) h⟩)
    · have hws := hCC.b.size
      refine spcF_val (d := 5) (v := .pointer (some ⟨w2.heap.size, 0, none⟩)) (w2 := w2.alloc (.cells zeroNd 39)) rfl (wanted_none rfl) (by simp [execOp, run_newN]) (by omega) (fun s hd hs => ⟨⟨hCC.b.alloc hCC.b.size _, fun b h => ?_, fun b h => ?_, fun b b' h h' => ?_⟩, ⟨zeroNd, ⟨w2.heap.size, hd, hws, Row.new _ _ _⟩, rfl⟩, fun j hj hw h => twT_keep 5 hs (fun b hb => Below.heap_alloc w2 _ b hb) j ?_ h⟩)
      · rw [hd] at h; cases h; simp; omega
      · rw [hs 6 (by decide)] at h
        have := hCC.q b h
        simp; omega
      · rw [hd] at h; cases h
        rw [hs 6 (by decide)] at h'
        have := (hCC.q b' h').2
        omega
      · have h6 : j ≠ 6 := by rintro rfl; exact Bool.false_ne_true (hw.symm.trans (by kernel_rfl))
        omega
    · have hws := hCC.b.size
      refine spcF_val (d := 6) (v := .pointer (some ⟨w2.heap.size, 0, none⟩)) (w2 := w2.alloc (.cells zeroNd 39)) rfl (wanted_none rfl) (by simp [execOp, run_newN]) (by omega) (fun s hd hs => ⟨⟨hCC.b.alloc hCC.b.size _, fun b h => ?_, fun b h => ?_, fun b b' h h' => ?_⟩, ⟨zeroNd, ⟨w2.heap.size, hd, hws, Row.new _ _ _⟩, rfl⟩, fun j hj hw h => ?_⟩)
      · rw [hs 5 (by decide)] at h
        have := hCC.p b h
        simp; omega
      · rw [hd] at h; cases h; simp; omega
      · rw [hd] at h'; cases h'
        rw [hs 5 (by decide)] at h
        have := (hCC.p b h).2
        omega
      · have h7 : j ≠ 7 := by rintro rfl; exact Bool.false_ne_true (hw.symm.trans (by kernel_rfl))
        exact twT_keep 6 hs (fun b hb => Below.heap_alloc w2 _ b hb) j (by omega) h
    · obtain ⟨c, ⟨b, h5, hnb, hrow⟩, hc8⟩ : Bx8 w1.heap.size 5 (slot a1) w2 := hT 4 (by kernel_rfl)
      have h8 : a1.eval (.tmp 8) = .agg A := hT 1 (by kernel_rfl)
      have hx : a1.eval (.tmp 5) = .pointer (some ⟨b, 0, none⟩) := h5
      have hst := hrow.storeAt (P := Tryz.prog) 39 A (by rw [hzA]; exact aggN.i) (by rw [hzA, hc8]) hoA
      refine spcF_skip (w2 := w2.setRow b A) rfl (wanted_none rfl) (by unfold execOp; simp only [hx, h8, Sem.run_bind, Sem.run_pure, Result.andThen_ok, hst]) ⟨⟨(Chg.setRow (M := NoM) (.of_below hCC.b) (.inl hnb) A).below (fun _ _ h => h), fun b' h => ?_, fun b' h => ?_, hCC.a⟩, ⟨b, h5, hnb, hrow.setRow A⟩, fun j hj hw h => twT_store5 hCC h5 hrow hzA j h⟩
      · have := hCC.p b' h; exact ⟨this.1, by have := (Chg.setRow (M := fun x => x = b) (.refl _ 0 w2) (.inr rfl) A).size; omega⟩
      · have := hCC.q b' h; exact ⟨this.1, by have := (Chg.setRow (M := fun x => x = b) (.refl _ 0 w2) (.inr rfl) A).size; omega⟩
    · obtain ⟨c, ⟨b, h5, hnb, hrow⟩, hc8⟩ : Bx8 w1.heap.size 6 (slot a1) w2 := hT 5 (by kernel_rfl)
      have h8 : a1.eval (.tmp 10) = .agg C := hT 3 (by kernel_rfl)
      have hx : a1.eval (.tmp 6) = .pointer (some ⟨b, 0, none⟩) := h5
      have hst := hrow.storeAt (P := Tryz.prog) 39 C (by rw [hzC]; exact aggN.i) (by rw [hzC, hc8]) hoC
      refine spcF_skip (w2 := w2.setRow b C) rfl (wanted_none rfl) (by unfold execOp; simp only [hx, h8, Sem.run_bind, Sem.run_pure, Result.andThen_ok, hst]) ⟨⟨(Chg.setRow (M := NoM) (.of_below hCC.b) (.inl hnb) C).below (fun _ _ h => h), fun b' h => ?_, fun b' h => ?_, hCC.a⟩, ⟨b, h5, hnb, hrow.setRow C⟩, fun j hj hw h => twT_store6 hCC h5 hrow hzC j h⟩
      · have := hCC.p b' h; exact ⟨this.1, by have := (Chg.setRow (M := fun x => x = b) (.refl _ 0 w2) (.inr rfl) C).size; omega⟩
      · have := hCC.q b' h; exact ⟨this.1, by have := (Chg.setRow (M := fun x => x = b) (.refl _ 0 w2) (.inr rfl) C).size; omega⟩
  · intro a1 w2 ha hCC hT
    have t7 : slot a1 7 = .pointer (some ⟨b2, 1, none⟩) := hT 0 (by decide)
    have t8 : slot a1 8 = .agg A := hT 1 (by decide)
    have t9 : slot a1 9 = .pointer (some ⟨b2 + 1, 1, none⟩) := hT 2 (by decide)
    have t10 : slot a1 10 = .agg C := hT 3 (by decide)
    obtain ⟨b5, t5, _, r5⟩ : Bx w1.heap.size 5 A (slot a1) w2 := hT 6 (by decide)
    obtain ⟨b6, t6, _, r6⟩ : Bx w1.heap.size 6 C (slot a1) w2 := hT 7 (by decide)
    have H2 := H1.out.call hCC.b
    have m20 := (H2.row 0 rfl).cell (i := 0) rfl
    have m30 := (H2.row 1 rfl).cell (i := 0) rfl
    have HA2 := Keep.keep (HA.out.below H2.below (fun b hb => hb))
    have HB3 := Keep.keep (HB.out.below H2.below (fun b hb => hb))
    have HBL := Keep.keep H2.below
    rw [← hA] at r5
    rw [← hC] at r6
    have x0 := r5.cell (i := 0) rfl
    have x1 := r5.cell (i := 1) rfl
    have x2 := r5.cell (i := 2) rfl
    have x3 := r5.cell (i := 3) rfl
    have x4 := r5.cell (i := 4) rfl
    have x5 := r5.cell (i := 5) rfl
    have x6 := r5.cell (i := 6) rfl
    have x7 := r5.cell (i := 7) rfl
    have y0 := r6.cell (i := 0) rfl
    have y1 := r6.cell (i := 1) rfl
    have y2 := r6.cell (i := 2) rfl
    have y3 := r6.cell (i := 3) rfl
    have y4 := r6.cell (i := 4) rfl
    have y5 := r6.cell (i := 5) rfl
    have y6 := r6.cell (i := 6) rfl
    have y7 := r6.cell (i := 7) rfl
    simp only [List.filterMap_cons, List.filterMap_nil, List.foldl_cons, List.foldl_nil, t5, t6, t7, t8, t9, t10] at ha
    clear hT t5 t6 t7 t8 t9 t10 r5 r6 hCC H2 hA hC
    subst ha
    simp only [Act.put, List.setIfInBounds_toArray, List.set_cons_succ, List.set_cons_zero]
    go_wp2_with fail
    rotate_left
    all_goals try (
      go_ret
      refine ⟨⟨false, rfl, ⟨fun h => (by cases h), fun h => ?_⟩⟩, HBL.out⟩
      obtain ⟨e1, e2, e3, e4, e5, e6, e7, e8, e9⟩ := HEQ.out.1 h
      contradiction)
    have HE : Keep (ap = bp ∧ kind = kind2 ∧ mode = mode2 ∧ uid = uid2 ∧ gid = gid2 ∧ time = time2 ∧ link = link2) := ⟨⟨by assumption, by assumption, by assumption, by assumption, by assumption, by assumption, by assumption⟩⟩
    have hle := HBL.out.size
    refine (equal_any _ _ _ _ _ _ w2 HA2.out.dt HB3.out.dt).mono ?_
    rintro e w3 ⟨rfl, rfl⟩
    by_cases hdt : data = data2
    · have HD := Keep.keep hdt
      have hbd : (data == data2) = true := by simpa using hdt
      rw [hbd]
      clear hdt hbd
      go_wp2_with fail
      refine (aequal_any _ _ _ _ w2 (HA2.out.at_.mono (fun b hb => Nat.lt_of_lt_of_le hb hle)) (HB3.out.at_.mono (fun b hb => Nat.lt_of_lt_of_le hb hle))).mono ?_
      rintro e w4 ⟨rfl, hb4⟩
      have HB4 := Keep.keep (HBL.out.trans (hb4.mono hle))
      have HR : Keep (decide (attrs = attrs2) = true ↔ PEQ) := ⟨by
        rw [decide_eq_true_eq, HEQ.out]
        exact ⟨fun h => ⟨HE.out.1, HE.out.2.1, HE.out.2.2.1, HE.out.2.2.2.1, HE.out.2.2.2.2.1, HE.out.2.2.2.2.2.1, HE.out.2.2.2.2.2.2, HD.out, h⟩, fun h => h.2.2.2.2.2.2.2.2⟩⟩
      clear hb4
      generalize decide (attrs = attrs2) = rb at *
      go_wp2_with fail
      go_ret
      exact ⟨⟨rb, rfl, HR.out⟩, HB4.out⟩
    · have hbd : (data == data2) = false := by simpa using hdt
      have HD := Keep.keep hdt
      rw [hbd]
      clear hdt hbd
      go_wp2_with fail
      go_ret
      exact ⟨⟨false, rfl, ⟨fun h => (by cases h), fun h => (HD.out (HEQ.out.1 h).2.2.2.2.2.2.2.1).elim⟩⟩, HBL.out⟩
end Go.Proofs.YtmnknmpfkjhgbaaGreatDoor
/- differ.told's closure 'one': what is told of a path. -/
namespace Go.Proofs.YtmnknmpfkjhgbaaGreatDoor
open Go.RowKit
/-- told's memory -/
structure TD where
  ba : Nat
  bb : Nat
  bw : Nat
  bo : Nat
  na : Nat
  ma : Nat
  ya : Nat
  Ta : Nat
  nb : Nat
  mb : Nat
  yb : Nat
  Tb : Nat
  tb : Nat
  Na : Nat → Prop
  Nb : Nat → Prop
  Bk : Nat → Prop
  f : Tx → Value × Value
  A : List Mb
  B : List Mb
structure TIn (W : World) (d : TD) : Prop where
  ra : Row W d.ba 110 #[.map (some d.na), .map (some d.ma), .map (some d.ya), .func (.func 18) #[.pointer (some ⟨d.Ta, 0, none⟩)] #[]]
  rb : Row W d.bb 110 #[.map (some d.nb), .map (some d.mb), .map (some d.yb), .func (.func 18) #[.pointer (some ⟨d.Tb, 0, none⟩)] #[]]
  rw : Row W d.bw 44 #[.func (.func 120) #[] #[.pointer (some ⟨d.ba, 0, none⟩), .pointer (some ⟨d.bb, 0, none⟩), .pointer (some ⟨d.bo, 0, none⟩)]]
  ro : Row W d.bo 44 #[.func (.func 119) #[] #[.pointer (some ⟨d.ba, 0, none⟩), .pointer (some ⟨d.bb, 0, none⟩), .pointer (some ⟨d.bw, 0, none⟩)]]
  sa : SideIn W d.Na d.na d.ma d.ya d.A
  sb : SideIn W d.Nb d.nb d.mb d.yb d.B
  tr : TreeIn W d.Tb d.tb d.Bk d.f d.B
  lt : ∀ b, d.Na b ∨ d.Nb b ∨ d.Bk b → b < W.heap.size
theorem TIn.below {W w' : World} {d : TD} (h : TIn W d) (hb : Below W.heap.size W w') : TIn w' d := by
  have l1 := h.sa.lt
  have l2 := h.sb.lt
  refine ⟨h.ra.below hb h.ra.lt, h.rb.below hb h.rb.lt, h.rw.below hb h.rw.lt, h.ro.below hb h.ro.lt, h.sa.loc (fun b hb' => hb.block b ?_), h.sb.loc (fun b hb' => hb.block b ?_), h.tr.loc (fun b hb' => hb.block b ?_), fun b hb' => Nat.lt_of_lt_of_le (h.lt b hb') hb.size⟩
  · rcases hb' with rfl | rfl | rfl | h'
    · omega
    · omega
    · omega
    · exact h.lt b (.inl h')
  · rcases hb' with rfl | rfl | rfl | h'
    · omega
    · omega
    · omega
    · exact h.lt b (.inr (.inl h'))
  · rcases hb' with rfl | rfl | h'
    · exact h.tr.row.lt
    · exact h.tr.map.lt
    · exact h.lt b (.inr (.inr h'))
/-- a node looked up -/
theorem SideIn.look {w : World} {N : Nat → Prop} {nb mb yb : Nat} {L : List Mb} (h : SideIn w N nb mb yb L) {p : Tx} (hp : p.length ≤ 1000000) : ∃ av dv, (Instr.lookup 86 (.map (some nb)) (.string ⟨p.toArray⟩) true).run Tryz.prog w = .ok (.tuple #[.agg (ndC ((SM.look L p).getD nd0) av dv), .bool (SM.look L p).isSome]) w ∧ NdR w N ((SM.look L p).getD nd0) av dv := by
  obtain ⟨M, h1, h2⟩ := h.nodes
  have hl := h1.lookOk Tryz.underlying9 Tryz.underlying86 (zeroN w) (p := p) (by unfold maxLen; omega)
  obtain ⟨av, dv, e, hn⟩ := h2 p
  rw [e] at hl
  cases ho : SM.look L p with
  | none => rw [ho] at hl; exact ⟨nilV, nilV, hl, ndR_nil rfl rfl⟩
  | some n => rw [ho] at hl; exact ⟨av, dv, hl, hn n ho⟩
theorem ownsOneM {w : World} {x : Mv} (b : Nat) (hb : b = w.heap.size) : (w.alloc (.cells (mcell x) 41)).ownsRow b 41 9 (.slice (some ⟨b, 0, none⟩) 1 1) 1 (mcells [x]) := by
  subst hb
  have hm : mcells [x] = (mcell x).toList := by rw [mcells_cons]; exact List.append_nil _
  refine ⟨by rw [mcells_length]; rfl, .inr ⟨_, 1, mcell x, rfl, Nat.le_refl _, Row.new w _ _, Nat.le_refl _, by unfold maxLen; omega, rfl, ?_⟩⟩
  rw [hm]
  rfl
theorem RowM.one {w : World} {K : Nat → Prop} {x : Mv} (B : Nat) (hB : B ≤ w.heap.size) (hn : NdR w (fun b => (K b ∨ B ≤ b) ∧ b < w.heap.size) x.1.2 x.2.1 x.2.2) : RowM B K (w.alloc (.cells (mcell x) 41)) (.slice (some ⟨w.heap.size, 0, none⟩) 1 1) [x] :=
  ⟨ownsRow_base (ownsOneM _ rfl) hB, fun y hy => by
    obtain rfl : y = x := by simpa using hy
    refine (hn.loc (fun b hb => Below.heap_alloc w _ b hb.2)).mono (fun b hb => ⟨hb.1, by simp; omega, fun e => ?_⟩)
    simp [Value.ownBlock] at e
    omega⟩
theorem buildM1 (n : Nd) (av dv : Value) (w : World) : (Instr.build 41 #[(1, .agg (ndC n av dv))]).run Tryz.prog w = .ok (.agg (mbC ([], n) av dv)) w := by kernel_rfl
theorem ent_undf : ∀ args w, (callFunc 18 args).run Tryz.prog w = .ok (.enter 18 args) w := enters_of Tryz.func18 (by kernel_rfl) rfl
theorem ent_below : ∀ args w, (callFunc 120 args).run Tryz.prog w = .ok (.enter 120 args) w := enters_of Tryz.func120 (by kernel_rfl) rfl
theorem ent_one : ∀ args w, (callFunc 119 args).run Tryz.prog w = .ok (.enter 119 args) w := enters_of Tryz.func119 (by kernel_rfl) rfl
end Go.Proofs.YtmnknmpfkjhgbaaGreatDoor
/- As in DfOne, with nodes whose slices are rows of their types (printed by gen_o.py). -/
namespace Go.Proofs.YtmnknmpfkjhgbaaGreatDoor
open Go.RowKit
structure TInO (W : World) (d : TD) : Prop where
  ra : Row W d.ba 110 #[.map (some d.na), .map (some d.ma), .map (some d.ya), .func (.func 18) #[.pointer (some ⟨d.Ta, 0, none⟩)] #[]]
  rb : Row W d.bb 110 #[.map (some d.nb), .map (some d.mb), .map (some d.yb), .func (.func 18) #[.pointer (some ⟨d.Tb, 0, none⟩)] #[]]
  rw : Row W d.bw 44 #[.func (.func 120) #[] #[.pointer (some ⟨d.ba, 0, none⟩), .pointer (some ⟨d.bb, 0, none⟩), .pointer (some ⟨d.bo, 0, none⟩)]]
  ro : Row W d.bo 44 #[.func (.func 119) #[] #[.pointer (some ⟨d.ba, 0, none⟩), .pointer (some ⟨d.bb, 0, none⟩), .pointer (some ⟨d.bw, 0, none⟩)]]
  sa : SideInO W d.Na d.na d.ma d.ya d.A
  sb : SideInO W d.Nb d.nb d.mb d.yb d.B
  tr : TreeIn W d.Tb d.tb d.Bk d.f d.B
  lt : ∀ b, d.Na b ∨ d.Nb b ∨ d.Bk b → b < W.heap.size
theorem TInO.below {W w' : World} {d : TD} (h : TInO W d) (hb : Below W.heap.size W w') : TInO w' d := by
  have l1 := h.sa.lt
  have l2 := h.sb.lt
  refine ⟨h.ra.below hb h.ra.lt, h.rb.below hb h.rb.lt, h.rw.below hb h.rw.lt, h.ro.below hb h.ro.lt, h.sa.loc (fun b hb' => hb.block b ?_), h.sb.loc (fun b hb' => hb.block b ?_), h.tr.loc (fun b hb' => hb.block b ?_), fun b hb' => Nat.lt_of_lt_of_le (h.lt b hb') hb.size⟩
  · rcases hb' with rfl | rfl | rfl | h'
    · omega
    · omega
    · omega
    · exact h.lt b (.inl h')
  · rcases hb' with rfl | rfl | rfl | h'
    · omega
    · omega
    · omega
    · exact h.lt b (.inr (.inl h'))
  · rcases hb' with rfl | rfl | h'
    · exact h.tr.row.lt
    · exact h.tr.map.lt
    · exact h.lt b (.inr (.inr h'))
/-- a node looked up -/
theorem SideInO.look {w : World} {N : Nat → Prop} {nb mb yb : Nat} {L : List Mb} (h : SideInO w N nb mb yb L) {p : Tx} (hp : p.length ≤ 1000000) : ∃ av dv, (Instr.lookup 86 (.map (some nb)) (.string ⟨p.toArray⟩) true).run Tryz.prog w = .ok (.tuple #[.agg (ndC ((SM.look L p).getD nd0) av dv), .bool (SM.look L p).isSome]) w ∧ NdO w N ((SM.look L p).getD nd0) av dv := by
  obtain ⟨M, h1, h2⟩ := h.nodes
  have hl := h1.lookOk Tryz.underlying9 Tryz.underlying86 (zeroN w) (p := p) (by unfold maxLen; omega)
  obtain ⟨av, dv, e, hn⟩ := h2 p
  rw [e] at hl
  cases ho : SM.look L p with
  | none => rw [ho] at hl; exact ⟨nilV, nilV, hl, ndO_nil rfl rfl⟩
  | some n => rw [ho] at hl; exact ⟨av, dv, hl, hn n ho⟩
/-- the answer of 'below' -/
def BelAnsO (d : TD) (bl : List Mb) (wx : World) (e : Ending) (w' : World) : Prop := ∃ v l, e = .returned v ∧ l.map (·.1) = bl ∧ RowO wx.heap.size d.Nb w' v l ∧ Below wx.heap.size wx w'
theorem RowO.one {w : World} {K : Nat → Prop} {x : Mv} (B : Nat) (hB : B ≤ w.heap.size) (hn : NdO w (fun b => (K b ∨ B ≤ b) ∧ b < w.heap.size) x.1.2 x.2.1 x.2.2) : RowO B K (w.alloc (.cells (mcell x) 41)) (.slice (some ⟨w.heap.size, 0, none⟩) 1 1) [x] :=
  ⟨ownsRow_base (ownsOneM _ rfl) hB, fun y hy => by
    obtain rfl : y = x := by simpa using hy
    refine (hn.loc (fun b hb => Below.heap_alloc w _ b hb.2)).mono (fun b hb => ⟨hb.1, by simp; omega, fun e => ?_⟩)
    simp [Value.ownBlock] at e
    omega⟩
set_option maxHeartbeats 8000000 in
set_option maxRecDepth 100000 in
theorem one_anyO (d : TD) (c : Tx) (bl : List Mb) (T : Nat) (w : World) (hT : Tabs T w) (hc : c.length ≤ 400000) (hL : d.B.length ≤ 100000) (hbl : bl.length ≤ 1000000) (h : TInO w d)
    (hbel : (∃ y, SM.look d.B c = some y ∧ y.kind = 1) → ∀ wx, Below w.heap.size w wx → Calls Tryz.prog 120 #[.string ⟨c.toArray⟩, .pointer (some ⟨d.ba, 0, none⟩), .pointer (some ⟨d.bb, 0, none⟩), .pointer (some ⟨d.bo, 0, none⟩)] wx (BelAnsO d bl wx)) :
    Calls Tryz.prog 119 #[.string ⟨c.toArray⟩, .pointer (some ⟨d.ba, 0, none⟩), .pointer (some ⟨d.bb, 0, none⟩), .pointer (some ⟨d.bw, 0, none⟩)] w (BelAnsO d (oneF d.A d.B bl c) w) := by
  have HON : Keep (∀ wx, Below w.heap.size w wx → TInO wx d) := ⟨fun wx hb => h.below hb⟩
  have HLT : Keep (∀ b, d.Na b ∨ d.Nb b ∨ d.Bk b → b < w.heap.size) := ⟨h.lt⟩
  obtain ⟨av, dv, hla, hna⟩ := h.sa.look (p := c) (by omega)
  obtain ⟨bv, ev, hlb, hnb⟩ := h.sb.look (p := c) (by omega)
  have HNA := Keep.keep hna; have HNB := Keep.keep hnb
  have HLB : Keep (∀ wx, Below w.heap.size w wx → (Instr.lookup 86 (.map (some d.nb)) (.string ⟨c.toArray⟩) true).run Tryz.prog wx = .ok (.tuple #[.agg (ndC ((SM.look d.B c).getD nd0) bv ev), .bool (SM.look d.B c).isSome]) wx) := ⟨fun wx hb => by
    obtain ⟨M, h1, h2⟩ := h.sb.nodes
    have e1 := h1.lookOk Tryz.underlying9 Tryz.underlying86 (zeroN w) (p := c) (by unfold maxLen; omega)
    have e2 := (h1.loc (hb.block _ h1.lt)).lookOk Tryz.underlying9 Tryz.underlying86 (zeroN wx) (p := c) (by unfold maxLen; omega)
    rw [e1] at hlb
    injection hlb with hlb _
    rw [e2, hlb]⟩
  have HWH : Keep (∀ wx, Below w.heap.size w wx → Calls Tryz.prog 17 #[.string ⟨c.toArray⟩] wx fun e w' => e = .returned (.agg (mbC (whM c) nilV nilV)) ∧ Below wx.heap.size wx w') := ⟨fun wx hb => dwhite_any c (by omega) T wx (Nat.le_trans hT.b hb.size) (hT.m.on (hb.mono hT.b))⟩
  have HUN : Keep (∀ wx, Below w.heap.size w wx → Calls Tryz.prog 18 #[.pointer (some ⟨d.Tb, 0, none⟩), .string ⟨c.toArray⟩] wx (BelAnsO d (underL c d.B) wx)) := ⟨fun wx hb => by
    have ht := h.below hb
    refine (under_own d.Tb d.tb d.Bk d.f d.B c wx hL (by omega) ht.tr ⟨ht.tr.row.lt, ht.tr.map.lt, fun b hb => ht.lt b (.inr (.inr hb))⟩).mono ?_
    rintro e w' ⟨v, l, rfl, hl, ho, hb'⟩
    exact ⟨v, l, rfl, hl, RowO.ofOwn ho _, hb'⟩⟩
  have HBE := Keep.keep hbel
  obtain ⟨qw, kw, hqw⟩ := signM_cells (whiteoutP c)
  have HQW : Keep (mbC (whM c) nilV nilV = #[.string ⟨qw.toArray⟩, .int .i64 kw, .int .u32 0, .int .u32 0, .int .u32 0, .int .i64 0, .slice none 0 0, .slice none 0 0, .string ⟨#[]⟩]) := ⟨hqw⟩
  rw [HQW.out] at HWH
  clear hqw
  have HOF : Keep (oneF d.A d.B bl c = (match SM.look d.B c with | none => [whM c] | some y => if y.kind = 1 ∧ dirB d.A c = false then underL c d.B else if y.kind = 1 then (if bl ≠ [] ∨ SM.look d.A c ≠ some y then bl ++ [(c, y)] else bl) else if SM.look d.A c ≠ some y then [(c, y)] else [])) := ⟨rfl⟩
  have HDA : Keep (dirB d.A c = (((SM.look d.A c).getD nd0).kind == 1)) := ⟨by
    unfold dirB
    cases SM.look d.A c with
    | none => rfl
    | some n => rfl⟩
  obtain ⟨isA, hisA⟩ : ∃ b, (SM.look d.A c).isSome = b := ⟨_, rfl⟩
  obtain ⟨isB, hisB⟩ : ∃ b, (SM.look d.B c).isSome = b := ⟨_, rfl⟩
  rw [hisA] at hla
  rw [hisB] at HLB
  obtain ⟨nA, hnA⟩ : ∃ n, (SM.look d.A c).getD nd0 = n := ⟨_, rfl⟩
  obtain ⟨nB, hnB⟩ : ∃ n, (SM.look d.B c).getD nd0 = n := ⟨_, rfl⟩
  rw [hnA] at hla HNA HDA
  rw [hnB] at HLB HNB
  have HA : Keep (SM.look d.A c = if isA = true then some nA else none) := ⟨by
    rw [← hisA, ← hnA]; cases SM.look d.A c <;> rfl⟩
  have HB : Keep (SM.look d.B c = if isB = true then some nB else none) := ⟨by
    rw [← hisB, ← hnB]; cases SM.look d.B c <;> rfl⟩
  obtain ⟨sm, hsm⟩ : ∃ b, decide (SM.look d.A c = some nB) = b := ⟨_, rfl⟩
  have HSM : Keep (sm = true ↔ SM.look d.A c = some nB) := ⟨by rw [← hsm]; exact decide_eq_true_iff⟩
  have HOF2 : Keep (oneF d.A d.B bl c = if isB = true then (if (nB.kind == 1 && !(nA.kind == 1)) = true then underL c d.B else if (nB.kind == 1) = true then (if (bl.isEmpty && sm) = true then bl else bl ++ [(c, nB)]) else (if sm = true then [] else [(c, nB)])) else [whM c]) := ⟨by
    rw [HOF.out, HB.out]
    cases isB with
    | false => rfl
    | true =>
      simp only [if_true, HDA.out]
      by_cases h1 : nB.kind = 1 <;> by_cases h2 : nA.kind = 1 <;> by_cases h3 : SM.look d.A c = some nB <;> (have h4 : sm = decide (SM.look d.A c = some nB) := hsm.symm) <;> cases bl <;> simp [h1, h2, h3, h4]⟩
  have hent1 := ent_undf
  have hent2 := ent_below
  have HBX : Keep (isB = true → nB.kind = 1 → ∀ wx, Below w.heap.size w wx → Calls Tryz.prog 120 #[.string ⟨c.toArray⟩, .pointer (some ⟨d.ba, 0, none⟩), .pointer (some ⟨d.bb, 0, none⟩), .pointer (some ⟨d.bo, 0, none⟩)] wx (BelAnsO d bl wx)) := ⟨fun h1 h2 => HBE.out ⟨nB, by rw [HB.out, if_pos h1], h2⟩⟩
  generalize oneF d.A d.B bl c = out at *
  have ca0 := h.ra.cell (i := 0) rfl
  have HRB := Keep.keep h.rb; have HRW := Keep.keep h.rw
  obtain ⟨aa, la, ca, ad, ld, cd, e1, e2⟩ := HNA.out.shape
  obtain ⟨ba, lb, cb, bd, le, ce, e3, e4⟩ := HNB.out.shape
  subst e1 e2 e3 e4
  obtain ⟨k6, m6, u6, g6, t6, at6, da6, l6⟩ := nA
  obtain ⟨k8, m8, u8, g8, t8, at8, da8, l8⟩ := nB
  have HNCA : Keep (ndC ⟨k6, m6, u6, g6, t6, at6, da6, l6⟩ (.slice aa la ca) (.slice ad ld cd) = #[.int .i64 k6, .int .u32 m6, .int .u32 u6, .int .u32 g6, .int .i64 t6, .slice aa la ca, .slice ad ld cd, .string ⟨l6.toArray⟩]) := ⟨rfl⟩
  have HNCB : Keep (ndC ⟨k8, m8, u8, g8, t8, at8, da8, l8⟩ (.slice ba lb cb) (.slice bd le ce) = #[.int .i64 k8, .int .u32 m8, .int .u32 u8, .int .u32 g8, .int .i64 t8, .slice ba lb cb, .slice bd le ce, .string ⟨l8.toArray⟩]) := ⟨rfl⟩
  rw [HNCA.out] at hla
  rw [HNCB.out] at HLB
  dsimp only at HOF2 HBX
  have hbmA : ∀ w, (Instr.build 41 #[(1, .agg #[.int .i64 k6, .int .u32 m6, .int .u32 u6, .int .u32 g6, .int .i64 t6, .slice aa la ca, .slice ad ld cd, .string ⟨l6.toArray⟩])]).run Tryz.prog w = .ok (.agg (mbC ([], ⟨k6, m6, u6, g6, t6, at6, da6, l6⟩) (.slice aa la ca) (.slice ad ld cd))) w := fun w => buildM1 ⟨k6, m6, u6, g6, t6, at6, da6, l6⟩ _ _ w
  have hbmB : ∀ w, (Instr.build 41 #[(1, .agg #[.int .i64 k8, .int .u32 m8, .int .u32 u8, .int .u32 g8, .int .i64 t8, .slice ba lb cb, .slice bd le ce, .string ⟨l8.toArray⟩])]).run Tryz.prog w = .ok (.agg (mbC ([], ⟨k8, m8, u8, g8, t8, at8, da8, l8⟩) (.slice ba lb cb) (.slice bd le ce))) w := fun w => buildM1 ⟨k8, m8, u8, g8, t8, at8, da8, l8⟩ _ _ w
  have hbmC : ∀ w, (Instr.build 41 #[(0, .string ⟨c.toArray⟩), (1, .agg #[.int .i64 k8, .int .u32 m8, .int .u32 u8, .int .u32 g8, .int .i64 t8, .slice ba lb cb, .slice bd le ce, .string ⟨l8.toArray⟩])]).run Tryz.prog w = .ok (.agg #[.string ⟨c.toArray⟩, .int .i64 k8, .int .u32 m8, .int .u32 u8, .int .u32 g8, .int .i64 t8, .slice ba lb cb, .slice bd le ce, .string ⟨l8.toArray⟩]) w := fun w => buildM (c, ⟨k8, m8, u8, g8, t8, at8, da8, l8⟩) (.slice ba lb cb) (.slice bd le ce) w
  have HSA : Keep (∀ wx, Below w.heap.size w wx → Calls Tryz.prog 51 #[.agg (mbC ([], ⟨k6, m6, u6, g6, t6, at6, da6, l6⟩) (.slice aa la ca) (.slice ad ld cd)), .agg (mbC ([], ⟨k8, m8, u8, g8, t8, at8, da8, l8⟩) (.slice ba lb cb) (.slice bd le ce))] wx fun e w' => SaysB ((([], ⟨k6, m6, u6, g6, t6, at6, da6, l6⟩) : Mb) = ([], ⟨k8, m8, u8, g8, t8, at8, da8, l8⟩)) e ∧ Below wx.heap.size wx w') :=
    ⟨fun wx hb => same_tar ([], ⟨k6, m6, u6, g6, t6, at6, da6, l6⟩) ([], ⟨k8, m8, u8, g8, t8, at8, da8, l8⟩) _ _ _ _ wx ((HNA.out.below hb (fun b hb => HLT.out b (.inl hb))).mono (fun b hb' => Nat.lt_of_lt_of_le (HLT.out b (.inl hb')) hb.size)).r ((HNB.out.below hb (fun b hb => HLT.out b (.inr (.inl hb)))).mono (fun b hb' => Nat.lt_of_lt_of_le (HLT.out b (.inr (.inl hb'))) hb.size)).r⟩
  clear hna hnb hlb hisA hisB hnA hnB hsm h hbel HOF HDA
  go_enter Tryz.func119, Tryz.ntmps119
  go_upto_region 2 with fail
  refine wp_world (R := fun w1 => Hp NoM w w1 [rowA w.heap.size 39 #[.int .i64 k6, .int .u32 m6, .int .u32 u6, .int .u32 g6, .int .i64 t6, .slice aa la ca, .slice ad ld cd, .string ⟨l6.toArray⟩]]) ((Hp.begin NoM w).newRow _ _) ?_
  intro w1 H1
  have hlb := HLB.out w1 H1.out.below
  have cb0 : w1.cell? ⟨d.bb, 0, none⟩ = some (.map (some d.nb)) := (HRB.out.below H1.out.below HRB.out.lt).cell rfl
  clear hla ca0
  go_upto_region 3 with fail
  obtain ⟨b8, hb8⟩ : ∃ b, w1.heap.size = b := ⟨_, rfl⟩
  refine wp_world (R := fun w2 => Hp NoM w w2 [rowA w.heap.size 39 #[.int .i64 k6, .int .u32 m6, .int .u32 u6, .int .u32 g6, .int .i64 t6, .slice aa la ca, .slice ad ld cd, .string ⟨l6.toArray⟩], rowA b8 39 #[.int .i64 k8, .int .u32 m8, .int .u32 u8, .int .u32 g8, .int .i64 t8, .slice ba lb cb, .slice bd le ce, .string ⟨l8.toArray⟩]]) (by have := H1.out.newRow 39 #[.int .i64 k8, .int .u32 m8, .int .u32 u8, .int .u32 g8, .int .i64 t8, .slice ba lb cb, .slice bd le ce, .string ⟨l8.toArray⟩]; rw [hb8] at this; exact this) ?_
  intro w2 H2
  rw [hb8]
  have HW2 := Keep.keep H2.out.below
  have HR6 := Keep.keep (H2.out.row 0 rfl)
  have HR8 := Keep.keep (H2.out.row 1 rfl)
  have HS6 : Keep ((#[.int .i64 k6, .int .u32 m6, .int .u32 u6, .int .u32 g6, .int .i64 t6, .slice aa la ca, .slice ad ld cd, .string ⟨l6.toArray⟩] : Array Value).size = 8) := ⟨rfl⟩
  have HS8 : Keep ((#[.int .i64 k8, .int .u32 m8, .int .u32 u8, .int .u32 g8, .int .i64 t8, .slice ba lb cb, .slice bd le ce, .string ⟨l8.toArray⟩] : Array Value).size = 8) := ⟨rfl⟩
  clear hlb cb0 H1 hb8 HLB
  cases isA
  case false =>
    have hs0 : sm = false := by
      cases hx : sm with
      | false => rfl
      | true => have := HSM.out.1 hx; rw [HA.out] at this; cases this
    subst hs0
    go_upto_region 4 with fail
    refine wp_world (R := fun w3 => Below w.heap.size w w3 ∧ Row w3 w.heap.size 39 #[.int .i64 k6, .int .u32 m6, .int .u32 u6, .int .u32 g6, .int .i64 t6, .slice aa la ca, .slice ad ld cd, .string ⟨l6.toArray⟩] ∧ Row w3 b8 39 #[.int .i64 k8, .int .u32 m8, .int .u32 u8, .int .u32 g8, .int .i64 t8, .slice ba lb cb, .slice bd le ce, .string ⟨l8.toArray⟩]) ⟨HW2.out, HR6.out, HR8.out⟩ ?_
    intro w3 H3
    clear HW2 HR6 HR8 H2
    have HB3 := Keep.keep H3.out.1
    have HR6 := Keep.keep H3.out.2.1
    have HR8 := Keep.keep H3.out.2.2
    clear H3
    cases isB
    case false =>
      go_wp2_with fail
      refine (HWH.out w3 HB3.out).mono ?_
      rintro e w4 ⟨rfl, hb4⟩
      have HB4 := Keep.keep (HB3.out.trans (hb4.mono HB3.out.size))
      clear hb4
      go_wp2_with fail
      go_ret
      have hone := RowO.one (K := d.Nb) (x := ((whM c, nilV, nilV) : Mv)) w.heap.size HB4.out.size (ndO_nil (by unfold whM signM; split <;> rfl) (by unfold whM signM; split <;> rfl))
      have hmc : mcell ((whM c, nilV, nilV) : Mv) = #[.string ⟨qw.toArray⟩, .int .i64 kw, .int .u32 0, .int .u32 0, .int .u32 0, .int .i64 0, .slice none 0 0, .slice none 0 0, .string ⟨#[]⟩] := HQW.out
      rw [hmc] at hone
      exact ⟨_, [((whM c, nilV, nilV) : Mv)], rfl, by rw [HOF2.out]; rfl, hone, HB4.out.alloc HB4.out.size _⟩
    have k80 := HR8.out.cell (i := 0) rfl
    have k60 := HR6.out.cell (i := 0) rfl
    cases h8 : (k8 == 1)
    case false =>
      have HR4 : Keep (RowO w.heap.size d.Nb w3 (.slice none 0 0) []) := ⟨RowO.nil _ _ _⟩
      obtain ⟨w4, hw4⟩ : ∃ w4, w3 = w4 := ⟨_, rfl⟩
      subst hw4
      have HB4 := HB3
      go_wp2_with (first | ((with_reducible refine arm_loadRow HR8.out aggN HS8.out ?_ ?_); (focus rfl); simp only [Act.put, List.setIfInBounds_toArray, List.set_cons_succ, List.set_cons_zero]) | (with_reducible refine arm_stop ?_))
      refine Stopped.out ?_
      have hal : Below w3.heap.size w3 (w3.alloc (.cells #[.string ⟨c.toArray⟩, .int .i64 k8, .int .u32 m8, .int .u32 u8, .int .u32 g8, .int .i64 t8, .slice ba lb cb, .slice bd le ce, .string ⟨l8.toArray⟩] 41)) := (Below.refl _ _).alloc (Nat.le_refl _) _
      have hrA := HR4.out.below hal
      have hs4 := HB4.out.size
      have hmN : MbsO (w3.alloc (.cells #[.string ⟨c.toArray⟩, .int .i64 k8, .int .u32 m8, .int .u32 u8, .int .u32 g8, .int .i64 t8, .slice ba lb cb, .slice bd le ce, .string ⟨l8.toArray⟩] 41)) (fun _ => True) d.Nb (.slice (some ⟨w3.heap.size, 0, none⟩) 1 1) [((c, ⟨k8, m8, u8, g8, t8, at8, da8, l8⟩), .slice ba lb cb, .slice bd le ce)] :=
        ⟨RdV.new (N := fun _ => True) 41 [.string ⟨c.toArray⟩, .int .i64 k8, .int .u32 m8, .int .u32 u8, .int .u32 g8, .int .i64 t8, .slice ba lb cb, .slice bd le ce, .string ⟨l8.toArray⟩] 9 1 _ rfl rfl (by unfold maxLen; omega) trivial, fun y hy => by
          obtain rfl : y = ((c, ⟨k8, m8, u8, g8, t8, at8, da8, l8⟩), .slice ba lb cb, .slice bd le ce) := by simpa using hy
          exact ((HNB.out.below HB4.out (fun b hb => HLT.out b (.inr (.inl hb)))).below (hal.mono HB4.out.size) (fun b hb => HLT.out b (.inr (.inl hb))))⟩
      refine arm_appMO (B := w.heap.size) hrA (Nat.le_trans hs4 hal.size) hmN (fun b hb => ⟨.inl hb, by have := HLT.out b (.inr (.inl hb)); have := hal.size; omega, fun e => by have := (hrA.lt e).1; have := HLT.out b (.inr (.inl hb)); omega⟩) (by simp) rfl rfl ?_
      intro v5 w5 hr5 hg5 hov5 hsh5
      obtain ⟨a5, c5, rfl⟩ := hsh5
      have HR5 := Keep.keep hr5
      have HB5 : Keep (Below w.heap.size w w5) := ⟨(HB4.out.trans (hal.mono HB4.out.size)).trans (hrA.chg (Nat.le_trans hs4 hal.size) hg5)⟩
      clear hr5 hg5 hov5 hmN hrA hal
      simp only [Act.put, List.setIfInBounds_toArray, List.set_cons_succ, List.set_cons_zero]
      go_wp2_with fail
      go_ret
      exact ⟨_, _, rfl, by rw [HOF2.out, h8]; rfl, HR5.out, HB5.out⟩
    have HK8 : Keep (k8 = 1) := ⟨by simpa using h8⟩
    cases h6 : (k6 == 1)
    case false =>
      have h6' : (k6 != 1) = true := by rw [bne, h6]; rfl
      have cb3 := (HRB.out.below HB3.out HRB.out.lt).cell (i := 3) rfl
      go_wp2_with fail
      refine (HUN.out w3 HB3.out).mono ?_
      rintro e w4 ⟨v4, l4, rfl, hl4, hr4, hb4⟩
      have HL4 := Keep.keep hl4
      have HR4 := Keep.keep (hr4.lower HB3.out.size (fun b hb => hb))
      have HB4 := Keep.keep (HB3.out.trans (hb4.mono HB3.out.size))
      obtain ⟨a4, c4, hv4, -⟩ := (ownsV_reads hr4.own).shape
      generalize l4.length = n4 at hv4
      clear hl4 hr4 hb4
      subst hv4
      go_wp2_with fail
      go_ret
      exact ⟨_, l4, rfl, by rw [HL4.out, HOF2.out, h8, h6]; rfl, HR4.out, HB4.out⟩
    have h6' : (k6 != 1) = false := by rw [bne, h6]; rfl
    have cw0 := (HRW.out.below HB3.out HRW.out.lt).cell (i := 0) rfl
    go_wp2_with fail
    refine (HBX.out (by first | trivial | rfl) HK8.out w3 HB3.out).mono ?_
    rintro e w4 ⟨v4, l4, rfl, hl4, hr4, hb4⟩
    have HL4 := Keep.keep hl4
    have HR4 := Keep.keep (hr4.lower HB3.out.size (fun b hb => hb))
    have HB4 := Keep.keep (HB3.out.trans (hb4.mono HB3.out.size))
    obtain ⟨a4, c4, hv4, -⟩ := (ownsV_reads hr4.own).shape
    have HN4 : Keep (l4.length = bl.length) := ⟨by rw [← hl4, List.length_map]⟩
    rw [HN4.out] at hv4
    have HR84 := Keep.keep (HR8.out.below hb4 HR8.out.lt)
    clear hl4 hr4 hb4 HR8 HR6 k80 k60 cw0
    have HR8 := HR84
    subst hv4
    obtain ⟨nbl, hnbl⟩ : ∃ n, bl.length = n := ⟨_, rfl⟩
    have HNBL := Keep.keep hnbl
    rw [hnbl] at HN4 hbl HR4
    rw [hnbl]
    clear hnbl
    by_cases hz : nbl = 0
    · have hbe : bl.isEmpty = true := by
        have := HNBL.out
        cases bl with
        | nil => rfl
        | cons a r => rw [hz] at this; cases this
      have hd0 : decide (0 < (nbl : Int)) = false := decide_eq_false (by omega)
      have hd1 : decide (0 < nbl) = false := decide_eq_false (by omega)
      clear hz
      go_wp2_with (first | ((with_reducible refine arm_loadRow HR8.out aggN HS8.out ?_ ?_); (focus rfl); simp only [Act.put, List.setIfInBounds_toArray, List.set_cons_succ, List.set_cons_zero]) | (with_reducible refine arm_stop ?_))
      refine Stopped.out ?_
      have hal : Below w4.heap.size w4 (w4.alloc (.cells #[.string ⟨c.toArray⟩, .int .i64 k8, .int .u32 m8, .int .u32 u8, .int .u32 g8, .int .i64 t8, .slice ba lb cb, .slice bd le ce, .string ⟨l8.toArray⟩] 41)) := (Below.refl _ _).alloc (Nat.le_refl _) _
      have hrA := HR4.out.below hal
      have hs4 := HB4.out.size
      have hmN : MbsO (w4.alloc (.cells #[.string ⟨c.toArray⟩, .int .i64 k8, .int .u32 m8, .int .u32 u8, .int .u32 g8, .int .i64 t8, .slice ba lb cb, .slice bd le ce, .string ⟨l8.toArray⟩] 41)) (fun _ => True) d.Nb (.slice (some ⟨w4.heap.size, 0, none⟩) 1 1) [((c, ⟨k8, m8, u8, g8, t8, at8, da8, l8⟩), .slice ba lb cb, .slice bd le ce)] :=
        ⟨RdV.new (N := fun _ => True) 41 [.string ⟨c.toArray⟩, .int .i64 k8, .int .u32 m8, .int .u32 u8, .int .u32 g8, .int .i64 t8, .slice ba lb cb, .slice bd le ce, .string ⟨l8.toArray⟩] 9 1 _ rfl rfl (by unfold maxLen; omega) trivial, fun y hy => by
          obtain rfl : y = ((c, ⟨k8, m8, u8, g8, t8, at8, da8, l8⟩), .slice ba lb cb, .slice bd le ce) := by simpa using hy
          exact ((HNB.out.below HB4.out (fun b hb => HLT.out b (.inr (.inl hb)))).below (hal.mono HB4.out.size) (fun b hb => HLT.out b (.inr (.inl hb))))⟩
      refine arm_appMO (B := w.heap.size) hrA (Nat.le_trans hs4 hal.size) hmN (fun b hb => ⟨.inl hb, by have := HLT.out b (.inr (.inl hb)); have := hal.size; omega, fun e => by have := (hrA.lt e).1; have := HLT.out b (.inr (.inl hb)); omega⟩) (by rw [HN4.out]; simp; omega) rfl rfl ?_
      intro v5 w5 hr5 hg5 hov5 hsh5
      obtain ⟨a5, c5, rfl⟩ := hsh5
      have HR5 := Keep.keep hr5
      have HB5 : Keep (Below w.heap.size w w5) := ⟨(HB4.out.trans (hal.mono HB4.out.size)).trans (hrA.chg (Nat.le_trans hs4 hal.size) hg5)⟩
      clear hr5 hg5 hov5 hmN hrA hal
      simp only [Act.put, List.setIfInBounds_toArray, List.set_cons_succ, List.set_cons_zero]
      go_wp2_with fail
      go_ret
      exact ⟨_, _, rfl, by rw [List.map_append, HL4.out, HOF2.out, h8, h6, hbe]; rfl, HR5.out, HB5.out⟩
    · have hbe : bl.isEmpty = false := by
        have := HNBL.out
        cases bl with
        | nil => exact (hz this.symm).elim
        | cons a r => rfl
      have hd0 : decide (0 < (nbl : Int)) = true := decide_eq_true (by omega)
      have hd1 : decide (0 < nbl) = true := decide_eq_true (by omega)
      clear hz
      go_wp2_with (first | ((with_reducible refine arm_loadRow HR8.out aggN HS8.out ?_ ?_); (focus rfl); simp only [Act.put, List.setIfInBounds_toArray, List.set_cons_succ, List.set_cons_zero]) | (with_reducible refine arm_stop ?_))
      refine Stopped.out ?_
      have hal : Below w4.heap.size w4 (w4.alloc (.cells #[.string ⟨c.toArray⟩, .int .i64 k8, .int .u32 m8, .int .u32 u8, .int .u32 g8, .int .i64 t8, .slice ba lb cb, .slice bd le ce, .string ⟨l8.toArray⟩] 41)) := (Below.refl _ _).alloc (Nat.le_refl _) _
      have hrA := HR4.out.below hal
      have hs4 := HB4.out.size
      have hmN : MbsO (w4.alloc (.cells #[.string ⟨c.toArray⟩, .int .i64 k8, .int .u32 m8, .int .u32 u8, .int .u32 g8, .int .i64 t8, .slice ba lb cb, .slice bd le ce, .string ⟨l8.toArray⟩] 41)) (fun _ => True) d.Nb (.slice (some ⟨w4.heap.size, 0, none⟩) 1 1) [((c, ⟨k8, m8, u8, g8, t8, at8, da8, l8⟩), .slice ba lb cb, .slice bd le ce)] :=
        ⟨RdV.new (N := fun _ => True) 41 [.string ⟨c.toArray⟩, .int .i64 k8, .int .u32 m8, .int .u32 u8, .int .u32 g8, .int .i64 t8, .slice ba lb cb, .slice bd le ce, .string ⟨l8.toArray⟩] 9 1 _ rfl rfl (by unfold maxLen; omega) trivial, fun y hy => by
          obtain rfl : y = ((c, ⟨k8, m8, u8, g8, t8, at8, da8, l8⟩), .slice ba lb cb, .slice bd le ce) := by simpa using hy
          exact ((HNB.out.below HB4.out (fun b hb => HLT.out b (.inr (.inl hb)))).below (hal.mono HB4.out.size) (fun b hb => HLT.out b (.inr (.inl hb))))⟩
      refine arm_appMO (B := w.heap.size) hrA (Nat.le_trans hs4 hal.size) hmN (fun b hb => ⟨.inl hb, by have := HLT.out b (.inr (.inl hb)); have := hal.size; omega, fun e => by have := (hrA.lt e).1; have := HLT.out b (.inr (.inl hb)); omega⟩) (by rw [HN4.out]; simp; omega) rfl rfl ?_
      intro v5 w5 hr5 hg5 hov5 hsh5
      obtain ⟨a5, c5, rfl⟩ := hsh5
      have HR5 := Keep.keep hr5
      have HB5 : Keep (Below w.heap.size w w5) := ⟨(HB4.out.trans (hal.mono HB4.out.size)).trans (hrA.chg (Nat.le_trans hs4 hal.size) hg5)⟩
      clear hr5 hg5 hov5 hmN hrA hal
      simp only [Act.put, List.setIfInBounds_toArray, List.set_cons_succ, List.set_cons_zero]
      go_wp2_with fail
      go_ret
      exact ⟨_, _, rfl, by rw [List.map_append, HL4.out, HOF2.out, h8, h6, hbe]; rfl, HR5.out, HB5.out⟩
  case true =>
    go_wp2_with (first | ((with_reducible refine arm_loadRowG ?_ HR6.out aggN HS6.out ?_ ?_); (focus rfl); (focus rfl); simp only [Act.put, List.setIfInBounds_toArray, List.set_cons_succ, List.set_cons_zero]) | ((with_reducible refine arm_loadRowG ?_ HR8.out aggN HS8.out ?_ ?_); (focus rfl); (focus rfl); simp only [Act.put, List.setIfInBounds_toArray, List.set_cons_succ, List.set_cons_zero]))
    refine (HSA.out w2 HW2.out).mono ?_
    rintro e w2' ⟨⟨r, rfl, hr⟩, hb2⟩
    have hrs : r = sm := by
      have h1 := HSM.out
      rw [HA.out] at h1
      rw [Bool.eq_iff_iff, hr, h1]
      simp
    subst hrs
    have HW2' := Keep.keep (HW2.out.trans (hb2.mono HW2.out.size))
    have HR6' := Keep.keep (HR6.out.below hb2 HR6.out.lt)
    have HR8' := Keep.keep (HR8.out.below hb2 HR8.out.lt)
    clear hb2 hr HW2 HR6 HR8 H2
    have HW2 := HW2'
    have HR6 := HR6'
    have HR8 := HR8'
    have H2 := HW2
    clear HW2' HR6' HR8'
    cases r
    case false =>
      go_upto_region 4 with fail
      refine wp_world (R := fun w3 => Below w.heap.size w w3 ∧ Row w3 w.heap.size 39 #[.int .i64 k6, .int .u32 m6, .int .u32 u6, .int .u32 g6, .int .i64 t6, .slice aa la ca, .slice ad ld cd, .string ⟨l6.toArray⟩] ∧ Row w3 b8 39 #[.int .i64 k8, .int .u32 m8, .int .u32 u8, .int .u32 g8, .int .i64 t8, .slice ba lb cb, .slice bd le ce, .string ⟨l8.toArray⟩]) ⟨HW2.out, HR6.out, HR8.out⟩ ?_
      intro w3 H3
      clear HW2 HR6 HR8 H2
      have HB3 := Keep.keep H3.out.1
      have HR6 := Keep.keep H3.out.2.1
      have HR8 := Keep.keep H3.out.2.2
      clear H3
      cases isB
      case false =>
        go_wp2_with fail
        refine (HWH.out w3 HB3.out).mono ?_
        rintro e w4 ⟨rfl, hb4⟩
        have HB4 := Keep.keep (HB3.out.trans (hb4.mono HB3.out.size))
        clear hb4
        go_wp2_with fail
        go_ret
        have hone := RowO.one (K := d.Nb) (x := ((whM c, nilV, nilV) : Mv)) w.heap.size HB4.out.size (ndO_nil (by unfold whM signM; split <;> rfl) (by unfold whM signM; split <;> rfl))
        have hmc : mcell ((whM c, nilV, nilV) : Mv) = #[.string ⟨qw.toArray⟩, .int .i64 kw, .int .u32 0, .int .u32 0, .int .u32 0, .int .i64 0, .slice none 0 0, .slice none 0 0, .string ⟨#[]⟩] := HQW.out
        rw [hmc] at hone
        exact ⟨_, [((whM c, nilV, nilV) : Mv)], rfl, by rw [HOF2.out]; rfl, hone, HB4.out.alloc HB4.out.size _⟩
      have k80 := HR8.out.cell (i := 0) rfl
      have k60 := HR6.out.cell (i := 0) rfl
      cases h8 : (k8 == 1)
      case false =>
        have HR4 : Keep (RowO w.heap.size d.Nb w3 (.slice none 0 0) []) := ⟨RowO.nil _ _ _⟩
        obtain ⟨w4, hw4⟩ : ∃ w4, w3 = w4 := ⟨_, rfl⟩
        subst hw4
        have HB4 := HB3
        go_wp2_with (first | ((with_reducible refine arm_loadRow HR8.out aggN HS8.out ?_ ?_); (focus rfl); simp only [Act.put, List.setIfInBounds_toArray, List.set_cons_succ, List.set_cons_zero]) | (with_reducible refine arm_stop ?_))
        refine Stopped.out ?_
        have hal : Below w3.heap.size w3 (w3.alloc (.cells #[.string ⟨c.toArray⟩, .int .i64 k8, .int .u32 m8, .int .u32 u8, .int .u32 g8, .int .i64 t8, .slice ba lb cb, .slice bd le ce, .string ⟨l8.toArray⟩] 41)) := (Below.refl _ _).alloc (Nat.le_refl _) _
        have hrA := HR4.out.below hal
        have hs4 := HB4.out.size
        have hmN : MbsO (w3.alloc (.cells #[.string ⟨c.toArray⟩, .int .i64 k8, .int .u32 m8, .int .u32 u8, .int .u32 g8, .int .i64 t8, .slice ba lb cb, .slice bd le ce, .string ⟨l8.toArray⟩] 41)) (fun _ => True) d.Nb (.slice (some ⟨w3.heap.size, 0, none⟩) 1 1) [((c, ⟨k8, m8, u8, g8, t8, at8, da8, l8⟩), .slice ba lb cb, .slice bd le ce)] :=
          ⟨RdV.new (N := fun _ => True) 41 [.string ⟨c.toArray⟩, .int .i64 k8, .int .u32 m8, .int .u32 u8, .int .u32 g8, .int .i64 t8, .slice ba lb cb, .slice bd le ce, .string ⟨l8.toArray⟩] 9 1 _ rfl rfl (by unfold maxLen; omega) trivial, fun y hy => by
            obtain rfl : y = ((c, ⟨k8, m8, u8, g8, t8, at8, da8, l8⟩), .slice ba lb cb, .slice bd le ce) := by simpa using hy
            exact ((HNB.out.below HB4.out (fun b hb => HLT.out b (.inr (.inl hb)))).below (hal.mono HB4.out.size) (fun b hb => HLT.out b (.inr (.inl hb))))⟩
        refine arm_appMO (B := w.heap.size) hrA (Nat.le_trans hs4 hal.size) hmN (fun b hb => ⟨.inl hb, by have := HLT.out b (.inr (.inl hb)); have := hal.size; omega, fun e => by have := (hrA.lt e).1; have := HLT.out b (.inr (.inl hb)); omega⟩) (by simp) rfl rfl ?_
        intro v5 w5 hr5 hg5 hov5 hsh5
        obtain ⟨a5, c5, rfl⟩ := hsh5
        have HR5 := Keep.keep hr5
        have HB5 : Keep (Below w.heap.size w w5) := ⟨(HB4.out.trans (hal.mono HB4.out.size)).trans (hrA.chg (Nat.le_trans hs4 hal.size) hg5)⟩
        clear hr5 hg5 hov5 hmN hrA hal
        simp only [Act.put, List.setIfInBounds_toArray, List.set_cons_succ, List.set_cons_zero]
        go_wp2_with fail
        go_ret
        exact ⟨_, _, rfl, by rw [HOF2.out, h8]; rfl, HR5.out, HB5.out⟩
      have HK8 : Keep (k8 = 1) := ⟨by simpa using h8⟩
      cases h6 : (k6 == 1)
      case false =>
        have h6' : (k6 != 1) = true := by rw [bne, h6]; rfl
        have cb3 := (HRB.out.below HB3.out HRB.out.lt).cell (i := 3) rfl
        go_wp2_with fail
        refine (HUN.out w3 HB3.out).mono ?_
        rintro e w4 ⟨v4, l4, rfl, hl4, hr4, hb4⟩
        have HL4 := Keep.keep hl4
        have HR4 := Keep.keep (hr4.lower HB3.out.size (fun b hb => hb))
        have HB4 := Keep.keep (HB3.out.trans (hb4.mono HB3.out.size))
        obtain ⟨a4, c4, hv4, -⟩ := (ownsV_reads hr4.own).shape
        generalize l4.length = n4 at hv4
        clear hl4 hr4 hb4
        subst hv4
        go_wp2_with fail
        go_ret
        exact ⟨_, l4, rfl, by rw [HL4.out, HOF2.out, h8, h6]; rfl, HR4.out, HB4.out⟩
      have h6' : (k6 != 1) = false := by rw [bne, h6]; rfl
      have cw0 := (HRW.out.below HB3.out HRW.out.lt).cell (i := 0) rfl
      go_wp2_with fail
      refine (HBX.out (by first | trivial | rfl) HK8.out w3 HB3.out).mono ?_
      rintro e w4 ⟨v4, l4, rfl, hl4, hr4, hb4⟩
      have HL4 := Keep.keep hl4
      have HR4 := Keep.keep (hr4.lower HB3.out.size (fun b hb => hb))
      have HB4 := Keep.keep (HB3.out.trans (hb4.mono HB3.out.size))
      obtain ⟨a4, c4, hv4, -⟩ := (ownsV_reads hr4.own).shape
      have HN4 : Keep (l4.length = bl.length) := ⟨by rw [← hl4, List.length_map]⟩
      rw [HN4.out] at hv4
      have HR84 := Keep.keep (HR8.out.below hb4 HR8.out.lt)
      clear hl4 hr4 hb4 HR8 HR6 k80 k60 cw0
      have HR8 := HR84
      subst hv4
      obtain ⟨nbl, hnbl⟩ : ∃ n, bl.length = n := ⟨_, rfl⟩
      have HNBL := Keep.keep hnbl
      rw [hnbl] at HN4 hbl HR4
      rw [hnbl]
      clear hnbl
      by_cases hz : nbl = 0
      · have hbe : bl.isEmpty = true := by
          have := HNBL.out
          cases bl with
          | nil => rfl
          | cons a r => rw [hz] at this; cases this
        have hd0 : decide (0 < (nbl : Int)) = false := decide_eq_false (by omega)
        have hd1 : decide (0 < nbl) = false := decide_eq_false (by omega)
        clear hz
        go_wp2_with (first | ((with_reducible refine arm_loadRow HR8.out aggN HS8.out ?_ ?_); (focus rfl); simp only [Act.put, List.setIfInBounds_toArray, List.set_cons_succ, List.set_cons_zero]) | (with_reducible refine arm_stop ?_))
        refine Stopped.out ?_
        have hal : Below w4.heap.size w4 (w4.alloc (.cells #[.string ⟨c.toArray⟩, .int .i64 k8, .int .u32 m8, .int .u32 u8, .int .u32 g8, .int .i64 t8, .slice ba lb cb, .slice bd le ce, .string ⟨l8.toArray⟩] 41)) := (Below.refl _ _).alloc (Nat.le_refl _) _
        have hrA := HR4.out.below hal
        have hs4 := HB4.out.size
        have hmN : MbsO (w4.alloc (.cells #[.string ⟨c.toArray⟩, .int .i64 k8, .int .u32 m8, .int .u32 u8, .int .u32 g8, .int .i64 t8, .slice ba lb cb, .slice bd le ce, .string ⟨l8.toArray⟩] 41)) (fun _ => True) d.Nb (.slice (some ⟨w4.heap.size, 0, none⟩) 1 1) [((c, ⟨k8, m8, u8, g8, t8, at8, da8, l8⟩), .slice ba lb cb, .slice bd le ce)] :=
          ⟨RdV.new (N := fun _ => True) 41 [.string ⟨c.toArray⟩, .int .i64 k8, .int .u32 m8, .int .u32 u8, .int .u32 g8, .int .i64 t8, .slice ba lb cb, .slice bd le ce, .string ⟨l8.toArray⟩] 9 1 _ rfl rfl (by unfold maxLen; omega) trivial, fun y hy => by
            obtain rfl : y = ((c, ⟨k8, m8, u8, g8, t8, at8, da8, l8⟩), .slice ba lb cb, .slice bd le ce) := by simpa using hy
            exact ((HNB.out.below HB4.out (fun b hb => HLT.out b (.inr (.inl hb)))).below (hal.mono HB4.out.size) (fun b hb => HLT.out b (.inr (.inl hb))))⟩
        refine arm_appMO (B := w.heap.size) hrA (Nat.le_trans hs4 hal.size) hmN (fun b hb => ⟨.inl hb, by have := HLT.out b (.inr (.inl hb)); have := hal.size; omega, fun e => by have := (hrA.lt e).1; have := HLT.out b (.inr (.inl hb)); omega⟩) (by rw [HN4.out]; simp; omega) rfl rfl ?_
        intro v5 w5 hr5 hg5 hov5 hsh5
        obtain ⟨a5, c5, rfl⟩ := hsh5
        have HR5 := Keep.keep hr5
        have HB5 : Keep (Below w.heap.size w w5) := ⟨(HB4.out.trans (hal.mono HB4.out.size)).trans (hrA.chg (Nat.le_trans hs4 hal.size) hg5)⟩
        clear hr5 hg5 hov5 hmN hrA hal
        simp only [Act.put, List.setIfInBounds_toArray, List.set_cons_succ, List.set_cons_zero]
        go_wp2_with fail
        go_ret
        exact ⟨_, _, rfl, by rw [List.map_append, HL4.out, HOF2.out, h8, h6, hbe]; rfl, HR5.out, HB5.out⟩
      · have hbe : bl.isEmpty = false := by
          have := HNBL.out
          cases bl with
          | nil => exact (hz this.symm).elim
          | cons a r => rfl
        have hd0 : decide (0 < (nbl : Int)) = true := decide_eq_true (by omega)
        have hd1 : decide (0 < nbl) = true := decide_eq_true (by omega)
        clear hz
        go_wp2_with (first | ((with_reducible refine arm_loadRow HR8.out aggN HS8.out ?_ ?_); (focus rfl); simp only [Act.put, List.setIfInBounds_toArray, List.set_cons_succ, List.set_cons_zero]) | (with_reducible refine arm_stop ?_))
        refine Stopped.out ?_
        have hal : Below w4.heap.size w4 (w4.alloc (.cells #[.string ⟨c.toArray⟩, .int .i64 k8, .int .u32 m8, .int .u32 u8, .int .u32 g8, .int .i64 t8, .slice ba lb cb, .slice bd le ce, .string ⟨l8.toArray⟩] 41)) := (Below.refl _ _).alloc (Nat.le_refl _) _
        have hrA := HR4.out.below hal
        have hs4 := HB4.out.size
        have hmN : MbsO (w4.alloc (.cells #[.string ⟨c.toArray⟩, .int .i64 k8, .int .u32 m8, .int .u32 u8, .int .u32 g8, .int .i64 t8, .slice ba lb cb, .slice bd le ce, .string ⟨l8.toArray⟩] 41)) (fun _ => True) d.Nb (.slice (some ⟨w4.heap.size, 0, none⟩) 1 1) [((c, ⟨k8, m8, u8, g8, t8, at8, da8, l8⟩), .slice ba lb cb, .slice bd le ce)] :=
          ⟨RdV.new (N := fun _ => True) 41 [.string ⟨c.toArray⟩, .int .i64 k8, .int .u32 m8, .int .u32 u8, .int .u32 g8, .int .i64 t8, .slice ba lb cb, .slice bd le ce, .string ⟨l8.toArray⟩] 9 1 _ rfl rfl (by unfold maxLen; omega) trivial, fun y hy => by
            obtain rfl : y = ((c, ⟨k8, m8, u8, g8, t8, at8, da8, l8⟩), .slice ba lb cb, .slice bd le ce) := by simpa using hy
            exact ((HNB.out.below HB4.out (fun b hb => HLT.out b (.inr (.inl hb)))).below (hal.mono HB4.out.size) (fun b hb => HLT.out b (.inr (.inl hb))))⟩
        refine arm_appMO (B := w.heap.size) hrA (Nat.le_trans hs4 hal.size) hmN (fun b hb => ⟨.inl hb, by have := HLT.out b (.inr (.inl hb)); have := hal.size; omega, fun e => by have := (hrA.lt e).1; have := HLT.out b (.inr (.inl hb)); omega⟩) (by rw [HN4.out]; simp; omega) rfl rfl ?_
        intro v5 w5 hr5 hg5 hov5 hsh5
        obtain ⟨a5, c5, rfl⟩ := hsh5
        have HR5 := Keep.keep hr5
        have HB5 : Keep (Below w.heap.size w w5) := ⟨(HB4.out.trans (hal.mono HB4.out.size)).trans (hrA.chg (Nat.le_trans hs4 hal.size) hg5)⟩
        clear hr5 hg5 hov5 hmN hrA hal
        simp only [Act.put, List.setIfInBounds_toArray, List.set_cons_succ, List.set_cons_zero]
        go_wp2_with fail
        go_ret
        exact ⟨_, _, rfl, by rw [List.map_append, HL4.out, HOF2.out, h8, h6, hbe]; rfl, HR5.out, HB5.out⟩
    case true =>
      go_upto_region 4 with fail
      refine wp_world (R := fun w3 => Below w.heap.size w w3 ∧ Row w3 w.heap.size 39 #[.int .i64 k6, .int .u32 m6, .int .u32 u6, .int .u32 g6, .int .i64 t6, .slice aa la ca, .slice ad ld cd, .string ⟨l6.toArray⟩] ∧ Row w3 b8 39 #[.int .i64 k8, .int .u32 m8, .int .u32 u8, .int .u32 g8, .int .i64 t8, .slice ba lb cb, .slice bd le ce, .string ⟨l8.toArray⟩]) ⟨HW2.out, HR6.out, HR8.out⟩ ?_
      intro w3 H3
      clear HW2 HR6 HR8 H2
      have HB3 := Keep.keep H3.out.1
      have HR6 := Keep.keep H3.out.2.1
      have HR8 := Keep.keep H3.out.2.2
      clear H3
      cases isB
      case false =>
        go_wp2_with fail
        refine (HWH.out w3 HB3.out).mono ?_
        rintro e w4 ⟨rfl, hb4⟩
        have HB4 := Keep.keep (HB3.out.trans (hb4.mono HB3.out.size))
        clear hb4
        go_wp2_with fail
        go_ret
        have hone := RowO.one (K := d.Nb) (x := ((whM c, nilV, nilV) : Mv)) w.heap.size HB4.out.size (ndO_nil (by unfold whM signM; split <;> rfl) (by unfold whM signM; split <;> rfl))
        have hmc : mcell ((whM c, nilV, nilV) : Mv) = #[.string ⟨qw.toArray⟩, .int .i64 kw, .int .u32 0, .int .u32 0, .int .u32 0, .int .i64 0, .slice none 0 0, .slice none 0 0, .string ⟨#[]⟩] := HQW.out
        rw [hmc] at hone
        exact ⟨_, [((whM c, nilV, nilV) : Mv)], rfl, by rw [HOF2.out]; rfl, hone, HB4.out.alloc HB4.out.size _⟩
      have k80 := HR8.out.cell (i := 0) rfl
      have k60 := HR6.out.cell (i := 0) rfl
      cases h8 : (k8 == 1)
      case false =>
        go_wp2_with fail
        go_ret
        exact ⟨_, [], rfl, by rw [HOF2.out, h8]; rfl, RowO.nil _ _ _, HB3.out⟩
      have HK8 : Keep (k8 = 1) := ⟨by simpa using h8⟩
      cases h6 : (k6 == 1)
      case false =>
        have h6' : (k6 != 1) = true := by rw [bne, h6]; rfl
        have cb3 := (HRB.out.below HB3.out HRB.out.lt).cell (i := 3) rfl
        go_wp2_with fail
        refine (HUN.out w3 HB3.out).mono ?_
        rintro e w4 ⟨v4, l4, rfl, hl4, hr4, hb4⟩
        have HL4 := Keep.keep hl4
        have HR4 := Keep.keep (hr4.lower HB3.out.size (fun b hb => hb))
        have HB4 := Keep.keep (HB3.out.trans (hb4.mono HB3.out.size))
        obtain ⟨a4, c4, hv4, -⟩ := (ownsV_reads hr4.own).shape
        generalize l4.length = n4 at hv4
        clear hl4 hr4 hb4
        subst hv4
        go_wp2_with fail
        go_ret
        exact ⟨_, l4, rfl, by rw [HL4.out, HOF2.out, h8, h6]; rfl, HR4.out, HB4.out⟩
      have h6' : (k6 != 1) = false := by rw [bne, h6]; rfl
      have cw0 := (HRW.out.below HB3.out HRW.out.lt).cell (i := 0) rfl
      go_wp2_with fail
      refine (HBX.out (by first | trivial | rfl) HK8.out w3 HB3.out).mono ?_
      rintro e w4 ⟨v4, l4, rfl, hl4, hr4, hb4⟩
      have HL4 := Keep.keep hl4
      have HR4 := Keep.keep (hr4.lower HB3.out.size (fun b hb => hb))
      have HB4 := Keep.keep (HB3.out.trans (hb4.mono HB3.out.size))
      obtain ⟨a4, c4, hv4, -⟩ := (ownsV_reads hr4.own).shape
      have HN4 : Keep (l4.length = bl.length) := ⟨by rw [← hl4, List.length_map]⟩
      rw [HN4.out] at hv4
      have HR84 := Keep.keep (HR8.out.below hb4 HR8.out.lt)
      clear hl4 hr4 hb4 HR8 HR6 k80 k60 cw0
      have HR8 := HR84
      subst hv4
      obtain ⟨nbl, hnbl⟩ : ∃ n, bl.length = n := ⟨_, rfl⟩
      have HNBL := Keep.keep hnbl
      rw [hnbl] at HN4 hbl HR4
      rw [hnbl]
      clear hnbl
      by_cases hz : nbl = 0
      · have hbe : bl.isEmpty = true := by
          have := HNBL.out
          cases bl with
          | nil => rfl
          | cons a r => rw [hz] at this; cases this
        have hd0 : decide (0 < (nbl : Int)) = false := decide_eq_false (by omega)
        have hd1 : decide (0 < nbl) = false := decide_eq_false (by omega)
        clear hz
        go_wp2_with fail
        go_ret
        exact ⟨_, l4, rfl, by rw [HL4.out, HOF2.out, h8, h6, hbe]; rfl, HR4.out, HB4.out⟩
      · have hbe : bl.isEmpty = false := by
          have := HNBL.out
          cases bl with
          | nil => exact (hz this.symm).elim
          | cons a r => rfl
        have hd0 : decide (0 < (nbl : Int)) = true := decide_eq_true (by omega)
        have hd1 : decide (0 < nbl) = true := decide_eq_true (by omega)
        clear hz
        go_wp2_with (first | ((with_reducible refine arm_loadRow HR8.out aggN HS8.out ?_ ?_); (focus rfl); simp only [Act.put, List.setIfInBounds_toArray, List.set_cons_succ, List.set_cons_zero]) | (with_reducible refine arm_stop ?_))
        refine Stopped.out ?_
        have hal : Below w4.heap.size w4 (w4.alloc (.cells #[.string ⟨c.toArray⟩, .int .i64 k8, .int .u32 m8, .int .u32 u8, .int .u32 g8, .int .i64 t8, .slice ba lb cb, .slice bd le ce, .string ⟨l8.toArray⟩] 41)) := (Below.refl _ _).alloc (Nat.le_refl _) _
        have hrA := HR4.out.below hal
        have hs4 := HB4.out.size
        have hmN : MbsO (w4.alloc (.cells #[.string ⟨c.toArray⟩, .int .i64 k8, .int .u32 m8, .int .u32 u8, .int .u32 g8, .int .i64 t8, .slice ba lb cb, .slice bd le ce, .string ⟨l8.toArray⟩] 41)) (fun _ => True) d.Nb (.slice (some ⟨w4.heap.size, 0, none⟩) 1 1) [((c, ⟨k8, m8, u8, g8, t8, at8, da8, l8⟩), .slice ba lb cb, .slice bd le ce)] :=
          ⟨RdV.new (N := fun _ => True) 41 [.string ⟨c.toArray⟩, .int .i64 k8, .int .u32 m8, .int .u32 u8, .int .u32 g8, .int .i64 t8, .slice ba lb cb, .slice bd le ce, .string ⟨l8.toArray⟩] 9 1 _ rfl rfl (by unfold maxLen; omega) trivial, fun y hy => by
            obtain rfl : y = ((c, ⟨k8, m8, u8, g8, t8, at8, da8, l8⟩), .slice ba lb cb, .slice bd le ce) := by simpa using hy
            exact ((HNB.out.below HB4.out (fun b hb => HLT.out b (.inr (.inl hb)))).below (hal.mono HB4.out.size) (fun b hb => HLT.out b (.inr (.inl hb))))⟩
        refine arm_appMO (B := w.heap.size) hrA (Nat.le_trans hs4 hal.size) hmN (fun b hb => ⟨.inl hb, by have := HLT.out b (.inr (.inl hb)); have := hal.size; omega, fun e => by have := (hrA.lt e).1; have := HLT.out b (.inr (.inl hb)); omega⟩) (by rw [HN4.out]; simp; omega) rfl rfl ?_
        intro v5 w5 hr5 hg5 hov5 hsh5
        obtain ⟨a5, c5, rfl⟩ := hsh5
        have HR5 := Keep.keep hr5
        have HB5 : Keep (Below w.heap.size w w5) := ⟨(HB4.out.trans (hal.mono HB4.out.size)).trans (hrA.chg (Nat.le_trans hs4 hal.size) hg5)⟩
        clear hr5 hg5 hov5 hmN hrA hal
        simp only [Act.put, List.setIfInBounds_toArray, List.set_cons_succ, List.set_cons_zero]
        go_wp2_with fail
        go_ret
        exact ⟨_, _, rfl, by rw [List.map_append, HL4.out, HOF2.out, h8, h6, hbe]; rfl, HR5.out, HB5.out⟩
end Go.Proofs.YtmnknmpfkjhgbaaGreatDoor
