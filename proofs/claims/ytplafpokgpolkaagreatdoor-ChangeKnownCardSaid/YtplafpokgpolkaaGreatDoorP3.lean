/- PARTS OF ONE PROOF, set in one file: Ins, QTail, CAny, IAny, QCls, Gen, Gen2, SlStr, PathFns, PathFn2. Each part tells its own conditions. -/
import Derived.ChangeKeysEq
import Derived.Laws.StructEq
import Derived.Laws.Concat
import Derived.BigFrame
import Derived.Test.YtplafpokgpolkaaGreatDoorRows
import Derived.WalkKit
import Derived.Deep.QuietTactic
import Derived.BigQuiet
import Derived.StillTailTactics
import Derived.WalkMore
import Derived.Deep.DeepBigQuietO
import Derived.Shelf.Abstract
import Derived.Sort.Grow
import Derived.Lib.AppendStr
import Derived.Test.YtplafpokgpolkaaGreatDoorP1
import Derived.Test.YtplafpokgpolkaaGreatDoorP2
/- SMALL RUNS OF INSTRUCTIONS, as rules of the walk. -/
namespace Go.Proofs.YtplafpokgpolkaaGreatDoor
open Go.RowKit
/-- an array's value, indexed: elements of one cell -/
theorem run_index_agg {P : Program} {T e : TypeId} {n : Nat} {d : TypeDesc} (hu : P.underlying T = some (.array n e)) (he : P.underlying e = some d) (hd : d.isRow = false) (hs : (P.info? e).map (·.size) = some 1)
    (c : Array Value) (k : IntKind) (i : Nat) (hi : i < n) (v : Value) (hv : c[i]? = some v) (w : World) : (Instr.index T (.agg c) (.int k (i : Int))).run P w = .ok v w := by
  obtain ⟨info, hinfo, hsz⟩ : ∃ info, P.info? e = some info ∧ info.size = 1 := by
    cases h : P.info? e with
    | none => simp [h] at hs
    | some i => simp [h] at hs; exact ⟨i, rfl, hs⟩
  have hagg : (isAgg e).run P w = .ok false w := by
    simp only [isAgg, Sem.run_bind, run_underlying he, Result.andThen_ok]
    cases d <;> simp_all [TypeDesc.isRow]
  simp [Instr.index, asIntOf, run_underlying hu, hi, sizeOf, typeInfo, hinfo, hsz, part, hagg, hv]
/-- a string, indexed -/
theorem run_index_str {P : Program} {T : TypeId} (hu : P.underlying T = some .string) (s : ByteArray) (k : IntKind) (i : Nat) (c : UInt8) (hc : s.data.toList[i]? = some c) (w : World) : (Instr.index T (.string s) (.int k (i : Int))).run P w = .ok (.int .u8 (c.toNat : Int)) w := by
  have hi : i < s.size := by
    have := (List.getElem?_eq_some_iff.1 hc).1
    simpa using this
  have hg : s[i]? = some c := by
    rw [getElem?_pos s i hi]
    have h2 := List.getElem?_eq_some_iff.1 hc
    obtain ⟨h2, h3⟩ := h2
    rw [← h3]
    rfl
  simp [Instr.index, asIntOf, run_underlying hu, hg]
/-- a part of a string -/
theorem run_slice_str {P : Program} {T : TypeId} (hu : P.underlying T = some .string) (l : List UInt8) (k1 k2 : IntKind) (i j : Int) (h0 : 0 ≤ i) (h1 : i ≤ j) (h2 : j ≤ l.length) (w : World) :
    (Instr.slice T (.string ⟨l.toArray⟩) (some (.int k1 i)) (some (.int k2 j)) none).run P w = .ok (.string ⟨((l.drop i.toNat).take (j.toNat - i.toNat)).toArray⟩) w := by
  have hsz : ByteArray.size ⟨l.toArray⟩ = l.length := rfl
  have e1 : 0 ≤ j ∧ j ≤ (l.length : Int) := by omega
  have e2 : 0 ≤ i ∧ i ≤ (j.toNat : Int) := by omega
  have e3 : ¬ (max j 0 < i) := by omega
  simp [Instr.slice, Instr.sliceBounds, Instr.sliceBound, asIntOf, run_underlying hu, hsz, e1, e2, ByteArray.extract_mk]
  intro h; exact absurd h e3
/-- two texts, one behind the other -/
theorem run_cat {P : Program} (a b : List UInt8) (h : a.length + b.length ≤ 4611686018427387904) (w : World) : (Op.stringOp .add ⟨a.toArray⟩ ⟨b.toArray⟩).run P w = .ok (.string ⟨(a ++ b).toArray⟩) w := by
  rw [run_string_add_sum w _ _ (by simp [ByteArray.size]; omega), ByteArray.mk_append_mk]
theorem run_part_one {P : Program} {e : TypeId} {d : TypeDesc} (he : P.underlying e = some d) (hd : d.isRow = false) (c : Array Value) (i : Nat) (v : Value) (hv : c[i]? = some v) (w : World) : (part e c i).run P w = .ok v w := by
  have hagg : (isAgg e).run P w = .ok false w := by
    simp only [isAgg, Sem.run_bind, run_underlying he, Result.andThen_ok]
    cases d <;> simp_all [TypeDesc.isRow]
  simp [part, hagg, hv]
theorem all_range_eq (a b : List UInt8) (h : a.length = b.length) : ((List.range a.length).all fun i => a.getD i 0 == b.getD i 0) = (a == b) := by
  rw [Bool.eq_iff_iff, List.all_eq_true, beq_iff_eq]
  constructor
  · intro hh
    apply List.ext_getElem h
    intro i h1 h2
    have := hh i (List.mem_range.2 h1)
    simpa [List.getD_eq_getElem?_getD, h1, h2] using this
  · rintro rfl i _
    simp
/-- arrays of bytes, compared -/
theorem run_equal_bytes {P : Program} {T e : TypeId} {n : Nat} (hu : P.underlying T = some (.array n e)) (he : P.underlying e = some (.int .u8)) (hs : (P.info? e).map (·.size) = some 1)
    (a b : List UInt8) (ha : a.length = n) (hb : b.length = n) (d : Nat) (w : World) : (Op.equalIn (d + 2) T (.agg (bcells a).toArray) (.agg (bcells b).toArray)).run P w = .ok (a == b) w := by
  obtain ⟨info, hinfo, hsz⟩ : ∃ info, P.info? e = some info ∧ info.size = 1 := by
    cases h : P.info? e with
    | none => simp [h] at hs
    | some i => simp [h] at hs; exact ⟨i, rfl, hs⟩
  have hc : P.cellsOf e = 1 := by simp [Program.cellsOf, hinfo, hsz]
  rw [run_equalIn_array w (d + 1) _ _ hu hinfo, hc, ← all_range_eq a b (by omega), ha]
  have key : ∀ is : List Nat, (∀ i ∈ is, i < n) → (Op.eqItems (d + 1) e 1 (bcells a).toArray (bcells b).toArray is).run P w = .ok (is.all fun i => a.getD i 0 == b.getD i 0) w := by
    intro is
    induction is with
    | nil => intro _; simp [Op.eqItems]
    | cons i is ih =>
      intro hi
      have h0 := hi i (by simp)
      have h1 : (bcells a).toArray[i]? = some (.int .u8 ((a.getD i 0).toNat : Int)) := by
        have := bcells_get a i (by omega)
        simpa [List.getD_eq_getElem?_getD, show i < a.length by omega] using this
      have h2 : (bcells b).toArray[i]? = some (.int .u8 ((b.getD i 0).toNat : Int)) := by
        have := bcells_get b i (by omega)
        simpa [List.getD_eq_getElem?_getD, show i < b.length by omega] using this
      have e0 : (((a.getD i 0).toNat : Int) == ((b.getD i 0).toNat : Int)) = (a.getD i 0 == b.getD i 0) := by
        rw [Bool.eq_iff_iff, beq_iff_eq, beq_iff_eq, Int.natCast_inj]
        exact UInt8.toNat_inj
      have e1 : (Op.equalIn (d + 1) e (.int .u8 ((a.getD i 0).toNat : Int)) (.int .u8 ((b.getD i 0).toNat : Int))).run P w = .ok (a.getD i 0 == b.getD i 0) w := by
        simp only [Op.equalIn, Sem.run_bind, run_underlying he, Result.andThen_ok]
        rw [← e0]; simp
      simp only [Op.eqItems, Nat.mul_one, Sem.run_bind, run_part_one he rfl _ i _ h1, run_part_one he rfl _ i _ h2, Result.andThen_ok, e1, List.all_cons]
      cases hq : (a.getD i 0 == b.getD i 0)
      · simp
      · simpa using ih (fun j hj => hi j (by simp [hj]))
  exact key _ (fun i hi => List.mem_range.1 hi)
theorem run_eql_bytes {P : Program} {T e : TypeId} {n : Nat} (hu : P.underlying T = some (.array n e)) (he : P.underlying e = some (.int .u8)) (hs : (P.info? e).map (·.size) = some 1)
    (a b : List UInt8) (ha : a.length = n) (hb : b.length = n) (w : World) : (binOp .eql T (.agg (bcells a).toArray) (.agg (bcells b).toArray)).run P w = .ok (.bool (a == b)) w := by
  rw [run_eql_struct, run_equal_bytes hu he hs a b ha hb 9998 w]; rfl
theorem run_neq_bytes {P : Program} {T e : TypeId} {n : Nat} (hu : P.underlying T = some (.array n e)) (he : P.underlying e = some (.int .u8)) (hs : (P.info? e).map (·.size) = some 1)
    (a b : List UInt8) (ha : a.length = n) (hb : b.length = n) (w : World) : (binOp .neq T (.agg (bcells a).toArray) (.agg (bcells b).toArray)).run P w = .ok (.bool (!(a == b))) w := by
  rw [run_neq_struct, run_equal_bytes hu he hs a b ha hb 9998 w]; rfl
/-- two results, the first of them in a variable -/
theorem results_row2 {P : Program} {fn : Func} {p q : Tmp} {ty : TypeId} {n : Nat} {w : World} {b : Nat} {e : TypeId} {c : Array Value} {tmps : Array Value} {v : Value} (h : fn.results = #[.cell p ty, .tmp q]) (hrow : Row w b e c) (hA : AggTy P ty n) (hs : c.size = n)
    (hp : tmps.getD p undef = .pointer (some ⟨b, 0, none⟩)) (hq : tmps.getD q undef = v) : (results fn tmps).run P w = .ok (.tuple #[.agg c, v]) w := by
  obtain ⟨d, hu, hd⟩ := hA.u
  have hp' : tmps[p]?.getD undef = .pointer (some ⟨b, 0, none⟩) := by simpa using hp
  have hq' : tmps[q]?.getD undef = v := by simpa using hq
  have hrow' : w.heap[b]? = some (.cells c e (0, 0)) := hrow
  simp [results, h, hp', hq', asAddr, run_loadVar_row w b e ty c (0, 0) d hrow' hu (by cases d <;> simp_all [TypeDesc.isRow]) (by rw [hs]; exact hA.i)]
theorem arm_stopL {P : Program} {ops : Array Oper} {rest : List Oper} {a : Act} {w : World} {Q : Exit → Act → World → Prop} {tp t : TypeId} {dst : Option Tmp} {x : Operand} {pos : String} {after : Array Edge}
  (h : Stopped P ops rest a w Q ⟨dst, .load t x, tp, pos, after, none⟩) : wpList P ops Q (⟨dst, .load t x, tp, pos, after, none⟩ :: rest) a w := by cases h; assumption
theorem arm_stopS {P : Program} {ops : Array Oper} {rest : List Oper} {a : Act} {w : World} {Q : Exit → Act → World → Prop} {tp t : TypeId} {dst : Option Tmp} {x y : Operand} {pos : String} {after : Array Edge}
  (h : Stopped P ops rest a w Q ⟨dst, .store t x y, tp, pos, after, none⟩) : wpList P ops Q (⟨dst, .store t x y, tp, pos, after, none⟩ :: rest) a w := by cases h; assumption
/-- ARM: a whole variable is read, under a guard that holds -/
theorem arm_loadRowG {P : Program} {ops : Array Oper} {rest : List Oper} {a : Act} {w : World} {Q : Exit → Act → World → Prop} {b n : Nat} {e ty tp : TypeId} {c : Array Value} {dst : Option Tmp} {x : Operand} {pos : String} {after : Array Edge} {g : Option (Nat × Bool)}
    (hwt : Region.wanted (⟨dst, .load ty x, tp, pos, after, g⟩ : Oper) (yielded ops a.tmps) = true) (hrow : Row w b e c) (hA : AggTy P ty n) (hs : c.size = n)
    (hx : a.eval x = .pointer (some ⟨b, 0, none⟩)) (h : wpList P ops Q rest (a.put dst (.agg c)) w) : wpList P ops Q (⟨dst, .load ty x, tp, pos, after, g⟩ :: rest) a w := by
  refine Go.BigFrame.wpList_want hwt fun K hK => ?_
  obtain ⟨d, hu, hd⟩ := hA.u
  have hl := hrow.loadAt (P := P) ty d hu hd (by rw [hs]; exact hA.i)
  unfold Oper.wp execOp
  simp only [hx, Sem.run_bind, Sem.run_pure, Result.andThen_ok, hl]
  exact hK _ _ h
/-- the walk stops at a guarded operation -/
inductive StoppedG (P : Program) (ops : Array Oper) (rest : List Oper) (a : Act) (w : World) (Q : Exit → Act → World → Prop) (o : Oper) : Prop
  | mk (h : wpList P ops Q (o :: rest) a w)
theorem StoppedG.out {P : Program} {ops : Array Oper} {rest : List Oper} {a : Act} {w : World} {Q : Exit → Act → World → Prop} {o : Oper} (h : wpList P ops Q (o :: rest) a w) : StoppedG P ops rest a w Q o := .mk h
theorem arm_stopLG {P : Program} {ops : Array Oper} {rest : List Oper} {a : Act} {w : World} {Q : Exit → Act → World → Prop} {tp t : TypeId} {dst : Option Tmp} {x : Operand} {pos : String} {after : Array Edge} {g : Option (Nat × Bool)}
  (_ : Region.wanted (⟨dst, .load t x, tp, pos, after, g⟩ : Oper) (yielded ops a.tmps) = true) (h : StoppedG P ops rest a w Q ⟨dst, .load t x, tp, pos, after, g⟩) : wpList P ops Q (⟨dst, .load t x, tp, pos, after, g⟩ :: rest) a w := by cases h; assumption
theorem arm_stopC {P : Program} {ops : Array Oper} {rest : List Oper} {a : Act} {w : World} {Q : Exit → Act → World → Prop} {tp : TypeId} {dst : Option Tmp} {args : Array Operand} {ts : Array TypeId} {pos : String} {after : Array Edge}
  (h : Stopped P ops rest a w Q ⟨dst, .call ⟨.builtin .copy, args, ts⟩, tp, pos, after, none⟩) : wpList P ops Q (⟨dst, .call ⟨.builtin .copy, args, ts⟩, tp, pos, after, none⟩ :: rest) a w := by cases h; assumption
end Go.Proofs.YtplafpokgpolkaaGreatDoor
/- A REGION THAT DRAWS ITS ORDER: all operations but the last few only read (they may call what only reads), and the last few stand behind all of them: one walk of the text's order serves every order. -/
namespace Go.Proofs.YtplafpokgpolkaaGreatDoor
open Go
section
variable {P : Program} {ops : Array Oper} {md : Region.Mode} {C : World → Prop}
/-- f operations more come up, each of them one of the first n, whatever order the tape picks; then L -/
def headQ (P : Program) (md : Region.Mode) (ops : Array Oper) (C : World → Prop) (n : Nat) (L : Array Bool → Act → Prop) : Nat → Array Bool → Act → Prop
  | 0, done, a => L done a
  | f + 1, done, a => Region.ready md ops done ≠ [] ∧ ∀ i ∈ Region.ready md ops done, i < n ∧ qOp P ops C i (headQ P md ops C n L f (done.setIfInBounds i true)) a

theorem any_of_headQ {n g : Nat} {L : Array Bool → Act → Prop} {Q : Exit → Act → World → Prop} (hL : ∀ done a w, C w → L done a → wpAny P md ops Q g done a w) (f : Nat) :
    ∀ (done : Array Bool) (a : Act) (w : World), C w → headQ P md ops C n L f done a → wpAny P md ops Q (f + g) done a w := by
  induction f with
  | zero => intro done a w hw h; rw [Nat.zero_add]; exact hL _ _ _ hw h
  | succ f ih =>
    intro done a w hw h
    have e : f + 1 + g = (f + g) + 1 := by omega
    rw [e]
    refine ⟨fun h0 => (h.1 h0).elim, fun i hi => ?_⟩
    exact wpOp_of_qOp hw (fun a' w' hw' h' => ih _ a' w' hw' h') (h.2 i hi).2

theorem headQ_first {n i : Nat} {oi : Oper} {v : Value} {L : Array Bool → Act → Prop} (hi : ops[i]? = some oi) (hsel : ∀ (j : Nat) (o : Oper) cs b, ops[j]? = some o → o.op ≠ .select cs b)
    (hs : Region.sinkB md ops n = true) (hc : Region.chainB md ops n = true) (hn : n < ops.size) (hin : i < n) (hdone : ∀ done a, L done a → ∀ j ∈ Region.ready md ops done, n ≤ j) (f : Nat) :
    ∀ (done : Array Bool) (a : Act), HeadInv md ops n done →
      (∀ j oj, ops[j]? = some oj → j ≠ i → done.getD j true = false → (∀ e ∈ oj.after, Region.binds md e = true → e.on ≠ i) → oi.apart ops oj = true) →
      i ∈ Region.ready md ops done → YieldsIn P ops C oi v a →
      headQ P md ops C n L f (done.setIfInBounds i true) (a.put oi.dst v) → headQ P md ops C n L (f + 1) done a := by
  have head : ∀ (done : Array Bool), HeadInv md ops n done → i ∈ Region.ready md ops done → ∀ j ∈ Region.ready md ops done, j < n := by
    intro done inv hr j hj
    refine Nat.lt_of_not_le fun hle => ?_
    exact tail_waits hs hc hn inv _ i rfl hin (mem_ready.1 hr).1 j hle hj
  induction f with
  | zero =>
    intro done a inv _ hr hy H
    refine ⟨List.ne_nil_of_mem hr, fun j hj => ⟨head done inv hr j hj, ?_⟩⟩
    by_cases hji : j = i
    · subst hji; exact hy.qOp hi H
    · exact absurd (hdone _ _ H j (ready_mono hj hji)) (by have := head done inv hr j hj; omega)
  | succ f ih =>
    intro done a inv hfree hr hy H
    refine ⟨List.ne_nil_of_mem hr, fun j hj => ⟨head done inv hr j hj, ?_⟩⟩
    by_cases hji : j = i
    · subst hji; exact hy.qOp hi H
    obtain ⟨hjun, oj, hoj, hall⟩ := mem_ready.1 hj
    have hiun := (mem_ready.1 hr).1
    have hnot : ∀ e ∈ oj.after, Region.binds md e = true → e.on ≠ i := by
      intro e he hb heq
      have hx := hall e he hb
      rw [heq, getD_both hiun] at hx
      cases hx
    have hput := qOp_put hoj (hfree j oj hoj hji hjun hnot) (fun cs b => hsel i oi cs b hi) (fun cs b => hsel j oj cs b hoj) hy (H.2 j (ready_mono hj hji)).2
    refine qOp_mono (fun a' h3 => ?_) hput
    refine ih (done.setIfInBounds j true) a' (inv.set hj (head done inv hr j hj)) ?_ (ready_mono hr (Ne.symm hji)) h3.1 (by rw [Array.setIfInBounds_comm _ _ hji]; exact h3.2)
    intro k ok hk hki hun hno
    refine hfree k ok hk hki ?_ hno
    by_cases hjk : j = k
    · subst hjk; exact hjun
    · rwa [getD_set_ne true hjk] at hun

theorem headQ_lex {n g : Nat} {K : Act → Prop} (hsel : Region.noSelect ops = true) (hs : Region.sinkB md ops n = true) (hc : Region.chainB md ops n = true) (hn : n < ops.size) (l : List Oper) :
    ∀ (k : Nat) (done : Array Bool) (a : Act), (∀ j, j < l.length → l[j]? = ops[k + j]?) → k + l.length = n → HeadInv md ops n done →
    Region.lexHead md ops g l.length k done = true → wpQuiet P ops C K l a →
    headQ P md ops C n (fun done' a' => Region.seqB md ops g n done' = true ∧ K a') l.length done a := by
  induction l with
  | nil =>
    intro k done a _ hk _ hB h
    have e : k = n := by simpa using hk
    subst e
    exact ⟨hB, h⟩
  | cons o l ih =>
    intro k done a hl hk inv hB h
    have h0 : ops[k]? = some o := by simpa using (hl 0 (by simp)).symm
    simp only [List.length_cons, Region.lexHead, Bool.and_eq_true] at hB
    have hkn : k < n := by simp only [List.length_cons] at hk; omega
    have hr : k ∈ Region.ready md ops done := by simpa using hB.1.1
    have hst : qOp P ops C k (wpQuiet P ops C K l) a := by unfold qOp; simp only [h0]; exact h
    obtain ⟨v, hy, hK⟩ := yieldsIn_of_qOp h0 hst
    refine headQ_first h0 (Region.noSelect_spec hsel) hs hc hn hkn (fun done' a' hL => seqB_ready hL.1) l.length done a inv (Region.free_spec h0 hB.1.2) hr hy ?_
    refine ih (k + 1) _ _ (fun j hj => ?_) (by simp only [List.length_cons] at hk; omega) (inv.set hr hkn) hB.2 hK
    have := hl (j + 1) (by simp; omega)
    simpa [Nat.add_assoc, Nat.add_comm 1 j] using this

/-- THE THEOREM: n operations that are quiet in the class, then a tail in one forced order, walked in every world of the class. -/
theorem wp_region_quiet_tail {id : Nat} {Q : Exit → Act → World → Prop} {a : Act} {w : World} {l : List Oper} (n : Nat) (hm : P.follows .mixedOrders = true) (hB : Region.lexTailB .any l.toArray n = true)
    (hC : C { w with drawn := w.drawn + 1 }) (h : wpQuiet P l.toArray C (fun a' => ∀ w', C w' → wpList P l.toArray Q (l.drop n) a' w') (l.take n) a) : (Code.region id l.toArray true).wp P Q a w := by
  simp only [Region.lexTailB, Bool.and_eq_true, decide_eq_true_eq] at hB
  obtain ⟨⟨⟨⟨hsel, hn⟩, hs⟩, hc⟩, hlex⟩ := hB
  have hn' : n < l.length := by simpa using hn
  have htl : (l.take n).length = n := by simp; omega
  have hdl : (l.drop n).length = l.toArray.size - n := by simp
  have inv : HeadInv .any l.toArray n (Array.replicate l.toArray.size false) := by
    refine ⟨by simp, fun j oj _ hl => ?_, fun t _ ht => getD_in (by simpa using ht) (getD_replicate_false _ _)⟩
    rw [getD_replicate_false] at hl; cases hl
  have H := headQ_lex (md := .any) (C := C) (g := l.toArray.size - n) hsel hs hc hn (l.take n) 0 _ a (fun j hj => by
    have hj' : j < n := by rw [htl] at hj; exact hj
    simp [hj']) (by simpa using htl) inv (by rw [htl]; exact hlex) h
  refine wp_region_any hm ?_
  have := any_of_headQ (Q := Q) (g := l.toArray.size - n) (fun done a' w' hw' hL => by
    have := wpAny_of_seq (md := .any) (Q' := Q) (l.drop n) n done a' w' (fun j => by simp [List.getElem?_drop]) (by rw [hdl]; exact hL.1) (hL.2 w' hw')
    rwa [hdl] at this) _ _ _ _ hC H
  rw [htl, show n + (l.toArray.size - n) = l.toArray.size by omega] at this
  exact this
/-- .. at the class 'w after some draws' -/
theorem wp_region_quiet_tail_drawn {id : Nat} {Q : Exit → Act → World → Prop} {a : Act} {w : World} {l : List Oper} (n : Nat) (hm : P.follows .mixedOrders = true) (hB : Region.lexTailB .any l.toArray n = true)
    (h : wpQuiet P l.toArray (fun w' => ∃ m, w' = w.drewN m) (fun a' => ∀ w', (∃ m, w' = w.drewN m) → wpList P l.toArray Q (l.drop n) a' w') (l.take n) a) : (Code.region id l.toArray true).wp P Q a w :=
  wp_region_quiet_tail (C := fun w' => ∃ m, w' = w.drewN m) n hm hB ⟨1, rfl⟩ h
end
/-- a quiet callee met behind earlier draws -/
theorem quiet_after {P : Program} {f : FuncId} {args : Array Value} {w : World} {a n : Nat} {v : Value}
    (h : Calls P f args (w.drewN (a + n)) fun e w' => e = .returned v ∧ ∃ m, w' = (w.drewN (a + n)).drewN m) :
    Calls P f args (w.drewN (a + n)) fun e w'' => e = .returned v ∧ ∃ m, w'' = w.drewN (a + m) := by
  refine h.mono ?_
  rintro e w' ⟨he, m, rfl⟩
  exact ⟨he, n + m, by rw [World.drewN_drewN, Nat.add_assoc]⟩
theorem quiet_after_same {P : Program} {f : FuncId} {args : Array Value} {w : World} {a n : Nat} {v : Value}
    (h : Calls P f args (w.drewN (a + n)) fun e w' => e = .returned v ∧ w' = w.drewN (a + n)) :
    Calls P f args (w.drewN (a + n)) fun e w'' => e = .returned v ∧ ∃ m, w'' = w.drewN (a + m) := by
  refine h.mono ?_
  rintro e w' ⟨he, rfl⟩
  exact ⟨he, n, rfl⟩
end Go.Proofs.YtplafpokgpolkaaGreatDoor
/- strings.IndexRune OF A RUNE BEYOND ASCII IN AN ASCII TEXT: -1. -/
namespace Go.Proofs.YtplafpokgpolkaaGreatDoor
open Go.RowKit
theorem indexByte_no (l : List UInt8) (c : UInt8) (h : ∀ x ∈ l, x ≠ c) : Lib.indexByte l c = -1 := by
  have h1 := Lib.indexByte_ge l c
  rcases (by omega : Lib.indexByte l c < 0 ∨ 0 ≤ Lib.indexByte l c) with h2 | h2
  · omega
  · obtain ⟨o, ho⟩ : ∃ o : Nat, Lib.indexByte l c = o := ⟨(Lib.indexByte l c).toNat, by omega⟩
    have := (Lib.indexByte_some ho).1
    exact (h c (List.mem_of_getElem? this) rfl).elim
theorem run_slice_from {P : Program} {T : TypeId} (hu : P.underlying T = some .string) (l : List UInt8) (k1 : IntKind) (i : Nat) (h1 : i ≤ l.length) (w : World) :
    (Instr.slice T (.string ⟨l.toArray⟩) (some (.int k1 (i : Int))) none none).run P w = .ok (.string ⟨(l.drop i).toArray⟩) w := by
  have hsz : ByteArray.size ⟨l.toArray⟩ = l.length := rfl
  simp [Instr.slice, Instr.sliceBounds, Instr.sliceBound, asIntOf, run_underlying hu, hsz, h1, ByteArray.extract_mk]
  rw [List.take_of_length_le (by rw [List.length_drop]; exact Nat.le_refl _)]
set_option maxHeartbeats 1000000 in
set_option maxRecDepth 100000 in
theorem irune_high (l : List UInt8) (hl : ∀ c ∈ l, c.toNat < 128) (_hlen : l.length ≤ 1000) (r : Nat) (hr : 128 ≤ r) (hr2 : r ≤ 2097151) (w : World) :
    Calls Tryz.prog 167 #[.string ⟨l.toArray⟩, .int .i32 (r : Int)] w fun e w' => e = .returned (.int .i64 (-1)) ∧ Below w.heap.size w w' := by
  have HL := Keep.keep hl
  clear hl
  by_cases h65 : r = 65533
  · subst h65
    go_enter Tryz.func167, Tryz.ntmps167
    go_wp2_with fail
    go_loopg [] l.length (fun g wx => ∃ i : Nat, i + g = l.length ∧ wx = w.iter ⟨l.toArray⟩ i)
    case atStart => exact ⟨0, by omega, rfl⟩
    case round =>
      obtain ⟨i, hig, rfl⟩ := hrel
      cases gk with
      | zero =>
        obtain rfl : i = l.length := by omega
        have hnx := run_next_end (P := Tryz.prog) w ⟨l.toArray⟩ l.length
        go_wp2_with fail
        go_ret
        exact ⟨rfl, (Below.refl _ _).alloc (Nat.le_refl _) _⟩
      | succ g =>
        have hi : i < l.length := by omega
        have hnx := fun ty => run_next_ascii (P := Tryz.prog) w ⟨l.toArray⟩ i ty hi (HL.out _ (List.getElem_mem hi))
        have hc1 := HL.out _ (List.getElem_mem hi)
        obtain ⟨x, hx⟩ : ∃ x : UInt8, (⟨l.toArray⟩ : ByteArray)[i]'hi = x := ⟨_, rfl⟩
        have hx1 : x.toNat < 128 := by rw [← hx]; exact hc1
        rw [hx] at hnx
        have hcz : ((x.toNat : Int) == 65533) = false := beq_eq_false_iff_ne.2 (by omega)
        clear hc1 hx
        go_wp2_with fail
        go_roundg g
        case measure => omega
        case rel => exact ⟨i + 1, by omega, rfl⟩
  · have hne : ((r : Int) = 65533) = False := by simp; omega
    obtain ⟨t, z, he, ht1, ht3, hz⟩ := encode_high r hr
    have hv := Tryz.utf8_ValidRune (r : Int) w
    generalize Lib.validRune (r : Int) = vb at hv
    have HV := Keep.keep hv; clear hv
    have hcv : (convert 21 9 (.int .i32 (r : Int))).run Tryz.prog w = .ok (.string ⟨(t ++ [z]).toArray⟩) w := by rw [← he]; rfl
    clear he
    cases vb
    · go_enter Tryz.func167, Tryz.ntmps167
      go_wp2_with (go_at_call 185; ((with_reducible refine HV.out.mono ?_); rintro e w1 ⟨rfl, rfl⟩))
      go_ret
      exact ⟨rfl, Below.refl _ _⟩
    · go_enter Tryz.func167, Tryz.ntmps167
      go_wp2_with (go_at_call 185; ((with_reducible refine HV.out.mono ?_); rintro e w1 ⟨rfl, rfl⟩))
      have hsz : (⟨(t ++ [z]).toArray⟩ : ByteArray).size = t.length + 1 := by simp [ByteArray.size]
      have hsl : (⟨l.toArray⟩ : ByteArray).size = l.length := by simp [ByteArray.size]
      go_step3
      go_wp2_with fail
      have HB := Keep.keep hsl
      go_loopw [9] (fun v wr => v = .int .i64 (t.length : Int) ∧ wr = w1) (fun _ _ => 0)
      case atStart => exact ⟨congrArg (Value.int .i64) (by omega), rfl⟩
      case round =>
        obtain ⟨rfl, rfl⟩ := hrel
        by_cases hlt : t.length < l.length
        · go_wp2_with fail
          have HLo := HL.out
          obtain ⟨c, hc⟩ : ∃ c, l[t.length]? = some c := ⟨l[t.length], List.getElem?_eq_getElem hlt⟩
          have hc1 := HLo c (List.mem_of_getElem? hc)
          have k1 := run_index_str (P := Tryz.prog) Tryz.underlying9 ⟨l.toArray⟩ .i64 t.length c (by simpa using hc)
          have k2 := run_index_str (P := Tryz.prog) Tryz.underlying9 ⟨(t ++ [z]).toArray⟩ .i64 t.length z (by simp)
          have k3 := run_slice_from (P := Tryz.prog) Tryz.underlying9 l .i64 (t.length + 1) (by omega)
          rw [show ((t.length + 1 : Nat) : Int) = (t.length : Int) + 1 by omega] at k3
          have hwr := IntWalk.i64_in ((t.length : Int) + 1) (by omega)
          have h3 := indexByte_no (l.drop (t.length + 1)) z (fun x hx e => by have := HLo x (List.mem_of_mem_drop hx); subst e; omega)
          have hib : ∀ wx, Calls Tryz.prog 141 #[.string ⟨(l.drop (t.length + 1)).toArray⟩, .int .u8 (z.toNat : Int)] wx fun e w' => e = .returned (.int .i64 (-1)) ∧ w' = wx := by
            intro wx
            have := Tryz.strings_IndexByte ⟨(l.drop (t.length + 1)).toArray⟩ (z.toNat : Int) wx
            rw [show ((z.toNat : Int).toNat.toUInt8) = z by simp] at this
            rw [show (⟨(l.drop (t.length + 1)).toArray⟩ : ByteArray).data.toList = l.drop (t.length + 1) from rfl, h3] at this
            exact this
          have HIB := Keep.keep hib
          clear hib h3 HLo hc
          generalize l.drop (t.length + 1) = ld at *
          have hcz : ((c.toNat : Int) != (z.toNat : Int)) = true := by rw [bne_iff_ne]; omega
          generalize (c.toNat : Int) = ci at *
          generalize (z.toNat : Int) = zi at *
          go_step3
          go_wp2_with (go_quiet (fail))
          go_quiet ((go_at_call 141; exact quiet_after_same (HIB.out _)))
          go_wp2_with fail
          simp (zetaDelta := true) only [Exit.noGoto_ret, Exit.inBlock, Exit.then]
          go_ret
          exact ⟨rfl, below_drewN' (Below.refl _ _) _⟩
        · go_wp2_with fail
          rw [Exit.noGoto_ret]
          go_ret
          exact ⟨rfl, Below.refl _ _⟩
end Go.Proofs.YtplafpokgpolkaaGreatDoor
/- strings.IndexAny AND strings.ContainsAny FOR ANY TEXT, where the letters asked for are ASCII, two at least. -/
namespace Go.Proofs.YtplafpokgpolkaaGreatDoor
open Go.RowKit
theorem getB_list (l : List UInt8) (i : Nat) (h : i < l.length) : (⟨l.toArray⟩ : ByteArray).get! i = l[i] := by
  simp [ByteArray.get!, h]
theorem noAny_high {l t : List UInt8} (hta : ∀ c ∈ t, c.toNat < 128) {p k : Nat} (h : Lib.NoAny l t p) (hp : p + k ≤ l.length) (hh : ∀ j, j < k → 128 ≤ ((⟨l.toArray⟩ : ByteArray).get! (p + j)).toNat) : Lib.NoAny l t (p + k) := by
  intro j b hj hb
  rcases Nat.lt_or_ge j p with hlt | hge
  · exact h j b hlt hb
  · have hjl : j < l.length := by omega
    have h1 := hh (j - p) (by omega)
    rw [show p + (j - p) = j by omega, getB_list l j hjl] at h1
    rw [List.getElem?_eq_getElem hjl] at hb
    injection hb with hb
    subst hb
    cases hc : t.contains l[j]
    · rfl
    · have := hta _ (List.contains_iff_mem.1 hc); omega
set_option maxHeartbeats 1000000 in
set_option maxRecDepth 100000 in
theorem iany_short (l t : List UInt8) (hta : ∀ c ∈ t, c.toNat < 128) (ht2 : 2 ≤ t.length) (htl : t.length ≤ 1000) (h8 : l.length ≤ 8) (w : World) :
    Calls Tryz.prog 148 #[.string ⟨l.toArray⟩, .string ⟨t.toArray⟩] w fun e w' => e = .returned (.int .i64 (Lib.indexAny l t)) ∧ Below w.heap.size w w' := by
  have hsz : (⟨t.toArray⟩ : ByteArray).size = t.length := by simp [ByteArray.size]
  have hsl : (⟨l.toArray⟩ : ByteArray).size = l.length := by simp [ByteArray.size]
  have hemp : t.isEmpty = false := by
    cases t with
    | nil => simp at ht2
    | cons _ _ => rfl
  have hn1 : ((t.length : Int) == 1) = false := beq_eq_false_iff_ne.2 (by omega)
  have h8z : decide ((8 : Int) < (l.length : Int)) = false := decide_eq_false (by omega)
  have HT := Keep.keep hta; have HTL := Keep.keep htl; have H8 := Keep.keep h8; have HT2 := Keep.keep ht2
  clear hta htl h8 ht2
  have HS := Keep.keep (Tryz.strings_shouldUseASCIISet (l.length : Int) w)
  rw [h8z] at HS
  go_enter Tryz.func148, Tryz.ntmps148
  go_wp2_with (go_at_call 168; ((with_reducible refine HS.out.mono ?_); rintro e w1 ⟨rfl, rfl⟩))
  go_loopg [9, 10] l.length (fun g _ _ wx => ∃ p : Nat, l.length ≤ p + g ∧ p ≤ l.length ∧ wx.heap[w1.heap.size]? = some (.stringIter ⟨l.toArray⟩ p) ∧ Below w1.heap.size w1 wx ∧ Lib.NoAny l t p)
  case atStart => exact ⟨0, by omega, by omega, World.iter_heap w1 _ 0, (Below.refl _ w1).alloc (Nat.le_refl _) _, Lib.NoAny.zero _ _⟩
  case round =>
    obtain ⟨p, hpg, hpl, hit, hbw, hno⟩ := hrel
    have HN := Keep.keep hno; have HB := Keep.keep hbw
    clear hno hbw
    by_cases hps : p < l.length
    · obtain ⟨g, rfl⟩ : ∃ g, gk = g + 1 := ⟨gk - 1, by omega⟩
      have hnx := fun ty => Lib.run_next_any_at (P := Tryz.prog) wr w1.heap.size ⟨l.toArray⟩ p ty hit hps
      have hcl : l[p]? = some l[p] := List.getElem?_eq_getElem hps
      have hg0 := getB_list l p hps
      by_cases hasc : l[p].toNat < 128
      · have hd := Go.decode_ascii (⟨l.toArray⟩ : ByteArray) p hps hasc
        have hd1 : Utf8.decode (⟨l.toArray⟩ : ByteArray) p = (l[p].toNat, 1) := hd
        rw [hd1] at hnx
        have hit2 := Lib.iterAt_heap wr w1.heap.size ⟨l.toArray⟩ p (p + 1) hit
        have HB2 := Keep.keep (Lib.below_iterAt HB.out (k := w1.heap.size) (Nat.le_refl _) ⟨l.toArray⟩ (p + 1))
        have HIR := Keep.keep (fun w' => Tryz.strings_IndexRune_ascii ⟨t.toArray⟩ (l[p].toNat : Int) w' (by omega) (by omega))
        have hcon := Lib.contains_iff_indexByte t l[p]
        have hback : ((l[p].toNat : Int)).toNat.toUInt8 = l[p] := by simp
        rw [hback] at HIR
        have hdt : (⟨t.toArray⟩ : ByteArray).data.toList = t := rfl
        rw [hdt] at HIR
        clear hd hd1 hg0 hback hdt
        generalize l[p] = x at *
        have HX := Keep.keep hcl
        generalize Lib.indexByte t x = ib at *
        generalize wr.iterAt w1.heap.size ⟨l.toArray⟩ (p + 1) = W at *
        have HIT := Keep.keep hit2
        clear hcl hit hit2
        cases hin : t.contains x
        · rw [hin] at hcon
          have hlt : ¬ ((0 : Int) ≤ ib) := of_decide_eq_false hcon.symm
          have HIN := Keep.keep hin
          clear hcon hin
          go_wp2_with (go_at_call 167; ((with_reducible refine (HIR.out _).mono ?_); rintro e w2 ⟨rfl, rfl⟩))
          go_roundg g
          case measure => omega
          case rel => exact ⟨p + 1, by omega, by omega, HIT.out, HB2.out, HN.out.succ HX.out HIN.out⟩
        · rw [hin] at hcon
          have hge : ((0 : Int) ≤ ib) := of_decide_eq_true hcon.symm
          have HIN := Keep.keep hin
          clear hcon hin
          go_wp2_with (go_at_call 167; ((with_reducible refine (HIR.out _).mono ?_); rintro e w2 ⟨rfl, rfl⟩))
          go_ret
          refine ⟨by rw [Lib.indexAny_hit HN.out HX.out HIN.out]; rfl, HB2.out⟩
      · have hd := decode_high (⟨l.toArray⟩ : ByteArray) p hps (by rw [hg0]; omega)
        obtain ⟨R, hR⟩ : ∃ R, (Utf8.decode (⟨l.toArray⟩ : ByteArray) p).1 = R := ⟨_, rfl⟩
        obtain ⟨K, hK⟩ : ∃ K, (Utf8.decode (⟨l.toArray⟩ : ByteArray) p).2 = K := ⟨_, rfl⟩
        rw [hR, hK] at hd hnx
        obtain ⟨d1, d2, d3, d4, d5⟩ := hd
        have hno2 := noAny_high HT.out (k := K) HN.out d4 (fun j hj => by
          rcases Nat.eq_zero_or_pos j with rfl | h0
          · rw [Nat.add_zero, hg0]; omega
          · exact d5 j h0 hj)
        have HN2 := Keep.keep hno2
        have hit2 := Lib.iterAt_heap wr w1.heap.size ⟨l.toArray⟩ p (p + K) hit
        have HB2 := Keep.keep (Lib.below_iterAt HB.out (k := w1.heap.size) (Nat.le_refl _) ⟨l.toArray⟩ (p + K))
        have HIR := Keep.keep (fun w' => irune_high t HT.out HTL.out R d1 d2 w')
        have hk1 : 1 ≤ K := d3
        have hk2 : p + K ≤ l.length := d4
        have HKS := Keep.keep (And.intro hk1 hk2)
        clear hno2 d1 d2 d3 d4 d5 hg0 hasc hR hK hcl hk1 hk2
        generalize wr.iterAt w1.heap.size ⟨l.toArray⟩ (p + K) = W at *
        have HIT := Keep.keep hit2
        clear hit hit2
        go_wp2_with (go_at_call 167; ((with_reducible refine (HIR.out _).mono ?_); rintro e w2 ⟨rfl, hb2⟩))
        have hlt : w1.heap.size < W.heap.size := (Array.getElem?_eq_some_iff.1 HIT.out).1
        have hks := HKS.out
        go_roundg g
        case measure => omega
        case rel => exact ⟨p + K, by omega, by omega, (hb2.block _ hlt).trans HIT.out, HB2.out.trans (hb2.mono HB2.out.size), HN2.out⟩
    · have hnx := Lib.run_next_end_at (P := Tryz.prog) wr w1.heap.size ⟨l.toArray⟩ p 0 hit hps
      have hnx' := fun ty => Lib.run_next_end_at (P := Tryz.prog) wr w1.heap.size ⟨l.toArray⟩ p ty hit hps
      obtain rfl : p = l.length := by omega
      clear hnx
      go_wp2_with fail
      go_ret
      exact ⟨by rw [Lib.indexAny_none HN.out]; rfl, HB.out⟩
theorem iany_any (l t : List UInt8) (hta : ∀ c ∈ t, c.toNat < 128) (ht2 : 2 ≤ t.length) (htl : t.length ≤ 1000) (hl : l.length < 4294967281) (w : World) :
    Calls Tryz.prog 148 #[.string ⟨l.toArray⟩, .string ⟨t.toArray⟩] w fun e w' => e = .returned (.int .i64 (Lib.indexAny l t)) ∧ Below w.heap.size w w' := by
  rcases Nat.lt_or_ge 8 l.length with h8 | h8
  · refine (Tryz.strings_IndexAny_long (fun w => (zero_of_info (P := Tryz.prog) (t := 173) (n := 256) (by kernel_rfl)).1 w) ⟨l.toArray⟩ ⟨t.toArray⟩ w ht2 h8 hl (show t.length < _ by omega) (fun j b hb => hta b (List.mem_of_getElem? hb))).mono ?_
    rintro e w' ⟨rfl, rfl⟩
    exact ⟨rfl, ((Below.refl _ _).alloc (Nat.le_refl _) _).alloc (by simp) _⟩
  · exact iany_short l t hta ht2 htl h8 w
set_option maxHeartbeats 1000000 in
theorem cany_any (l t : List UInt8) (hta : ∀ c ∈ t, c.toNat < 128) (ht2 : 2 ≤ t.length) (htl : t.length ≤ 1000) (hl : l.length < 4294967281) (w : World) :
    Calls Tryz.prog 126 #[.string ⟨l.toArray⟩, .string ⟨t.toArray⟩] w fun e w' => e = .returned (.bool (l.any (t.contains ·))) ∧ Below w.heap.size w w' := by
  have H := Keep.keep (iany_any l t hta ht2 htl hl w)
  have hk : l.any (t.contains ·) = decide (0 ≤ Lib.indexAny l t) := by
    clear H hl
    induction l with
    | nil => rfl
    | cons b l ih =>
      rw [List.any_cons, ih, Lib.indexAny]
      cases hb : t.contains b
      · have := Lib.indexAny_ge t l
        simp only [Bool.false_or, Bool.false_eq_true, if_false]
        split
        · rename_i h
          have h : Lib.indexAny l t = -1 := eq_of_beq h
          rw [h]
        · rename_i h
          have h : Lib.indexAny l t ≠ -1 := fun e => h (by rw [e]; rfl)
          have h0 : 0 ≤ Lib.indexAny l t := by omega
          have h1 : 0 ≤ Lib.indexAny l t + 1 := by omega
          simp [h0, h1]
      · simp
  rw [hk]
  go_enter Tryz.func126, Tryz.ntmps126
  go_wp2_with (go_at_call 148; ((with_reducible refine H.out.mono ?_); rintro e w1 ⟨rfl, hb1⟩))
  go_ret
  exact ⟨rfl, hb1⟩
end Go.Proofs.YtplafpokgpolkaaGreatDoor
/- A REGION THAT DRAWS ITS ORDER, walked in the text's order IN A CLASS OF WORLDS: its operations read, or call what leaves a world of the class (for instance: nothing below block B has changed). -/
namespace Go.Proofs.YtplafpokgpolkaaGreatDoor
open Go.RowKit
theorem wp_region_cls {P : Program} (C : World → Prop) {id : Nat} {Q : Exit → Act → World → Prop} {a : Act} {w : World} {l : List Oper} (hm : P.follows .mixedOrders = true) (hB : Region.lexB .any l.toArray = true) (hC : C w.drew)
    (h : wpQuiet P l.toArray C (fun a' => ∀ w', C w' → Q .normal a' w') l a) : (Code.region id l.toArray true).wp P Q a w :=
  wp_region_quiet (C := C) hm hB hC (by simpa using h)
theorem wp_region_cls_tail {P : Program} (C : World → Prop) {id : Nat} {Q : Exit → Act → World → Prop} {a : Act} {w : World} {l : List Oper} (n : Nat) (hm : P.follows .mixedOrders = true) (hB : Region.lexTailB .any l.toArray n = true) (hC : C w.drew)
    (h : wpQuiet P l.toArray C (fun a' => ∀ w', C w' → wpList P l.toArray Q (l.drop n) a' w') (l.take n) a) : (Code.region id l.toArray true).wp P Q a w :=
  wp_region_quiet_tail n hm hB hC h
section
variable {P : Program} {ops : Array Oper} {rest : List Oper} {a : Act} {C : World → Prop} {Q : Act → Prop} {tp : TypeId} {dst : Option Tmp} {pos : String} {after : Array Edge} {g : Option (Nat × Bool)}
/-- ARM: any operation that yields one value in every world of the class -/
theorem cls_op {o : Oper} {v : Value} (hwt : Region.wanted o (yielded ops a.tmps) = true) (hr : ∀ w, C w → (execOp a.eval o).run P w = .ok (.value v) w) (h : wpQuiet P ops C Q rest (a.put o.dst v)) : wpQuiet P ops C Q (o :: rest) a := by
  unfold wpQuiet
  rw [if_pos hwt]
  refine ⟨v, fun w hw => ?_, h⟩
  unfold Oper.quietAt
  rw [hr w hw]
  exact ⟨rfl, rfl⟩
/-- ARM: a whole variable is read -/
theorem cls_loadRow {b n : Nat} {e ty : TypeId} {c : Array Value} {x : Operand} (hwt : Region.wanted (⟨dst, .load ty x, tp, pos, after, g⟩ : Oper) (yielded ops a.tmps) = true)
    (hrow : ∀ w, C w → Row w b e c) (hA : AggTy P ty n) (hs : c.size = n) (hx : a.eval x = .pointer (some ⟨b, 0, none⟩))
    (h : wpQuiet P ops C Q rest (a.put dst (.agg c))) : wpQuiet P ops C Q (⟨dst, .load ty x, tp, pos, after, g⟩ :: rest) a := by
  obtain ⟨d, hu, hd⟩ := hA.u
  refine cls_op hwt (fun w hw => ?_) h
  have hl := (hrow w hw).loadAt (P := P) ty d hu hd (by rw [hs]; exact hA.i)
  unfold execOp
  simp only [hx, Sem.run_bind, Sem.run_pure, Result.andThen_ok, hl]
/-- ARM: one cell is read -/
theorem cls_load {ad : Addr} {ty : TypeId} {v : Value} {x : Operand} (hwt : Region.wanted (⟨dst, .load ty x, tp, pos, after, g⟩ : Oper) (yielded ops a.tmps) = true)
    (hr : ∀ w, C w → (Instr.loadAt ty (.pointer (some ad))).run P w = .ok v w) (hx : a.eval x = .pointer (some ad))
    (h : wpQuiet P ops C Q rest (a.put dst v)) : wpQuiet P ops C Q (⟨dst, .load ty x, tp, pos, after, g⟩ :: rest) a := by
  refine cls_op hwt (fun w hw => ?_) h
  unfold execOp
  simp only [hx, Sem.run_bind, Sem.run_pure, Result.andThen_ok, hr w hw]
/-- ARM: two values are set side by side (==, +, ..) -/
theorem cls_bin {t1 t2 : TypeId} {b : BinOp} {v : Value} {x y : Operand} (hwt : Region.wanted (⟨dst, .binOp b t1 x y t2, tp, pos, after, g⟩ : Oper) (yielded ops a.tmps) = true)
    (hr : ∀ w, C w → (execOp a.eval (⟨dst, .binOp b t1 x y t2, tp, pos, after, g⟩ : Oper)).run P w = .ok (.value v) w)
    (h : wpQuiet P ops C Q rest (a.put dst v)) : wpQuiet P ops C Q (⟨dst, .binOp b t1 x y t2, tp, pos, after, g⟩ :: rest) a := cls_op hwt hr h
/-- ARM: a string (or an array's value) indexed -/
theorem cls_index {ty : TypeId} {x y : Operand} {u i v : Value} (hwt : Region.wanted (⟨dst, .index ty x y, tp, pos, after, g⟩ : Oper) (yielded ops a.tmps) = true)
    (hr : ∀ w, (Instr.index ty u i).run P w = .ok v w) (hx : a.eval x = u) (hy : a.eval y = i)
    (h : wpQuiet P ops C Q rest (a.put dst v)) : wpQuiet P ops C Q (⟨dst, .index ty x y, tp, pos, after, g⟩ :: rest) a := by
  refine cls_op hwt (fun w hw => ?_) h
  unfold execOp
  simp only [hx, hy, Sem.run_bind, Sem.run_pure, Result.andThen_ok, hr]
/-- ARM: a call that leaves a world of the class -/
theorem cls_call {f : FuncId} {args : Array Operand} {ts : Array TypeId} {vs : Array Value} {v : Value} (hwt : Region.wanted (⟨dst, .call ⟨.value (.func f), args, ts⟩, tp, pos, after, g⟩ : Oper) (yielded ops a.tmps) = true)
    (hent : Enters P f) (hargs : args.map a.eval = vs) (hc : ∀ w, C w → Calls P f vs w fun e w' => e = .returned v ∧ C w')
    (h : wpQuiet P ops C Q rest (a.put dst v)) : wpQuiet P ops C Q (⟨dst, .call ⟨.value (.func f), args, ts⟩, tp, pos, after, g⟩ :: rest) a := by
  unfold wpQuiet
  rw [if_pos hwt]
  refine ⟨v, fun w hw => ?_, h⟩
  unfold Oper.quietAt
  have : (execOp a.eval (⟨dst, .call ⟨.value (.func f), args, ts⟩, tp, pos, after, g⟩ : Oper)).run P w = .ok (.enter f vs) w := by
    have h1 : a.eval (.func f) = .func (.func f) #[] #[] := rfl
    unfold execOp
    simp only [resolve, Deferred.ofValue, hargs, h1, invoke, Sem.run_bind, Sem.run_pure, Result.andThen_ok]
    simp [hent vs w]
  rw [this]
  exact ⟨rfl, hc w hw⟩
end
/-- the class: nothing below block B has changed since W -/
theorem below_drew' {B : Nat} {W w : World} (h : Below B W w) : Below B W w.drew := h.drew
end Go.Proofs.YtplafpokgpolkaaGreatDoor
/- MORE THAT IS ALIKE FROM LAW TO LAW: the memory's name at a call; memory that has only grown; a region that draws its order, by what holds after each set of its operations. -/
namespace Go.Proofs.YtplafpokgpolkaaGreatDoor
open Go.RowKit
theorem calls_at {P : Program} {f : FuncId} {args : Array Value} {W : World} {Q : Ending → World → Prop} {R : World → Prop} (h : R W) (k : ∀ w2, Keep (R w2) → Calls P f args w2 Q) : Calls P f args W Q := k W ⟨h⟩
theorem below_of_grow {w : World} {n : Nat} {os : Array Obj} : Below w.heap.size w (Sort.grow (w.drewN n) os) :=
  ⟨rfl, rfl, rfl, by simp [Sort.grow, World.drewN], fun b hb => by simp only [Sort.grow, World.drewN]; rw [Array.getElem?_append_left hb]⟩
section
variable {P : Program} {ops : Array Oper}
/-- A REGION THAT DRAWS ITS ORDER: Inv says what holds when the operations marked in 'done' have run, whichever they are -/
theorem wp_region_inv {id : Nat} {Q : Exit → Act → World → Prop} {a : Act} {w : World} (Inv : Array Bool → Act → World → Prop) (hm : P.follows .mixedOrders = true)
    (h0 : Inv (Array.replicate ops.size false) a w.drew)
    (hs : ∀ done a w, Inv done a w → done.size = ops.size → ∀ i ∈ Region.ready .any ops done, wpOp P ops Q i (Inv (done.setIfInBounds i true)) a w)
    (he : ∀ done a w, Inv done a w → done.size = ops.size → Region.ready .any ops done = [] → Q .normal a w) : (Code.region id ops true).wp P Q a w := by
  refine wp_region_any hm ?_
  have key : ∀ (f : Nat) (done : Array Bool) (a : Act) (w : World), Inv done a w → done.size = ops.size → (done.toList.filter (· == false)).length ≤ f → wpAny P .any ops Q f done a w := by
    intro f
    induction f with
    | zero =>
      intro done a w hI hsz hf
      have hr : Region.ready .any ops done = [] := by
        refine List.eq_nil_iff_forall_not_mem.2 fun i hi => ?_
        have h1 := (mem_ready.1 hi).1
        have hlt : i < done.size := by
          rcases Nat.lt_or_ge i done.size with h | h
          · exact h
          · simp [Array.getD_eq_getD_getElem?, Array.getElem?_eq_none h] at h1
        have hmem : false ∈ done.toList.filter (· == false) := by
          refine List.mem_filter.2 ⟨?_, rfl⟩
          have : done[i] = false := by simpa [Array.getD_eq_getD_getElem?, Array.getElem?_eq_getElem hlt] using h1
          rw [← this]; simp
        have h0 : (done.toList.filter (· == false)) = [] := List.length_eq_zero_iff.1 (by omega)
        rw [h0] at hmem
        cases hmem
      exact ⟨hr, he done a w hI hsz hr⟩
    | succ f ih =>
      intro done a w hI hsz hf
      refine ⟨fun hr => he done a w hI hsz hr, fun i hi => ?_⟩
      have h1 := (mem_ready.1 hi).1
      have hlt : i < done.size := by
        rcases Nat.lt_or_ge i done.size with h | h
        · exact h
        · simp [Array.getD_eq_getD_getElem?, Array.getElem?_eq_none h] at h1
      refine wpOp_mono (fun a' w' h' => ih _ a' w' h' (by simpa using hsz) ?_) (hs done a w hI hsz i hi)
      have hfi : done.toList[i]? = some false := by
        simpa [Array.getD_eq_getD_getElem?, Array.getElem?_eq_getElem hlt] using h1
      have hl : i < done.toList.length := by simpa using hlt
      rw [Array.toList_setIfInBounds]
      have hsplit : done.toList = done.toList.take i ++ false :: done.toList.drop (i + 1) := by
        have e1 : done.toList[i] = false := by rw [List.getElem?_eq_getElem hl] at hfi; injection hfi
        conv => lhs; rw [← List.take_append_drop i done.toList]
        rw [List.drop_eq_getElem_cons hl, e1]
      have hset : done.toList.set i true = done.toList.take i ++ true :: done.toList.drop (i + 1) := by
        rw [List.set_eq_take_append_cons_drop, if_pos hl]
      rw [hset]
      rw [hsplit] at hf
      simp at hf ⊢
      omega
  refine key ops.size _ a _ h0 (by simp) ?_
  simp
end
end Go.Proofs.YtplafpokgpolkaaGreatDoor
/- SINGLE OPERATIONS RUN, for regions that draw their order (wp_region_inv): moves, a slice of one element, appends. -/
namespace Go.Proofs.YtplafpokgpolkaaGreatDoor
open Go.RowKit
/-- no block, nothing said -/
def noA : As := ⟨fun _ => False, fun _ => True, fun _ _ _ _ => trivial⟩
section
variable {P : Program} {ops : Array Oper} {Q : Exit → Act → World → Prop}
theorem inv_op {i : Nat} {o : Oper} {a : Act} {w w' : World} {v : Value} {K : Act → World → Prop} (hi : ops[i]? = some o) (hg : o.guard = none) (hr : (execOp a.eval o).run P w = .ok (.value v) w') (hK : K (a.put o.dst v) w') : wpOp P ops Q i K a w := by
  unfold wpOp
  rw [hi]
  simp only
  have : Region.wanted o (yielded ops a.tmps) = true := by simp [Region.wanted, hg]
  rw [if_pos this]
  refine .inl ?_
  unfold Oper.wp
  rw [hr]
  exact hK
theorem ready_at {i : Nat} {o : Oper} {done : Array Bool} (hi : i ∈ Region.ready .any ops done) (ho : ops[i]? = some o) :
    done.getD i true = false ∧ ∀ e ∈ o.after, Region.binds .any e = true → done.getD e.on false = true := by
  obtain ⟨h1, o', ho', h2⟩ := mem_ready.1 hi
  obtain rfl := Option.some.inj (ho.symm.trans ho')
  exact ⟨h1, h2⟩
theorem ready_lt {i : Nat} {done : Array Bool} (hi : i ∈ Region.ready .any ops done) : i < ops.size := by
  obtain ⟨_, o, ho, _⟩ := mem_ready.1 hi
  exact (Array.getElem?_eq_some_iff.1 ho).1
theorem ready_not {i : Nat} {done : Array Bool} (hr : Region.ready .any ops done = []) : i ∉ Region.ready .any ops done := by rw [hr]; simp
theorem run_move {ρ : Operand → Value} {d : Option Tmp} {x : Operand} {t : TypeId} {pos : String} {af : Array Edge} {g : Option (Nat × Bool)} {w : World} :
    (execOp ρ (⟨d, .move x, t, pos, af, g⟩ : Oper)).run P w = .ok (.value (ρ x)) w := by simp [execOp]
theorem run_assign {ρ : Operand → Value} {d : Option Tmp} {x : Operand} {t : TypeId} {pos : String} {af : Array Edge} {g : Option (Nat × Bool)} {w : World} :
    (execOp ρ (⟨d, .assign x, t, pos, af, g⟩ : Oper)).run P w = .ok (.value (ρ x)) w := by simp [execOp]
/-- a slice of one element -/
theorem run_build1 {ρ : Operand → Value} {d : Option Tmp} {x : Operand} {st e t : TypeId} {z : Value} {k bytes : Nat} {pos : String} {af : Array Edge} {g : Option (Nat × Bool)} {w : World}
    (hT : SlK P st e z k bytes) (hk : k ≤ 1000) (hx : (ρ x).cells.size = k) :
    (execOp ρ (⟨d, .buildSlice st 1 #[(0, x)], t, pos, af, g⟩ : Oper)).run P w = .ok (.value (.slice (some ⟨w.heap.size, 0, none⟩) 1 1)) (w.alloc (.cells (ρ x).cells e)) := by
  obtain ⟨i, hi, hz, hsize, hby⟩ := hT.i
  have hk0 := hT.k
  have hfill : Instr.fill (fun i => some (i * k, k)) ((Array.range k).map (z.cells[· % z.cells.size]!)) [(0, ρ x)] = some (ρ x).cells := by
    unfold Instr.fill
    simp only [Nat.zero_mul, Nat.zero_add, Array.size_map, Array.size_range, hx]
    rw [if_neg (by simp)]
    unfold Instr.fill
    congr 1
    generalize hc : (ρ x).cells = c at *
    apply Array.ext'
    have key : ∀ (l : List Value) (n : Nat) (acc : List Value), acc.length = n + l.length → (l.zipIdx n).foldl (fun (cs : Array Value) (p : Value × Nat) => cs.setIfInBounds p.2 p.1) acc.toArray = (acc.take n ++ l).toArray := by
      intro l
      induction l with
      | nil => intro n acc h; simp at h; simp [← h]
      | cons y l ih =>
        intro n acc h
        simp only [List.length_cons] at h
        rw [List.zipIdx_cons, List.foldl_cons]
        rw [List.setIfInBounds_toArray, ih (n + 1) _ (by simp; omega)]
        congr 1
        rw [List.take_set, List.take_add_one, List.getElem?_eq_getElem (by omega)]
        simp only [Option.toList_some]
        rw [List.set_append_right _ _ (by simp; omega)]
        simp [List.length_take, Nat.min_eq_left (show n ≤ acc.length by omega)]
    have h2 := key c.toList 0 ((Array.range k).map (z.cells[· % z.cells.size]!)).toList (by simp [hx])
    rw [← Array.foldl_toList, Array.toList_zipIdx]
    have e2 : ((Array.range k).map (z.cells[· % z.cells.size]!)) = (((Array.range k).map (z.cells[· % z.cells.size]!)).toList).toArray := Array.toArray_toList.symm
    rw [e2, h2]
    simp
  have hk' : ¬ (16777216 < k) := by omega
  have hk1 : ¬ (k = 0) := by omega
  simp [execOp, Instr.buildSlice, run_underlying hT.u, sizeOf, typeInfo, hi, hsize, zeroValue, hz, hk', hk1, hfill, newRow]
/-- append(v, x...), v the call's own -/
theorem run_appV {ρ : Operand → Value} {w : World} {t e tp : TypeId} {d : Option Tmp} {s x : Operand} {pos : String} {af : Array Edge} {g : Option (Nat × Bool)} {base k n m bytes : Nat} {z v xv : Value} {vs us : List Value} {N : Nat → Prop}
    (hT : SlK P t e z k bytes) (hown : w.ownsRow base e k v n vs) (hrd : RdV w N k xv m us) (h1 : ∀ u ∈ us, u.oneCell' = true) (hbd : n + m ≤ maxLen) (hbd2 : (n + m) * bytes ≤ 140737488355328) (hbase : base ≤ w.heap.size)
    (hs : ρ s = v) (hx : ρ x = xv) :
    ∃ v' w', (execOp ρ (⟨d, .call ⟨.builtin .append, #[s, x], #[t, t]⟩, tp, pos, af, g⟩ : Oper)).run P w = .ok (.value v') w' ∧ w'.ownsRow base e k v' (n + m) (vs ++ us) ∧ w.grownBy w' v.ownBlock ∧ (v'.ownBlock = v.ownBlock ∨ v'.ownBlock = some w.heap.size) := by
  obtain ⟨i, hi, hz, hsize, hby⟩ := hT.i
  have key : ∃ v' w', (Builtin.append_ #[t, t] tp #[v, xv]).run P w = .ok v' w' ∧ w'.ownsRow base e k v' (n + m) (vs ++ us) ∧ w.grownBy w' v.ownBlock ∧ (v'.ownBlock = v.ownBlock ∨ v'.ownBlock = some w.heap.size) := by
    have hlen := hrd.len
    obtain ⟨_, ⟨ad, cap, rfl, h1', h2, h3⟩, hc⟩ := hrd
    rcases h3 with h3 | ⟨b, off, rfl, _⟩
    · have hm : m = 0 := by omega
      subst hm
      obtain rfl : us = [] := List.eq_nil_of_length_eq_zero (by omega)
      refine ⟨v, w, ?_, by simpa using hown, ⟨rfl, rfl, rfl, Nat.le_refl _, fun _ _ _ => rfl⟩, .inl rfl⟩
      rcases hown.2 with ⟨rfl, h0⟩ | ⟨g, cap', cur, rfl, _, _, hnc, _⟩
      · cases ad <;> simp [Builtin.append_, run_underlying hT.u, sizeOf, typeInfo, hi, Builtin.lenOf, Builtin.firstCells, loadCells, loadCellsFrom]
      · cases ad <;> simp [Builtin.append_, run_underlying hT.u, sizeOf, typeInfo, hi, Builtin.lenOf, Builtin.firstCells, loadCells, loadCellsFrom, hnc, storeCells]
    · have hcells : ∀ j u, us[j]? = some u → w.cell? ((⟨b, off, none⟩ : Addr).add j) = some u := by
        intro j u hu
        rw [Addr.add_mid]
        exact hc b off _ _ rfl j u hu
      obtain ⟨v', w', hrun, ho, hg, hn, hb⟩ := run_append_own_at (P := P) w base t tp e i z k bytes hT.u hi hz hsize hby hT.z hT.k v n vs hown ⟨b, off, none⟩ m cap us hlen hcells h1 hbd hbd2 hbase
      exact ⟨v', w', hrun, ho, hg, hb⟩
  obtain ⟨v', w', hrun, h1, h2, h3⟩ := key
  refine ⟨v', w', ?_, h1, h2, h3⟩
  unfold execOp
  simp only [resolve, invoke, builtin, Sem.run_bind, Sem.run_pure, Result.andThen_ok, List.map_toArray, List.map_cons, List.map_nil, hs, hx, hrun]
theorem slTy_slK {t e : TypeId} (h : SlTy P t e (.int .u8 0) 1) : SlK P t e (.int .u8 0) 1 1 := ⟨h.u, h.i, rfl, by decide⟩
theorem run_appB {ρ : Operand → Value} {w : World} {t e tp : TypeId} {d : Option Tmp} {s x : Operand} {pos : String} {af : Array Edge} {g : Option (Nat × Bool)} {base : Nat} {v xv : Value} {l m : List UInt8} {N : Nat → Prop}
    (hT : SlTy P t e (.int .u8 0) 1) (hown : Owns w base e v l) (hrd : Reads w N xv m) (hbd : l.length + m.length ≤ 140737488355328) (hbase : base ≤ w.heap.size)
    (hs : ρ s = v) (hx : ρ x = xv) :
    ∃ v' w', (execOp ρ (⟨d, .call ⟨.builtin .append, #[s, x], #[t, t]⟩, tp, pos, af, g⟩ : Oper)).run P w = .ok (.value v') w' ∧ Owns w' base e v' (l ++ m) ∧ w.grownBy w' v.ownBlock ∧ (v'.ownBlock = v.ownBlock ∨ v'.ownBlock = some w.heap.size) := by
  obtain ⟨v', w', h1, h2, h3, h4⟩ := run_appV (d := d) (tp := tp) (pos := pos) (af := af) (g := g) (slTy_slK hT) hown (RdV.bytes hrd) (bcells_one m) (by unfold maxLen; omega) (by omega) hbase hs hx
  exact ⟨v', w', h1, by unfold Owns; rw [List.length_append, bcells_append]; exact h2, h3, h4⟩
/-- append(v, s...), v the call's own, s a string -/
theorem run_appS {ρ : Operand → Value} {w : World} {t u e tp : TypeId} {d : Option Tmp} {s x : Operand} {pos : String} {af : Array Edge} {g : Option (Nat × Bool)} {base : Nat} {v : Value} {l m : List UInt8}
    (hT : SlTy P t e (.int .u8 0) 1) (hu : P.underlying u = some .string) (hown : Owns w base e v l) (hbd : l.length + m.length ≤ 140737488355328) (hbase : base ≤ w.heap.size)
    (hs : ρ s = v) (hx : ρ x = .string ⟨m.toArray⟩) :
    ∃ v' w', (execOp ρ (⟨d, .call ⟨.builtin .append, #[s, x], #[t, u]⟩, tp, pos, af, g⟩ : Oper)).run P w = .ok (.value v') w' ∧ Owns w' base e v' (l ++ m) ∧ w.grownBy w' v.ownBlock ∧ (v'.ownBlock = v.ownBlock ∨ v'.ownBlock = some w.heap.size) := by
  obtain ⟨i, hi, hz, hsize, hby⟩ := hT.i
  have hsz : (⟨m.toArray⟩ : ByteArray).size = m.length := rfl
  obtain ⟨v', w', hr, h2, h3, h4⟩ := Lib.run_append_own_string (P := P) w base t u tp e i hT.u hu hi hz hsize hby v l.length (bcells l) hown ⟨m.toArray⟩ (by unfold maxLen; rw [hsz]; omega) (by rw [hsz]; omega) hbase
  rw [hsz] at h2 h4
  have hb : v'.ownBlock = v.ownBlock ∨ v'.ownBlock = some w.heap.size := by
    have hown' : w.ownsRow base e 1 v l.length (bcells l) := hown
    rcases hown'.2 with ⟨rfl, h0⟩ | ⟨g', cap, cur, rfl, hbg, hg, hnc, hcm, hcs, htake⟩
    · by_cases hm : m.length = 0
      · exact .inl (by rw [h4.2 ⟨rfl, hm⟩])
      · have hr2 := run_append_nil_string (P := P) w t u tp e i (.int .u8 0) hT.u hu hi hz ⟨m.toArray⟩ (by rw [hsz]; omega) (by rw [hsz]; omega) (by rw [hby, hsz]; omega)
        rw [hr] at hr2
        injection hr2 with hv _
        exact .inr (by rw [hv]; rfl)
    · by_cases hroom : l.length + m.length ≤ cap
      · have hcs' : cur.size = cap := by simpa using hcs
        have hr2 := Lib.run_append_room_string (P := P) w t u tp e i hT.u hu hi hsize g' l.length cap cur hg ⟨m.toArray⟩ (by rw [hsz]; exact hroom) (by rw [hsz]; omega)
        rw [hr] at hr2
        injection hr2 with hv _
        exact .inl (by rw [hv]; rfl)
      · have holds : ∀ j u, (bcells l)[j]? = some u → w.cell? ((⟨g', 0, none⟩ : Addr).add j) = some u := hown'.cells (g := g') rfl
        have hr2 := Lib.run_append_grow_string (P := P) w t u tp e i (.int .u8 0) hT.u hu hi hz ⟨g', 0, none⟩ l.length cap (bcells l) (by rw [hsize]; simp [bcells_length]) holds ⟨m.toArray⟩ (by rw [hsz]; omega) (by rw [hsz]; omega) (by rw [hby, hsz]; exact growslice_fits (by omega) (by omega))
        rw [hr] at hr2
        injection hr2 with hv _
        exact .inr (by rw [hv]; rfl)
  refine ⟨v', w', ?_, by unfold Owns; rw [List.length_append, bcells_append]; exact h2, h3, hb⟩
  unfold execOp
  simp only [resolve, invoke, builtin, Sem.run_bind, Sem.run_pure, Result.andThen_ok, List.map_toArray, List.map_cons, List.map_nil, hs, hx, hr]
end
/-- ARM: append(v, s...), s a string -/
theorem arm_appendS {P : Program} {ops : Array Oper} {rest : List Oper} {a : Act} {w : World} {Q : Exit → Act → World → Prop} {t u e tp : TypeId} {dst : Option Tmp} {s x : Operand} {pos : String} {after : Array Edge} {base : Nat} {v : Value} {l m : List UInt8}
    (hT : SlTy P t e (.int .u8 0) 1) (hu : P.underlying u = some .string) (hown : Owns w base e v l) (hbd : l.length + m.length ≤ 140737488355328) (hbase : base ≤ w.heap.size)
    (hs : a.eval s = v) (hx : a.eval x = .string ⟨m.toArray⟩)
    (h : ∀ v' w', Owns w' base e v' (l ++ m) → w.grownBy w' v.ownBlock → (v'.ownBlock = v.ownBlock ∨ v'.ownBlock = some w.heap.size) → wpList P ops Q rest (a.put dst v') w') :
    wpList P ops Q (⟨dst, .call ⟨.builtin .append, #[s, x], #[t, u]⟩, tp, pos, after, none⟩ :: rest) a w := by
  obtain ⟨v', w', hrun, h1, h2, h3⟩ := run_appS (ρ := a.eval) (d := dst) (tp := tp) (pos := pos) (af := after) (g := none) hT hu hown hbd hbase hs hx
  refine wpList_plain rfl fun _ hK => ?_
  unfold Oper.wp
  rw [hrun]
  exact hK _ _ (h v' w' h1 h2 h3)
theorem results_row3 {P : Program} {fn : Func} {p q r : Tmp} {ty : TypeId} {n : Nat} {w : World} {b : Nat} {e : TypeId} {c : Array Value} {tmps : Array Value} {v u : Value} (h : fn.results = #[.cell p ty, .tmp q, .tmp r]) (hrow : Row w b e c) (hA : AggTy P ty n) (hs : c.size = n)
    (hp : tmps.getD p undef = .pointer (some ⟨b, 0, none⟩)) (hq : tmps.getD q undef = v) (hr : tmps.getD r undef = u) : (results fn tmps).run P w = .ok (.tuple #[.agg c, v, u]) w := by
  obtain ⟨d, hu, hd⟩ := hA.u
  have hp' : tmps[p]?.getD undef = .pointer (some ⟨b, 0, none⟩) := by simpa using hp
  have hq' : tmps[q]?.getD undef = v := by simpa using hq
  have hr' : tmps[r]?.getD undef = u := by simpa using hr
  have hrow' : w.heap[b]? = some (.cells c e (0, 0)) := hrow
  simp [results, h, hp', hq', hr', asAddr, run_loadVar_row w b e ty c (0, 0) d hrow' hu (by cases d <;> simp_all [TypeDesc.isRow]) (by rw [hs]; exact hA.i)]
/-- a slice's block -/
def blkOf : Value → Nat
  | .slice (some a) _ _ => a.block
  | _ => 0
theorem Hp.pushNo {M : Nat → Prop} {w wr : World} {ls : List As} (h : Hp M w wr ls) : Hp M w wr (ls ++ [noA]) :=
  h.push noA (.refl _ _ _) trivial (fun _ hb => hb.elim)
/-- slot d of the frame -/
def slot (a : Act) (d : Nat) : Value := a.tmps.getD d undef
theorem eval_slot (a : Act) (d : Nat) : a.eval (.tmp d) = slot a d := rfl
theorem slot_put_same (a : Act) (d : Nat) (v : Value) (h : d < a.tmps.size) : slot (a.put (some d) v) d = v := by
  simp [slot, Act.put, Array.getD_eq_getD_getElem?, h]
theorem slot_put_ne (a : Act) (d j : Nat) (v : Value) (h : d ≠ j) : slot (a.put (some d) v) j = slot a j := by
  simp [slot, Act.put, Array.getD_eq_getD_getElem?, Array.getElem?_setIfInBounds_ne h]
/-- a is a0 but for the slots ds -/
structure Fr (a0 : Act) (ds : List Nat) (a : Act) : Prop where
  size : a.tmps.size = a0.tmps.size
  defers : a.defers = a0.defers
  same : ∀ j, j ∉ ds → slot a j = slot a0 j
theorem Fr.refl (a0 : Act) (ds : List Nat) : Fr a0 ds a0 := ⟨rfl, rfl, fun _ _ => rfl⟩
theorem Fr.put {a0 a : Act} {ds : List Nat} (h : Fr a0 ds a) (d : Nat) (hd : d ∈ ds) (v : Value) : Fr a0 ds (a.put (some d) v) :=
  ⟨by simpa [Act.put] using h.size, h.defers, fun j hj => by rw [slot_put_ne _ _ _ _ (fun (e : d = j) => hj (e ▸ hd))]; exact h.same j hj⟩
theorem Fr.eq {a0 a : Act} {ds : List Nat} (h : Fr a0 ds a) : a = ds.foldl (fun b d => b.put (some d) (slot a d)) a0 := by
  have key : ∀ (l : List Nat) (b : Act), b.tmps.size = a.tmps.size → (l.foldl (fun b d => b.put (some d) (slot a d)) b).tmps.size = a.tmps.size ∧ (l.foldl (fun b d => b.put (some d) (slot a d)) b).defers = b.defers ∧
      ∀ j, j < a.tmps.size → slot (l.foldl (fun b d => b.put (some d) (slot a d)) b) j = if j ∈ l then slot a j else slot b j := by
    intro l
    induction l with
    | nil => intro b hb; exact ⟨hb, rfl, fun j _ => by simp⟩
    | cons d l ih =>
      intro b hb
      have := ih (b.put (some d) (slot a d)) (by simpa [Act.put] using hb)
      refine ⟨this.1, this.2.1, fun j hj => ?_⟩
      rw [List.foldl_cons, this.2.2 j hj]
      by_cases e : j = d
      · subst e
        rw [slot_put_same _ _ _ (by omega)]
        simp
      · rw [slot_put_ne _ _ _ _ (Ne.symm e)]
        simp [e]
  have k := key ds a0 h.size.symm
  obtain ⟨k1, k2, k3⟩ := k
  generalize hr : ds.foldl (fun b d => b.put (some d) (slot a d)) a0 = r at *
  have ht : a.tmps = r.tmps := by
    apply Array.ext (by omega)
    intro j h1 h2
    have e := k3 j h1
    have e2 : slot r j = slot a j := by
      rw [e]
      split
      · rfl
      · rename_i hn; exact (h.same j hn).symm
    have e3 : r.tmps[j] = a.tmps[j] := by simpa [slot, Array.getD_eq_getD_getElem?, h1, h2] using e2
    exact e3.symm
  obtain ⟨t1, f1⟩ := a
  obtain ⟨t2, f2⟩ := r
  simp only at ht
  subst ht
  congr 1
  exact h.defers.trans k2.symm
/-- what an operation waits for has run -/
def Closed (ops : Array Oper) (done : Array Bool) : Prop := ∀ j o, ops[j]? = some o → done.getD j false = true → ∀ e ∈ o.after, Region.binds .any e = true → done.getD e.on false = true
theorem Closed.set {ops : Array Oper} {done : Array Bool} (h : Closed ops done) {i : Nat} (hi : i ∈ Region.ready .any ops done) : Closed ops (done.setIfInBounds i true) := by
  have mono : ∀ j, done.getD j false = true → (done.setIfInBounds i true).getD j false = true := by
    intro j hj
    by_cases e : i = j
    · subst e
      rcases Nat.lt_or_ge i done.size with hl | hl
      · simp [Array.getD_eq_getD_getElem?, hl]
      · simp [Array.getD_eq_getD_getElem?, Array.getElem?_eq_none hl] at hj
    · simpa [Array.getD_eq_getD_getElem?, Array.getElem?_setIfInBounds_ne e] using hj
  intro j o ho hd e he hb
  by_cases ej : i = j
  · subst ej
    exact mono _ ((ready_at hi ho).2 e he hb)
  · refine mono _ (h j o ho ?_ e he hb)
    simpa [Array.getD_eq_getD_getElem?, Array.getElem?_setIfInBounds_ne ej] using hd
theorem closed_none (ops : Array Oper) (n : Nat) : Closed ops (Array.replicate n false) := by
  intro j o _ hd
  rcases Nat.lt_or_ge j n with h | h <;> simp [Array.getD_eq_getD_getElem?, h] at hd
/-- the same, the frame as it stands at the region's head handed to Inv -/
theorem wp_region_fr {P : Program} {ops : Array Oper} {id : Nat} {Q : Exit → Act → World → Prop} {a : Act} {w : World} (ds : List Nat) (I : Array Bool → (Nat → Value) → World → Prop) (hm : P.follows .mixedOrders = true)
    (h0 : I (Array.replicate ops.size false) (slot a) w.drew)
    (hs : ∀ done a1 w1, Fr a ds a1 → I done (slot a1) w1 → done.size = ops.size → Closed ops done → ∀ i ∈ Region.ready .any ops done, wpOp P ops Q i (fun a2 w2 => Fr a ds a2 ∧ I (done.setIfInBounds i true) (slot a2) w2) a1 w1)
    (he : ∀ done a1 w1, a1 = ds.foldl (fun b d => b.put (some d) (slot a1 d)) a → I done (slot a1) w1 → done.size = ops.size → Region.ready .any ops done = [] → Q .normal a1 w1) : (Code.region id ops true).wp P Q a w :=
  wp_region_inv (fun done a1 w1 => Closed ops done ∧ Fr a ds a1 ∧ I done (slot a1) w1) hm ⟨closed_none _ _, Fr.refl _ _, h0⟩
    (fun done a1 w1 h hz i hi => wpOp_mono (fun _ _ h2 => ⟨h.1.set hi, h2⟩) (hs done a1 w1 h.2.1 h.2.2 hz h.1 i hi)) (fun done a1 w1 h hz hr => he done a1 w1 h.2.1.eq h.2.2 hz hr)
/-- one operation of such a region -/
theorem fr_op {P : Program} {ops : Array Oper} {Q : Exit → Act → World → Prop} {a a1 : Act} {ds : List Nat} {I : Array Bool → (Nat → Value) → World → Prop} {done : Array Bool} {w w' : World} {i d : Nat} {op : Op} {tp : TypeId} {pos : String} {af : Array Edge} {v : Value}
    (hf : Fr a ds a1) (hd : d ∈ ds) (hi : ops[i]? = some ⟨some d, op, tp, pos, af, none⟩) (hr : (execOp a1.eval (⟨some d, op, tp, pos, af, none⟩ : Oper)).run P w = .ok (.value v) w')
    (hI : ∀ s : Nat → Value, s d = v → (∀ j, j ≠ d → s j = slot a1 j) → I (done.setIfInBounds i true) s w') (hds : ∀ d ∈ ds, d < a.tmps.size) :
    wpOp P ops Q i (fun a2 w2 => Fr a ds a2 ∧ I (done.setIfInBounds i true) (slot a2) w2) a1 w :=
  inv_op (o := ⟨some d, op, tp, pos, af, none⟩) hi rfl hr ⟨hf.put d hd v, hI _ (slot_put_same _ _ _ (by rw [hf.size]; exact hds d hd)) (fun j hj => slot_put_ne _ _ _ _ (Ne.symm hj))⟩
def inOrderB (ops : Array Oper) : Bool := (List.range ops.size).all fun j => ((ops[j]?).map fun o => o.after.all fun e => !Region.binds .any e || decide (e.on < j)).getD true
/-- where nothing is ready, all has run -/
theorem all_done {ops : Array Oper} {done : Array Bool} (hB : inOrderB ops = true) (hsz : done.size = ops.size) (hr : Region.ready .any ops done = []) : ∀ j, j < ops.size → done.getD j false = true := by
  intro j
  induction j using Nat.strongRecOn with
  | _ j ih =>
    intro hj
    cases hd : done.getD j false with
    | true => rfl
    | false =>
      have ho : ops[j]? = some ops[j] := Array.getElem?_eq_getElem hj
      have hB' := List.all_eq_true.1 hB j (List.mem_range.2 hj)
      rw [ho] at hB'
      simp only [Option.map_some, Option.getD_some, Array.all_eq_true_iff_forall_mem, Bool.or_eq_true, Bool.not_eq_true', decide_eq_true_eq] at hB'
      have hm : j ∈ Region.ready .any ops done := mem_ready.2 ⟨by
        have hj2 : j < done.size := by omega
        simpa [Array.getD_eq_getD_getElem?, hj2] using hd, _, ho, fun e he hb => by
          have h1 : e.on < j := (hB' e he).resolve_left (by rw [hb]; exact fun h => by cases h)
          exact ih e.on h1 (by omega)⟩
      rw [hr] at hm
      cases hm
theorem arr9 (d : Array Bool) (h : d.size = 9) : ∃ d0 d1 d2 d3 d4 d5 d6 d7 d8, d = #[d0, d1, d2, d3, d4, d5, d6, d7, d8] := by
  obtain ⟨l⟩ := d
  match l, h with
  | [d0, d1, d2, d3, d4, d5, d6, d7, d8], _ => exact ⟨_, _, _, _, _, _, _, _, _, rfl⟩
theorem arr10 (d : Array Bool) (h : d.size = 10) : ∃ d0 d1 d2 d3 d4 d5 d6 d7 d8 d9, d = #[d0, d1, d2, d3, d4, d5, d6, d7, d8, d9] := by
  obtain ⟨l⟩ := d
  match l, h with
  | [d0, d1, d2, d3, d4, d5, d6, d7, d8, d9], _ => exact ⟨_, _, _, _, _, _, _, _, _, _, rfl⟩
theorem reads_row1 {w : World} {b : Nat} {e : TypeId} {c : UInt8} {N : Nat → Prop} (h : Row w b e #[.int .u8 (c.toNat : Int)]) (hN : N b) : Reads w N (.slice (some ⟨b, 0, none⟩) 1 1) [c] :=
  RdV.toBytes (RdV.ofRow h hN 1 0 1 1 (bcells [c]) rfl (Nat.le_refl _) (by unfold maxLen; omega) (fun j u hu => by
    match j, hu with
    | 0, hu => simpa [bcells] using hu
    | (j + 1), hu => simp [bcells] at hu))
theorem run_fieldAddr {P : Program} {ρ : Operand → Value} {d : Option Tmp} {x : Operand} {T t : TypeId} {n m : Nat} {fs : Array Field} {f : Field} {pos : String} {af : Array Edge} {g : Option (Nat × Bool)} {w : World} {b off : Nat}
    (hu : P.underlying T = some (.struct fs)) (hf : fs[n]? = some f) (hs : (P.info? f.type).map (·.size) = some (m + 1)) (hx : ρ x = .pointer (some ⟨b, off, none⟩)) :
    (execOp ρ (⟨d, .fieldAddr T x n, t, pos, af, g⟩ : Oper)).run P w = .ok (.value (.pointer (some ⟨b, off + f.offset, none⟩))) w := by
  have hz : (sizeOf f.type).run P w = .ok (m + 1) w := by
    cases hi : P.info? f.type with
    | none => simp [hi] at hs
    | some i => simp [hi] at hs; simp [sizeOf, typeInfo, hi, hs]
  simp [go_sem, execOp, hx, Instr.fieldAt, run_underlying hu, hf, fieldPlace, hz]
theorem run_loadCell {P : Program} {ρ : Operand → Value} {d : Option Tmp} {x : Operand} {ty t : TypeId} {pos : String} {af : Array Edge} {g : Option (Nat × Bool)} {w : World} {b off : Nat} {v : Value}
    (hd : ∀ w, (isAgg ty).run P w = .ok false w) (hc : w.cell? ⟨b, off, none⟩ = some v) (hx : ρ x = .pointer (some ⟨b, off, none⟩)) :
    (execOp ρ (⟨d, .load ty x, t, pos, af, g⟩ : Oper)).run P w = .ok (.value v) w := by
  simp [go_sem, execOp, hx, Instr.loadAt, hd, hc]
end Go.Proofs.YtplafpokgpolkaaGreatDoor
/- s[:i] OF A STRING. -/
namespace Go.Proofs.YtplafpokgpolkaaGreatDoor
open Go.RowKit
theorem run_slice_to {P : Program} {T : TypeId} (hu : P.underlying T = some .string) (l : List UInt8) (k1 : IntKind) (i : Nat) (h1 : i ≤ l.length) (w : World) :
    (Instr.slice T (.string ⟨l.toArray⟩) none (some (.int k1 (i : Int))) none).run P w = .ok (.string ⟨(l.take i).toArray⟩) w := by
  have hsz : ByteArray.size ⟨l.toArray⟩ = l.length := rfl
  simp [Instr.slice, Instr.sliceBounds, Instr.sliceBound, asIntOf, run_underlying hu, hsz, h1, ByteArray.extract_mk]
end Go.Proofs.YtplafpokgpolkaaGreatDoor
/- path: Split, MayName, Parent, Base, Under. -/
namespace Go.Proofs.YtplafpokgpolkaaGreatDoor
open Go.RowKit
/-- blocks laid since w -/
abbrev NewIn (w w' : World) (b : Nat) : Prop := w.heap.size ≤ b ∧ b < w'.heap.size
def strV (l : List UInt8) : Value := .string ⟨l.toArray⟩
/-- v, a []string, reads as the names l -/
abbrev RdS (w : World) (N : Nat → Prop) (v : Value) (l : List (List UInt8)) : Prop := RdV w N 1 v l.length (l.map strV)
/-- .. and is the call's own -/
abbrev OwnS (w : World) (base : Nat) (v : Value) (l : List (List UInt8)) : Prop := w.ownsRow base 9 1 v l.length (l.map strV)
/-- internal/bytealg.MaxLen holds some int -/
structure Mx (B : Nat) (w : World) : Prop where
  lt : 2 < B
  ex : ∃ m, w.cell? ⟨2, 0, none⟩ = some (.int .i64 m)
theorem Mx.on {B : Nat} {w w' : World} (h : Mx B w) (hb : Below B w w') : Mx B w' := by
  obtain ⟨m, hm⟩ := h.ex
  exact ⟨h.lt, m, by rw [hb.cell (p := ⟨2, 0, none⟩) h.lt]; exact hm⟩
theorem slS : SlK Tryz.prog 38 9 (strV []) 1 16 := SlK.mk' Tryz.underlying38 (by kernel_rfl) rfl (by decide)
theorem bne_nil (l : List UInt8) : (l == []) = l.isEmpty := by cases l <;> rfl
theorem ssplit_any (l : List UInt8) (hl : l.length ≤ 1000000) (B : Nat) (w : World) (_hB : B ≤ w.heap.size) (hM : Mx B w) :
    Calls Tryz.prog 147 #[.string ⟨l.toArray⟩, .string ⟨#[47]⟩] w fun e w' => ∃ v, e = .returned v ∧ (∃ b, v = .slice (some ⟨b, 0, none⟩) (spl l).length (spl l).length) ∧ OwnS w' w.heap.size v (spl l) ∧ Below w.heap.size w w' := by
  obtain ⟨m, hm⟩ := hM.ex
  refine (Tryz.strings_Split ⟨l.toArray⟩ ⟨#[47]⟩ m w (by show l.length < _; omega) hm (by decide)).mono ?_
  rintro e w' ⟨rfl, rfl⟩
  have hn := spl_length l
  rw [splitB_spl, count_spl, List.map_map]
  refine ⟨_, rfl, ⟨_, rfl⟩, ?_, (Below.refl _ _).alloc (Nat.le_refl _) _⟩
  exact ownsV_new 9 ((spl l).map strV) 1 (spl l).length _ _ rfl (Nat.le_refl _) (by simp) (by unfold maxLen; omega)
set_option maxHeartbeats 1000000 in
theorem split_any (l : List UInt8) (hl : l.length ≤ 1000000) (B : Nat) (w : World) (hB : B ≤ w.heap.size) (hM : Mx B w) :
    Calls Tryz.prog 124 #[.string ⟨l.toArray⟩] w fun e w' => ∃ v, e = .returned v ∧ OwnS w' w.heap.size v (splitP l) ∧ Below w.heap.size w w' := by
  have HS := Keep.keep (ssplit_any l hl B w hB hM)
  have heq := bne_nil l
  clear hM
  cases hl0 : l.isEmpty with
  | true =>
    have hs : splitP l = [] := by cases l with | nil => rfl | cons c l => cases hl0
    rw [hl0] at heq
    rw [hs]
    clear hs hl0
    go_enter Tryz.func124, Tryz.ntmps124
    go_wp2_with fail
    go_ret
    exact ⟨_, rfl, World.ownsRow_nil _ _ _ _, Below.refl _ _⟩
  | false =>
    have hs : splitP l = spl l := by cases l with | nil => cases hl0 | cons c l => rfl
    rw [hl0] at heq
    rw [hs]
    clear hs hl0
    go_enter Tryz.func124, Tryz.ntmps124
    go_wp2_with fail
    refine HS.out.mono ?_
    rintro e w1 ⟨v, rfl, ⟨b, rfl⟩, ho, hb⟩
    have HO := Keep.keep ho; have HB := Keep.keep hb
    clear ho hb
    go_wp2_with fail
    go_ret
    exact ⟨_, rfl, HO.out, HB.out⟩
set_option maxHeartbeats 1000000 in
set_option maxRecDepth 100000 in
theorem mayname_any (s : List UInt8) (hs : s.length ≤ 1000000) (w : World) :
    Calls Tryz.prog 93 #[.string ⟨s.toArray⟩] w fun e w' => e = .returned (.bool (mayN s)) ∧ Below w.heap.size w w' := by
  have HC := Keep.keep (fun w => cany_any s [47, 0] (by decide) (by decide) (by decide) (by omega) w)
  have HP := Keep.keep (fun w => Tryz.strings_HasPrefix ⟨s.toArray⟩ ⟨#[46, 119, 104, 46]⟩ w)
  have e1 := bne_nil s
  have e2 : decide ((s.length : Int) ≤ 251) = decide (s.length ≤ 251) := by simp only [decide_eq_decide]; omega
  have e5 : s.any (([47, 0] : List UInt8).contains ·) = s.any (fun c => c == 47 || c == 0) := by
    congr 1; funext c; simp [List.contains, List.elem]
    cases c == 47 <;> cases c == 0 <;> rfl
  have e6 : Lib.hasPrefix (⟨s.toArray⟩ : ByteArray).data.toList (⟨#[46, 119, 104, 46]⟩ : ByteArray).data.toList = ([46, 119, 104, 46] : List UInt8).isPrefixOf s := rfl
  rw [e5] at HC
  rw [e6] at HP
  unfold mayN
  simp only [bne]
  generalize s.isEmpty = b1 at *
  generalize decide (s.length ≤ 251) = b2 at *
  generalize e3 : (s == [46]) = b3 at *
  generalize e4 : (s == [46, 46]) = b4 at *
  generalize (s.any fun c => c == 47 || c == 0) = b5 at *
  generalize ([46, 119, 104, 46] : List UInt8).isPrefixOf s = b6 at *
  clear e5 e6
  cases b1 with
  | true =>
    go_enter Tryz.func93, Tryz.ntmps93
    go_wp2_with fail
    go_ret
    exact ⟨rfl, Below.refl _ _⟩
  | false =>
  cases b2 with
  | false =>
    go_enter Tryz.func93, Tryz.ntmps93
    go_wp2_with fail
    go_ret
    exact ⟨rfl, Below.refl _ _⟩
  | true =>
  cases b3 with
  | true =>
    go_enter Tryz.func93, Tryz.ntmps93
    go_wp2_with fail
    go_ret
    exact ⟨rfl, Below.refl _ _⟩
  | false =>
  cases b4 with
  | true =>
    go_enter Tryz.func93, Tryz.ntmps93
    go_wp2_with fail
    go_ret
    exact ⟨rfl, Below.refl _ _⟩
  | false =>
  cases b5 with
  | true =>
    go_enter Tryz.func93, Tryz.ntmps93
    go_wp2_with fail
    refine (HC.out _).mono ?_
    rintro e w1 ⟨rfl, hb1⟩
    go_wp2_with fail
    go_ret
    exact ⟨rfl, hb1⟩
  | false =>
    go_enter Tryz.func93, Tryz.ntmps93
    go_wp2_with fail
    refine (HC.out _).mono ?_
    rintro e w1 ⟨rfl, hb1⟩
    have HB := Keep.keep hb1
    clear hb1
    go_wp2_with fail
    refine (HP.out _).mono ?_
    rintro e w2 ⟨rfl, rfl⟩
    go_wp2_with fail
    go_ret
    exact ⟨rfl, HB.out⟩
set_option maxHeartbeats 1000000 in
theorem parent_any (p : List UInt8) (hp : p.length ≤ 1000000) (w : World) :
    Calls Tryz.prog 61 #[.string ⟨p.toArray⟩] w fun e w' => e = .returned (.string ⟨(parentP p).toArray⟩) ∧ w = w' := by
  have HL := Keep.keep (fun w => Tryz.strings_LastIndexByte ⟨p.toArray⟩ 47 (by show p.length < _; omega) w)
  rw [lastIndexByte_cut] at HL
  have hle := cutAt_le p
  have hk := run_slice_to (P := Tryz.prog) Tryz.underlying9 p .i64 (cutAt p - 1) (by omega)
  rw [show p.take (cutAt p - 1) = parentP p from rfl] at hk
  have hm : max ((cutAt p : Int) - 1) 0 = ((cutAt p - 1 : Nat) : Int) := by omega
  generalize cutAt p - 1 = n at *
  generalize (cutAt p : Int) - 1 = t at *
  generalize parentP p = q at *
  clear hle
  go_enter Tryz.func61, Tryz.ntmps61
  go_wp2_with fail
  refine (HL.out _).mono ?_
  rintro e w1 ⟨rfl, rfl⟩
  go_wp2_with fail
  go_ret
  exact ⟨rfl, rfl⟩
set_option maxHeartbeats 1000000 in
theorem base_any (p : List UInt8) (hp : p.length ≤ 1000000) (w : World) :
    Calls Tryz.prog 89 #[.string ⟨p.toArray⟩] w fun e w' => e = .returned (.string ⟨(baseP p).toArray⟩) ∧ w = w' := by
  have HL := Keep.keep (fun w => Tryz.strings_LastIndexByte ⟨p.toArray⟩ 47 (by show p.length < _; omega) w)
  rw [lastIndexByte_cut] at HL
  have hle := cutAt_le p
  have hk := run_slice_from (P := Tryz.prog) Tryz.underlying9 p .i64 (cutAt p) (by omega)
  rw [show p.drop (cutAt p) = baseP p from rfl] at hk
  have hm : (cutAt p : Int) - 1 + 1 = ((cutAt p : Nat) : Int) := by omega
  have hr : -1 ≤ (cutAt p : Int) - 1 ∧ (cutAt p : Int) - 1 ≤ 1000000 := by omega
  generalize (cutAt p : Int) - 1 = t at *
  generalize cutAt p = n at *
  generalize baseP p = q at *
  clear hle
  go_enter Tryz.func89, Tryz.ntmps89
  go_wp2_with fail
  refine (HL.out _).mono ?_
  rintro e w1 ⟨rfl, rfl⟩
  go_wp2_with fail
  go_ret
  exact ⟨rfl, rfl⟩
set_option maxHeartbeats 1000000 in
theorem under_any (d p : List UInt8) (hd : d.length ≤ 1000000) (w : World) :
    Calls Tryz.prog 45 #[.string ⟨d.toArray⟩, .string ⟨p.toArray⟩] w fun e w' => e = .returned (.bool (underP d p)) ∧ w = w' := by
  have HP : Keep (∀ w, Calls Tryz.prog 88 #[.string ⟨p.toArray⟩, .string ⟨(d ++ [47]).toArray⟩] w fun e w' => e = .returned (.bool ((d ++ [47]).isPrefixOf p)) ∧ w' = w) := ⟨fun w => Tryz.strings_HasPrefix _ _ w⟩
  have e1 := bne_nil p
  have e2 := bne_nil d
  have hc := run_cat (P := Tryz.prog) d [47] (by simp; omega)
  unfold underP
  generalize p.isEmpty = b1 at *
  generalize d.isEmpty = b2 at *
  generalize (d ++ [47]).isPrefixOf p = b3 at *
  generalize d ++ [47] = q at *
  cases b1 with
  | true =>
    go_enter Tryz.func45, Tryz.ntmps45
    go_wp2_with fail
    go_ret
    exact ⟨rfl, rfl⟩
  | false =>
  cases b2 with
  | true =>
    go_enter Tryz.func45, Tryz.ntmps45
    go_wp2_with fail
    go_ret
    exact ⟨rfl, rfl⟩
  | false =>
    go_enter Tryz.func45, Tryz.ntmps45
    go_wp2_with fail
    refine (HP.out _).mono ?_
    rintro e w2 ⟨rfl, rfl⟩
    go_wp2_with fail
    go_ret
    exact ⟨rfl, rfl⟩
end Go.Proofs.YtplafpokgpolkaaGreatDoor
/- slices.IndexFunc, ContainsFunc over names. -/
namespace Go.Proofs.YtplafpokgpolkaaGreatDoor
open Go.RowKit
/-- the place of the first that p takes; -1 without one -/
def idxF (p : List UInt8 → Bool) (l : List (List UInt8)) : Int := match l.findIdx? p with | some i => (i : Int) | none => -1
/-- a predicate, called -/
def PredF (f : FuncId) (p : List UInt8 → Bool) (l : List (List UInt8)) : Prop := ∀ x ∈ l, ∀ w, Calls Tryz.prog f #[strV x] w fun e w' => e = .returned (.bool (p x)) ∧ Below w.heap.size w w'
theorem idxF_hit {p : List UInt8 → Bool} {l : List (List UInt8)} {k : Nat} (hk : k < l.length) (h : p l[k] = true) (hn : ∀ j, (hj : j < k) → p (l[j]'(by omega)) = false) : idxF p l = (k : Int) := by
  unfold idxF
  rw [List.findIdx?_eq_some_iff_getElem.2 ⟨hk, h, fun j hj => by simpa using hn j hj⟩]
theorem idxF_none {p : List UInt8 → Bool} {l : List (List UInt8)} (hn : ∀ j, (hj : j < l.length) → p l[j] = false) : idxF p l = -1 := by
  unfold idxF
  rw [List.findIdx?_eq_none_iff.2 (fun x hx => by obtain ⟨j, hj, rfl⟩ := List.mem_iff_getElem.1 hx; exact hn j hj)]
set_option maxHeartbeats 1000000 in
set_option maxRecDepth 100000 in
theorem ifunc_any (f : FuncId) (p : List UInt8 → Bool) (v : Value) (l : List (List UInt8)) (w : World) (hent : ∀ args w, (callFunc f args).run Tryz.prog w = .ok (.enter f args) w) (hf : PredF f p l) (hr : RdS w (· < w.heap.size) v l) :
    Calls Tryz.prog 118 #[v, .func (.func f) #[] #[]] w fun e w' => e = .returned (.int .i64 (idxF p l)) ∧ Below w.heap.size w w' := by
  obtain ⟨a, cap, rfl, hcap, hmx, h3⟩ := hr.shape
  have HR := Keep.keep hr; have HF := Keep.keep hf; have H3 := Keep.keep h3
  unfold maxLen at hmx
  clear hr hf h3
  go_enter Tryz.func118, Tryz.ntmps118
  go_wp2_with fail
  go_loopg [5, 8] l.length (fun g _ u8 wx => ∃ k : Nat, k + g = l.length ∧ u8 = .int .i64 (k : Int) ∧ (∀ j, (hj : j < k) → (hl : j < l.length) → p l[j] = false) ∧ Below w.heap.size w wx)
  case atStart => exact ⟨0, by omega, rfl, fun j hj => by omega, Below.refl _ _⟩
  case round =>
    obtain ⟨k, hkg, rfl, hno, hb⟩ := hrel
    have HNO := Keep.keep hno; have HB := Keep.keep hb
    clear hno hb
    cases gk with
    | zero =>
      obtain rfl : k = l.length := by omega
      have hx : Keep (idxF p l = -1) := ⟨idxF_none (fun j hj => HNO.out j hj hj)⟩
      go_wp2_with fail
      go_ret
      exact ⟨by rw [hx.out]; rfl, HB.out⟩
    | succ g =>
      have hk : k < l.length := by omega
      rcases H3.out with ⟨_, h3⟩ | ⟨b, off, rfl, hbl⟩
      · omega
      have hcell := (HR.out.below HB.out (fun b hb => hb)).cell b off _ _ rfl k (strV l[k]) (by simp [hk])
      have HC := Keep.keep (HF.out l[k] (List.getElem_mem hk) wr)
      have HSTEP : Keep (p l[k] = false → ∀ j, (hj : j < k + 1) → (hl : j < l.length) → p l[j] = false) := ⟨fun he j hj hl => by
        rcases Nat.lt_succ_iff_lt_or_eq.1 hj with h | rfl
        · exact HNO.out j h hl
        · exact he⟩
      have HHIT : Keep (p l[k] = true → idxF p l = (k : Int)) := ⟨fun he => idxF_hit hk he (fun j hj => HNO.out j hj (by omega))⟩
      generalize p l[k] = pk at *
      generalize l[k] = x at *
      unfold strV at hcell HC
      go_wp2_with fail
      refine HC.out.mono ?_
      rintro e w2 ⟨rfl, hb2⟩
      have HB2 := Keep.keep (HB.out.trans (hb2.mono HB.out.size))
      clear hb2
      cases pk with
      | true =>
        have hi := HHIT.out rfl
        go_wp2_with fail
        go_ret
        exact ⟨by rw [hi]; rfl, HB2.out⟩
      | false =>
        have HST2 := Keep.keep (HSTEP.out rfl)
        go_wp2_with fail
        go_roundg g
        case measure => omega
        case rel => exact ⟨k + 1, by omega, by simp, HST2.out, HB2.out⟩
set_option maxHeartbeats 1000000 in
theorem cfunc_any (f : FuncId) (p : List UInt8 → Bool) (v : Value) (l : List (List UInt8)) (w : World) (hent : ∀ args w, (callFunc f args).run Tryz.prog w = .ok (.enter f args) w) (hf : PredF f p l) (hr : RdS w (· < w.heap.size) v l) :
    Calls Tryz.prog 77 #[v, .func (.func f) #[] #[]] w fun e w' => e = .returned (.bool (l.any p)) ∧ Below w.heap.size w w' := by
  have HI := Keep.keep (ifunc_any f p v l w hent hf hr)
  obtain ⟨a, cap, rfl, -⟩ := hr.shape
  have hx : decide (0 ≤ idxF p l) = l.any p := by
    unfold idxF
    cases h : l.findIdx? p with
    | none =>
      have := List.findIdx?_eq_none_iff.1 h
      have : l.any p = false := by rw [List.any_eq_false]; intro x hx; simpa using this x hx
      rw [this]; rfl
    | some i =>
      obtain ⟨hi, hp, -⟩ := List.findIdx?_eq_some_iff_getElem.1 h
      have : l.any p = true := List.any_eq_true.2 ⟨_, List.getElem_mem hi, hp⟩
      rw [this]
      exact decide_eq_true (by simp)
  clear hr hf
  generalize idxF p l = i at *
  generalize l.any p = b at *
  go_enter Tryz.func77, Tryz.ntmps77
  go_wp2_with fail
  refine HI.out.mono ?_
  rintro e w1 ⟨rfl, hb⟩
  go_wp2_with fail
  go_ret
  exact ⟨rfl, hb⟩
end Go.Proofs.YtplafpokgpolkaaGreatDoor
