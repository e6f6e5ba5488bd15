/- SMALL RUNS OF INSTRUCTIONS, as rules of the walk. -/
import Derived.Test.YtofficleahalaaaDoorHp
import Derived.ChangeKeysEq
import Derived.Laws.StructEq
import Derived.Laws.Concat
import Derived.BigFrame
namespace Go.Proofs.YtofficleahalaaaDoor
open Go.RowKit
/-- an array's value, indexed: elements of one cell -/
theorem run_index_agg {P : Program} {T e : TypeId} {n : Nat} {d : TypeDesc} (hu : P.underlying T = some (.array n e)) (he : P.underlying e = some d) (hd : d.isRow = false) (hs : (P.info? e).map (·.size) = some 1)
    (c : Array Value) (k : IntKind) (i : Nat) (hi : i < n) (v : Value) (hv : c[i]? = some v) (w : World) : (Instr.index T (.agg c) (.int k (i : Int))).run P w = .ok v w := by
  obtain ⟨info, hinfo, hsz⟩ : ∃ info, P.info? e = some info ∧ info.size = 1 := by
    cases h : P.info? e with
    | none => simp [h] at hs
    | some i => simp [h] at hs; exact ⟨i, rfl, hs⟩
  have hagg : (isAgg e).run P w = .ok false w := by
    simp only [isAgg, Sem.run_bind, run_underlying he, Result.andThen_ok]
    cases d <;> simp_all [TypeDesc.isRow]
  simp [Instr.index, asIntOf, run_underlying hu, hi, sizeOf, typeInfo, hinfo, hsz, part, hagg, hv]
/-- a string, indexed -/
theorem run_index_str {P : Program} {T : TypeId} (hu : P.underlying T = some .string) (s : ByteArray) (k : IntKind) (i : Nat) (c : UInt8) (hc : s.data.toList[i]? = some c) (w : World) : (Instr.index T (.string s) (.int k (i : Int))).run P w = .ok (.int .u8 (c.toNat : Int)) w := by
  have hi : i < s.size := by
    have := (List.getElem?_eq_some_iff.1 hc).1
    simpa using this
  have hg : s[i]? = some c := by
    rw [getElem?_pos s i hi]
    have h2 := List.getElem?_eq_some_iff.1 hc
    obtain ⟨h2, h3⟩ := h2
    rw [← h3]
    rfl
  simp [Instr.index, asIntOf, run_underlying hu, hg]
/-- a part of a string -/
theorem run_slice_str {P : Program} {T : TypeId} (hu : P.underlying T = some .string) (l : List UInt8) (k1 k2 : IntKind) (i j : Int) (h0 : 0 ≤ i) (h1 : i ≤ j) (h2 : j ≤ l.length) (w : World) :
    (Instr.slice T (.string ⟨l.toArray⟩) (some (.int k1 i)) (some (.int k2 j)) none).run P w = .ok (.string ⟨((l.drop i.toNat).take (j.toNat - i.toNat)).toArray⟩) w := by
  have hsz : ByteArray.size ⟨l.toArray⟩ = l.length := rfl
  have e1 : 0 ≤ j ∧ j ≤ (l.length : Int) := by omega
  have e2 : 0 ≤ i ∧ i ≤ (j.toNat : Int) := by omega
  have e3 : ¬ (max j 0 < i) := by omega
  simp [Instr.slice, Instr.sliceBounds, Instr.sliceBound, asIntOf, run_underlying hu, hsz, e1, e2, ByteArray.extract_mk]
  intro h; exact absurd h e3
/-- two texts, one behind the other -/
theorem run_cat {P : Program} (a b : List UInt8) (h : a.length + b.length ≤ 4611686018427387904) (w : World) : (Op.stringOp .add ⟨a.toArray⟩ ⟨b.toArray⟩).run P w = .ok (.string ⟨(a ++ b).toArray⟩) w := by
  rw [run_string_add_sum w _ _ (by simp [ByteArray.size]; omega), ByteArray.mk_append_mk]
theorem run_part_one {P : Program} {e : TypeId} {d : TypeDesc} (he : P.underlying e = some d) (hd : d.isRow = false) (c : Array Value) (i : Nat) (v : Value) (hv : c[i]? = some v) (w : World) : (part e c i).run P w = .ok v w := by
  have hagg : (isAgg e).run P w = .ok false w := by
    simp only [isAgg, Sem.run_bind, run_underlying he, Result.andThen_ok]
    cases d <;> simp_all [TypeDesc.isRow]
  simp [part, hagg, hv]
theorem all_range_eq (a b : List UInt8) (h : a.length = b.length) : ((List.range a.length).all fun i => a.getD i 0 == b.getD i 0) = (a == b) := by
  rw [Bool.eq_iff_iff, List.all_eq_true, beq_iff_eq]
  constructor
  · intro hh
    apply List.ext_getElem h
    intro i h1 h2
    have := hh i (List.mem_range.2 h1)
    simpa [List.getD_eq_getElem?_getD, h1, h2] using this
  · rintro rfl i _
    simp
/-- arrays of bytes, compared -/
theorem run_equal_bytes {P : Program} {T e : TypeId} {n : Nat} (hu : P.underlying T = some (.array n e)) (he : P.underlying e = some (.int .u8)) (hs : (P.info? e).map (·.size) = some 1)
    (a b : List UInt8) (ha : a.length = n) (hb : b.length = n) (d : Nat) (w : World) : (Op.equalIn (d + 2) T (.agg (bcells a).toArray) (.agg (bcells b).toArray)).run P w = .ok (a == b) w := by
  obtain ⟨info, hinfo, hsz⟩ : ∃ info, P.info? e = some info ∧ info.size = 1 := by
    cases h : P.info? e with
    | none => simp [h] at hs
    | some i => simp [h] at hs; exact ⟨i, rfl, hs⟩
  have hc : P.cellsOf e = 1 := by simp [Program.cellsOf, hinfo, hsz]
  rw [run_equalIn_array w (d + 1) _ _ hu hinfo, hc, ← all_range_eq a b (by omega), ha]
  have key : ∀ is : List Nat, (∀ i ∈ is, i < n) → (Op.eqItems (d + 1) e 1 (bcells a).toArray (bcells b).toArray is).run P w = .ok (is.all fun i => a.getD i 0 == b.getD i 0) w := by
    intro is
    induction is with
    | nil => intro _; simp [Op.eqItems]
    | cons i is ih =>
      intro hi
      have h0 := hi i (by simp)
      have h1 : (bcells a).toArray[i]? = some (.int .u8 ((a.getD i 0).toNat : Int)) := by
        have := bcells_get a i (by omega)
        simpa [List.getD_eq_getElem?_getD, show i < a.length by omega] using this
      have h2 : (bcells b).toArray[i]? = some (.int .u8 ((b.getD i 0).toNat : Int)) := by
        have := bcells_get b i (by omega)
        simpa [List.getD_eq_getElem?_getD, show i < b.length by omega] using this
      have e0 : (((a.getD i 0).toNat : Int) == ((b.getD i 0).toNat : Int)) = (a.getD i 0 == b.getD i 0) := by
        rw [Bool.eq_iff_iff, beq_iff_eq, beq_iff_eq, Int.natCast_inj]
        exact UInt8.toNat_inj
      have e1 : (Op.equalIn (d + 1) e (.int .u8 ((a.getD i 0).toNat : Int)) (.int .u8 ((b.getD i 0).toNat : Int))).run P w = .ok (a.getD i 0 == b.getD i 0) w := by
        simp only [Op.equalIn, Sem.run_bind, run_underlying he, Result.andThen_ok]
        rw [← e0]; simp
      simp only [Op.eqItems, Nat.mul_one, Sem.run_bind, run_part_one he rfl _ i _ h1, run_part_one he rfl _ i _ h2, Result.andThen_ok, e1, List.all_cons]
      cases hq : (a.getD i 0 == b.getD i 0)
      · simp
      · simpa using ih (fun j hj => hi j (by simp [hj]))
  exact key _ (fun i hi => List.mem_range.1 hi)
theorem run_eql_bytes {P : Program} {T e : TypeId} {n : Nat} (hu : P.underlying T = some (.array n e)) (he : P.underlying e = some (.int .u8)) (hs : (P.info? e).map (·.size) = some 1)
    (a b : List UInt8) (ha : a.length = n) (hb : b.length = n) (w : World) : (binOp .eql T (.agg (bcells a).toArray) (.agg (bcells b).toArray)).run P w = .ok (.bool (a == b)) w := by
  rw [run_eql_struct, run_equal_bytes hu he hs a b ha hb 9998 w]; rfl
theorem run_neq_bytes {P : Program} {T e : TypeId} {n : Nat} (hu : P.underlying T = some (.array n e)) (he : P.underlying e = some (.int .u8)) (hs : (P.info? e).map (·.size) = some 1)
    (a b : List UInt8) (ha : a.length = n) (hb : b.length = n) (w : World) : (binOp .neq T (.agg (bcells a).toArray) (.agg (bcells b).toArray)).run P w = .ok (.bool (!(a == b))) w := by
  rw [run_neq_struct, run_equal_bytes hu he hs a b ha hb 9998 w]; rfl
/-- two results, the first of them in a variable -/
theorem results_row2 {P : Program} {fn : Func} {p q : Tmp} {ty : TypeId} {n : Nat} {w : World} {b : Nat} {e : TypeId} {c : Array Value} {tmps : Array Value} {v : Value} (h : fn.results = #[.cell p ty, .tmp q]) (hrow : Row w b e c) (hA : AggTy P ty n) (hs : c.size = n)
    (hp : tmps.getD p undef = .pointer (some ⟨b, 0, none⟩)) (hq : tmps.getD q undef = v) : (results fn tmps).run P w = .ok (.tuple #[.agg c, v]) w := by
  obtain ⟨d, hu, hd⟩ := hA.u
  have hp' : tmps[p]?.getD undef = .pointer (some ⟨b, 0, none⟩) := by simpa using hp
  have hq' : tmps[q]?.getD undef = v := by simpa using hq
  have hrow' : w.heap[b]? = some (.cells c e (0, 0)) := hrow
  simp [results, h, hp', hq', asAddr, run_loadVar_row w b e ty c (0, 0) d hrow' hu (by cases d <;> simp_all [TypeDesc.isRow]) (by rw [hs]; exact hA.i)]
theorem arm_stopL {P : Program} {ops : Array Oper} {rest : List Oper} {a : Act} {w : World} {Q : Exit → Act → World → Prop} {tp t : TypeId} {dst : Option Tmp} {x : Operand} {pos : String} {after : Array Edge}
  (h : Stopped P ops rest a w Q ⟨dst, .load t x, tp, pos, after, none⟩) : wpList P ops Q (⟨dst, .load t x, tp, pos, after, none⟩ :: rest) a w := by cases h; assumption
theorem arm_stopS {P : Program} {ops : Array Oper} {rest : List Oper} {a : Act} {w : World} {Q : Exit → Act → World → Prop} {tp t : TypeId} {dst : Option Tmp} {x y : Operand} {pos : String} {after : Array Edge}
  (h : Stopped P ops rest a w Q ⟨dst, .store t x y, tp, pos, after, none⟩) : wpList P ops Q (⟨dst, .store t x y, tp, pos, after, none⟩ :: rest) a w := by cases h; assumption
/-- ARM: a whole variable is read, under a guard that holds -/
theorem arm_loadRowG {P : Program} {ops : Array Oper} {rest : List Oper} {a : Act} {w : World} {Q : Exit → Act → World → Prop} {b n : Nat} {e ty tp : TypeId} {c : Array Value} {dst : Option Tmp} {x : Operand} {pos : String} {after : Array Edge} {g : Option (Nat × Bool)}
    (hwt : Region.wanted (⟨dst, .load ty x, tp, pos, after, g⟩ : Oper) (yielded ops a.tmps) = true) (hrow : Row w b e c) (hA : AggTy P ty n) (hs : c.size = n)
    (hx : a.eval x = .pointer (some ⟨b, 0, none⟩)) (h : wpList P ops Q rest (a.put dst (.agg c)) w) : wpList P ops Q (⟨dst, .load ty x, tp, pos, after, g⟩ :: rest) a w := by
  refine Go.BigFrame.wpList_want hwt fun K hK => ?_
  obtain ⟨d, hu, hd⟩ := hA.u
  have hl := hrow.loadAt (P := P) ty d hu hd (by rw [hs]; exact hA.i)
  unfold Oper.wp execOp
  simp only [hx, Sem.run_bind, Sem.run_pure, Result.andThen_ok, hl]
  exact hK _ _ h
/-- the walk stops at a guarded operation -/
inductive StoppedG (P : Program) (ops : Array Oper) (rest : List Oper) (a : Act) (w : World) (Q : Exit → Act → World → Prop) (o : Oper) : Prop
  | mk (h : wpList P ops Q (o :: rest) a w)
theorem StoppedG.out {P : Program} {ops : Array Oper} {rest : List Oper} {a : Act} {w : World} {Q : Exit → Act → World → Prop} {o : Oper} (h : wpList P ops Q (o :: rest) a w) : StoppedG P ops rest a w Q o := .mk h
theorem arm_stopLG {P : Program} {ops : Array Oper} {rest : List Oper} {a : Act} {w : World} {Q : Exit → Act → World → Prop} {tp t : TypeId} {dst : Option Tmp} {x : Operand} {pos : String} {after : Array Edge} {g : Option (Nat × Bool)}
  (_ : Region.wanted (⟨dst, .load t x, tp, pos, after, g⟩ : Oper) (yielded ops a.tmps) = true) (h : StoppedG P ops rest a w Q ⟨dst, .load t x, tp, pos, after, g⟩) : wpList P ops Q (⟨dst, .load t x, tp, pos, after, g⟩ :: rest) a w := by cases h; assumption
theorem arm_stopC {P : Program} {ops : Array Oper} {rest : List Oper} {a : Act} {w : World} {Q : Exit → Act → World → Prop} {tp : TypeId} {dst : Option Tmp} {args : Array Operand} {ts : Array TypeId} {pos : String} {after : Array Edge}
  (h : Stopped P ops rest a w Q ⟨dst, .call ⟨.builtin .copy, args, ts⟩, tp, pos, after, none⟩) : wpList P ops Q (⟨dst, .call ⟨.builtin .copy, args, ts⟩, tp, pos, after, none⟩ :: rest) a w := by cases h; assumption
end Go.Proofs.YtofficleahalaaaDoor
