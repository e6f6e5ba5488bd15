/- PARTS OF ONE PROOF, set in one file: Keep, CrcL, Mem, Own, Sl, Hp, Ins, SlStr, Law, QTail. Each part tells its own conditions. -/
import Derived.Test.YtmkofejijkabnaaGreatDoorRows
import Derived.WalkKit
import Derived.WalkSpells
import Derived.WalkLawsBesides
import Derived.Lib.Hide
import Derived.Deep.MidRow
import Derived.Deep.WholeRow
import Derived.Laws.CopyOwn
import Derived.Maps.AppendAt
import Derived.Lib.OthersKept
import Derived.ChangeKeysEq
import Derived.Laws.StructEq
import Derived.Laws.Concat
import Derived.BigFrame
import Derived.Test.YtmkofejijkabnaaGreatDoorCards
import Derived.Test.YtmkofejijkabnaaGreatDoorTie
import Derived.ProofKit
import Derived.OpenShut
import Derived.Carry
import Derived.ChangeSame
import Derived.Deep.DeepHandedRow
import Derived.Lib.LaidTab
import Derived.Deep.QuietTactic
import Derived.BigQuiet
import Derived.StillTailTactics
/- A fact kept out of the walk's sight. -/
namespace Go.Proofs.YtmkofejijkabnaaGreatDoor
structure Keep (p : Prop) : Prop where
  keep ::
  out : p
end Go.Proofs.YtmkofejijkabnaaGreatDoor
/- THE CHECKSUM, plainly: by four bits a step, as it is bit by bit; two rows that differ in one byte have not the same. -/
namespace Go.Proofs.YtmkofejijkabnaaGreatDoor
def crcT : List Nat := [0x00000000, 0x1db71064, 0x3b6e20c8, 0x26d930ac, 0x76dc4190, 0x6b6b51f4, 0x4db26158, 0x5005713c, 0xedb88320, 0xf00f9344, 0xd6d6a3e8, 0xcb61b38c, 0x9b64c2b0, 0x86d3d2d4, 0xa00ae278, 0xbdbdf21c]
def tabN (k : Nat) : Nat := crcT.getD k 0
def halfN (x : Nat) : Nat := (x / 16) ^^^ tabN (x % 16)
def wholeN (x : Nat) : Nat := halfN (halfN x)
def stepN (x : Nat) (c : UInt8) : Nat := wholeN (x ^^^ c.toNat)
/-- the register behind a row -/
def regN (x : Nat) (l : List UInt8) : Nat := l.foldl stepN x
def crcN (l : List UInt8) : Nat := 4294967295 - regN 4294967295 l
/-- bit by bit -/
def bitN (x : Nat) : Nat := if x % 2 = 1 then (x / 2) ^^^ 3988292384 else x / 2
theorem bit_xor (a b : Nat) : bitN (a ^^^ b) = bitN a ^^^ bitN b := by
  have h1 : (a ^^^ b) / 2 = a / 2 ^^^ b / 2 := Nat.xor_div_two
  have h2 : (a ^^^ b) % 2 = (a % 2 + b % 2) % 2 := by
    have h := Nat.testBit_xor a b 0
    rw [Nat.testBit_zero, Nat.testBit_zero, Nat.testBit_zero] at h
    rcases Nat.mod_two_eq_zero_or_one a with ha | ha <;> rcases Nat.mod_two_eq_zero_or_one b with hb | hb <;> rcases Nat.mod_two_eq_zero_or_one (a ^^^ b) with hc | hc <;> rw [ha, hb, hc] at h ⊢ <;> simp_all
  unfold bitN
  rw [h1, h2]
  rcases Nat.mod_two_eq_zero_or_one a with ha | ha <;> rcases Nat.mod_two_eq_zero_or_one b with hb | hb <;> rw [ha, hb]
  · simp
  · simp [Nat.xor_assoc]
  · simp only [Nat.add_zero, Nat.one_mod, if_true, show ¬ (0 : Nat) = 1 by decide, if_false]
    rw [Nat.xor_assoc, Nat.xor_comm (b / 2), ← Nat.xor_assoc]
  · simp only [show (1 + 1) % 2 = 0 by decide, show ¬ (0 : Nat) = 1 by decide, if_false, if_true]
    rw [show (a / 2 ^^^ 3988292384) ^^^ (b / 2 ^^^ 3988292384) = (a / 2 ^^^ b / 2) ^^^ (3988292384 ^^^ 3988292384) by
      rw [Nat.xor_assoc, Nat.xor_assoc]; congr 1
      rw [← Nat.xor_assoc, Nat.xor_comm 3988292384 (b / 2), Nat.xor_assoc], Nat.xor_self, Nat.xor_zero]
theorem bit_even (a : Nat) : bitN (2 * a) = a := by
  unfold bitN
  rw [if_neg (by omega)]
  omega
theorem bit_tab : ∀ r, r < 16 → bitN (bitN (bitN (bitN r))) = tabN r := by decide
theorem sixteen (x : Nat) : x = (16 * (x / 16)) ^^^ (x % 16) := by
  have h : (16 * (x / 16)) ^^^ (x % 16) = 16 * (x / 16) + x % 16 := by
    have := Nat.two_pow_add_eq_or_of_lt (i := 4) (b := x % 16) (Nat.mod_lt _ (by decide)) (x / 16)
    rw [show 2 ^ 4 * (x / 16) + x % 16 = 16 * (x / 16) + x % 16 by rfl] at this
    rw [this]
    refine Nat.eq_of_testBit_eq (fun i => ?_)
    rw [Nat.testBit_xor, Nat.testBit_or]
    have e : (16 * (x / 16)).testBit i = (decide (4 ≤ i) && (x / 16).testBit (i - 4)) := by
      rw [show 16 * (x / 16) = 2 ^ 4 * (x / 16) by rfl, Nat.testBit_two_pow_mul]
    have e2 : 4 ≤ i → (x % 16).testBit i = false := fun hi => Nat.testBit_lt_two_pow (Nat.lt_of_lt_of_le (Nat.mod_lt x (by decide : 0 < 16)) (Nat.pow_le_pow_right (by decide) hi : 2 ^ 4 ≤ 2 ^ i))
    rw [show 2 ^ 4 * (x / 16) = 16 * (x / 16) by rfl, e]
    by_cases hi : 4 ≤ i
    · rw [e2 hi]; simp
    · simp [hi]
  rw [h]; omega
/-- four bits are a step by the table -/
theorem half_bits (x : Nat) : bitN (bitN (bitN (bitN x))) = halfN x := by
  have h := sixteen x
  have e : bitN (bitN (bitN (bitN (16 * (x / 16))))) = x / 16 := by
    rw [show 16 * (x / 16) = 2 * (2 * (2 * (2 * (x / 16)))) by omega, bit_even, bit_even, bit_even, bit_even]
  unfold halfN
  rw [← bit_tab (x % 16) (Nat.mod_lt _ (by decide))]
  conv => lhs; rw [h, bit_xor, bit_xor, bit_xor, bit_xor, e]
theorem whole_bits (x : Nat) : bitN (bitN (bitN (bitN (bitN (bitN (bitN (bitN x))))))) = wholeN x := by unfold wholeN; rw [half_bits, half_bits]
theorem tab_lt : ∀ r, r < 16 → tabN r < 4294967296 := by decide
theorem tab_top : ∀ r, r < 16 → ∀ s, s < 16 → tabN r / 268435456 = tabN s / 268435456 → r = s := by decide
theorem half_lt {x : Nat} (h : x < 4294967296) : halfN x < 4294967296 := by
  unfold halfN
  exact Nat.xor_lt_two_pow (n := 32) (by omega) (tab_lt _ (Nat.mod_lt _ (by decide)))
theorem whole_lt {x : Nat} (h : x < 4294967296) : wholeN x < 4294967296 := half_lt (half_lt h)
theorem step_lt {x : Nat} (h : x < 4294967296) (c : UInt8) : stepN x c < 4294967296 :=
  whole_lt (Nat.xor_lt_two_pow (n := 32) h (Nat.lt_of_lt_of_le c.toNat_lt (by decide)))
theorem reg_lt : ∀ (l : List UInt8) {x : Nat}, x < 4294967296 → regN x l < 4294967296
  | [], _, h => h
  | c :: l, _, h => reg_lt l (step_lt h c)
theorem xor_right {a b c : Nat} (h : a ^^^ c = b ^^^ c) : a = b := by
  have := congrArg (· ^^^ c) h
  simp only [Nat.xor_assoc, Nat.xor_self, Nat.xor_zero] at this
  exact this
theorem half_inj {x y : Nat} (hx : x < 4294967296) (hy : y < 4294967296) (h : halfN x = halfN y) : x = y := by
  have top : ∀ z : Nat, z < 4294967296 → halfN z / 268435456 = tabN (z % 16) / 268435456 := by
    intro z hz
    unfold halfN
    rw [show (268435456 : Nat) = 2 ^ 28 by decide, ← Nat.shiftRight_eq_div_pow, Nat.shiftRight_xor_distrib, Nat.shiftRight_eq_div_pow, Nat.shiftRight_eq_div_pow, show z / 16 / 2 ^ 28 = 0 by
      rw [show (2 : Nat) ^ 28 = 268435456 by decide]; omega, Nat.zero_xor]
  have h1 : x % 16 = y % 16 := tab_top _ (Nat.mod_lt _ (by decide)) _ (Nat.mod_lt _ (by decide)) (by rw [← top x hx, ← top y hy, h])
  have h2 : x / 16 = y / 16 := by
    unfold halfN at h
    rw [h1] at h
    exact xor_right h
  omega
theorem whole_inj {x y : Nat} (hx : x < 4294967296) (hy : y < 4294967296) (h : wholeN x = wholeN y) : x = y := half_inj hx hy (half_inj (half_lt hx) (half_lt hy) h)
theorem step_inj {x y : Nat} {c : UInt8} (hx : x < 4294967296) (hy : y < 4294967296) (h : stepN x c = stepN y c) : x = y := by
  have hc : c.toNat < 2 ^ 32 := Nat.lt_of_lt_of_le c.toNat_lt (by decide)
  exact xor_right (whole_inj (Nat.xor_lt_two_pow (n := 32) hx hc) (Nat.xor_lt_two_pow (n := 32) hy hc) h)
theorem step_byte {x : Nat} {c e : UInt8} (hx : x < 4294967296) (h : stepN x c = stepN x e) : c = e := by
  have hc : c.toNat < 2 ^ 32 := Nat.lt_of_lt_of_le c.toNat_lt (by decide)
  have he : e.toNat < 2 ^ 32 := Nat.lt_of_lt_of_le e.toNat_lt (by decide)
  have h1 := whole_inj (Nat.xor_lt_two_pow (n := 32) hx hc) (Nat.xor_lt_two_pow (n := 32) hx he) h
  rw [Nat.xor_comm x, Nat.xor_comm x] at h1
  exact UInt8.toNat_inj.1 (xor_right h1)
theorem reg_inj : ∀ (l : List UInt8) {x y : Nat}, x < 4294967296 → y < 4294967296 → regN x l = regN y l → x = y
  | [], _, _, _, _, h => h
  | c :: l, _x, _y, hx, hy, h => step_inj hx hy (reg_inj l (step_lt hx c) (step_lt hy c) h)
/-- ONE BYTE TURNED is seen -/
theorem crc_turned {a b : List UInt8} {c e : UInt8} (hne : c ≠ e) : crcN (a ++ c :: b) ≠ crcN (a ++ e :: b) := by
  intro h
  have h32 : (4294967295 : Nat) < 4294967296 := by decide
  have l1 := reg_lt (a ++ c :: b) h32
  have l2 := reg_lt (a ++ e :: b) h32
  unfold crcN at h
  have h1 : regN 4294967295 (a ++ c :: b) = regN 4294967295 (a ++ e :: b) := by omega
  unfold regN at h1
  rw [List.foldl_append, List.foldl_append, List.foldl_cons, List.foldl_cons] at h1
  have hr := reg_lt a h32
  exact hne (step_byte hr (reg_inj b (step_lt hr c) (step_lt hr e) h1))
theorem crc_lt (l : List UInt8) : crcN l < 4294967296 := by unfold crcN; omega
end Go.Proofs.YtmkofejijkabnaaGreatDoor
/- PLAIN FACTS ON BLOCKS OF CELLS: a row of cells under one name, and how a store, a new block, a draw and a call leave it. -/
namespace Go.Proofs.YtmkofejijkabnaaGreatDoor
open Go.RowKit

/-- block b is a row of cells, c, of element type e, none of them frozen -/
def Row (w : World) (b : Nat) (e : TypeId) (c : Array Value) : Prop := w.heap[b]? = some (.cells c e (0, 0))

theorem Row.cell {w : World} {b : Nat} {e : TypeId} {c : Array Value} (h : Row w b e c) {i : Nat} {v : Value} (hv : c[i]? = some v) : w.cell? ⟨b, i, none⟩ = some v := by
  rw [cell_of_row w b i c e (0, 0) h]; exact hv
theorem Row.frozen {w : World} {b : Nat} {e : TypeId} {c : Array Value} (h : Row w b e c) (i : Nat) : w.frozen? ⟨b, i, none⟩ = false := frozen_of_row w b i c e h
theorem Row.lt {w : World} {b : Nat} {e : TypeId} {c : Array Value} (h : Row w b e c) : b < w.heap.size := (Array.getElem?_eq_some_iff.1 h).1
theorem Row.set {w : World} {b : Nat} {e : TypeId} {c : Array Value} (h : Row w b e c) (i : Nat) (v : Value) : Row (w.setCell ⟨b, i, none⟩ v) b e (c.setIfInBounds i v) := heap_setCell_same w b i c e v h
theorem Row.other {w : World} {b : Nat} {e : TypeId} {c : Array Value} (h : Row w b e c) {a : Addr} (ha : b ≠ a.block) (v : Value) : Row (w.setCell a v) b e c := by
  unfold Row; rw [heap_setCell_other w a b v ha]; exact h
theorem Row.new (w : World) (e : TypeId) (c : Array Value) : Row (w.alloc (.cells c e)) w.heap.size e c := heap_alloc_new w _
theorem Row.new' {w : World} {e : TypeId} {c c' : Array Value} {n : Nat} (hn : n = w.heap.size) (hc : c = c') : Row (w.alloc (.cells c' e)) n e c := by
  subst hn; subst hc; exact heap_alloc_new w _
theorem Row.old {w : World} {b : Nat} {e : TypeId} {c : Array Value} (h : Row w b e c) (o : Obj) : Row (w.alloc o) b e c := by
  exact (Below.heap_alloc w o b h.lt).trans h
theorem Row.drew {w : World} {b : Nat} {e : TypeId} {c : Array Value} (h : Row w b e c) : Row w.drew b e c := h
theorem Row.drewN {w : World} {b : Nat} {e : TypeId} {c : Array Value} (h : Row w b e c) (n : Nat) : Row (w.drewN n) b e c := h
theorem Row.below {w w' : World} {b B : Nat} {e : TypeId} {c : Array Value} (h : Row w b e c) (hb : Below B w w') (hlt : b < B) : Row w' b e c := by
  unfold Row; rw [hb.block b hlt]; exact h
theorem Row.grown {w w' : World} {b : Nat} {e : TypeId} {c : Array Value} {r : Option Nat} (h : Row w b e c) (hg : w.grownBy w' r) (hne : some b ≠ r) : Row w' b e c := by
  unfold Row; rw [hg.block b h.lt hne]; exact h

theorem Row.set' {w : World} {b : Nat} {e : TypeId} {c c' : Array Value} (h : Row w b e c) (i : Nat) (v : Value) (hc : c.setIfInBounds i v = c') : Row (w.setCell ⟨b, i, none⟩ v) b e c' := by
  subst hc; exact h.set i v
theorem Row.setRow {w : World} {b : Nat} {e : TypeId} {c : Array Value} (h : Row w b e c) (c' : Array Value) : Row (w.setRow b c') b e c' := Go.setRow_heap w b c c' e _ h
theorem Row.setRow_apart {w : World} {b : Nat} {e : TypeId} {c : Array Value} (h : Row w b e c) {b' : Nat} (hb : b ≠ b') (c' : Array Value) : Row (w.setRow b' c') b e c := by
  unfold Row; rw [Go.setRow_other w b' b c' hb]; exact h
/-- the whole variable, read -/
theorem Row.loadAt {P : Program} {w : World} {b : Nat} {e : TypeId} {c : Array Value} (h : Row w b e c) (ty : TypeId) (d : TypeDesc) (hu : P.underlying ty = some d) (hd : d.isRow = true) (hi : (P.info? ty).map (·.size) = some c.size) :
    (Instr.loadAt ty (.pointer (some ⟨b, 0, none⟩))).run P w = .ok (.agg c) w := by
  simp only [Instr.loadAt, Instr.sureAddr, Sem.run_bind, Sem.run_pure, Result.andThen]
  exact run_loadVar_row w b e ty c (0, 0) d h hu (by cases d <;> simp_all [TypeDesc.isRow]) hi
/-- the whole variable, written -/
theorem Row.storeAt {P : Program} {w : World} {b : Nat} {e : TypeId} {c : Array Value} (h : Row w b e c) (ty : TypeId) (c' : Array Value) (hi : (P.info? ty).map (·.size) = some c'.size) (ho : c.size = c'.size) (h1 : c'.all (·.oneCell') = true) :
    (Instr.storeAt ty (.pointer (some ⟨b, 0, none⟩)) (.agg c')).run P w = .ok () (w.setRow b c') := by
  simp only [Instr.storeAt, Instr.sureAddr, Sem.run_bind, Sem.run_pure, Result.andThen]
  exact run_storeVar_row _ _ e ty c c' h hi ho h1
/-- ty is a struct or an array, of n cells -/
structure AggTy (P : Program) (ty : TypeId) (n : Nat) : Prop where
  u : ∃ d, P.underlying ty = some d ∧ d.isRow = true
  i : (P.info? ty).map (·.size) = some n
/-- the world under a new name, with what is known of it -/
theorem wpList_world {P : Program} {ops : Array Oper} {rest : List Oper} {a : Act} {W : World} {Q : Exit → Act → World → Prop} {R : World → Prop} (h : R W) (k : ∀ w2, Keep (R w2) → wpList P ops Q rest a w2) : wpList P ops Q rest a W := k W ⟨h⟩
theorem wp_world {P : Program} {c : Code} {a : Act} {W : World} {Q : Exit → Act → World → Prop} {R : World → Prop} (h : R W) (k : ∀ w2, Keep (R w2) → c.wp P Q a w2) : c.wp P Q a W := k W ⟨h⟩
/-- ARM: a whole variable is read -/
theorem arm_loadRow {P : Program} {ops : Array Oper} {rest : List Oper} {a : Act} {w : World} {Q : Exit → Act → World → Prop} {b n : Nat} {e ty tp : TypeId} {c : Array Value} {dst : Option Tmp} {x : Operand} {pos : String} {after : Array Edge}
    (hrow : Row w b e c) (hA : AggTy P ty n) (hs : c.size = n)
    (hx : a.eval x = .pointer (some ⟨b, 0, none⟩)) (h : wpList P ops Q rest (a.put dst (.agg c)) w) : wpList P ops Q (⟨dst, .load ty x, tp, pos, after, none⟩ :: rest) a w := by
  obtain ⟨d, hu, hd⟩ := hA.u
  exact wpList_load_row rfl ty x rfl b hx e c (0, 0) d hrow hu (by cases d <;> simp_all [TypeDesc.isRow]) (by rw [hs]; exact hA.i) h
/-- ARM: a whole variable is written -/
theorem arm_storeRow {P : Program} {ops : Array Oper} {rest : List Oper} {a : Act} {w : World} {Q : Exit → Act → World → Prop} {b n : Nat} {e ty tp : TypeId} {c c' : Array Value} {dst : Option Tmp} {x y : Operand} {pos : String} {after : Array Edge}
    (hrow : Row w b e c) (hA : AggTy P ty n) (hs : c.size = n) (hs' : c'.size = n) (h1 : c'.all (·.oneCell') = true)
    (hx : a.eval x = .pointer (some ⟨b, 0, none⟩)) (hy : a.eval y = .agg c') (h : wpList P ops Q rest (a.put dst undef) (w.setRow b c')) : wpList P ops Q (⟨dst, .store ty x y, tp, pos, after, none⟩ :: rest) a w :=
  wpList_plain rfl fun _ hK => by
    have hst := hrow.storeAt (P := P) ty c' (by rw [hs']; exact hA.i) (by rw [hs, hs']) h1
    unfold Oper.wp execOp
    simp only [hx, hy, Sem.run_bind, Sem.run_pure, Result.andThen_ok, hst]
    exact hK _ _ h
/-- ARM: copy within a row that is known -/
theorem arm_copyRow {P : Program} {ops : Array Oper} {rest : List Oper} {a : Act} {w : World} {Q : Exit → Act → World → Prop} {b off soff dLen dCap sLen sCap : Nat} {e elem dT sT tp : TypeId} {c : Array Value} {dst : Option Tmp} {d s : Operand} {pos : String} {after : Array Edge}
    (hrow : Row w b e c) (cs : List Value) (c' : Array Value) (hu : P.underlying dT = some (.slice elem)) (hsz : (P.info? elem).map (·.size) = some 1)
    (hd : a.eval d = .slice (some ⟨b, off, none⟩) dLen dCap) (hsv : a.eval s = .slice (some ⟨b, soff, none⟩) sLen sCap) (hn : cs.length = Nat.min sLen dLen)
    (hsrc : ∀ j v, cs[j]? = some v → c[soff + j]? = some v) (hfit : off + cs.length ≤ c.size) (h1 : ∀ v ∈ cs, v.oneCell' = true) (hc : c' = (c.toList.take off ++ (cs ++ c.toList.drop (off + cs.length))).toArray)
    (h : wpList P ops Q rest (a.put dst (goInt cs.length)) (w.setRow b c')) : wpList P ops Q (⟨dst, .call ⟨.builtin .copy, #[d, s], #[dT, sT]⟩, tp, pos, after, none⟩ :: rest) a w := by
  subst hc
  refine wpList_copy_own rfl d s dT sT rfl elem hu hsz b off dLen dCap ⟨b, soff, none⟩ sLen sCap hd hsv c e hrow cs hn (fun j v hv => ?_) hfit h1 h
  rw [Addr.add_mid]; exact hrow.cell (hsrc j v hv)
/-- the result lies in a variable -/
theorem results_row {P : Program} {fn : Func} {p : Tmp} {ty : TypeId} {n : Nat} {w : World} {b : Nat} {e : TypeId} {c : Array Value} {tmps : Array Value} (h : fn.results = #[.cell p ty]) (hrow : Row w b e c) (hA : AggTy P ty n) (hs : c.size = n)
    (hp : tmps.getD p undef = .pointer (some ⟨b, 0, none⟩)) : (results fn tmps).run P w = .ok (.agg c) w := by
  obtain ⟨d, hu, hd⟩ := hA.u
  exact results_cell_row h tmps w b e c (0, 0) d hp hrow hu (by cases d <;> simp_all [TypeDesc.isRow]) (by rw [hs]; exact hA.i)
theorem below_drewN' {B : Nat} {a w : World} (h : Below B a w) (n : Nat) : Below B a (w.drewN n) := ⟨h.os, h.tape, h.output, h.size, h.block⟩
theorem bcell {W w1 : World} (hb : Below W.heap.size W w1) : (∀ b o, b < W.heap.size → w1.cell? ⟨b, o, none⟩ = W.cell? ⟨b, o, none⟩) ∧ (∀ b o, b < W.heap.size → w1.frozen? ⟨b, o, none⟩ = W.frozen? ⟨b, o, none⟩) :=
  ⟨fun b o h => hb.cell (p := ⟨b, o, none⟩) h, fun b o h => hb.frozen (p := ⟨b, o, none⟩) h⟩


/-- below block number B nothing but the blocks of M has changed -/
structure Chg (M : Nat → Prop) (B : Nat) (w w' : World) : Prop where
  os : w'.os = w.os
  tape : w'.tape = w.tape
  output : w'.output = w.output
  size : w.heap.size ≤ w'.heap.size
  block : ∀ k, k < B → ¬ M k → w'.heap[k]? = w.heap[k]?
theorem Chg.refl (M : Nat → Prop) (B : Nat) (w : World) : Chg M B w w := ⟨rfl, rfl, rfl, Nat.le_refl _, fun _ _ _ => rfl⟩
theorem Chg.trans {M : Nat → Prop} {B : Nat} {a b c : World} (h : Chg M B a b) (k : Chg M B b c) : Chg M B a c :=
  ⟨k.os.trans h.os, k.tape.trans h.tape, k.output.trans h.output, Nat.le_trans h.size k.size, fun i hi hm => (k.block i hi hm).trans (h.block i hi hm)⟩
theorem Chg.mono {M M' : Nat → Prop} {B B' : Nat} {w w' : World} (h : Chg M B w w') (hB : B' ≤ B) (hM : ∀ k, M k → M' k) : Chg M' B' w w' := ⟨h.os, h.tape, h.output, h.size, fun k hk hm => h.block k (by omega) (fun hx => hm (hM k hx))⟩
theorem Chg.lower {M : Nat → Prop} {B B' : Nat} {w w' : World} (h : Chg M B w w') (hB : B' ≤ B) : Chg M B' w w' := h.mono hB (fun _ hx => hx)
theorem Chg.of_below {M : Nat → Prop} {B : Nat} {w w' : World} (h : Below B w w') : Chg M B w w' := ⟨h.os, h.tape, h.output, h.size, fun k hk _ => h.block k hk⟩
theorem Chg.below {M : Nat → Prop} {B : Nat} {w w' : World} (h : Chg M B w w') (hM : ∀ k, k < B → ¬ M k) : Below B w w' := ⟨h.os, h.tape, h.output, h.size, fun k hk => h.block k hk (hM k hk)⟩
theorem Chg.drewN {M : Nat → Prop} {B : Nat} {a w : World} (h : Chg M B a w) (n : Nat) : Chg M B a (w.drewN n) := ⟨h.os, h.tape, h.output, h.size, h.block⟩
theorem Chg.drew {M : Nat → Prop} {B : Nat} {a w : World} (h : Chg M B a w) : Chg M B a w.drew := ⟨h.os, h.tape, h.output, h.size, h.block⟩
theorem Chg.alloc {M : Nat → Prop} {B : Nat} {a w : World} (h : Chg M B a w) (hB : B ≤ w.heap.size) (o : Obj) : Chg M B a (w.alloc o) :=
  h.trans (.of_below ((Below.refl _ _).alloc hB o))
theorem Chg.setCell {M : Nat → Prop} {B : Nat} {a w : World} (h : Chg M B a w) {p : Addr} (hp : B ≤ p.block ∨ M p.block) (u : Value) : Chg M B a (w.setCell p u) :=
  h.trans ⟨rfl, rfl, rfl, by simp [World.setCell], fun k hk hm => Below.heap_setCell _ _ _ _ (fun e => by subst e; exact hp.elim (fun hp => by omega) hm)⟩
theorem Chg.setRow {M : Nat → Prop} {B : Nat} {a w : World} (h : Chg M B a w) {g : Nat} (hp : B ≤ g ∨ M g) (c : Array Value) : Chg M B a (w.setRow g c) :=
  h.trans ⟨rfl, rfl, rfl, by simp [World.setRow], fun k hk hm => Go.setRow_other w g k c (fun e => by subst e; exact hp.elim (fun hp => by omega) hm)⟩
theorem Chg.grown {M : Nat → Prop} {B : Nat} {a w w' : World} {row : Option Nat} (h : Chg M B a w) (hg : w.grownBy w' row) (hB : B ≤ w.heap.size) (hr : ∀ k, row = some k → B ≤ k ∨ M k) : Chg M B a w' :=
  h.trans ⟨hg.os, hg.tape, hg.output, hg.size, fun k hk hm => hg.block k (by omega) (fun e => by exact (hr k e.symm).elim (fun hp => by omega) hm)⟩
theorem Row.chg {M : Nat → Prop} {w w' : World} {b B : Nat} {e : TypeId} {c : Array Value} (h : Row w b e c) (hb : Chg M B w w') (hlt : b < B) (hm : ¬ M b) : Row w' b e c := by
  unfold Row; rw [hb.block b hlt hm]; exact h
theorem Chg.cell {M : Nat → Prop} {B : Nat} {w w' : World} (h : Chg M B w w') {p : Addr} (hp : p.block < B) (hm : ¬ M p.block) : w'.cell? p = w.cell? p := World.cell?_of_block (w := w) (h.block p.block hp hm)
/-- the bytes l can be read from v, a []byte; its block is one of N (what has no room at all may have any address) -/
structure Reads (w : World) (N : Nat → Prop) (v : Value) (l : List UInt8) : Prop where
  shape : ∃ a cap, v = .slice a l.length cap ∧ l.length ≤ cap ∧ cap ≤ maxLen ∧ (cap = 0 ∨ ∃ b off, a = some ⟨b, off, none⟩ ∧ N b)
  cell : ∀ b off n cap, v = .slice (some ⟨b, off, none⟩) n cap → ∀ j (h : j < l.length), w.cell? ⟨b, off + j, none⟩ = some (.int .u8 (l[j].toNat : Int))
theorem Reads.len {w : World} {N : Nat → Prop} {l : List UInt8} {a : Option Addr} {n cap : Nat} (h : Reads w N (.slice a n cap) l) : n = l.length ∧ l.length ≤ cap ∧ cap ≤ maxLen := by
  obtain ⟨⟨a, cap', e, h1, h2, h3⟩, _⟩ := h
  injection e with e1 e2 e3
  subst e1 e3
  exact ⟨e2, h1, h2⟩
theorem Reads.blk {w : World} {N : Nat → Prop} {l : List UInt8} {b off n cap : Nat} (h : Reads w N (.slice (some ⟨b, off, none⟩) n cap) l) (hc : 0 < cap) : N b ∧ n = l.length ∧ l.length ≤ cap ∧ cap ≤ maxLen := by
  obtain ⟨⟨a, cap', e, h1, h2, h3⟩, _⟩ := h
  injection e with e1 e2 e3
  subst e1 e3
  rcases h3 with h3 | ⟨b', off', e, hN⟩
  · omega
  · injection e with e; injection e with f1 _ _; subst f1; exact ⟨hN, e2, h1, h2⟩
theorem Reads.chg {M N : Nat → Prop} {w w' : World} {B : Nat} {v : Value} {l : List UInt8} (h : Reads w N v l) (hb : Chg M B w w') (hN : ∀ b, N b → b < B ∧ ¬ M b) : Reads w' N v l := by
  refine ⟨h.shape, fun b off n cap e j hj => ?_⟩
  subst e
  have := hN b (h.blk (by have := h.len.2.1; omega)).1
  rw [hb.cell (p := ⟨b, off + j, none⟩) this.1 this.2]
  exact h.cell b off n cap rfl j hj
theorem Reads.mono {N N' : Nat → Prop} {w : World} {v : Value} {l : List UInt8} (h : Reads w N v l) (hN : ∀ b, N b → N' b) : Reads w N' v l := by
  obtain ⟨⟨a, cap, e, h1, h2, h3⟩, hc⟩ := h
  exact ⟨⟨a, cap, e, h1, h2, h3.imp id (fun ⟨b, off, e, hb⟩ => ⟨b, off, e, hN b hb⟩)⟩, hc⟩
theorem Reads.below {N : Nat → Prop} {w w' : World} {B : Nat} {v : Value} {l : List UInt8} (h : Reads w N v l) (hb : Below B w w') (hN : ∀ b, N b → b < B) : Reads w' N v l :=
  h.chg (M := fun _ => False) (.of_below hb) (fun b hb' => ⟨hN b hb', fun h => h⟩)
theorem Reads.drewN {N : Nat → Prop} {w : World} {v : Value} {l : List UInt8} (h : Reads w N v l) (n : Nat) : Reads (w.drewN n) N v l := ⟨h.shape, h.cell⟩
/-- a slice's length, for a measure -/
def lenV : Value → Nat
  | .slice _ n _ => n
  | _ => 0
/-- what is not empty has an address -/
theorem Reads.has {N : Nat → Prop} {w : World} {v : Value} {l : List UInt8} (h : Reads w N v l) (hl : 0 < l.length) : ∃ b off cap, v = .slice (some ⟨b, off, none⟩) l.length cap ∧ l.length ≤ cap ∧ cap ≤ maxLen ∧ N b := by
  obtain ⟨⟨a, cap, e, h1, h2, h3⟩, _⟩ := h
  rcases h3 with h3 | ⟨b, off, rfl, hN⟩
  · omega
  · exact ⟨b, off, cap, e, h1, h2, hN⟩
/-- a part of it -/
theorem Reads.sub {N : Nat → Prop} {w : World} {l : List UInt8} {b off n cap : Nat} (h : Reads w N (.slice (some ⟨b, off, none⟩) n cap) l) (i m cap' : Nat) (l' : List UInt8) (hl : l' = (l.drop i).take m) (hm : l'.length ≤ cap') (hc : cap' ≤ cap) (k : Nat) (hk : k = l'.length) :
    Reads w N (.slice (some ⟨b, off + i, none⟩) k cap') l' := by
  obtain ⟨hn, h1, h2⟩ := h.len
  subst hk
  refine ⟨⟨_, _, rfl, hm, by omega, (Nat.eq_zero_or_pos cap').imp id (fun hp => ⟨_, _, rfl, (h.blk (by omega)).1⟩)⟩, fun b' off' n' c' e j hj => ?_⟩
  injection e with e1 e2 e3; injection e1 with e1; injection e1 with e1 e4 _; subst e1 e4
  have hj2 : i + j < l.length := by subst hl; simp at hj; omega
  have := h.cell b off n cap rfl (i + j) hj2
  rw [Nat.add_assoc, this]
  subst hl
  simp
/-- an empty part of it -/
theorem Reads.ofEmpty {N : Nat → Prop} {w : World} {b off cap : Nat} (hN : N b) (hc : cap ≤ maxLen) : Reads w N (.slice (some ⟨b, off, none⟩) 0 cap) [] :=
  ⟨⟨_, _, rfl, Nat.zero_le _, hc, .inr ⟨_, _, rfl, hN⟩⟩, fun _ _ _ _ _ j hj => by cases hj⟩
theorem Reads.ofNil {N : Nat → Prop} {w : World} : Reads w N (.slice none 0 0) [] :=
  ⟨⟨_, _, rfl, Nat.zero_le _, Nat.zero_le _, .inl rfl⟩, fun _ _ _ _ e j hj => by cases hj⟩
/-- no room: whatever the address -/
theorem Reads.ofNone {N : Nat → Prop} {w : World} {a : Option Addr} : Reads w N (.slice a 0 0) [] :=
  ⟨⟨_, _, rfl, Nat.zero_le _, Nat.zero_le _, .inl rfl⟩, fun _ _ _ _ e j hj => by cases hj⟩
end Go.Proofs.YtmkofejijkabnaaGreatDoor
/- APPEND ONTO A SLICE OF THE CALL's OWN, of whatever bytes; as arms of the walk. -/
namespace Go.Proofs.YtmkofejijkabnaaGreatDoor
open Go.RowKit
/-- t is a slice type, its elements, of type e, take one cell each -/
structure SlTy (P : Program) (t e : TypeId) (z : Value) (bytes : Nat) : Prop where
  u : P.underlying t = some (.slice e)
  i : ∃ i, P.info? e = some i ∧ i.zero = some z ∧ i.size = 1 ∧ i.bytes = bytes
  z : z.cells.size = 1
theorem SlTy.mk' {P : Program} {t e : TypeId} {z : Value} {bytes : Nat} (hu : P.underlying t = some (.slice e)) (hi : (P.info? e).map (fun i => (i.zero, i.size, i.bytes)) = some (some z, 1, bytes)) (hz : z.cells.size = 1) : SlTy P t e z bytes := by
  refine ⟨hu, ?_, hz⟩
  cases h : P.info? e with
  | none => simp [h] at hi
  | some i => simp [h] at hi; exact ⟨i, rfl, hi⟩
/-- bytes, as cells -/
def bcells (l : List UInt8) : List Value := l.map fun c => Value.int .u8 (c.toNat : Int)
theorem bcells_length (l : List UInt8) : (bcells l).length = l.length := by simp [bcells]
theorem bcells_append (l m : List UInt8) : bcells (l ++ m) = bcells l ++ bcells m := by simp [bcells]
theorem bcells_get (l : List UInt8) (j : Nat) (h : j < l.length) : (bcells l)[j]? = some (.int .u8 (l[j].toNat : Int)) := by simp [bcells, h]
theorem bcells_one (l : List UInt8) : ∀ u ∈ bcells l, u.oneCell' = true := by
  intro u hu
  obtain ⟨c, _, rfl⟩ := List.mem_map.1 hu
  rfl
/-- the slice v is the call's own, from block base on, and holds l -/
def Owns (w : World) (base : Nat) (e : TypeId) (v : Value) (l : List UInt8) : Prop := w.ownsRow base e 1 v l.length (bcells l)
theorem Owns.nil (w : World) (base : Nat) (e : TypeId) : Owns w base e (.slice none 0 0) [] := World.ownsRow_nil w base e 1
theorem Owns.reads {w : World} {base : Nat} {e : TypeId} {v : Value} {l : List UInt8} (h : Owns w base e v l) : Reads w (fun b => base ≤ b ∧ b < w.heap.size ∧ v.ownBlock = some b) v l := by
  obtain ⟨_, h⟩ := h
  rcases h with ⟨rfl, h0⟩ | ⟨g, cap, cur, rfl, hb, hh, hn, hm, hs, ht⟩
  · obtain rfl : l = [] := List.eq_nil_of_length_eq_zero h0
    exact Reads.ofNil
  · refine ⟨⟨_, cap, rfl, hn, hm, .inr ⟨g, 0, rfl, hb, (Array.getElem?_eq_some_iff.1 hh).1, rfl⟩⟩, fun b off n c he j hj => ?_⟩
    injection he with e1 _ _; injection e1 with e1; injection e1 with e1 e2 _; subst e1 e2
    rw [cell_of_row w g (0 + j) cur e (0, 0) hh, Nat.zero_add]
    have := bcells_get l j hj
    rw [← ht, List.getElem?_take] at this
    split at this
    · simpa using this
    · cases this
theorem Owns.lt {w : World} {base : Nat} {e : TypeId} {v : Value} {l : List UInt8} (h : Owns w base e v l) : ∀ k, v.ownBlock = some k → base ≤ k ∧ k < w.heap.size := World.ownsRow.lt h
theorem Owns.mono {w : World} {base base' : Nat} {e : TypeId} {v : Value} {l : List UInt8} (h : Owns w base e v l) (hb : base' ≤ base) : Owns w base' e v l := by
  obtain ⟨h0, h⟩ := h
  refine ⟨h0, h.imp id ?_⟩
  rintro ⟨g, cap, cur, rfl, hbb, rest⟩
  exact ⟨g, cap, cur, rfl, by omega, rest⟩
theorem Owns.rebase {w : World} {base base' : Nat} {e : TypeId} {v : Value} {l : List UInt8} (h : Owns w base e v l) (hb : ∀ k, v.ownBlock = some k → base' ≤ k) : Owns w base' e v l := by
  obtain ⟨h0, h⟩ := h
  refine ⟨h0, h.imp id ?_⟩
  rintro ⟨g, cap, cur, rfl, hbb, rest⟩
  exact ⟨g, cap, cur, rfl, hb g rfl, rest⟩
theorem Owns.chg {M : Nat → Prop} {w w' : World} {base B : Nat} {e : TypeId} {v : Value} {l : List UInt8} (h : Owns w base e v l) (hc : Chg M B w w') (hM : ∀ k, v.ownBlock = some k → k < B ∧ ¬ M k) : Owns w' base e v l := by
  obtain ⟨h0, h⟩ := h
  refine ⟨h0, h.imp id ?_⟩
  rintro ⟨g, cap, cur, rfl, hbb, hh, rest⟩
  have := hM g rfl
  exact ⟨g, cap, cur, rfl, hbb, (hc.block g this.1 this.2).trans hh, rest⟩
theorem Owns.drewN {w : World} {base : Nat} {e : TypeId} {v : Value} {l : List UInt8} (h : Owns w base e v l) (n : Nat) : Owns (w.drewN n) base e v l := h
/-- a slice of one byte, just made -/
theorem Reads.one (w : World) (e : TypeId) (n : Int) (c : UInt8) (hn : n = (c.toNat : Int)) (k : Nat) (hk : k = w.heap.size) : Reads (w.alloc (.cells #[.int .u8 n] e)) (fun b => b = w.heap.size) (.slice (some ⟨k, 0, none⟩) 1 1) [c] := by
  subst hn hk
  refine ⟨⟨_, 1, rfl, Nat.le_refl _, by unfold maxLen; omega, .inr ⟨_, _, rfl, rfl⟩⟩, fun b off m cap he j hj => ?_⟩
  injection he with e1 _ _; injection e1 with e1; injection e1 with e1 e2 _; subst e1 e2
  obtain rfl : j = 0 := by simp at hj; exact hj
  exact (Row.new w e _).cell rfl
/-- the walk stops here -/
inductive Stopped (P : Program) (ops : Array Oper) (rest : List Oper) (a : Act) (w : World) (Q : Exit → Act → World → Prop) (o : Oper) : Prop
  | mk (h : wpList P ops Q (o :: rest) a w)
theorem Stopped.out {P : Program} {ops : Array Oper} {rest : List Oper} {a : Act} {w : World} {Q : Exit → Act → World → Prop} {o : Oper} (h : wpList P ops Q (o :: rest) a w) : Stopped P ops rest a w Q o := .mk h
theorem arm_stop {P : Program} {ops : Array Oper} {rest : List Oper} {a : Act} {w : World} {Q : Exit → Act → World → Prop} {tp : TypeId} {dst : Option Tmp} {args : Array Operand} {ts : Array TypeId} {pos : String} {after : Array Edge}
  (h : Stopped P ops rest a w Q ⟨dst, .call ⟨.builtin .append, args, ts⟩, tp, pos, after, none⟩) : wpList P ops Q (⟨dst, .call ⟨.builtin .append, args, ts⟩, tp, pos, after, none⟩ :: rest) a w := by cases h; assumption
/-- ARM: append(v, x...), v the call's own -/
theorem arm_append {P : Program} {ops : Array Oper} {rest : List Oper} {a : Act} {w : World} {Q : Exit → Act → World → Prop} {t e tp : TypeId} {dst : Option Tmp} {s x : Operand} {pos : String} {after : Array Edge} {base : Nat} {v xv : Value} {l m : List UInt8} {N : Nat → Prop}
    (hT : SlTy P t e (.int .u8 0) 1) (hown : Owns w base e v l) (hrd : Reads w N xv m) (hbd : l.length + m.length ≤ 140737488355328) (hbase : base ≤ w.heap.size)
    (hs : a.eval s = v) (hx : a.eval x = xv)
    (h : ∀ v' w', Owns w' base e v' (l ++ m) → w.grownBy w' v.ownBlock → (v'.ownBlock = v.ownBlock ∨ v'.ownBlock = some w.heap.size) → wpList P ops Q rest (a.put dst v') w') :
    wpList P ops Q (⟨dst, .call ⟨.builtin .append, #[s, x], #[t, t]⟩, tp, pos, after, none⟩ :: rest) a w := by
  obtain ⟨i, hi, hz, hsize, hby⟩ := hT.i
  have key : ∃ v' w', (Builtin.append_ #[t, t] tp #[v, xv]).run P w = .ok v' w' ∧ Owns w' base e v' (l ++ m) ∧ w.grownBy w' v.ownBlock ∧ (v'.ownBlock = v.ownBlock ∨ v'.ownBlock = some w.heap.size) := by
    obtain ⟨⟨ad, cap, rfl, h1, h2, h3⟩, hc⟩ := hrd
    rcases h3 with h3 | ⟨b, off, rfl, _⟩
    · by_cases hm : m = []
      · subst hm
        refine ⟨v, w, ?_, by simpa using hown, ⟨rfl, rfl, rfl, Nat.le_refl _, fun _ _ _ => rfl⟩, .inl rfl⟩
        rcases hown.2 with ⟨rfl, h0⟩ | ⟨g, cap', cur, rfl, _, _, hnc, _⟩
        · cases ad <;> simp [Builtin.append_, run_underlying hT.u, sizeOf, typeInfo, hi, Builtin.lenOf, Builtin.firstCells, loadCells, loadCellsFrom]
        · cases ad <;> simp [Builtin.append_, run_underlying hT.u, sizeOf, typeInfo, hi, Builtin.lenOf, Builtin.firstCells, loadCells, loadCellsFrom, hnc, storeCells]
      · have := List.length_pos_iff.2 hm; omega
    · have hcells : ∀ j u, (bcells m)[j]? = some u → w.cell? ((⟨b, off, none⟩ : Addr).add j) = some u := by
        intro j u hu
        have hj : j < m.length := by rw [← bcells_length]; exact (List.getElem?_eq_some_iff.1 hu).1
        rw [bcells_get m j hj] at hu
        rw [Addr.add_mid, ← hu]
        exact hc b off _ _ rfl j hj
      obtain ⟨v', w', hrun, ho, hg, _, hb⟩ := run_append_own_at (P := P) w base t tp e i (.int .u8 0) 1 1 hT.u hi hz hsize hby rfl (by decide) v l.length (bcells l) hown ⟨b, off, none⟩ m.length cap (bcells m) (by rw [bcells_length]; omega) hcells (bcells_one m) (by unfold maxLen; omega) (by omega) hbase
      exact ⟨v', w', hrun, by unfold Owns; rw [List.length_append, bcells_append]; exact ho, hg, hb⟩
  obtain ⟨v', w', hrun, h1, h2, h3⟩ := key
  refine wpList_plain rfl fun _ hK => ?_
  unfold Oper.wp execOp
  simp only [resolve, invoke, builtin, Sem.run_bind, Sem.run_pure, Result.andThen_ok, List.map_toArray, List.map_cons, List.map_nil, hs, hx, hrun]
  exact hK _ _ (h v' w' h1 h2 h3)
end Go.Proofs.YtmkofejijkabnaaGreatDoor
/- SLICES OF ANY ELEMENTS, k CELLS EACH: what is read, what is owned; append as an arm. -/
namespace Go.Proofs.YtmkofejijkabnaaGreatDoor
open Go.RowKit
/-- t is a slice type, its elements, of type e, take k cells each -/
structure SlK (P : Program) (t e : TypeId) (z : Value) (k bytes : Nat) : Prop where
  u : P.underlying t = some (.slice e)
  i : ∃ i, P.info? e = some i ∧ i.zero = some z ∧ i.size = k ∧ i.bytes = bytes
  z : z.cells.size = k
  k : 0 < k
theorem SlK.mk' {P : Program} {t e : TypeId} {z : Value} {k bytes : Nat} (hu : P.underlying t = some (.slice e)) (hi : (P.info? e).map (fun i => (i.zero, i.size, i.bytes)) = some (some z, k, bytes)) (hz : z.cells.size = k) (hk : 0 < k) : SlK P t e z k bytes := by
  refine ⟨hu, ?_, hz, hk⟩
  cases h : P.info? e with
  | none => simp [h] at hi
  | some i => simp [h] at hi; exact ⟨i, rfl, hi⟩
/-- v, a slice of n elements of k cells, reads as the cells vs; its block is one of N -/
structure RdV (w : World) (N : Nat → Prop) (k : Nat) (v : Value) (n : Nat) (vs : List Value) : Prop where
  len : vs.length = n * k
  shape : ∃ a cap, v = .slice a n cap ∧ n ≤ cap ∧ cap ≤ maxLen ∧ (cap = 0 ∨ ∃ b off, a = some ⟨b, off, none⟩ ∧ N b)
  cell : ∀ b off m cap, v = .slice (some ⟨b, off, none⟩) m cap → ∀ j u, vs[j]? = some u → w.cell? ⟨b, off + j, none⟩ = some u
theorem RdV.lens {w : World} {N : Nat → Prop} {k n : Nat} {vs : List Value} {a : Option Addr} {m cap : Nat} (h : RdV w N k (.slice a m cap) n vs) : m = n ∧ n ≤ cap ∧ cap ≤ maxLen := by
  obtain ⟨_, ⟨a, cap', e, h1, h2, h3⟩, _⟩ := h
  injection e with e1 e2 e3
  subst e1 e3
  exact ⟨e2, h1, h2⟩
theorem RdV.blk {w : World} {N : Nat → Prop} {k n : Nat} {vs : List Value} {b off m cap : Nat} (h : RdV w N k (.slice (some ⟨b, off, none⟩) m cap) n vs) (hc : 0 < cap) : N b ∧ m = n ∧ n ≤ cap ∧ cap ≤ maxLen := by
  obtain ⟨_, ⟨a, cap', e, h1, h2, h3⟩, _⟩ := h
  injection e with e1 e2 e3
  subst e1 e3
  rcases h3 with h3 | ⟨b', off', e, hN⟩
  · omega
  · injection e with e; injection e with f1 _ _; subst f1; exact ⟨hN, e2, h1, h2⟩
theorem RdV.chg {M N : Nat → Prop} {w w' : World} {B k n : Nat} {v : Value} {vs : List Value} (h : RdV w N k v n vs) (hb : Chg M B w w') (hN : ∀ b, N b → b < B ∧ ¬ M b) : RdV w' N k v n vs := by
  refine ⟨h.len, h.shape, fun b off m cap e j u hu => ?_⟩
  subst e
  have hlt := (List.getElem?_eq_some_iff.1 hu).1
  have := hN b (h.blk (by
    have h1 := h.lens.2.1
    have h2 := h.len
    rcases Nat.eq_zero_or_pos cap with h0 | h0
    · obtain rfl : n = 0 := by omega
      rw [Nat.zero_mul] at h2; omega
    · exact h0)).1
  rw [hb.cell (p := ⟨b, off + j, none⟩) this.1 this.2]
  exact h.cell b off m cap rfl j u hu
theorem RdV.mono {N N' : Nat → Prop} {w : World} {k n : Nat} {v : Value} {vs : List Value} (h : RdV w N k v n vs) (hN : ∀ b, N b → N' b) : RdV w N' k v n vs := by
  obtain ⟨hl, ⟨a, cap, e, h1, h2, h3⟩, hc⟩ := h
  exact ⟨hl, ⟨a, cap, e, h1, h2, h3.imp id (fun ⟨b, off, e, hb⟩ => ⟨b, off, e, hN b hb⟩)⟩, hc⟩
theorem RdV.below {N : Nat → Prop} {w w' : World} {B k n : Nat} {v : Value} {vs : List Value} (h : RdV w N k v n vs) (hb : Below B w w') (hN : ∀ b, N b → b < B) : RdV w' N k v n vs :=
  h.chg (M := fun _ => False) (.of_below hb) (fun b hb' => ⟨hN b hb', fun h => h⟩)
theorem RdV.drewN {N : Nat → Prop} {w : World} {k n : Nat} {v : Value} {vs : List Value} (h : RdV w N k v n vs) (m : Nat) : RdV (w.drewN m) N k v n vs := ⟨h.len, h.shape, h.cell⟩
theorem RdV.has {N : Nat → Prop} {w : World} {k n : Nat} {v : Value} {vs : List Value} (h : RdV w N k v n vs) (hn : 0 < n) : ∃ b off cap, v = .slice (some ⟨b, off, none⟩) n cap ∧ n ≤ cap ∧ cap ≤ maxLen ∧ N b := by
  obtain ⟨a, cap, e, h1, h2, h3⟩ := h.shape
  rcases h3 with h3 | ⟨b, off, rfl, hN⟩
  · omega
  · exact ⟨b, off, cap, e, h1, h2, hN⟩
theorem RdV.bytes {N : Nat → Prop} {w : World} {v : Value} {l : List UInt8} (h : Reads w N v l) : RdV w N 1 v l.length (bcells l) := by
  refine ⟨by rw [bcells_length, Nat.mul_one], h.shape, fun b off m cap e j u hu => ?_⟩
  have hj : j < l.length := by rw [← bcells_length]; exact (List.getElem?_eq_some_iff.1 hu).1
  rw [bcells_get l j hj] at hu
  rw [← hu]
  exact h.cell b off m cap e j hj
theorem RdV.toBytes {N : Nat → Prop} {w : World} {v : Value} {l : List UInt8} (h : RdV w N 1 v l.length (bcells l)) : Reads w N v l :=
  ⟨h.shape, fun b off m cap e j hj => h.cell b off m cap e j _ (bcells_get l j hj)⟩
theorem RdV.ofNil {N : Nat → Prop} {w : World} {k : Nat} : RdV w N k (.slice none 0 0) 0 [] :=
  ⟨by simp, ⟨_, _, rfl, Nat.zero_le _, Nat.zero_le _, .inl rfl⟩, fun _ _ _ _ e j u hu => by cases hu⟩
/-- a row just made, read as a slice -/
theorem RdV.new {w : World} (e : TypeId) (vs : List Value) (k n : Nat) (b : Nat) (hb : b = w.heap.size) (hl : vs.length = n * k) (hn : n ≤ maxLen) {N : Nat → Prop} (hN : N b) : RdV (w.alloc (.cells vs.toArray e)) N k (.slice (some ⟨b, 0, none⟩) n n) n vs := by
  subst hb
  refine ⟨hl, ⟨_, n, rfl, Nat.le_refl _, hn, .inr ⟨_, _, rfl, hN⟩⟩, fun b off m cap he j u hu => ?_⟩
  injection he with e1 _ _; injection e1 with e1; injection e1 with e1 e2 _; subst e1 e2
  exact (Row.new w e _).cell (by simpa using hu)
/-- a part of a row, read as a slice -/
theorem RdV.ofRow {w : World} {b : Nat} {e : TypeId} {c : Array Value} (h : Row w b e c) {N : Nat → Prop} (hN : N b) (k off n cap : Nat) (vs : List Value) (hl : vs.length = n * k) (hn : n ≤ cap) (hc : cap ≤ maxLen) (hv : ∀ j u, vs[j]? = some u → c[off + j]? = some u) : RdV w N k (.slice (some ⟨b, off, none⟩) n cap) n vs := by
  refine ⟨hl, ⟨_, cap, rfl, hn, hc, .inr ⟨_, _, rfl, hN⟩⟩, fun b' off' m cap' he j u hu => ?_⟩
  injection he with e1 _ _; injection e1 with e1; injection e1 with e1 e2 _; subst e1 e2
  exact h.cell (hv j u hu)
/-- a part of it -/
theorem RdV.sub {N : Nat → Prop} {w : World} {k n : Nat} {vs : List Value} {b off m cap : Nat} (h : RdV w N k (.slice (some ⟨b, off, none⟩) m cap) n vs) (i n' cap' off' : Nat) (vs' : List Value) (hv : vs' = (vs.drop (i * k)).take (n' * k)) (hl : vs'.length = n' * k) (ho : off' = off + i * k) (hm : n' ≤ cap') (hc : cap' ≤ cap) :
    RdV w N k (.slice (some ⟨b, off', none⟩) n' cap') n' vs' := by
  obtain ⟨hn, h1, h2⟩ := h.lens
  subst ho
  refine ⟨hl, ⟨_, _, rfl, hm, by omega, (Nat.eq_zero_or_pos cap').imp id (fun hp => ⟨_, _, rfl, (h.blk (by omega)).1⟩)⟩, fun b' off' m' c' e j u hu => ?_⟩
  injection e with e1 e2 e3; injection e1 with e1; injection e1 with e1 e4 _; subst e1 e4
  rw [Nat.add_assoc]
  refine h.cell b off m cap rfl (i * k + j) u ?_
  subst hv
  rw [List.getElem?_take] at hu
  split at hu
  · rw [List.getElem?_drop] at hu; exact hu
  · cases hu
theorem ownsV_reads {w : World} {base k n : Nat} {e : TypeId} {v : Value} {vs : List Value} (h : w.ownsRow base e k v n vs) : RdV w (fun b => base ≤ b ∧ b < w.heap.size ∧ v.ownBlock = some b) k v n vs := by
  obtain ⟨hl, h⟩ := h
  rcases h with ⟨rfl, rfl⟩ | ⟨g, cap, cur, rfl, hb, hh, hn, hm, hs, ht⟩
  · obtain rfl : vs = [] := List.eq_nil_of_length_eq_zero (by omega)
    exact RdV.ofNil
  · refine ⟨hl, ⟨_, cap, rfl, hn, hm, .inr ⟨g, 0, rfl, hb, (Array.getElem?_eq_some_iff.1 hh).1, rfl⟩⟩, fun b off m c he j u hu => ?_⟩
    injection he with e1 _ _; injection e1 with e1; injection e1 with e1 e2 _; subst e1 e2
    rw [cell_of_row w g (0 + j) cur e (0, 0) hh, Nat.zero_add]
    rw [← ht, List.getElem?_take] at hu
    split at hu
    · simpa using hu
    · cases hu
theorem ownsV_lt {w : World} {base k n : Nat} {e : TypeId} {v : Value} {vs : List Value} (h : w.ownsRow base e k v n vs) : ∀ b, v.ownBlock = some b → base ≤ b ∧ b < w.heap.size := World.ownsRow.lt h
theorem ownsV_rebase {w : World} {base base' k n : Nat} {e : TypeId} {v : Value} {vs : List Value} (h : w.ownsRow base e k v n vs) (hb : ∀ b, v.ownBlock = some b → base' ≤ b) : w.ownsRow base' e k v n vs := by
  obtain ⟨h0, h⟩ := h
  refine ⟨h0, h.imp id ?_⟩
  rintro ⟨g, cap, cur, rfl, hbb, rest⟩
  exact ⟨g, cap, cur, rfl, hb g rfl, rest⟩
theorem ownsV_mono {w : World} {base base' k n : Nat} {e : TypeId} {v : Value} {vs : List Value} (h : w.ownsRow base e k v n vs) (hb : base' ≤ base) : w.ownsRow base' e k v n vs := ownsV_rebase h (fun b hb' => Nat.le_trans hb (ownsV_lt h b hb').1)
/-- a row just made, owned -/
theorem ownsV_new {w : World} (e : TypeId) (vs : List Value) (k n b base : Nat) (hb : b = w.heap.size) (hbase : base ≤ b) (hl : vs.length = n * k) (hn : n ≤ maxLen) : (w.alloc (.cells vs.toArray e)).ownsRow base e k (.slice (some ⟨b, 0, none⟩) n n) n vs := by
  subst hb
  exact ⟨hl, .inr ⟨_, n, vs.toArray, rfl, hbase, heap_alloc_new w _, Nat.le_refl _, hn, by simpa using hl, by rw [← hl]; simp⟩⟩
/-- ARM: append(v, x...), v the call's own -/
theorem arm_appendV {P : Program} {ops : Array Oper} {rest : List Oper} {a : Act} {w : World} {Q : Exit → Act → World → Prop} {t e tp : TypeId} {dst : Option Tmp} {s x : Operand} {pos : String} {after : Array Edge} {base k n m bytes : Nat} {z v xv : Value} {vs us : List Value} {N : Nat → Prop}
    (hT : SlK P t e z k bytes) (hown : w.ownsRow base e k v n vs) (hrd : RdV w N k xv m us) (h1 : ∀ u ∈ us, u.oneCell' = true) (hbd : n + m ≤ maxLen) (hbd2 : (n + m) * bytes ≤ 140737488355328) (hbase : base ≤ w.heap.size)
    (hs : a.eval s = v) (hx : a.eval x = xv)
    (h : ∀ v' w', w'.ownsRow base e k v' (n + m) (vs ++ us) → w.grownBy w' v.ownBlock → (v'.ownBlock = v.ownBlock ∨ v'.ownBlock = some w.heap.size) → (v' = .slice none 0 0 ↔ v = .slice none 0 0 ∧ m = 0) → wpList P ops Q rest (a.put dst v') w') :
    wpList P ops Q (⟨dst, .call ⟨.builtin .append, #[s, x], #[t, t]⟩, tp, pos, after, none⟩ :: rest) a w := by
  obtain ⟨i, hi, hz, hsize, hby⟩ := hT.i
  have key : ∃ v' w', (Builtin.append_ #[t, t] tp #[v, xv]).run P w = .ok v' w' ∧ w'.ownsRow base e k v' (n + m) (vs ++ us) ∧ w.grownBy w' v.ownBlock ∧ (v'.ownBlock = v.ownBlock ∨ v'.ownBlock = some w.heap.size) ∧ (v' = .slice none 0 0 ↔ v = .slice none 0 0 ∧ m = 0) := by
    have hlen := hrd.len
    obtain ⟨_, ⟨ad, cap, rfl, h1', h2, h3⟩, hc⟩ := hrd
    rcases h3 with h3 | ⟨b, off, rfl, _⟩
    · have hm : m = 0 := by omega
      subst hm
      obtain rfl : us = [] := List.eq_nil_of_length_eq_zero (by omega)
      refine ⟨v, w, ?_, by simpa using hown, ⟨rfl, rfl, rfl, Nat.le_refl _, fun _ _ _ => rfl⟩, .inl rfl, by simp⟩
      rcases hown.2 with ⟨rfl, h0⟩ | ⟨g, cap', cur, rfl, _, _, hnc, _⟩
      · cases ad <;> simp [Builtin.append_, run_underlying hT.u, sizeOf, typeInfo, hi, Builtin.lenOf, Builtin.firstCells, loadCells, loadCellsFrom]
      · cases ad <;> simp [Builtin.append_, run_underlying hT.u, sizeOf, typeInfo, hi, Builtin.lenOf, Builtin.firstCells, loadCells, loadCellsFrom, hnc, storeCells]
    · have hcells : ∀ j u, us[j]? = some u → w.cell? ((⟨b, off, none⟩ : Addr).add j) = some u := by
        intro j u hu
        rw [Addr.add_mid]
        exact hc b off _ _ rfl j u hu
      obtain ⟨v', w', hrun, ho, hg, hn, hb⟩ := run_append_own_at (P := P) w base t tp e i z k bytes hT.u hi hz hsize hby hT.z hT.k v n vs hown ⟨b, off, none⟩ m cap us hlen hcells h1 hbd hbd2 hbase
      exact ⟨v', w', hrun, ho, hg, hb, hn⟩
  obtain ⟨v', w', hrun, h1, h2, h3, h4⟩ := key
  refine wpList_plain rfl fun _ hK => ?_
  unfold Oper.wp execOp
  simp only [resolve, invoke, builtin, Sem.run_bind, Sem.run_pure, Result.andThen_ok, List.map_toArray, List.map_cons, List.map_nil, hs, hx, hrun]
  exact hK _ _ (h v' w' h1 h2 h3 h4)
end Go.Proofs.YtmkofejijkabnaaGreatDoor
/- THE CALL's OWN MEMORY AS A LIST OF ASSERTIONS, each on one block. -/
namespace Go.Proofs.YtmkofejijkabnaaGreatDoor
open Go.RowKit
/-- what is known of one block (or of none) -/
structure As where
  blk : Nat → Prop
  P : World → Prop
  loc : ∀ w w' : World, (∀ b, blk b → w'.heap[b]? = w.heap[b]?) → P w → P w'
/-- block b is the row c -/
def rowA (b : Nat) (e : TypeId) (c : Array Value) : As := ⟨fun k => k = b, fun w => Row w b e c, fun w w' h hr => by unfold Row; rw [h b rfl]; exact hr⟩
theorem ownsRow_loc {base k n : Nat} {e : TypeId} {v : Value} {vs : List Value} (w w' : World) (h : ∀ b, v.ownBlock = some b → w'.heap[b]? = w.heap[b]?) (ho : w.ownsRow base e k v n vs) : w'.ownsRow base e k v n vs := by
  obtain ⟨h0, ho⟩ := ho
  refine ⟨h0, ho.imp id ?_⟩
  rintro ⟨g, cap, cur, rfl, hbb, hh, rest⟩
  exact ⟨g, cap, cur, rfl, hbb, (h g rfl).trans hh, rest⟩
/-- the slice v is the call's own, of n elements of k cells: vs -/
def slA (base : Nat) (e : TypeId) (k : Nat) (v : Value) (n : Nat) (vs : List Value) : As := ⟨fun b => v.ownBlock = some b, fun w => w.ownsRow base e k v n vs, ownsRow_loc⟩
/-- the []byte v is the call's own: l -/
def byA (base : Nat) (e : TypeId) (v : Value) (l : List UInt8) : As := ⟨fun b => v.ownBlock = some b, fun w => Owns w base e v l, ownsRow_loc⟩
/-- what stands between the call's beginning, w, and now, wr: of the old blocks those of M alone may have changed; the assertions hold, each on a block of its own -/
structure Hp (M : Nat → Prop) (w wr : World) (ls : List As) : Prop where
  c : Chg M w.heap.size w wr
  p : ∀ A ∈ ls, A.P wr ∧ ∀ b, A.blk b → (w.heap.size ≤ b ∨ M b) ∧ b < wr.heap.size
  d : ∀ (i j : Nat) (A B : As), ls[i]? = some A → ls[j]? = some B → ∀ b, A.blk b → B.blk b → i = j
abbrev NoM : Nat → Prop := fun _ => False
theorem Hp.begin (M : Nat → Prop) (w : World) : Hp M w w [] := ⟨.refl _ _ _, fun A h => (List.not_mem_nil h).elim, fun i j A B h => by simp at h⟩
theorem Hp.get {M : Nat → Prop} {w wr : World} {ls : List As} (h : Hp M w wr ls) (i : Nat) {A : As} (hi : ls[i]? = some A) : A.P wr := (h.p A (List.mem_of_getElem? hi)).1
theorem Hp.row {M : Nat → Prop} {w wr : World} {ls : List As} (h : Hp M w wr ls) (i : Nat) {b : Nat} {e : TypeId} {c : Array Value} (hi : ls[i]? = some (rowA b e c)) : Row wr b e c := h.get i hi
theorem Hp.sl {M : Nat → Prop} {w wr : World} {ls : List As} (h : Hp M w wr ls) (i : Nat) {base k n : Nat} {e : TypeId} {v : Value} {vs : List Value} (hi : ls[i]? = some (slA base e k v n vs)) : wr.ownsRow base e k v n vs := h.get i hi
theorem Hp.bs {M : Nat → Prop} {w wr : World} {ls : List As} (h : Hp M w wr ls) (i : Nat) {base : Nat} {e : TypeId} {v : Value} {l : List UInt8} (hi : ls[i]? = some (byA base e v l)) : Owns wr base e v l := h.get i hi
theorem Hp.size {M : Nat → Prop} {w wr : World} {ls : List As} (h : Hp M w wr ls) : w.heap.size ≤ wr.heap.size := h.c.size
theorem Hp.below {w wr : World} {ls : List As} (h : Hp NoM w wr ls) : Below w.heap.size w wr := h.c.below (fun _ _ h => h)
/-- a block of the list lies above w's, where no old one may change -/
theorem Hp.new {w wr : World} {ls : List As} (h : Hp NoM w wr ls) (i : Nat) {A : As} (hi : ls[i]? = some A) {b : Nat} (hb : A.blk b) : w.heap.size ≤ b ∧ b < wr.heap.size :=
  ⟨((h.p A (List.mem_of_getElem? hi)).2 b hb).1.elim id (fun h => h.elim), ((h.p A (List.mem_of_getElem? hi)).2 b hb).2⟩
/-- nothing that was there changes -/
theorem Hp.keep {M : Nat → Prop} {w wr w' : World} {ls : List As} (h : Hp M w wr ls) (hc : Chg NoM wr.heap.size wr w') : Hp M w w' ls := by
  refine ⟨h.c.trans ((hc.lower h.c.size).mono (Nat.le_refl _) (fun _ h => h.elim)), fun A hA => ?_, h.d⟩
  have := h.p A hA
  exact ⟨A.loc wr w' (fun b hb => hc.block b (this.2 b hb).2 (fun h => h)) this.1, fun b hb => ⟨(this.2 b hb).1, Nat.lt_of_lt_of_le (this.2 b hb).2 hc.size⟩⟩
theorem Hp.call {M : Nat → Prop} {w wr w' : World} {ls : List As} (h : Hp M w wr ls) (hc : Below wr.heap.size wr w') : Hp M w w' ls := h.keep (.of_below hc)
theorem Hp.alloc {M : Nat → Prop} {w wr : World} {ls : List As} (h : Hp M w wr ls) (o : Obj) : Hp M w (wr.alloc o) ls := h.call ((Below.refl _ _).alloc (Nat.le_refl _) _)
theorem Hp.drewN {M : Nat → Prop} {w wr : World} {ls : List As} (h : Hp M w wr ls) (n : Nat) : Hp M w (wr.drewN n) ls := h.call (below_drewN' (Below.refl _ _) n)
theorem Hp.drew {M : Nat → Prop} {w wr : World} {ls : List As} (h : Hp M w wr ls) : Hp M w wr.drew ls := h.call (Below.refl _ _).drew
/-- one assertion more, on a new block or on none -/
theorem Hp.push {M : Nat → Prop} {w wr w' : World} {ls : List As} (h : Hp M w wr ls) (A : As) (hc : Chg NoM wr.heap.size wr w') (hP : A.P w') (hb : ∀ b, A.blk b → wr.heap.size ≤ b ∧ b < w'.heap.size) : Hp M w w' (ls ++ [A]) := by
  have hk := h.keep hc
  refine ⟨hk.c, fun B hB => ?_, fun i j A1 A2 h1 h2 b e1 e2 => ?_⟩
  · rcases List.mem_append.1 hB with hB | hB
    · exact hk.p B hB
    · obtain rfl := List.mem_singleton.1 hB
      exact ⟨hP, fun b e => ⟨.inl (Nat.le_trans h.c.size (hb b e).1), (hb b e).2⟩⟩
  · have key : ∀ (i : Nat) (A1 : As), (ls ++ [A])[i]? = some A1 → (ls[i]? = some A1 ∧ ∀ b, A1.blk b → b < wr.heap.size) ∨ (i = ls.length ∧ A1 = A) := by
      intro i A1 hi
      rcases Nat.lt_or_ge i ls.length with hl | hl
      · rw [List.getElem?_append_left hl] at hi
        exact .inl ⟨hi, fun b hb => ((h.p A1 (List.mem_of_getElem? hi)).2 b hb).2⟩
      · rw [List.getElem?_append_right hl] at hi
        have h1 := (List.getElem?_eq_some_iff.1 hi).1
        have h0 : i - ls.length = 0 := by simpa using h1
        rw [h0] at hi
        injection hi with hi
        exact .inr ⟨by omega, hi.symm⟩
    rcases key i A1 h1 with ⟨g1, g2⟩ | ⟨rfl, rfl⟩ <;> rcases key j A2 h2 with ⟨k1, k2⟩ | ⟨rfl, rfl⟩
    · exact h.d i j A1 A2 g1 k1 b e1 e2
    · have := g2 b e1; have := (hb b e2).1; omega
    · have := k2 b e2; have := (hb b e1).1; omega
    · rfl
/-- the i-th assertion turns; no other block that was there changes -/
theorem Hp.upd {M : Nat → Prop} {w wr w' : World} {ls : List As} (h : Hp M w wr ls) (i : Nat) {A : As} (hi : ls[i]? = some A) (A' : As) (hc : Chg (fun k => A.blk k) wr.heap.size wr w') (hP : A'.P w') (hb : ∀ b, A'.blk b → A.blk b ∨ (wr.heap.size ≤ b ∧ b < w'.heap.size)) : Hp M w w' (ls.set i A') := by
  have hil : i < ls.length := (List.getElem?_eq_some_iff.1 hi).1
  have hA := h.p A (List.mem_of_getElem? hi)
  have key : ∀ (j : Nat) (B : As), (ls.set i A')[j]? = some B → (j ≠ i ∧ ls[j]? = some B) ∨ (j = i ∧ B = A') := by
    intro j B hj
    by_cases e : j = i
    · subst e
      rw [List.getElem?_set_self hil] at hj
      injection hj with hj
      exact .inr ⟨rfl, hj.symm⟩
    · rw [List.getElem?_set_ne (Ne.symm e)] at hj
      exact .inl ⟨e, hj⟩
  have hno : ∀ (j : Nat) (B : As), j ≠ i → ls[j]? = some B → ∀ b, B.blk b → ¬ A.blk b := fun j B hji hj b e1 e2 => hji (h.d j i B A hj hi b e1 e2)
  have hlt : ∀ (j : Nat) (B : As), ls[j]? = some B → ∀ b, B.blk b → b < wr.heap.size := fun j B hj b e => ((h.p B (List.mem_of_getElem? hj)).2 b e).2
  refine ⟨h.c.trans ?_, fun B hB => ?_, fun j k B1 B2 h1 h2 b e1 e2 => ?_⟩
  · refine ⟨hc.os, hc.tape, hc.output, hc.size, fun k hk hm => hc.block k (Nat.lt_of_lt_of_le hk h.c.size) (fun e => ?_)⟩
    rcases (hA.2 k e).1 with h1 | h1
    · omega
    · exact hm h1
  · obtain ⟨j, hj⟩ := List.getElem?_of_mem hB
    rcases key j B hj with ⟨hji, hj⟩ | ⟨rfl, rfl⟩
    · have hB := h.p B (List.mem_of_getElem? hj)
      exact ⟨B.loc wr w' (fun b e => hc.block b (hB.2 b e).2 (hno j B hji hj b e)) hB.1, fun b e => ⟨(hB.2 b e).1, Nat.lt_of_lt_of_le (hB.2 b e).2 hc.size⟩⟩
    · refine ⟨hP, fun b e => ?_⟩
      rcases hb b e with e' | e'
      · exact ⟨(hA.2 b e').1, Nat.lt_of_lt_of_le (hA.2 b e').2 hc.size⟩
      · exact ⟨.inl (Nat.le_trans h.c.size e'.1), e'.2⟩
  · rcases key j B1 h1 with ⟨g1, g2⟩ | ⟨rfl, rfl⟩ <;> rcases key k B2 h2 with ⟨k1, k2⟩ | ⟨rfl, rfl⟩
    · exact h.d j k B1 B2 g2 k2 b e1 e2
    · rcases hb b e2 with e' | e'
      · exact (hno j B1 g1 g2 b e1 e').elim
      · have := hlt j B1 g2 b e1; omega
    · rcases hb b e1 with e' | e'
      · exact (hno k B2 k1 k2 b e2 e').elim
      · have := hlt k B2 k2 b e2; omega
    · rfl
/-- a new row -/
theorem Hp.newRow {M : Nat → Prop} {w wr : World} {ls : List As} (h : Hp M w wr ls) (e : TypeId) (c : Array Value) : Hp M w (wr.alloc (.cells c e)) (ls ++ [rowA wr.heap.size e c]) :=
  h.push _ (.of_below ((Below.refl _ _).alloc (Nat.le_refl _) _)) (Row.new wr e c) (fun b hb => by have hb : b = _ := hb; subst hb; simp)
theorem Hp.newRow' {M : Nat → Prop} {w wr : World} {ls : List As} (h : Hp M w wr ls) (e : TypeId) (c c' : Array Value) (n : Nat) (hn : n = wr.heap.size) (hc : c = c') : Hp M w (wr.alloc (.cells c' e)) (ls ++ [rowA n e c]) := by
  subst hn hc; exact h.newRow e c
theorem Hp.setCell {M : Nat → Prop} {w wr : World} {ls : List As} (h : Hp M w wr ls) (i : Nat) {b : Nat} {e : TypeId} {c : Array Value} (hi : ls[i]? = some (rowA b e c)) (j : Nat) (v : Value) {c' : Array Value} (hc : c.setIfInBounds j v = c') : Hp M w (wr.setCell ⟨b, j, none⟩ v) (ls.set i (rowA b e c')) := by
  subst hc
  exact h.upd i hi _ (Chg.setCell (M := fun k => k = b) (.refl _ _ _) (.inr rfl) _) ((h.row i hi).set j v) (fun _ hb => .inl hb)
theorem Hp.setRow {M : Nat → Prop} {w wr : World} {ls : List As} (h : Hp M w wr ls) (i : Nat) {b : Nat} {e : TypeId} {c : Array Value} (hi : ls[i]? = some (rowA b e c)) (c' : Array Value) : Hp M w (wr.setRow b c') (ls.set i (rowA b e c')) :=
  h.upd i hi _ (Chg.setRow (M := fun k => k = b) (.refl _ _ _) (.inr rfl) _) ((h.row i hi).setRow c') (fun _ hb => .inl hb)
theorem chg_grown {wr w' : World} {r : Option Nat} (hg : wr.grownBy w' r) : Chg (fun k => r = some k) wr.heap.size wr w' :=
  ⟨hg.os, hg.tape, hg.output, hg.size, fun k hk hm => hg.block k hk (fun e => hm e.symm)⟩
/-- an own slice has grown -/
theorem Hp.grow {M : Nat → Prop} {w wr w' : World} {ls : List As} (h : Hp M w wr ls) (i : Nat) {base k n n' : Nat} {e : TypeId} {v v' : Value} {vs vs' : List Value} (hi : ls[i]? = some (slA base e k v n vs)) (hg : wr.grownBy w' v.ownBlock) (ho : w'.ownsRow base e k v' n' vs') (hb : v'.ownBlock = v.ownBlock ∨ v'.ownBlock = some wr.heap.size) : Hp M w w' (ls.set i (slA base e k v' n' vs')) :=
  h.upd i hi _ (chg_grown hg) ho (fun b hb' => by
    have hb' : v'.ownBlock = some b := hb'
    rcases hb with e | e
    · exact .inl (show v.ownBlock = some b from e.symm.trans hb')
    · have : some wr.heap.size = some b := e.symm.trans hb'
      injection this with this
      subst this
      exact .inr ⟨Nat.le_refl _, (ownsV_lt ho _ e).2⟩)
theorem Hp.growB {M : Nat → Prop} {w wr w' : World} {ls : List As} (h : Hp M w wr ls) (i : Nat) {base : Nat} {e : TypeId} {v v' : Value} {l l' : List UInt8} (hi : ls[i]? = some (byA base e v l)) (hg : wr.grownBy w' v.ownBlock) (ho : Owns w' base e v' l') (hb : v'.ownBlock = v.ownBlock ∨ v'.ownBlock = some wr.heap.size) : Hp M w w' (ls.set i (byA base e v' l')) :=
  h.grow i (n := l.length) (vs := bcells l) hi hg ho hb
/-- a nil slice to begin with -/
theorem Hp.nilB {M : Nat → Prop} {w wr : World} {ls : List As} (h : Hp M w wr ls) (base : Nat) (e : TypeId) : Hp M w wr (ls ++ [byA base e (.slice none 0 0) []]) :=
  h.push _ (.refl _ _ _) (Owns.nil wr base e) (fun b hb => by cases hb)
theorem Hp.nilS {M : Nat → Prop} {w wr : World} {ls : List As} (h : Hp M w wr ls) (base : Nat) (e : TypeId) (k : Nat) : Hp M w wr (ls ++ [slA base e k (.slice none 0 0) 0 []]) :=
  h.push _ (.refl _ _ _) (World.ownsRow_nil wr base e k) (fun b hb => by cases hb)
/-- what the call was handed still reads -/
theorem Hp.reads {M N : Nat → Prop} {w wr : World} {ls : List As} (h : Hp M w wr ls) {v : Value} {l : List UInt8} (hr : Reads w N v l) (hN : ∀ b, N b → b < w.heap.size ∧ ¬ M b) : Reads wr N v l := hr.chg h.c hN
theorem Hp.rd {M N : Nat → Prop} {w wr : World} {ls : List As} (h : Hp M w wr ls) {v : Value} {k n : Nat} {vs : List Value} (hr : RdV w N k v n vs) (hN : ∀ b, N b → b < w.heap.size ∧ ¬ M b) : RdV wr N k v n vs := hr.chg h.c hN
/-- block k is a string's iterator -/
def itA (k : Nat) (s : ByteArray) (pos : Nat) : As := ⟨fun j => j = k, fun w => w.heap[k]? = some (.stringIter s pos), fun w w' h hr => by rw [h k rfl]; exact hr⟩
theorem Hp.newIt {M : Nat → Prop} {w wr : World} {ls : List As} (h : Hp M w wr ls) (s : ByteArray) (pos : Nat) : Hp M w (wr.iter s pos) (ls ++ [itA wr.heap.size s pos]) :=
  h.push _ (.of_below ((Below.refl _ _).alloc (Nat.le_refl _) _)) (World.iter_heap wr s pos) (fun b hb => by have hb : b = _ := hb; subst hb; simp [World.iter])
theorem Hp.setIt {M : Nat → Prop} {w wr : World} {ls : List As} (h : Hp M w wr ls) (i : Nat) {k : Nat} {s : ByteArray} {pos : Nat} (hi : ls[i]? = some (itA k s pos)) (pos' : Nat) : Hp M w (wr.iterAt k s pos') (ls.set i (itA k s pos')) := by
  have hk : wr.heap[k]? = some (.stringIter s pos) := h.get i hi
  refine h.upd i hi _ ⟨rfl, rfl, rfl, by simp [World.iterAt], fun j hj hm => ?_⟩ ?_ (fun _ hb => .inl hb)
  · have : k ≠ j := fun e => hm (by subst e; rfl)
    simp [World.iterAt, this]
  · exact Lib.iterAt_heap wr k s pos pos' hk
end Go.Proofs.YtmkofejijkabnaaGreatDoor
/- SMALL RUNS OF INSTRUCTIONS, as rules of the walk. -/
namespace Go.Proofs.YtmkofejijkabnaaGreatDoor
open Go.RowKit
/-- an array's value, indexed: elements of one cell -/
theorem run_index_agg {P : Program} {T e : TypeId} {n : Nat} {d : TypeDesc} (hu : P.underlying T = some (.array n e)) (he : P.underlying e = some d) (hd : d.isRow = false) (hs : (P.info? e).map (·.size) = some 1)
    (c : Array Value) (k : IntKind) (i : Nat) (hi : i < n) (v : Value) (hv : c[i]? = some v) (w : World) : (Instr.index T (.agg c) (.int k (i : Int))).run P w = .ok v w := by
  obtain ⟨info, hinfo, hsz⟩ : ∃ info, P.info? e = some info ∧ info.size = 1 := by
    cases h : P.info? e with
    | none => simp [h] at hs
    | some i => simp [h] at hs; exact ⟨i, rfl, hs⟩
  have hagg : (isAgg e).run P w = .ok false w := by
    simp only [isAgg, Sem.run_bind, run_underlying he, Result.andThen_ok]
    cases d <;> simp_all [TypeDesc.isRow]
  simp [Instr.index, asIntOf, run_underlying hu, hi, sizeOf, typeInfo, hinfo, hsz, part, hagg, hv]
/-- a string, indexed -/
theorem run_index_str {P : Program} {T : TypeId} (hu : P.underlying T = some .string) (s : ByteArray) (k : IntKind) (i : Nat) (c : UInt8) (hc : s.data.toList[i]? = some c) (w : World) : (Instr.index T (.string s) (.int k (i : Int))).run P w = .ok (.int .u8 (c.toNat : Int)) w := by
  have hi : i < s.size := by
    have := (List.getElem?_eq_some_iff.1 hc).1
    simpa using this
  have hg : s[i]? = some c := by
    rw [getElem?_pos s i hi]
    have h2 := List.getElem?_eq_some_iff.1 hc
    obtain ⟨h2, h3⟩ := h2
    rw [← h3]
    rfl
  simp [Instr.index, asIntOf, run_underlying hu, hg]
/-- a part of a string -/
theorem run_slice_str {P : Program} {T : TypeId} (hu : P.underlying T = some .string) (l : List UInt8) (k1 k2 : IntKind) (i j : Int) (h0 : 0 ≤ i) (h1 : i ≤ j) (h2 : j ≤ l.length) (w : World) :
    (Instr.slice T (.string ⟨l.toArray⟩) (some (.int k1 i)) (some (.int k2 j)) none).run P w = .ok (.string ⟨((l.drop i.toNat).take (j.toNat - i.toNat)).toArray⟩) w := by
  have hsz : ByteArray.size ⟨l.toArray⟩ = l.length := rfl
  have e1 : 0 ≤ j ∧ j ≤ (l.length : Int) := by omega
  have e2 : 0 ≤ i ∧ i ≤ (j.toNat : Int) := by omega
  have e3 : ¬ (max j 0 < i) := by omega
  simp [Instr.slice, Instr.sliceBounds, Instr.sliceBound, asIntOf, run_underlying hu, hsz, e1, e2, ByteArray.extract_mk]
  intro h; exact absurd h e3
/-- two texts, one behind the other -/
theorem run_cat {P : Program} (a b : List UInt8) (h : a.length + b.length ≤ 4611686018427387904) (w : World) : (Op.stringOp .add ⟨a.toArray⟩ ⟨b.toArray⟩).run P w = .ok (.string ⟨(a ++ b).toArray⟩) w := by
  rw [run_string_add_sum w _ _ (by simp [ByteArray.size]; omega), ByteArray.mk_append_mk]
theorem run_part_one {P : Program} {e : TypeId} {d : TypeDesc} (he : P.underlying e = some d) (hd : d.isRow = false) (c : Array Value) (i : Nat) (v : Value) (hv : c[i]? = some v) (w : World) : (part e c i).run P w = .ok v w := by
  have hagg : (isAgg e).run P w = .ok false w := by
    simp only [isAgg, Sem.run_bind, run_underlying he, Result.andThen_ok]
    cases d <;> simp_all [TypeDesc.isRow]
  simp [part, hagg, hv]
theorem all_range_eq (a b : List UInt8) (h : a.length = b.length) : ((List.range a.length).all fun i => a.getD i 0 == b.getD i 0) = (a == b) := by
  rw [Bool.eq_iff_iff, List.all_eq_true, beq_iff_eq]
  constructor
  · intro hh
    apply List.ext_getElem h
    intro i h1 h2
    have := hh i (List.mem_range.2 h1)
    simpa [List.getD_eq_getElem?_getD, h1, h2] using this
  · rintro rfl i _
    simp
/-- arrays of bytes, compared -/
theorem run_equal_bytes {P : Program} {T e : TypeId} {n : Nat} (hu : P.underlying T = some (.array n e)) (he : P.underlying e = some (.int .u8)) (hs : (P.info? e).map (·.size) = some 1)
    (a b : List UInt8) (ha : a.length = n) (hb : b.length = n) (d : Nat) (w : World) : (Op.equalIn (d + 2) T (.agg (bcells a).toArray) (.agg (bcells b).toArray)).run P w = .ok (a == b) w := by
  obtain ⟨info, hinfo, hsz⟩ : ∃ info, P.info? e = some info ∧ info.size = 1 := by
    cases h : P.info? e with
    | none => simp [h] at hs
    | some i => simp [h] at hs; exact ⟨i, rfl, hs⟩
  have hc : P.cellsOf e = 1 := by simp [Program.cellsOf, hinfo, hsz]
  rw [run_equalIn_array w (d + 1) _ _ hu hinfo, hc, ← all_range_eq a b (by omega), ha]
  have key : ∀ is : List Nat, (∀ i ∈ is, i < n) → (Op.eqItems (d + 1) e 1 (bcells a).toArray (bcells b).toArray is).run P w = .ok (is.all fun i => a.getD i 0 == b.getD i 0) w := by
    intro is
    induction is with
    | nil => intro _; simp [Op.eqItems]
    | cons i is ih =>
      intro hi
      have h0 := hi i (by simp)
      have h1 : (bcells a).toArray[i]? = some (.int .u8 ((a.getD i 0).toNat : Int)) := by
        have := bcells_get a i (by omega)
        simpa [List.getD_eq_getElem?_getD, show i < a.length by omega] using this
      have h2 : (bcells b).toArray[i]? = some (.int .u8 ((b.getD i 0).toNat : Int)) := by
        have := bcells_get b i (by omega)
        simpa [List.getD_eq_getElem?_getD, show i < b.length by omega] using this
      have e0 : (((a.getD i 0).toNat : Int) == ((b.getD i 0).toNat : Int)) = (a.getD i 0 == b.getD i 0) := by
        rw [Bool.eq_iff_iff, beq_iff_eq, beq_iff_eq, Int.natCast_inj]
        exact UInt8.toNat_inj
      have e1 : (Op.equalIn (d + 1) e (.int .u8 ((a.getD i 0).toNat : Int)) (.int .u8 ((b.getD i 0).toNat : Int))).run P w = .ok (a.getD i 0 == b.getD i 0) w := by
        simp only [Op.equalIn, Sem.run_bind, run_underlying he, Result.andThen_ok]
        rw [← e0]; simp
      simp only [Op.eqItems, Nat.mul_one, Sem.run_bind, run_part_one he rfl _ i _ h1, run_part_one he rfl _ i _ h2, Result.andThen_ok, e1, List.all_cons]
      cases hq : (a.getD i 0 == b.getD i 0)
      · simp
      · simpa using ih (fun j hj => hi j (by simp [hj]))
  exact key _ (fun i hi => List.mem_range.1 hi)
theorem run_eql_bytes {P : Program} {T e : TypeId} {n : Nat} (hu : P.underlying T = some (.array n e)) (he : P.underlying e = some (.int .u8)) (hs : (P.info? e).map (·.size) = some 1)
    (a b : List UInt8) (ha : a.length = n) (hb : b.length = n) (w : World) : (binOp .eql T (.agg (bcells a).toArray) (.agg (bcells b).toArray)).run P w = .ok (.bool (a == b)) w := by
  rw [run_eql_struct, run_equal_bytes hu he hs a b ha hb 9998 w]; rfl
theorem run_neq_bytes {P : Program} {T e : TypeId} {n : Nat} (hu : P.underlying T = some (.array n e)) (he : P.underlying e = some (.int .u8)) (hs : (P.info? e).map (·.size) = some 1)
    (a b : List UInt8) (ha : a.length = n) (hb : b.length = n) (w : World) : (binOp .neq T (.agg (bcells a).toArray) (.agg (bcells b).toArray)).run P w = .ok (.bool (!(a == b))) w := by
  rw [run_neq_struct, run_equal_bytes hu he hs a b ha hb 9998 w]; rfl
/-- two results, the first of them in a variable -/
theorem results_row2 {P : Program} {fn : Func} {p q : Tmp} {ty : TypeId} {n : Nat} {w : World} {b : Nat} {e : TypeId} {c : Array Value} {tmps : Array Value} {v : Value} (h : fn.results = #[.cell p ty, .tmp q]) (hrow : Row w b e c) (hA : AggTy P ty n) (hs : c.size = n)
    (hp : tmps.getD p undef = .pointer (some ⟨b, 0, none⟩)) (hq : tmps.getD q undef = v) : (results fn tmps).run P w = .ok (.tuple #[.agg c, v]) w := by
  obtain ⟨d, hu, hd⟩ := hA.u
  have hp' : tmps[p]?.getD undef = .pointer (some ⟨b, 0, none⟩) := by simpa using hp
  have hq' : tmps[q]?.getD undef = v := by simpa using hq
  have hrow' : w.heap[b]? = some (.cells c e (0, 0)) := hrow
  simp [results, h, hp', hq', asAddr, run_loadVar_row w b e ty c (0, 0) d hrow' hu (by cases d <;> simp_all [TypeDesc.isRow]) (by rw [hs]; exact hA.i)]
theorem arm_stopL {P : Program} {ops : Array Oper} {rest : List Oper} {a : Act} {w : World} {Q : Exit → Act → World → Prop} {tp t : TypeId} {dst : Option Tmp} {x : Operand} {pos : String} {after : Array Edge}
  (h : Stopped P ops rest a w Q ⟨dst, .load t x, tp, pos, after, none⟩) : wpList P ops Q (⟨dst, .load t x, tp, pos, after, none⟩ :: rest) a w := by cases h; assumption
theorem arm_stopS {P : Program} {ops : Array Oper} {rest : List Oper} {a : Act} {w : World} {Q : Exit → Act → World → Prop} {tp t : TypeId} {dst : Option Tmp} {x y : Operand} {pos : String} {after : Array Edge}
  (h : Stopped P ops rest a w Q ⟨dst, .store t x y, tp, pos, after, none⟩) : wpList P ops Q (⟨dst, .store t x y, tp, pos, after, none⟩ :: rest) a w := by cases h; assumption
/-- ARM: a whole variable is read, under a guard that holds -/
theorem arm_loadRowG {P : Program} {ops : Array Oper} {rest : List Oper} {a : Act} {w : World} {Q : Exit → Act → World → Prop} {b n : Nat} {e ty tp : TypeId} {c : Array Value} {dst : Option Tmp} {x : Operand} {pos : String} {after : Array Edge} {g : Option (Nat × Bool)}
    (hwt : Region.wanted (⟨dst, .load ty x, tp, pos, after, g⟩ : Oper) (yielded ops a.tmps) = true) (hrow : Row w b e c) (hA : AggTy P ty n) (hs : c.size = n)
    (hx : a.eval x = .pointer (some ⟨b, 0, none⟩)) (h : wpList P ops Q rest (a.put dst (.agg c)) w) : wpList P ops Q (⟨dst, .load ty x, tp, pos, after, g⟩ :: rest) a w := by
  refine Go.BigFrame.wpList_want hwt fun K hK => ?_
  obtain ⟨d, hu, hd⟩ := hA.u
  have hl := hrow.loadAt (P := P) ty d hu hd (by rw [hs]; exact hA.i)
  unfold Oper.wp execOp
  simp only [hx, Sem.run_bind, Sem.run_pure, Result.andThen_ok, hl]
  exact hK _ _ h
/-- the walk stops at a guarded operation -/
inductive StoppedG (P : Program) (ops : Array Oper) (rest : List Oper) (a : Act) (w : World) (Q : Exit → Act → World → Prop) (o : Oper) : Prop
  | mk (h : wpList P ops Q (o :: rest) a w)
theorem StoppedG.out {P : Program} {ops : Array Oper} {rest : List Oper} {a : Act} {w : World} {Q : Exit → Act → World → Prop} {o : Oper} (h : wpList P ops Q (o :: rest) a w) : StoppedG P ops rest a w Q o := .mk h
theorem arm_stopLG {P : Program} {ops : Array Oper} {rest : List Oper} {a : Act} {w : World} {Q : Exit → Act → World → Prop} {tp t : TypeId} {dst : Option Tmp} {x : Operand} {pos : String} {after : Array Edge} {g : Option (Nat × Bool)}
  (_ : Region.wanted (⟨dst, .load t x, tp, pos, after, g⟩ : Oper) (yielded ops a.tmps) = true) (h : StoppedG P ops rest a w Q ⟨dst, .load t x, tp, pos, after, g⟩) : wpList P ops Q (⟨dst, .load t x, tp, pos, after, g⟩ :: rest) a w := by cases h; assumption
theorem arm_stopC {P : Program} {ops : Array Oper} {rest : List Oper} {a : Act} {w : World} {Q : Exit → Act → World → Prop} {tp : TypeId} {dst : Option Tmp} {args : Array Operand} {ts : Array TypeId} {pos : String} {after : Array Edge}
  (h : Stopped P ops rest a w Q ⟨dst, .call ⟨.builtin .copy, args, ts⟩, tp, pos, after, none⟩) : wpList P ops Q (⟨dst, .call ⟨.builtin .copy, args, ts⟩, tp, pos, after, none⟩ :: rest) a w := by cases h; assumption
end Go.Proofs.YtmkofejijkabnaaGreatDoor
/- s[:i] OF A STRING. -/
namespace Go.Proofs.YtmkofejijkabnaaGreatDoor
open Go.RowKit
theorem run_slice_to {P : Program} {T : TypeId} (hu : P.underlying T = some .string) (l : List UInt8) (k1 : IntKind) (i : Nat) (h1 : i ≤ l.length) (w : World) :
    (Instr.slice T (.string ⟨l.toArray⟩) none (some (.int k1 (i : Int))) none).run P w = .ok (.string ⟨(l.take i).toArray⟩) w := by
  have hsz : ByteArray.size ⟨l.toArray⟩ = l.length := rfl
  simp [Instr.slice, Instr.sliceBounds, Instr.sliceBound, asIntOf, run_underlying hu, hsz, h1, ByteArray.extract_mk]
end Go.Proofs.YtmkofejijkabnaaGreatDoor
/- WHAT IS ALIKE FROM LAW TO LAW: the post out of 'true, and nothing that was there has changed'; arguments opened; listed variables. -/
namespace Go.Proofs.YtmkofejijkabnaaGreatDoor
open Go.ChangeShapes Go.WideShapes Go.ChangeAt Go.RowKit
theorem laidOut : laidOutB Tryz.prog = true := by kernel_rfl
theorem own : ownKnob Tryz.prog.godebug = none := by kernel_rfl
theorem trodAll_below {H : Type} {enc : TypeId × Value → H} {W W' : World} (hb : Below W.heap.size W W') : ∀ (ts : List TypeId) (vs : List Value) (ds : List (DataW H)) (ps : List MemPlace),
    (∀ t ∈ ts, Tryz.prog.readableRec t = true ∧ t < Tryz.prog.types.size) → (∀ x ∈ ps, x.block < W.heap.size) → DataW.TrodAll enc Tryz.prog W 0 (fun _ => true) true ts vs ds ps → DataW.TrodAll enc Tryz.prog W' 0 (fun b => decide (b < W.heap.size)) true ts vs ds ps := by
  intro ts
  induction ts with
  | nil =>
    intro vs ds ps _ _ h
    cases vs <;> cases ds <;> first | exact h | cases h
  | cons t ts ih =>
    intro vs ds ps ht hp h
    obtain ⟨v, vs1, d, ds1, a, b, rfl, rfl, rfl, h1, h2⟩ := trodAll_cons h
    have htt := ht t (by simp)
    exact ⟨a, b, Below.trod laidOut htt.1 htt.2 h1 hb (fun x hx => hp x (by simp [hx])), ih vs1 ds1 b (fun t' ht' => ht t' (by simp [ht'])) (fun x hx => hp x (by simp [hx])) h2, rfl⟩
/-- THE POST OF A LAW -/
theorem law_post {H : Type} {enc : TypeId × Value → H} {f : Func} {s : ChangeSpec} {W W' : World} {args : Array Value} {ds gs : List (DataW H)} {before : List MemPlace} {tb : TypeId}
    (hW : DataW.Whole enc Tryz.prog f.params.toList s.vars false W args.toList ds gs before) (hb : Below W.heap.size W W')
    (hread : ∀ t ∈ f.params.toList, Tryz.prog.readableRec t = true ∧ t < Tryz.prog.types.size) (hvars : s.vars = [])
    (hres : f.resultTypes = #[tb]) (htb : Tryz.prog.underlying tb = some .bool) (hfn : s.fn H (ds ++ gs) = { results := [.lit (.bool true)], args := ds }) :
    s.post enc Tryz.prog f false true false false W args (.bool true) W' := by
  have hlt : ∀ p ∈ before, p.block < W.heap.size := fun p hp => hW.lt p hp
  have hW0 := hW
  obtain ⟨p, q, hA, hV, rfl, hz, hn⟩ := hW
  rw [hvars] at hV
  obtain ⟨rfl, rfl⟩ := trodVars_none hV
  have hA' := trodAll_below hb _ _ _ _ hread (fun x hx => hlt x (by simpa using hx)) hA
  refine ⟨ds, [], p ++ [], [], p, [], hW0, ?_, ?_, ?_, World.keptBut_mono (fun x hx => ⟨hx, ?_⟩) (hb.frame (· ∈ p ++ [])), fun h => by cases h⟩
  · rw [hres, hfn]
    exact trodAll_cons_mk (shut_bool htb _) trodAll_mk0
  · rw [hfn]; exact hA'
  · rw [hfn, hvars]; exact rfl
  · exact .inr (.inl (by simpa using hx))
theorem okSlice {P : Program} {w : World} {r : Reach} {base : Nat} {t e : TypeId} {v : Value} (ht : P.underlying t = some (.slice e)) (h : Value.okWide P w r base t v) :
    v = .slice none 0 0 ∨ ∃ b off len cap, v = .slice (some ⟨b, off, none⟩) len cap ∧ len ≤ cap ∧ cap ≤ maxLen ∧ b < w.heap.size := by
  obtain ⟨a, len, cap, rfl⟩ := okWide_slice ht h
  simp only [Value.okWide, ht, Cell.okWide] at h
  cases a with
  | none =>
    left
    simp only [Cell.ok, ht] at h
    split at h <;> simp_all
  | some a =>
    right
    obtain ⟨b, off, spot⟩ := a
    simp only [Cell.ok, ht] at h
    obtain ⟨h1, h2, _, h3, row, cells, h4, _⟩ := h
    simp only at h3 h4
    subst h3
    refine ⟨b, off, len, cap, rfl, h1, ?_, ?_⟩
    · have : IntKind.i64.max = 9223372036854775807 := rfl
      unfold maxLen; omega
    · unfold World.shape? at h4
      rcases Nat.lt_or_ge b w.heap.size with h | h
      · exact h
      · simp [Array.getElem?_eq_none h] at h4
/-- AN ARGUMENT OF TYPE []byte, OPENED -/
theorem opened_reads {P : Program} {H : Type} {enc : TypeId × Value → H} {t e : TypeId} {r : Reach} {base : Nat} (ht : P.underlying t = some (.slice e)) (he : P.underlying e = some (.int .u8)) (hc : P.cellsOf e = 1) {W : World} {v : Value} {d : DataW H} {p : List MemPlace}
    (hok : Value.okWide P W r base t v) (h0 : DataW.Trod enc P W 0 (fun _ => true) true t v d p) : ∃ l, Reads W (fun b => b < W.heap.size) v l := by
  obtain ⟨fuel, hf⟩ := h0
  rcases okSlice ht hok with rfl | ⟨b, off, len, cap, rfl, h1, h2, h3⟩
  · exact ⟨[], Reads.ofNil⟩
  · rcases open_ints ht he hc hf with ⟨hcs, hx⟩ | ⟨a', len', cap', zs, hcs, _, hl, hm, hz, hx, hcell, hwz⟩
    · cases hcs
    · have hcs : [Value.slice (some ⟨b, off, none⟩) len cap] = [Value.slice (some a') len' cap'] := hcs
      injection hcs with hcs _
      injection hcs with hc1 hc2 hc3
      injection hc1 with hc1
      subst hc1 hc2 hc3
      simp only [if_true] at hz
      refine ⟨(zs.take len).map fun x => UInt8.ofNat x.toNat, ⟨_, cap, ?_, ?_, hm, .inr ⟨b, off, rfl, h3⟩⟩, fun b' off' n' c' he' j hj => ?_⟩
      · congr 1; simp; omega
      · simp; omega
      · injection he' with e1 _ _; injection e1 with e1; injection e1 with e1 e2 _; subst e1 e2
        have hj' : j < len := by simp at hj; omega
        have hjz : j < zs.length := by omega
        have hc := hcell j hjz
        rw [Addr.add_mid] at hc
        rw [hc]
        have hw := hwz _ (List.getElem_mem hjz)
        have hm1 : IntKind.u8.min = 0 := rfl
        have hm2 : IntKind.u8.max = 255 := rfl
        simp only [Lit.wf, Bool.and_eq_true, decide_eq_true_eq, hm1, hm2] at hw
        simp only [List.getElem_map, List.getElem_take, List.getD_eq_getElem?_getD, List.getElem?_eq_getElem hjz, Option.getD_some, UInt8.toNat_ofNat']
        congr 2
        omega
theorem laid_drop {P : Program} {W : World} {x : String × DataW Unit} {rest : List (String × DataW Unit)} (h : ∃ ps, DataW.LaidVars P W (x :: rest) ps) : ∃ ps, DataW.LaidVars P W rest ps := by
  obtain ⟨ps, ⟨g', t', cs, fuel, p, q, hg', ht', hvar, hd, h2, _⟩⟩ := h
  exact ⟨q, h2⟩
theorem tab_of_laid {P : Program} {W : World} {name : String} {k : IntKind} {zs : List Int} {rest : List (String × DataW Unit)} {g : Nat} {t e : TypeId} {n : Nat}
    (hg : P.globalNamed name = some g) (hty : (P.globals[g]?).map (·.type) = some t) (ht : P.underlying t = some (.array n e)) (he : P.underlying e = some (.int k)) (hce : P.cellsOf e = 1) (hct : P.cellsOf t = n)
    (h : ∃ ps, DataW.LaidVars P W ((name, Lib.tabData k zs) :: rest) ps) : Lib.TabIs P W name k zs := by
  obtain ⟨ps, ⟨g', t', cs, fuel, p, q, hg', ht', hvar, hd, _, _⟩⟩ := h
  obtain rfl := Option.some.inj (hg.symm.trans hg')
  obtain rfl := Option.some.inj (hty.symm.trans ht')
  unfold Lib.TabIs
  rw [hvar, ← Lib.cells_of_tab ht he hce hct hd]
/-- an argument that is a text -/
theorem okStr {P : Program} {w : World} {r : Reach} {base : Nat} {t : TypeId} {v : Value} (ht : P.underlying t = some .string) (h : Value.okWide P w r base t v) : ∃ l : List UInt8, v = .string ⟨l.toArray⟩ ∧ l.length ≤ 9223372036854775807 := by
  obtain ⟨s, rfl⟩ := okWide_string ht h
  obtain ⟨⟨l⟩⟩ := s
  refine ⟨l, rfl, ?_⟩
  simp only [Value.okWide, ht, Cell.okWide, Cell.ok] at h
  have hm : IntKind.i64.max = 9223372036854775807 := rfl
  rw [hm] at h
  have : (ByteArray.mk ⟨l⟩).size = l.length := rfl
  rw [this] at h
  omega
/-- an argument that is an array of bytes -/
theorem okBytes {P : Program} {w : World} {r : Reach} {base : Nat} {t e : TypeId} {n : Nat} {v : Value} (ht : P.underlying t = some (.array n e)) (he : P.underlying e = some (.int .u8)) (hc : P.cellsOf t = n) (hts : P.cellTypes P.depth t = some (List.replicate n e)) (h : Value.okWide P w r base t v) :
    ∃ l : List UInt8, l.length = n ∧ v = .agg (bcells l).toArray := by
  simp only [Value.okWide, ht] at h
  obtain ⟨cs, rfl, hsz, ts, hts', _, hcell⟩ := h
  obtain rfl := Option.some.inj (hts.symm.trans hts')
  rw [hc] at hsz
  have hm1 : IntKind.u8.min = 0 := rfl
  have hm2 : IntKind.u8.max = 255 := rfl
  have key : ∀ v ∈ cs.toList, ∃ c : UInt8, v = .int .u8 (c.toNat : Int) := by
    intro v hv
    obtain ⟨i, hi⟩ := List.getElem?_of_mem hv
    obtain ⟨u, hu, hok⟩ := hcell i v (by simpa using hi)
    obtain rfl : u = e := by
      have := List.mem_of_getElem? hu
      exact (List.mem_replicate.1 this).2
    simp only [Cell.okWide, he] at hok
    cases v <;> simp only [Cell.ok, he] at hok
    rename_i k x
    obtain ⟨rfl, h1, h2⟩ := hok
    rw [hm1] at h1; rw [hm2] at h2
    refine ⟨UInt8.ofNat x.toNat, ?_⟩
    congr 1
    rw [UInt8.toNat_ofNat']
    omega
  refine ⟨cs.toList.map fun v => match v with | .int _ x => UInt8.ofNat x.toNat | _ => 0, by simpa using hsz, ?_⟩
  congr 1
  apply Array.ext'
  simp only [bcells, List.map_map]
  rw [List.map_congr_left (g := id), List.map_id]
  intro v hv
  obtain ⟨c, rfl⟩ := key v hv
  simp
theorem laidVars_append {P : Program} {w : World} : ∀ (l1 l2 : List (String × DataW Unit)) (ps : List MemPlace), DataW.LaidVars P w (l1 ++ l2) ps ↔ ∃ p1 p2, DataW.LaidVars P w l1 p1 ∧ DataW.LaidVars P w l2 p2 ∧ ps = p1 ++ p2
  | [], l2, ps => by
    constructor
    · intro h; exact ⟨[], ps, rfl, h, rfl⟩
    · rintro ⟨p1, p2, h1, h2, rfl⟩
      obtain rfl : p1 = [] := h1
      exact h2
  | (n, d) :: l1, l2, ps => by
    constructor
    · rintro ⟨g, t, cs, fuel, p, q, h1, h2, h3, h4, h5, rfl⟩
      obtain ⟨q1, q2, k1, k2, rfl⟩ := (laidVars_append l1 l2 q).1 h5
      exact ⟨_, q2, ⟨g, t, cs, fuel, p, q1, h1, h2, h3, h4, k1, rfl⟩, k2, by simp⟩
    · rintro ⟨p1, p2, ⟨g, t, cs, fuel, p, q1, h1, h2, h3, h4, k1, rfl⟩, k2, rfl⟩
      exact ⟨g, t, cs, fuel, p, q1 ++ p2, h1, h2, h3, h4, (laidVars_append l1 l2 _).2 ⟨q1, p2, k1, k2, rfl⟩, by simp⟩
/-- the last two listed variables, the other way round -/
theorem laid_swap {P : Program} {w : World} (l l1 l2 : List (String × DataW Unit)) (h : laidMet P (l ++ (l1 ++ l2)) w) : laidMet P (l ++ (l2 ++ l1)) w := by
  obtain ⟨ps, hv, hn, hc⟩ := h
  obtain ⟨p, q, k1, k2, rfl⟩ := (laidVars_append l _ _).1 hv
  obtain ⟨q1, q2, m1, m2, rfl⟩ := (laidVars_append l1 l2 _).1 k2
  refine ⟨p ++ (q2 ++ q1), (laidVars_append l _ _).2 ⟨p, q2 ++ q1, k1, (laidVars_append l2 l1 _).2 ⟨q2, q1, m2, m1, rfl⟩, rfl⟩, ?_, fun b off hm => hc b off (by simp only [List.mem_append] at hm ⊢; rcases hm with h | h | h <;> simp [h])⟩
  exact (List.Perm.append_left p List.perm_append_comm).nodup_iff.1 hn
end Go.Proofs.YtmkofejijkabnaaGreatDoor
/- A REGION THAT DRAWS ITS ORDER: all operations but the last few only read (they may call what only reads), and the last few stand behind all of them: one walk of the text's order serves every order. -/
namespace Go.Proofs.YtmkofejijkabnaaGreatDoor
open Go
section
variable {P : Program} {ops : Array Oper} {md : Region.Mode} {C : World → Prop}
/-- f operations more come up, each of them one of the first n, whatever order the tape picks; then L -/
def headQ (P : Program) (md : Region.Mode) (ops : Array Oper) (C : World → Prop) (n : Nat) (L : Array Bool → Act → Prop) : Nat → Array Bool → Act → Prop
  | 0, done, a => L done a
  | f + 1, done, a => Region.ready md ops done ≠ [] ∧ ∀ i ∈ Region.ready md ops done, i < n ∧ qOp P ops C i (headQ P md ops C n L f (done.setIfInBounds i true)) a

theorem any_of_headQ {n g : Nat} {L : Array Bool → Act → Prop} {Q : Exit → Act → World → Prop} (hL : ∀ done a w, C w → L done a → wpAny P md ops Q g done a w) (f : Nat) :
    ∀ (done : Array Bool) (a : Act) (w : World), C w → headQ P md ops C n L f done a → wpAny P md ops Q (f + g) done a w := by
  induction f with
  | zero => intro done a w hw h; rw [Nat.zero_add]; exact hL _ _ _ hw h
  | succ f ih =>
    intro done a w hw h
    have e : f + 1 + g = (f + g) + 1 := by omega
    rw [e]
    refine ⟨fun h0 => (h.1 h0).elim, fun i hi => ?_⟩
    exact wpOp_of_qOp hw (fun a' w' hw' h' => ih _ a' w' hw' h') (h.2 i hi).2

theorem headQ_first {n i : Nat} {oi : Oper} {v : Value} {L : Array Bool → Act → Prop} (hi : ops[i]? = some oi) (hsel : ∀ (j : Nat) (o : Oper) cs b, ops[j]? = some o → o.op ≠ .select cs b)
    (hs : Region.sinkB md ops n = true) (hc : Region.chainB md ops n = true) (hn : n < ops.size) (hin : i < n) (hdone : ∀ done a, L done a → ∀ j ∈ Region.ready md ops done, n ≤ j) (f : Nat) :
    ∀ (done : Array Bool) (a : Act), HeadInv md ops n done →
      (∀ j oj, ops[j]? = some oj → j ≠ i → done.getD j true = false → (∀ e ∈ oj.after, Region.binds md e = true → e.on ≠ i) → oi.apart ops oj = true) →
      i ∈ Region.ready md ops done → YieldsIn P ops C oi v a →
      headQ P md ops C n L f (done.setIfInBounds i true) (a.put oi.dst v) → headQ P md ops C n L (f + 1) done a := by
  have head : ∀ (done : Array Bool), HeadInv md ops n done → i ∈ Region.ready md ops done → ∀ j ∈ Region.ready md ops done, j < n := by
    intro done inv hr j hj
    refine Nat.lt_of_not_le fun hle => ?_
    exact tail_waits hs hc hn inv _ i rfl hin (mem_ready.1 hr).1 j hle hj
  induction f with
  | zero =>
    intro done a inv _ hr hy H
    refine ⟨List.ne_nil_of_mem hr, fun j hj => ⟨head done inv hr j hj, ?_⟩⟩
    by_cases hji : j = i
    · subst hji; exact hy.qOp hi H
    · exact absurd (hdone _ _ H j (ready_mono hj hji)) (by have := head done inv hr j hj; omega)
  | succ f ih =>
    intro done a inv hfree hr hy H
    refine ⟨List.ne_nil_of_mem hr, fun j hj => ⟨head done inv hr j hj, ?_⟩⟩
    by_cases hji : j = i
    · subst hji; exact hy.qOp hi H
    obtain ⟨hjun, oj, hoj, hall⟩ := mem_ready.1 hj
    have hiun := (mem_ready.1 hr).1
    have hnot : ∀ e ∈ oj.after, Region.binds md e = true → e.on ≠ i := by
      intro e he hb heq
      have hx := hall e he hb
      rw [heq, getD_both hiun] at hx
      cases hx
    have hput := qOp_put hoj (hfree j oj hoj hji hjun hnot) (fun cs b => hsel i oi cs b hi) (fun cs b => hsel j oj cs b hoj) hy (H.2 j (ready_mono hj hji)).2
    refine qOp_mono (fun a' h3 => ?_) hput
    refine ih (done.setIfInBounds j true) a' (inv.set hj (head done inv hr j hj)) ?_ (ready_mono hr (Ne.symm hji)) h3.1 (by rw [Array.setIfInBounds_comm _ _ hji]; exact h3.2)
    intro k ok hk hki hun hno
    refine hfree k ok hk hki ?_ hno
    by_cases hjk : j = k
    · subst hjk; exact hjun
    · rwa [getD_set_ne true hjk] at hun

theorem headQ_lex {n g : Nat} {K : Act → Prop} (hsel : Region.noSelect ops = true) (hs : Region.sinkB md ops n = true) (hc : Region.chainB md ops n = true) (hn : n < ops.size) (l : List Oper) :
    ∀ (k : Nat) (done : Array Bool) (a : Act), (∀ j, j < l.length → l[j]? = ops[k + j]?) → k + l.length = n → HeadInv md ops n done →
    Region.lexHead md ops g l.length k done = true → wpQuiet P ops C K l a →
    headQ P md ops C n (fun done' a' => Region.seqB md ops g n done' = true ∧ K a') l.length done a := by
  induction l with
  | nil =>
    intro k done a _ hk _ hB h
    have e : k = n := by simpa using hk
    subst e
    exact ⟨hB, h⟩
  | cons o l ih =>
    intro k done a hl hk inv hB h
    have h0 : ops[k]? = some o := by simpa using (hl 0 (by simp)).symm
    simp only [List.length_cons, Region.lexHead, Bool.and_eq_true] at hB
    have hkn : k < n := by simp only [List.length_cons] at hk; omega
    have hr : k ∈ Region.ready md ops done := by simpa using hB.1.1
    have hst : qOp P ops C k (wpQuiet P ops C K l) a := by unfold qOp; simp only [h0]; exact h
    obtain ⟨v, hy, hK⟩ := yieldsIn_of_qOp h0 hst
    refine headQ_first h0 (Region.noSelect_spec hsel) hs hc hn hkn (fun done' a' hL => seqB_ready hL.1) l.length done a inv (Region.free_spec h0 hB.1.2) hr hy ?_
    refine ih (k + 1) _ _ (fun j hj => ?_) (by simp only [List.length_cons] at hk; omega) (inv.set hr hkn) hB.2 hK
    have := hl (j + 1) (by simp; omega)
    simpa [Nat.add_assoc, Nat.add_comm 1 j] using this

/-- THE THEOREM: n operations that are quiet in the class, then a tail in one forced order, walked in every world of the class. -/
theorem wp_region_quiet_tail {id : Nat} {Q : Exit → Act → World → Prop} {a : Act} {w : World} {l : List Oper} (n : Nat) (hm : P.follows .mixedOrders = true) (hB : Region.lexTailB .any l.toArray n = true)
    (hC : C { w with drawn := w.drawn + 1 }) (h : wpQuiet P l.toArray C (fun a' => ∀ w', C w' → wpList P l.toArray Q (l.drop n) a' w') (l.take n) a) : (Code.region id l.toArray true).wp P Q a w := by
  simp only [Region.lexTailB, Bool.and_eq_true, decide_eq_true_eq] at hB
  obtain ⟨⟨⟨⟨hsel, hn⟩, hs⟩, hc⟩, hlex⟩ := hB
  have hn' : n < l.length := by simpa using hn
  have htl : (l.take n).length = n := by simp; omega
  have hdl : (l.drop n).length = l.toArray.size - n := by simp
  have inv : HeadInv .any l.toArray n (Array.replicate l.toArray.size false) := by
    refine ⟨by simp, fun j oj _ hl => ?_, fun t _ ht => getD_in (by simpa using ht) (getD_replicate_false _ _)⟩
    rw [getD_replicate_false] at hl; cases hl
  have H := headQ_lex (md := .any) (C := C) (g := l.toArray.size - n) hsel hs hc hn (l.take n) 0 _ a (fun j hj => by
    have hj' : j < n := by rw [htl] at hj; exact hj
    simp [hj']) (by simpa using htl) inv (by rw [htl]; exact hlex) h
  refine wp_region_any hm ?_
  have := any_of_headQ (Q := Q) (g := l.toArray.size - n) (fun done a' w' hw' hL => by
    have := wpAny_of_seq (md := .any) (Q' := Q) (l.drop n) n done a' w' (fun j => by simp [List.getElem?_drop]) (by rw [hdl]; exact hL.1) (hL.2 w' hw')
    rwa [hdl] at this) _ _ _ _ hC H
  rw [htl, show n + (l.toArray.size - n) = l.toArray.size by omega] at this
  exact this
/-- .. at the class 'w after some draws' -/
theorem wp_region_quiet_tail_drawn {id : Nat} {Q : Exit → Act → World → Prop} {a : Act} {w : World} {l : List Oper} (n : Nat) (hm : P.follows .mixedOrders = true) (hB : Region.lexTailB .any l.toArray n = true)
    (h : wpQuiet P l.toArray (fun w' => ∃ m, w' = w.drewN m) (fun a' => ∀ w', (∃ m, w' = w.drewN m) → wpList P l.toArray Q (l.drop n) a' w') (l.take n) a) : (Code.region id l.toArray true).wp P Q a w :=
  wp_region_quiet_tail (C := fun w' => ∃ m, w' = w.drewN m) n hm hB ⟨1, rfl⟩ h
end
/-- a quiet callee met behind earlier draws -/
theorem quiet_after {P : Program} {f : FuncId} {args : Array Value} {w : World} {a n : Nat} {v : Value}
    (h : Calls P f args (w.drewN (a + n)) fun e w' => e = .returned v ∧ ∃ m, w' = (w.drewN (a + n)).drewN m) :
    Calls P f args (w.drewN (a + n)) fun e w'' => e = .returned v ∧ ∃ m, w'' = w.drewN (a + m) := by
  refine h.mono ?_
  rintro e w' ⟨he, m, rfl⟩
  exact ⟨he, n + m, by rw [World.drewN_drewN, Nat.add_assoc]⟩
theorem quiet_after_same {P : Program} {f : FuncId} {args : Array Value} {w : World} {a n : Nat} {v : Value}
    (h : Calls P f args (w.drewN (a + n)) fun e w' => e = .returned v ∧ w' = w.drewN (a + n)) :
    Calls P f args (w.drewN (a + n)) fun e w'' => e = .returned v ∧ ∃ m, w'' = w.drewN (a + m) := by
  refine h.mono ?_
  rintro e w' ⟨he, rfl⟩
  exact ⟨he, n, rfl⟩
end Go.Proofs.YtmkofejijkabnaaGreatDoor
