/- BLOCKS: part, Field, Set. -/
import Derived.Test.YtohballfhhndbaaDoorFldMap
import Derived.Test.YtohballfhhndbaaDoorBRep
import Derived.Lib.SliceRun
namespace Go.Proofs.YtohballfhhndbaaDoor
open Go.RowKit
theorem places_fit : places.all (fun p => decide (p.2.1 + p.2.2 ≤ 500) && decide (0 < p.2.2)) = true := by decide
theorem placeOf_fit {s : List UInt8} {p : Nat × Nat} (h : placeOf s = some p) : p.1 + p.2 ≤ 500 ∧ 0 < p.2 := by
  unfold placeOf at h
  obtain ⟨q, hq, rfl⟩ := Option.map_eq_some_iff.1 h
  have h1 := List.mem_of_find?_eq_some hq
  have := List.all_eq_true.1 places_fit q h1
  simpa using this
theorem eql_nil (ad : Option Addr) (n c : Nat) (w : World) : (binOp .eql 22 (.slice ad n c) (.slice none 0 0)).run Tryd.prog w = .ok (.bool ad.isNone) w := Lib.run_eql_slice_nil w _ _ _ _ _ _ _ Tryd.underlying22
theorem eql_some (ad : Addr) (n c : Nat) (w : World) : (binOp .eql 22 (.slice (some ad) n c) (.slice none 0 0)).run Tryd.prog w = .ok (.bool false) w := eql_nil _ _ _ _
theorem eql_none (w : World) : (binOp .eql 22 (.slice none 0 0) (.slice none 0 0)).run Tryd.prog w = .ok (.bool true) w := eql_nil _ _ _ _
/-- a block's field -/
def fldL (l : List UInt8) (p : Nat × Nat) : List UInt8 := (l.drop p.1).take p.2
/-- a block with a field laid -/
def setL (l : List UInt8) (a : Nat) (m : List UInt8) : List UInt8 := l.take a ++ m ++ l.drop (a + m.length)
theorem setL_length {l : List UInt8} {a : Nat} {m : List UInt8} (h : a + m.length ≤ l.length) : (setL l a m).length = l.length := by
  simp [setL]; omega
/-- block S holds the bytes l: a Block -/
abbrev BlkAt (w : World) (S : Nat) (e : TypeId) (l : List UInt8) : Prop := Row w S e (bcells l).toArray
theorem BlkAt.reads {w : World} {S : Nat} {e : TypeId} {l : List UInt8} (h : BlkAt w S e l) (hl : l.length = 512) {N : Nat → Prop} (hN : N S) (i m cap : Nat) (hi : i + m ≤ 512) (hc : m ≤ cap) (hm : cap ≤ 512) :
    Reads w N (.slice (some ⟨S, i, none⟩) m cap) ((l.drop i).take m) := by
  have hll : ((l.drop i).take m).length = m := by simp; omega
  have h1 := RdV.ofRow (N := N) h hN 1 i m cap (bcells ((l.drop i).take m)) (by rw [bcells_length, hll]; omega) hc (by unfold maxLen; omega) (fun j u hu => by
    have hj : j < m := by
      have := (List.getElem?_eq_some_iff.1 hu).1
      rwa [bcells_length, hll] at this
    rw [bcells_get _ _ (by omega)] at hu
    rw [List.getElem?_toArray, bcells_get _ _ (by omega), ← hu]
    simp)
  refine RdV.toBytes ?_
  rw [hll]; exact h1
theorem sliceAt_blk (S a n : Nat) (ha : a + n ≤ 500) (w : World) :
    (Instr.sliceAt 37 (.pointer (some ⟨S, 0, none⟩)) (some (.int .i64 (a : Int))) (some (.int .i64 ((a : Int) + (n : Int)))) none).run Tryd.prog w = .ok (.slice (some ⟨S, a, none⟩) n (512 - a)) w := by
  have hl : Tryd.prog.arrayLen 37 = 512 := by kernel_rfl
  have he : Tryd.prog.elem 37 = 5 := by kernel_rfl
  have hs : ∀ w, (sizeOf 5).run Tryd.prog w = .ok 1 w := fun w => by kernel_rfl
  rw [run_sliceAt_array_lh w 37 ⟨S, 0, none⟩ (by rw [hl, he]; exact Tryd.underlying37) .i64 .i64 (a : Int) ((a : Int) + (n : Int)) (by omega) (by omega) (by rw [hl]; omega), hl, he, hs]
  have h1 : ((a : Int) + (n : Int)).toNat = a + n := by omega
  simp [Result.andThen, slicedAt, h1, Addr.add_mid, show ¬ (512 = a) by omega]
set_option maxHeartbeats 1000000 in
set_option maxRecDepth 100000 in
theorem part_nil (s : List UInt8) (hs : s.length ≤ 1000) (B : Nat) (w : World) (hF : Flds B w) :
    Calls Tryd.prog 39 #[.pointer none, .string ⟨s.toArray⟩] w fun e w' => e = .returned (.slice none 0 0) ∧ Below w.heap.size w w' := by
  obtain ⟨b, hc, hlk⟩ := hF.look s (by unfold maxLen; omega)
  generalize ((placeOf s).getD (0, 0)).1 = p1 at *
  generalize ((placeOf s).getD (0, 0)).2 = p2 at *
  generalize (placeOf s).isSome = is at *
  clear hF
  go_enter Tryd.func39, Tryd.ntmps39
  go_wp2_with fail
  go_ret
  exact ⟨rfl, (Below.refl _ _).alloc (Nat.le_refl _) _⟩
set_option maxHeartbeats 1000000 in
set_option maxRecDepth 100000 in
theorem part_no (S : Nat) (s : List UInt8) (hs : s.length ≤ 1000) (hp : placeOf s = none) (B : Nat) (w : World) (hF : Flds B w) :
    Calls Tryd.prog 39 #[.pointer (some ⟨S, 0, none⟩), .string ⟨s.toArray⟩] w fun e w' => e = .returned (.slice none 0 0) ∧ Below w.heap.size w w' := by
  obtain ⟨b, hc, hlk⟩ := hF.look s (by unfold maxLen; omega)
  rw [hp] at hlk
  simp only [Option.getD_none, Option.isSome_none] at hlk
  clear hF hp
  go_enter Tryd.func39, Tryd.ntmps39
  go_wp2_with fail
  go_ret
  exact ⟨rfl, (Below.refl _ _).alloc (Nat.le_refl _) _⟩
set_option maxHeartbeats 1000000 in
set_option maxRecDepth 100000 in
theorem part_is (S : Nat) (s : List UInt8) (hs : s.length ≤ 1000) (a n : Nat) (hp : placeOf s = some (a, n)) (B : Nat) (w : World) (hF : Flds B w) :
    Calls Tryd.prog 39 #[.pointer (some ⟨S, 0, none⟩), .string ⟨s.toArray⟩] w fun e w' => e = .returned (.slice (some ⟨S, a, none⟩) n (512 - a)) ∧ Below w.heap.size w w' := by
  obtain ⟨b, hc, hlk⟩ := hF.look s (by unfold maxLen; omega)
  obtain ⟨h1, h2⟩ := placeOf_fit hp
  simp only at h1 h2
  rw [hp] at hlk
  simp only [Option.getD_some, Option.isSome_some] at hlk
  have hsl := sliceAt_blk S a n h1
  have hwr := IntWalk.i64_in ((a : Int) + (n : Int)) (by omega)
  clear hF hp
  go_enter Tryd.func39, Tryd.ntmps39
  go_wp2_with fail
  refine wp_world (R := fun w2 => Hp NoM w w2 [rowA w.heap.size 89 #[.int .i64 (a : Int), .int .i64 (n : Int)]]) ((Hp.begin NoM w).newRow _ _) ?_
  intro w2 H2
  have hc0 := (H2.out.row 0 rfl).cell (i := 0) rfl
  have hc1 := (H2.out.row 0 rfl).cell (i := 1) rfl
  generalize w.heap.size = g at *
  go_quiet (fail)
  go_wp2_with fail
  go_ret
  exact ⟨rfl, below_drewN' H2.out.below _⟩
set_option maxHeartbeats 1000000 in
set_option maxRecDepth 100000 in
theorem field_is (S : Nat) (e : TypeId) (l : List UInt8) (hl : l.length = 512) (s : List UInt8) (hs : s.length ≤ 1000) (a n : Nat) (hp : placeOf s = some (a, n)) (B : Nat) (w : World) (hF : Flds B w) (hS : BlkAt w S e l) :
    Calls Tryd.prog 18 #[.pointer (some ⟨S, 0, none⟩), .string ⟨s.toArray⟩] w fun e w' => ∃ v, e = .returned (.tuple #[v, .bool true]) ∧ Owns w' w.heap.size 5 v (fldL l (a, n)) ∧ Below w.heap.size w w' := by
  have HP := Keep.keep (part_is S s hs a n hp B w hF)
  obtain ⟨h1, h2⟩ := placeOf_fit hp
  simp only at h1 h2
  have HR : Keep (∀ wx, Below w.heap.size w wx → Reads wx (· < wx.heap.size) (.slice (some ⟨S, a, none⟩) n (512 - a)) (fldL l (a, n))) := ⟨fun wx h => ((hS.reads hl (N := (· < w.heap.size)) hS.lt a n (512 - a) (by omega) (by omega) (by omega)).below h (fun b hb => hb)).mono (fun b hb => Nat.lt_of_lt_of_le hb h.size)⟩
  have hfl : (fldL l (a, n)).length ≤ 512 := by simp [fldL]; omega
  generalize fldL l (a, n) = f at *
  clear hF hp hS
  go_enter Tryd.func18, Tryd.ntmps18
  go_wp2_with fail
  refine HP.out.mono ?_
  rintro e w1 ⟨rfl, hb1⟩
  have HB1 := Keep.keep hb1
  have HC := Keep.keep (clone_any _ f _ w1 (HR.out w1 hb1) (by omega))
  clear hb1 HP
  go_wp2_with fail
  refine HC.out.mono ?_
  rintro e w2 ⟨v, rfl, ho, hb2⟩
  have HO := Keep.keep (Owns.mono ho HB1.out.size); have HB2 := Keep.keep (HB1.out.trans (hb2.mono HB1.out.size))
  obtain ⟨a9, c9, rfl, -⟩ := ho.reads.shape
  clear ho hb2
  go_wp2_with fail
  go_ret2
  exact ⟨_, rfl, HO.out, HB2.out⟩
set_option maxHeartbeats 1000000 in
set_option maxRecDepth 100000 in
theorem field_none (pv : Value) (s : List UInt8) (w : World) (HP : Keep (Calls Tryd.prog 39 #[pv, .string ⟨s.toArray⟩] w fun e w' => e = .returned (.slice none 0 0) ∧ Below w.heap.size w w')) :
    Calls Tryd.prog 18 #[pv, .string ⟨s.toArray⟩] w fun e w' => ∃ v, e = .returned (.tuple #[v, .bool false]) ∧ Owns w' w.heap.size 5 v [] ∧ Below w.heap.size w w' := by
  go_enter Tryd.func18, Tryd.ntmps18
  go_wp2_with fail
  refine HP.out.mono ?_
  rintro e w1 ⟨rfl, hb1⟩
  have HB1 := Keep.keep hb1
  have HC := Keep.keep (clone_any (.slice none 0 0) [] (fun _ => False) w1 ⟨⟨_, 0, rfl, Nat.le_refl _, by unfold maxLen; omega, .inl ⟨rfl, rfl⟩⟩, fun b off n cap he j hj => by cases hj⟩ (by simp))
  clear hb1 HP
  go_wp2_with fail
  refine HC.out.mono ?_
  rintro e w2 ⟨v, rfl, ho, hb2⟩
  have HO := Keep.keep (Owns.mono ho HB1.out.size); have HB2 := Keep.keep (HB1.out.trans (hb2.mono HB1.out.size))
  obtain ⟨a9, c9, rfl, -⟩ := ho.reads.shape
  clear ho hb2
  go_wp2_with fail
  go_ret2
  exact ⟨_, rfl, HO.out, HB2.out⟩
theorem setL_cells (l m : List UInt8) (a : Nat) : (bcells (setL l a m)).toArray = ((bcells l).toArray.toList.take a ++ (bcells m ++ (bcells l).toArray.toList.drop (a + (bcells m).length))).toArray := by
  unfold setL
  rw [bcells_length, bcells_append, bcells_append, List.append_assoc]
  simp [bcells, List.map_take, List.map_drop]
set_option maxHeartbeats 1000000 in
set_option maxRecDepth 100000 in
theorem set_is (S : Nat) (e : TypeId) (l : List UInt8) (hl : l.length = 512) (s : List UInt8) (hs : s.length ≤ 1000) (a n : Nat) (hp : placeOf s = some (a, n)) (v : Value) (m : List UInt8) (hm : m.length = n) (B : Nat) (w : World) (hF : Flds B w) (hS : BlkAt w S e l) (hr : Reads w (· < w.heap.size) v m) :
    Calls Tryd.prog 19 #[.pointer (some ⟨S, 0, none⟩), .string ⟨s.toArray⟩, v] w fun e' w' => e' = .returned (.int .i64 0) ∧ BlkAt w' S e (setL l a m) ∧ Chg (fun b => b = S) w.heap.size w w' := by
  have HP := Keep.keep (part_is S s hs a n hp B w hF)
  obtain ⟨h1, h2⟩ := placeOf_fit hp
  simp only at h1 h2
  obtain ⟨b, off, cap, hv, -⟩ := hr.has (by omega)
  rw [hm] at hv
  have HR := Keep.keep hr; have HS := Keep.keep hS; have HM := Keep.keep hm
  have HV := Keep.keep hv
  have hnn : ((n : Int) == (n : Int)) = true := beq_self_eq_true _
  clear hF hp hS hr hm
  subst hv
  have hes := eql_some; have hen := eql_none
  go_enter Tryd.func19, Tryd.ntmps19
  go_wp2_with fail
  refine HP.out.mono ?_
  rintro e' w1 ⟨rfl, hb1⟩
  have HB1 := Keep.keep hb1
  clear hb1 HP
  go_wp2_with (with_reducible refine arm_stopC ?_)
  refine Stopped.out ?_
  refine arm_copyInto (HS.out.below HB1.out HS.out.lt) (bcells m) _ Tryd.underlying22 (by kernel_rfl) rfl rfl (by rw [bcells_length, HM.out]; exact (Nat.min_self n).symm) (fun j u hj => by
    have hj2 : j < m.length := by have := (List.getElem?_eq_some_iff.1 hj).1; rwa [bcells_length] at this
    rw [(HR.out.below HB1.out (fun b hb => hb)).cell b off _ _ rfl j hj2, ← hj, bcells_get _ _ hj2]) (by rw [bcells_length, HM.out]; simp [bcells_length, hl]; omega) (bcells_one m) rfl ?_
  rw [← setL_cells]
  refine wpList_world (R := fun w2 => BlkAt w2 S e (setL l a m) ∧ Chg (fun b => b = S) w.heap.size w w2) ⟨(HS.out.below HB1.out HS.out.lt).setRow _, Chg.setRow (M := fun b => b = S) (Chg.of_below HB1.out) (.inr rfl) _⟩ ?_
  intro w2 H2
  simp only [bcells_length]
  simp only [Act.put, List.setIfInBounds_toArray, List.set_cons_succ, List.set_cons_zero]
  go_wp2_with fail
  go_ret
  exact ⟨rfl, H2.out.1, H2.out.2⟩
set_option maxHeartbeats 1000000 in
set_option maxRecDepth 100000 in
theorem set_long (S : Nat) (s : List UInt8) (hs : s.length ≤ 1000) (a n : Nat) (hp : placeOf s = some (a, n)) (v : Value) (m : List UInt8) (hm : m.length ≠ n) (B : Nat) (w : World) (hF : Flds B w) (hr : Reads w (· < w.heap.size) v m) :
    Calls Tryd.prog 19 #[.pointer (some ⟨S, 0, none⟩), .string ⟨s.toArray⟩, v] w fun e' w' => e' = .returned (.int .i64 1) ∧ Below w.heap.size w w' := by
  have HP := Keep.keep (part_is S s hs a n hp B w hF)
  obtain ⟨h1, h2⟩ := placeOf_fit hp
  simp only at h1 h2
  obtain ⟨ad, cap, rfl, -⟩ := hr.shape
  have hnn : ((m.length : Int) == (n : Int)) = false := by rw [beq_eq_false_iff_ne]; omega
  have hn2 : (m.length == n) = false := by rw [beq_eq_false_iff_ne]; exact hm
  clear hF hp hr
  generalize m.length = ml at *
  have hes := eql_some; have hen := eql_none
  go_enter Tryd.func19, Tryd.ntmps19
  go_wp2_with fail
  refine HP.out.mono ?_
  rintro e' w1 ⟨rfl, hb1⟩
  have HB1 := Keep.keep hb1
  clear hb1 HP
  go_wp2_with fail
  go_ret
  exact ⟨rfl, HB1.out⟩
set_option maxHeartbeats 1000000 in
set_option maxRecDepth 100000 in
theorem set_none (pv v : Value) (s : List UInt8) (w : World) (HP : Keep (Calls Tryd.prog 39 #[pv, .string ⟨s.toArray⟩] w fun e w' => e = .returned (.slice none 0 0) ∧ Below w.heap.size w w')) :
    Calls Tryd.prog 19 #[pv, .string ⟨s.toArray⟩, v] w fun e' w' => e' = .returned (.int .i64 1) ∧ Below w.heap.size w w' := by
  have hes := eql_some; have hen := eql_none
  go_enter Tryd.func19, Tryd.ntmps19
  go_wp2_with fail
  refine HP.out.mono ?_
  rintro e' w1 ⟨rfl, hb1⟩
  have HB1 := Keep.keep hb1
  clear hb1 HP
  go_wp2_with fail
  go_ret
  exact ⟨rfl, HB1.out⟩
end Go.Proofs.YtohballfhhndbaaDoor
