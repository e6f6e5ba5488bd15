/- strings.Cut AT ONE BYTE. -/
import Derived.Test.YtohballfhhndbaaDoorShelf
import Derived.Test.YtohballfhhndbaaDoorIns
import Derived.Test.YtohballfhhndbaaDoorQTail
import Derived.Test.YtohballfhhndbaaDoorGen2
import Derived.WalkMore
import Derived.Deep.DeepBigQuietO
namespace Go.Proofs.YtohballfhhndbaaDoor
open Go.RowKit
/-- what stands ahead of the first c , and behind it -/
def cutB (c : UInt8) (s : List UInt8) : List UInt8 × Option (List UInt8) :=
  (s.takeWhile (· != c), match s.dropWhile (· != c) with | [] => none | _ :: v => some v)
theorem cutB_none {c : UInt8} {s : List UInt8} (h : ∀ x ∈ s, x ≠ c) : cutB c s = (s, none) := by
  unfold cutB
  induction s with
  | nil => rfl
  | cons x s ih =>
    have hx : (x != c) = true := by simpa using h x (by simp)
    have := ih (fun y hy => h y (by simp [hy]))
    simp only [List.takeWhile_cons, List.dropWhile_cons, hx, if_true]
    injection this with h1 h2
    rw [h1, h2]
theorem cutB_some {c : UInt8} {a b : List UInt8} (h : ∀ x ∈ a, x ≠ c) : cutB c (a ++ c :: b) = (a, some b) := by
  unfold cutB
  induction a with
  | nil => simp
  | cons x a ih =>
    have hx : (x != c) = true := by simpa using h x (by simp)
    have := ih (fun y hy => h y (by simp [hy]))
    simp only [List.cons_append, List.takeWhile_cons, List.dropWhile_cons, hx, if_true]
    injection this with h1 h2
    rw [h1, h2]
theorem cutB_index (c : UInt8) (s : List UInt8) : (Lib.indexByte s c = -1 ∧ cutB c s = (s, none)) ∨ ∃ o : Nat, Lib.indexByte s c = o ∧ o < s.length ∧ cutB c s = (s.take o, some (s.drop (o + 1))) := by
  have h1 := Lib.indexByte_ge s c
  rcases (by omega : Lib.indexByte s c = -1 ∨ 0 ≤ Lib.indexByte s c) with h2 | h2
  · refine .inl ⟨h2, cutB_none fun x hx e => ?_⟩
    obtain ⟨k, hk⟩ := List.getElem?_of_mem hx
    exact Lib.indexByte_none h2 k (by rw [hk, e])
  · obtain ⟨o, ho⟩ : ∃ o : Nat, Lib.indexByte s c = o := ⟨(Lib.indexByte s c).toNat, by omega⟩
    obtain ⟨h3, h4⟩ := Lib.indexByte_some ho
    have hlt : o < s.length := (List.getElem?_eq_some_iff.1 h3).1
    refine .inr ⟨o, ho, hlt, ?_⟩
    have hs : s = s.take o ++ c :: s.drop (o + 1) := by
      have e1 : s[o] = c := by rw [List.getElem?_eq_getElem hlt] at h3; injection h3
      conv => lhs; rw [← List.take_append_drop o s]
      rw [List.drop_eq_getElem_cons hlt, e1]
    conv => lhs; rw [hs]
    refine cutB_some fun x hx e => ?_
    obtain ⟨k, hk⟩ := List.getElem?_of_mem hx
    have hk2 : k < o := by
      have := (List.getElem?_eq_some_iff.1 hk).1
      simp at this; omega
    rw [List.getElem?_take_of_lt hk2] at hk
    exact h4 k hk2 (by rw [hk, e])
theorem run_slice_from {P : Program} {T : TypeId} (hu : P.underlying T = some .string) (l : List UInt8) (k1 : IntKind) (i : Nat) (h1 : i ≤ l.length) (w : World) :
    (Instr.slice T (.string ⟨l.toArray⟩) (some (.int k1 (i : Int))) none none).run P w = .ok (.string ⟨(l.drop i).toArray⟩) w := by
  have hsz : ByteArray.size ⟨l.toArray⟩ = l.length := rfl
  simp [Instr.slice, Instr.sliceBounds, Instr.sliceBound, asIntOf, run_underlying hu, hsz, h1, ByteArray.extract_mk]
  rw [List.take_of_length_le (by rw [List.length_drop]; exact Nat.le_refl _)]
theorem run_slice_to {P : Program} {T : TypeId} (hu : P.underlying T = some .string) (l : List UInt8) (k1 : IntKind) (i : Nat) (h1 : i ≤ l.length) (w : World) :
    (Instr.slice T (.string ⟨l.toArray⟩) none (some (.int k1 (i : Int))) none).run P w = .ok (.string ⟨(l.take i).toArray⟩) w := by
  have hsz : ByteArray.size ⟨l.toArray⟩ = l.length := rfl
  simp [Instr.slice, Instr.sliceBounds, Instr.sliceBound, asIntOf, run_underlying hu, hsz, h1, ByteArray.extract_mk]
def cutV (c : UInt8) (s : List UInt8) : Value := .tuple #[.string ⟨(cutB c s).1.toArray⟩, .string ⟨((cutB c s).2.getD []).toArray⟩, .bool (cutB c s).2.isSome]
set_option maxHeartbeats 1000000 in
set_option maxRecDepth 100000 in
theorem scut_any (c : UInt8) (l : List UInt8) (hl : l.length ≤ 1000000000) (w : World) :
    Calls Tryd.prog 55 #[.string ⟨l.toArray⟩, .string ⟨#[c]⟩] w fun e w' => e = .returned (cutV c l) ∧ Below w.heap.size w w' := by
  have HI := Keep.keep (Tryd.stringslite_Index_one ⟨l.toArray⟩ c w)
  have hlt : (⟨l.toArray⟩ : ByteArray).data.toList = l := rfl
  rw [hlt] at HI
  have hs1 : (⟨#[c]⟩ : ByteArray).size = 1 := rfl
  rcases cutB_index c l with ⟨h1, h2⟩ | ⟨o, h1, h2, h3⟩
  · rw [h1] at HI
    have hcv : cutV c l = .tuple #[.string ⟨l.toArray⟩, .string ⟨#[]⟩, .bool false] := by unfold cutV; rw [h2]; rfl
    rw [hcv]
    clear h1 h2 hcv
    go_enter Tryd.func55, Tryd.ntmps55
    go_wp2_with (go_at_call 56; ((with_reducible refine HI.out.mono ?_); rintro e w1 ⟨rfl, rfl⟩))
    go_ret3
    exact ⟨rfl, Below.refl _ _⟩
  · rw [h1] at HI
    have hcv : cutV c l = .tuple #[.string ⟨(l.take o).toArray⟩, .string ⟨(l.drop (o + 1)).toArray⟩, .bool true] := by unfold cutV; rw [h3]; rfl
    rw [hcv]
    have k1 := run_slice_to (P := Tryd.prog) Tryd.underlying9 l .i64 o (by omega)
    have k2 := run_slice_from (P := Tryd.prog) Tryd.underlying9 l .i64 (o + 1) (by omega)
    rw [show ((o + 1 : Nat) : Int) = (o : Int) + 1 by omega] at k2
    have hwr := IntWalk.i64_in ((o : Int) + 1) (by omega)
    have H2 := Keep.keep h2
    clear h1 h3 hcv
    generalize l.take o = ta at *
    generalize l.drop (o + 1) = tb at *
    go_enter Tryd.func55, Tryd.ntmps55
    go_wp2_with (go_at_call 56; ((with_reducible refine HI.out.mono ?_); rintro e w1 ⟨rfl, rfl⟩))
    go_quiet (fail)
    go_wp2_with fail
    go_ret3
    exact ⟨rfl, below_drewN' (Below.refl _ _) _⟩
set_option maxHeartbeats 1000000 in
set_option maxRecDepth 100000 in
theorem cut_any (c : UInt8) (l : List UInt8) (hl : l.length ≤ 1000000000) (w : World) :
    Calls Tryd.prog 43 #[.string ⟨l.toArray⟩, .string ⟨#[c]⟩] w fun e w' => e = .returned (cutV c l) ∧ Below w.heap.size w w' := by
  have HI := Keep.keep (scut_any c l hl w)
  unfold cutV at *
  generalize (cutB c l).1 = x1 at *
  generalize (cutB c l).2.getD [] = x2 at *
  generalize (cutB c l).2.isSome = x3 at *
  go_enter Tryd.func43, Tryd.ntmps43
  go_wp2_with (go_at_call 55; ((with_reducible refine HI.out.mono ?_); rintro e w1 ⟨rfl, hb⟩))
  go_ret3
  exact ⟨rfl, hb⟩
end Go.Proofs.YtohballfhhndbaaDoor
