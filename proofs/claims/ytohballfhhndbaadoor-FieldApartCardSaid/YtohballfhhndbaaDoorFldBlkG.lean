/- Field and Set at any name: one contract each. -/
import Derived.Test.YtohballfhhndbaaDoorFldRef2
namespace Go.Proofs.YtohballfhhndbaaDoor
open Go.RowKit
/-- where a name's field stands: (0, 0) for no field -/
abbrev plc (s : List UInt8) : Nat × Nat := (placeOf s).getD (0, 0)
theorem plc_fit (s : List UInt8) : (plc s).1 + (plc s).2 ≤ 500 := by
  unfold plc
  cases h : placeOf s with
  | none => simp
  | some p => exact (placeOf_fit h).1
theorem field_all (S : Nat) (e : TypeId) (l : List UInt8) (hl : l.length = 512) (s : List UInt8) (hs : s.length ≤ 1000) (B : Nat) (w : World) (hF : Flds B w) (hS : BlkAt w S e l) :
    Calls Tryd.prog 18 #[.pointer (some ⟨S, 0, none⟩), .string ⟨s.toArray⟩] w fun e w' => ∃ v, e = .returned (.tuple #[v, .bool (decide (0 < (plc s).2))]) ∧ Owns w' w.heap.size 5 v (fldL l (plc s)) ∧ Below w.heap.size w w' := by
  unfold plc
  cases h : placeOf s with
  | none => exact field_none _ s w ⟨part_no S s hs h B w hF⟩
  | some p =>
    have h2 := (placeOf_fit h).2
    have hd : decide (0 < p.2) = true := decide_eq_true h2
    simp only [Option.getD_some, hd]
    exact field_is S e l hl s hs p.1 p.2 h B w hF hS
/-- what Set leaves, and what it tells -/
def setR (l : List UInt8) (s m : List UInt8) : List UInt8 × Int := if 0 < (plc s).2 ∧ m.length = (plc s).2 then (setL l (plc s).1 m, 0) else (l, 1)
theorem set_all (S : Nat) (e : TypeId) (l : List UInt8) (hl : l.length = 512) (s : List UInt8) (hs : s.length ≤ 1000) (v : Value) (m : List UInt8) (B : Nat) (w : World) (hF : Flds B w) (hS : BlkAt w S e l) (hr : Reads w (· < w.heap.size) v m) :
    Calls Tryd.prog 19 #[.pointer (some ⟨S, 0, none⟩), .string ⟨s.toArray⟩, v] w fun e' w' => e' = .returned (.int .i64 (setR l s m).2) ∧ BlkAt w' S e (setR l s m).1 ∧ Chg (fun b => b = S) w.heap.size w w' := by
  unfold setR plc
  cases h : placeOf s with
  | none =>
    simp only [Option.getD_none, Nat.lt_irrefl, false_and, if_false]
    refine (set_none _ v s w ⟨part_no S s hs h B w hF⟩).mono ?_
    rintro e' w' ⟨rfl, hb⟩
    exact ⟨rfl, hS.below hb hS.lt, Chg.of_below hb⟩
  | some p =>
    have h2 := (placeOf_fit h).2
    simp only [Option.getD_some]
    by_cases hm : m.length = p.2
    · rw [if_pos ⟨h2, hm⟩]
      exact set_is S e l hl s hs p.1 p.2 h v m hm B w hF hS hr
    · rw [if_neg (fun hh => hm hh.2)]
      refine (set_long S s hs p.1 p.2 h v m hm B w hF hr).mono ?_
      rintro e' w' ⟨rfl, hb⟩
      exact ⟨rfl, hS.below hb hS.lt, Chg.of_below hb⟩
theorem zero_eq {l : List UInt8} (hl : l.length = 512) : (l == List.replicate 512 0) = !l.any (· != 0) := by
  rw [Bool.eq_iff_iff, beq_iff_eq]
  simp only [Bool.not_eq_true', List.any_eq_false]
  constructor
  · rintro rfl x hx; simp [List.eq_of_mem_replicate hx]
  · intro h
    rw [List.eq_replicate_iff]
    exact ⟨hl, fun x hx => by simpa using h x hx⟩
end Go.Proofs.YtohballfhhndbaaDoor
