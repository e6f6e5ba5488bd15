/- string(b) of what reads as bytes; []byte of a text that is written out. -/
import Derived.Test.YtofficleahalaaaDoorHp
import Derived.Shelf.Bytes.SlEqualAll
import Derived.Lib.SlBytesConst
import Derived.Lib.SmallJoins
namespace Go.Proofs.YtofficleahalaaaDoor
open Go.RowKit
def ints (l : List UInt8) : List Int := l.map fun c => (c.toNat : Int)
theorem ints_length (l : List UInt8) : (ints l).length = l.length := by simp [ints]
theorem bytesOf_ints (l : List UInt8) : Lib.bytesOf (ints l) = l := by simp [Lib.bytesOf, ints, Function.comp_def]
theorem ints_cells (l : List UInt8) : (ints l).map (Value.int .u8) = bcells l := by simp [ints, bcells, Function.comp_def]
theorem Reads.bytesIn {w : World} {N : Nat → Prop} {p : Option Addr} {n c : Nat} {l : List UInt8} (h : Reads w N (.slice p n c) l) : n = l.length ∧ Lib.BytesIn w p n (ints l) := by
  obtain ⟨⟨a, cap, he, h1, h2, h3⟩, hc⟩ := h
  injection he with e1 e2 e3; subst e1 e2 e3
  refine ⟨rfl, fun hn => ?_⟩
  rcases h3 with h3 | ⟨b, off, rfl, _⟩
  · omega
  · refine ⟨b, off, rfl, fun i hi => ?_⟩
    rw [hc b off _ _ rfl i hi]
    simp [ints, List.getD_eq_getElem?_getD, hi]
theorem run_string_of {w : World} {N : Nat → Prop} {v : Value} {l : List UInt8} (h : Reads w N v l) : (convert 22 9 v).run Tryd.prog w = .ok (.string ⟨l.toArray⟩) w := by
  obtain ⟨a, cap, hu, _⟩ := h.shape
  subst hu
  have := Lib.BytesIn.convert h.bytesIn.2 (ints_length l) cap 22 5 9 Tryd.underlying22 Tryd.underlying5 Tryd.underlying9
  rw [this]
  rw [show strOfNums (ints l) = ⟨l.toArray⟩ by simp [strOfNums, ints, Function.comp_def]]
/-- []byte of a text that is written out: the row that the walk leaves -/
theorem Reads.lit {w : World} (e : TypeId) (c : Array Value) (l : List UInt8) (fr : Nat × Nat) (g n : Nat) (hg : g = w.heap.size) (hc : c = (bcells l).toArray) (hn : n = l.length) (hm : l.length ≤ maxLen) : Reads (w.alloc (.cells c e fr)) (fun b => b = w.heap.size) (.slice (some ⟨g, 0, none⟩) n n) l := by
  subst hg hc hn
  refine ⟨⟨_, _, rfl, Nat.le_refl _, hm, .inr ⟨_, _, rfl, rfl⟩⟩, fun b off m cap he j hj => ?_⟩
  injection he with e1 _ _; injection e1 with e1; injection e1 with e1 e2 _; subst e1 e2
  rw [World.cell?_alloc_mark, Nat.zero_add]
  simpa using bcells_get l j hj
/-- .. as a rule of the walk -/
theorem convB (w : World) (C : Array Value) (n c g : Nat) (hg : g = w.heap.size) : (convert 22 22 (.slice (some ⟨g, 0, none⟩) n c)).run Tryd.prog (w.alloc (.cells C 5)) = .ok (.slice (some ⟨g, 0, none⟩) n c) (w.alloc (.cells C 5 (C.size, C.size + 1))) :=
  Go.Joins.run_convert_bytes_const_at w 22 5 C n c g hg Tryd.underlying22 Tryd.underlying5
end Go.Proofs.YtofficleahalaaaDoor
