/- b[:i] OF A SLICE OF BYTES, and of any cells. -/
import Derived.Test.YtofficleahalaaaDoorSl
namespace Go.Proofs.YtofficleahalaaaDoor
open Go.RowKit
theorem slice_to {P : Program} {T e : TypeId} {z : Value} {bytes : Nat} (hT : SlTy P T e z bytes) (a : Option Addr) (n cap i : Nat) (k : IntKind) (hi : i ≤ cap) (w : World) :
    (Instr.slice T (.slice a n cap) none (some (.int k (i : Int))) none).run P w = .ok (.slice a i cap) w := by
  obtain ⟨inf, h1, h2, h3, h4⟩ := hT.i
  have he : P.elem T = e := by simp [Program.elem, hT.u]
  have hs : ∀ w, (sizeOf e).run P w = .ok 1 w := fun w => by simp [sizeOf, typeInfo, h1, h3]
  rw [run_slice_h w T a n cap (by rw [he]; exact hT.u) k (i : Int) (by omega) (by omega), he, hs]
  have ha : a.map (·.add 0) = a := by
    cases a <;> simp [Addr.add]
  simp [Result.andThen, sliced, ha]
theorem reads_to {w : World} {N : Nat → Prop} {a : Option Addr} {n cap : Nat} {l : List UInt8} (h : Reads w N (.slice a n cap) l) (i : Nat) (hi : i ≤ l.length) : Reads w N (.slice a i cap) (l.take i) := by
  obtain ⟨⟨a0, cap0, he0, g1, g2, g3⟩, hc⟩ := h
  injection he0 with e1 e2 e3
  subst e1 e2 e3
  have hl : (l.take i).length = i := by rw [List.length_take]; omega
  refine ⟨⟨a, cap, by rw [hl], by omega, g2, g3⟩, fun b off m c he1 j hj => ?_⟩
  injection he1 with e1 e2 e3
  subst e1 e3
  rw [hl] at hj
  rw [hc b off _ _ rfl j (by omega)]
  simp
end Go.Proofs.YtofficleahalaaaDoor
