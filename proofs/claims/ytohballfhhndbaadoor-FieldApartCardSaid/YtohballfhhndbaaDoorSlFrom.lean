/- b[i:] OF A SLICE OF BYTES. -/
import Derived.Test.YtohballfhhndbaaDoorSl
namespace Go.Proofs.YtohballfhhndbaaDoor
open Go.RowKit
theorem slice_from {P : Program} {T e : TypeId} {z : Value} {bytes : Nat} (hT : SlTy P T e z bytes) (a : Option Addr) (n cap i : Nat) (k : IntKind) (hi : i ≤ n) (_hn : n ≤ cap) :
    ∃ a', (∀ w, (Instr.slice T (.slice a n cap) (some (.int k (i : Int))) none none).run P w = .ok (.slice a' (n - i) (cap - i)) w) ∧
      (∀ w N (l : List UInt8), Reads w N (.slice a n cap) l → Reads w N (.slice a' (n - i) (cap - i)) (l.drop i)) := by
  obtain ⟨inf, h1, h2, h3, h4⟩ := hT.i
  have he : P.elem T = e := by simp [Program.elem, hT.u]
  have hs : ∀ w, (sizeOf e).run P w = .ok 1 w := fun w => by simp [sizeOf, typeInfo, h1, h3]
  refine ⟨if cap = i then a else a.map (·.add i), fun w => ?_, fun w N l hr => ?_⟩
  · rw [run_slice_l w T a n cap (by rw [he]; exact hT.u) k (i : Int) (by omega) (by omega), he, hs]
    simp [Result.andThen, sliced]
  · obtain ⟨⟨a0, cap0, he0, g1, g2, g3⟩, hc⟩ := hr
    injection he0 with e1 e2 e3
    subst e1 e2 e3
    refine ⟨⟨_, _, by rw [List.length_drop], by rw [List.length_drop]; omega, by omega, ?_⟩, fun b off m c he1 j hj => ?_⟩
    · rcases g3 with ⟨rfl, rfl⟩ | ⟨b, off, rfl, hN⟩
      · exact .inl ⟨by split <;> rfl, by omega⟩
      · refine .inr ?_
        by_cases hci : cap = i
        · rw [if_pos hci]; exact ⟨b, off, rfl, hN⟩
        · rw [if_neg hci]; exact ⟨b, off + i, by simp [Addr.add_mid], hN⟩
    · injection he1 with e1 e2 e3
      rw [List.length_drop] at hj
      rw [if_neg (by omega)] at e1
      rcases g3 with ⟨rfl, rfl⟩ | ⟨b', off', rfl, hN⟩
      · simp at e1
      · simp only [Option.map_some, Addr.add_mid, Option.some.injEq] at e1
        injection e1 with e1 e4 _
        subst e1 e4
        rw [Nat.add_assoc, hc b' off' _ _ rfl (i + j) (by omega)]
        simp
end Go.Proofs.YtohballfhhndbaaDoor
