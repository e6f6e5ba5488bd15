/- b[i:] of whatever one-cell values. -/
import Derived.Test.YtohballfhhndbaaDoorGen2
import Derived.Test.YtohballfhhndbaaDoorSlFrom
namespace Go.Proofs.YtohballfhhndbaaDoor
open Go.RowKit
theorem slice_fromV {P : Program} {T e : TypeId} {z : Value} {bytes : Nat} (hT : SlTy P T e z bytes) (a : Option Addr) (n cap i : Nat) (k : IntKind) (hi : i ≤ n) (_hn : n ≤ cap) :
    ∃ a', (∀ w, (Instr.slice T (.slice a n cap) (some (.int k (i : Int))) none none).run P w = .ok (.slice a' (n - i) (cap - i)) w) ∧
      (∀ w N (vs : List Value), RdV w N 1 (.slice a n cap) n vs → RdV w N 1 (.slice a' (n - i) (cap - i)) (n - i) (vs.drop i)) := by
  obtain ⟨inf, h1, h2, h3, h4⟩ := hT.i
  have he : P.elem T = e := by simp [Program.elem, hT.u]
  have hs : ∀ w, (sizeOf e).run P w = .ok 1 w := fun w => by simp [sizeOf, typeInfo, h1, h3]
  refine ⟨if cap = i then a else a.map (·.add i), fun w => ?_, fun w N vs hr => ?_⟩
  · rw [run_slice_l w T a n cap (by rw [he]; exact hT.u) k (i : Int) (by omega) (by omega), he, hs]
    simp [Result.andThen, sliced]
  · have hlen := hr.len
    obtain ⟨_, ⟨a0, cap0, he0, g1, g2, g3⟩, hc⟩ := hr
    injection he0 with e1 e2 e3
    subst e1 e3
    refine ⟨by rw [List.length_drop]; omega, ⟨_, _, rfl, by omega, by omega, ?_⟩, fun b off m c he1 j u hj => ?_⟩
    · rcases g3 with ⟨rfl, rfl⟩ | ⟨b, off, rfl, hN⟩
      · exact .inl ⟨by split <;> rfl, by omega⟩
      · refine .inr ?_
        by_cases hci : cap = i
        · rw [if_pos hci]; exact ⟨b, off, rfl, hN⟩
        · rw [if_neg hci]; exact ⟨b, off + i, by simp [Addr.add_mid], hN⟩
    · injection he1 with e1 e2 e3
      have hj2 : j < (vs.drop i).length := (List.getElem?_eq_some_iff.1 hj).1
      rw [List.length_drop] at hj2
      rw [if_neg (by omega)] at e1
      rcases g3 with ⟨rfl, rfl⟩ | ⟨b', off', rfl, hN⟩
      · simp at e1
      · simp only [Option.map_some, Addr.add_mid, Option.some.injEq] at e1
        injection e1 with e1 e4 _
        subst e1 e4
        rw [Nat.add_assoc]
        exact hc b' off' _ _ rfl (i + j) u (by rw [← hj, List.getElem?_drop])
end Go.Proofs.YtohballfhhndbaaDoor
