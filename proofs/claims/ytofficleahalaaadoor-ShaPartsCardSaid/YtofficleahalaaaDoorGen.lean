/- MORE THAT IS ALIKE FROM LAW TO LAW: the memory's name at a call; memory that has only grown; a region that draws its order, by what holds after each set of its operations. -/
import Derived.Test.YtofficleahalaaaDoorLaw
import Derived.Test.YtofficleahalaaaDoorQCls
import Derived.Sort.Grow
namespace Go.Proofs.YtofficleahalaaaDoor
open Go.RowKit
theorem calls_at {P : Program} {f : FuncId} {args : Array Value} {W : World} {Q : Ending → World → Prop} {R : World → Prop} (h : R W) (k : ∀ w2, Keep (R w2) → Calls P f args w2 Q) : Calls P f args W Q := k W ⟨h⟩
theorem below_of_grow {w : World} {n : Nat} {os : Array Obj} : Below w.heap.size w (Sort.grow (w.drewN n) os) :=
  ⟨rfl, rfl, rfl, by simp [Sort.grow, World.drewN], fun b hb => by simp only [Sort.grow, World.drewN]; rw [Array.getElem?_append_left hb]⟩
section
variable {P : Program} {ops : Array Oper}
/-- A REGION THAT DRAWS ITS ORDER: Inv says what holds when the operations marked in 'done' have run, whichever they are -/
theorem wp_region_inv {id : Nat} {Q : Exit → Act → World → Prop} {a : Act} {w : World} (Inv : Array Bool → Act → World → Prop) (hm : P.follows .mixedOrders = true)
    (h0 : Inv (Array.replicate ops.size false) a w.drew)
    (hs : ∀ done a w, Inv done a w → done.size = ops.size → ∀ i ∈ Region.ready .any ops done, wpOp P ops Q i (Inv (done.setIfInBounds i true)) a w)
    (he : ∀ done a w, Inv done a w → done.size = ops.size → Region.ready .any ops done = [] → Q .normal a w) : (Code.region id ops true).wp P Q a w := by
  refine wp_region_any hm ?_
  have key : ∀ (f : Nat) (done : Array Bool) (a : Act) (w : World), Inv done a w → done.size = ops.size → (done.toList.filter (· == false)).length ≤ f → wpAny P .any ops Q f done a w := by
    intro f
    induction f with
    | zero =>
      intro done a w hI hsz hf
      have hr : Region.ready .any ops done = [] := by
        refine List.eq_nil_iff_forall_not_mem.2 fun i hi => ?_
        have h1 := (mem_ready.1 hi).1
        have hlt : i < done.size := by
          rcases Nat.lt_or_ge i done.size with h | h
          · exact h
          · simp [Array.getD_eq_getD_getElem?, Array.getElem?_eq_none h] at h1
        have hmem : false ∈ done.toList.filter (· == false) := by
          refine List.mem_filter.2 ⟨?_, rfl⟩
          have : done[i] = false := by simpa [Array.getD_eq_getD_getElem?, Array.getElem?_eq_getElem hlt] using h1
          rw [← this]; simp
        have h0 : (done.toList.filter (· == false)) = [] := List.length_eq_zero_iff.1 (by omega)
        rw [h0] at hmem
        cases hmem
      exact ⟨hr, he done a w hI hsz hr⟩
    | succ f ih =>
      intro done a w hI hsz hf
      refine ⟨fun hr => he done a w hI hsz hr, fun i hi => ?_⟩
      have h1 := (mem_ready.1 hi).1
      have hlt : i < done.size := by
        rcases Nat.lt_or_ge i done.size with h | h
        · exact h
        · simp [Array.getD_eq_getD_getElem?, Array.getElem?_eq_none h] at h1
      refine wpOp_mono (fun a' w' h' => ih _ a' w' h' (by simpa using hsz) ?_) (hs done a w hI hsz i hi)
      have hfi : done.toList[i]? = some false := by
        simpa [Array.getD_eq_getD_getElem?, Array.getElem?_eq_getElem hlt] using h1
      have hl : i < done.toList.length := by simpa using hlt
      rw [Array.toList_setIfInBounds]
      have hsplit : done.toList = done.toList.take i ++ false :: done.toList.drop (i + 1) := by
        have e1 : done.toList[i] = false := by rw [List.getElem?_eq_getElem hl] at hfi; injection hfi
        conv => lhs; rw [← List.take_append_drop i done.toList]
        rw [List.drop_eq_getElem_cons hl, e1]
      have hset : done.toList.set i true = done.toList.take i ++ true :: done.toList.drop (i + 1) := by
        rw [List.set_eq_take_append_cons_drop, if_pos hl]
      rw [hset]
      rw [hsplit] at hf
      simp at hf ⊢
      omega
  refine key ops.size _ a _ h0 (by simp) ?_
  simp
end
end Go.Proofs.YtofficleahalaaaDoor
