/- pax: Put. -/
import Derived.Test.YtlhjehcfpnjbmaaDoorPaxSize
namespace Go.Proofs.YtlhjehcfpnjbmaaDoor
open Go.RowKit
/-- a record -/
abbrev R2 := List UInt8 × List UInt8
abbrev rv (p : R2) : Value := recV p.1 p.2
def rcells (l : List R2) : List Value := l.flatMap fun p => [.string ⟨p.1.toArray⟩, .string ⟨p.2.toArray⟩]
theorem rcells_nil : rcells [] = [] := rfl
theorem rcells_cons (p : R2) (l : List R2) : rcells (p :: l) = .string ⟨p.1.toArray⟩ :: .string ⟨p.2.toArray⟩ :: rcells l := rfl
theorem rcells_append (l m : List R2) : rcells (l ++ m) = rcells l ++ rcells m := by simp [rcells]
theorem rcells_length (l : List R2) : (rcells l).length = l.length * 2 := by
  induction l with
  | nil => rfl
  | cons p l ih => rw [rcells_cons]; simp [ih]; omega
theorem rcells_get (l : List R2) (i : Nat) (p : R2) (h : l[i]? = some p) : (rcells l)[i * 2]? = some (.string ⟨p.1.toArray⟩) ∧ (rcells l)[i * 2 + 1]? = some (.string ⟨p.2.toArray⟩) := by
  induction l generalizing i with
  | nil => simp at h
  | cons q l ih =>
    cases i with
    | zero => simp at h; subst h; exact ⟨rfl, rfl⟩
    | succ i =>
      have := ih i (by simpa using h)
      rw [show (i + 1) * 2 = i * 2 + 2 by omega, rcells_cons]
      exact ⟨by simpa using this.1, by simpa using this.2⟩
/-- records' text -/
def putT (l : List R2) : List UInt8 := l.flatMap fun p => recT p.1 p.2
def mayL (l : List R2) : Bool := l.all fun p => mayK p.1
theorem putT_append (l m : List R2) : putT (l ++ m) = putT l ++ putT m := by simp [putT]
theorem putT_cons (p : R2) (l : List R2) : putT (p :: l) = recT p.1 p.2 ++ putT l := rfl
/-- what stands at the i-th record of a slice of records -/
theorem RdV.recAt {w : World} {N : Nat → Prop} {l : List R2} {b off m cap : Nat} (h : RdV w N 2 (.slice (some ⟨b, off, none⟩) m cap) l.length (rcells l)) {i : Nat} {p : R2} (hp : l[i]? = some p) :
    w.cell? ⟨b, off + i * 2, none⟩ = some (.string ⟨p.1.toArray⟩) ∧ w.cell? ⟨b, off + i * 2 + 1, none⟩ = some (.string ⟨p.2.toArray⟩) := by
  have := rcells_get l i p hp
  exact ⟨h.cell b off m cap rfl _ _ this.1, by rw [Nat.add_assoc]; exact h.cell b off m cap rfl _ _ this.2⟩
set_option maxHeartbeats 1000000 in
set_option maxRecDepth 100000 in
theorem put1_any (k v : List UInt8) (w : World) :
    Calls Tryd.prog 22 #[recV k v] w fun e w' => e = .returned (.bool (!mayK k)) ∧ Below w.heap.size w w' := by
  have HM := Keep.keep (fun w' => may_any k v w')
  generalize mayK k = m at *
  go_enter Tryd.func22, Tryd.ntmps22
  go_wp2_with (go_at_call 23; ((with_reducible refine (HM.out _).mono ?_); rintro e w1 ⟨rfl, hb1⟩))
  go_ret
  exact ⟨rfl, ((Below.refl _ _).alloc (Nat.le_refl _) _).trans (hb1.mono (by simp))⟩
def badAt (l : List R2) : Int := match l.findIdx? (fun p => !mayK p.1) with | some i => i | none => -1
set_option maxHeartbeats 1000000 in
set_option maxRecDepth 100000 in
theorem ifun_any (sv : Value) (l : List R2) (w : World) (hl : l.length ≤ 1000000) (hr : RdV w (· < w.heap.size) 2 sv l.length (rcells l)) :
    Calls Tryd.prog 32 #[sv, .func (.func 22) #[] #[]] w fun e w' => e = .returned (.int .i64 (badAt l)) ∧ Below w.heap.size w w' := by
  obtain ⟨a, cap, rfl, hcap, hmx, hsh⟩ := hr.shape
  have HR := Keep.keep hr; have HSH := Keep.keep hsh
  have HP := Keep.keep (fun k v w' => put1_any k v w')
  clear hr hsh
  go_enter Tryd.func32, Tryd.ntmps32
  go_wp2_with fail
  go_loopg [5, 8] l.length (fun g _ u wx => ∃ i : Nat, i + g = l.length ∧ u = .int .i64 (i : Int) ∧ (∀ p ∈ l.take i, mayK p.1 = true) ∧ Below w.heap.size w wx)
  case atStart => exact ⟨0, by omega, rfl, by simp, Below.refl _ _⟩
  case round =>
    obtain ⟨i, hig, rfl, hno, hbw⟩ := hrel
    have HN := Keep.keep hno; have HB := Keep.keep hbw
    clear hno hbw
    cases gk with
    | zero =>
      obtain rfl : i = l.length := by omega
      go_wp2_with fail
      go_ret
      have hb : badAt l = -1 := by
        unfold badAt
        rw [List.findIdx?_eq_none_iff.2 (fun p hp => by have := HN.out p (by rw [List.take_length]; exact hp); simp [this])]
      exact ⟨by rw [hb]; rfl, HB.out⟩
    | succ g =>
      have hi : i < l.length := by omega
      obtain ⟨p, hp⟩ : ∃ p, l[i]? = some p := ⟨l[i], List.getElem?_eq_getElem hi⟩
      rcases HSH.out with ⟨rfl, hc0⟩ | ⟨b, off, rfl, hlt⟩
      · omega
      have hcells := (HR.out.below HB.out (fun _ h => h)).recAt hp
      obtain ⟨hc0, hc1⟩ := hcells
      have HPP := Keep.keep hp
      obtain ⟨k, v⟩ := p
      have HPC := Keep.keep (HP.out k v)
      clear hp
      cases hm : mayK k
      · rw [hm] at HPC
        have HM := Keep.keep hm
        clear hm
        go_wp2_with (go_at_call 22; ((with_reducible refine (HPC.out _).mono ?_); rintro e w1 ⟨rfl, hb1⟩))
        go_ret
        have hb : badAt l = (i : Int) := by
          unfold badAt
          have hfi : l.findIdx? (fun p => !mayK p.1) = some i := by
            rw [List.findIdx?_eq_some_iff_getElem]
            refine ⟨hi, ?_, fun j hj => ?_⟩
            · have := List.getElem?_eq_getElem hi
              rw [HPP.out] at this; injection this with this
              rw [← this]; simp [HM.out]
            · have hmem : l[j] ∈ l.take i := by
                rw [List.mem_take_iff_getElem]
                exact ⟨j, by omega, rfl⟩
              simp [HN.out _ hmem]
          rw [hfi]
        exact ⟨by rw [hb]; rfl, HB.out.trans (hb1.mono HB.out.size)⟩
      · rw [hm] at HPC
        have HM := Keep.keep hm
        clear hm
        go_wp2_with (go_at_call 22; ((with_reducible refine (HPC.out _).mono ?_); rintro e w1 ⟨rfl, hb1⟩))
        go_roundg g
        case measure => omega
        case rel =>
          refine ⟨i + 1, by omega, by simp, ?_, HB.out.trans (hb1.mono HB.out.size)⟩
          intro p hp
          rw [List.take_add_one, HPP.out] at hp
          rcases List.mem_append.1 hp with hp | hp
          · exact HN.out p hp
          · simp at hp; subst hp; exact HM.out
theorem badAt_neg (l : List R2) : decide (0 ≤ badAt l) = !l.all fun p => mayK p.1 := by
  unfold badAt
  cases h : l.findIdx? (fun p => !mayK p.1) with
  | none =>
    have := List.findIdx?_eq_none_iff.1 h
    have h2 : l.all (fun p => mayK p.1) = true := by
      rw [List.all_eq_true]; intro p hp; have := this p hp; simpa using this
    rw [h2]; rfl
  | some i =>
    obtain ⟨hi, h1, _⟩ := List.findIdx?_eq_some_iff_getElem.1 h
    have h2 : l.all (fun p => mayK p.1) = false := by
      rw [List.all_eq_false]; exact ⟨l[i], List.getElem_mem hi, by simpa using h1⟩
    rw [h2]; simp
set_option maxHeartbeats 1000000 in
set_option maxRecDepth 100000 in
theorem cfun_any (sv : Value) (l : List R2) (w : World) (hl : l.length ≤ 1000000) (hr : RdV w (· < w.heap.size) 2 sv l.length (rcells l)) :
    Calls Tryd.prog 21 #[sv, .func (.func 22) #[] #[]] w fun e w' => e = .returned (.bool (!l.all fun p => mayK p.1)) ∧ Below w.heap.size w w' := by
  have HI := Keep.keep (ifun_any sv l w hl hr)
  clear hr
  rw [← badAt_neg]
  generalize badAt l = z at *
  go_enter Tryd.func21, Tryd.ntmps21
  go_wp2_with (go_at_call 32; ((with_reducible refine HI.out.mono ?_); rintro e w1 ⟨rfl, hb1⟩))
  go_ret
  exact ⟨rfl, hb1⟩
end Go.Proofs.YtlhjehcfpnjbmaaDoor
