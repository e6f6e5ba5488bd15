/- path.Whiteout, Opaque; portolanlaw11.wakes. -/
import Derived.Test.YtkijhaibcnhedaaDoorPathClassB
namespace Go.Proofs.YtkijhaibcnhedaaDoor
open Go.RowKit
def whiteoutP (p : List UInt8) : List UInt8 := if p.isEmpty || !mayP p then [] else joinP [parentP p, whiteB ++ baseP p]
def opaqueP (d : List UInt8) : List UInt8 := if !mayP d then [] else joinP [d, markB]
theorem joinP_two_len (a b : List UInt8) : (joinP [a, b]).length ≤ a.length + b.length + 1 := by
  have h1 := joinS_filter_len (fun x => !x.isEmpty) [a, b] (by simp)
  have h2 : (joinS [a, b]).length = a.length + b.length + 1 := by simp [joinS]; omega
  unfold joinP
  omega
theorem rdS_two (w : World) (a b : List UInt8) : RdS (w.alloc (.cells #[strV a, strV b] 9)) (· < (w.alloc (.cells #[strV a, strV b] 9)).heap.size) (.slice (some ⟨w.heap.size, 0, none⟩) 2 2) [a, b] :=
  RdV.new 9 [strV a, strV b] 1 2 _ rfl rfl (by unfold maxLen; omega) (by simp)
set_option maxHeartbeats 4000000 in
set_option maxRecDepth 100000 in
theorem white_any (p : List UInt8) (hp : p.length ≤ 1000000) (B : Nat) (w : World) (hB : B ≤ w.heap.size) (hM : Mx B w) :
    Calls Tryd.prog 21 #[.string ⟨p.toArray⟩] w fun e w' => e = .returned (.string ⟨(whiteoutP p).toArray⟩) ∧ Below w.heap.size w w' := by
  have HMY := Keep.keep (may_any p hp B w hB hM)
  have HPA := Keep.keep (fun w => parent_any p hp w)
  have HBA := Keep.keep (fun w => base_any p hp w)
  have hbn := bne_nil p
  have hpl : (parentP p).length ≤ p.length := by unfold parentP; simp; omega
  have hbl : (baseP p).length ≤ p.length := by unfold baseP; simp
  have hcat := run_cat (P := Tryd.prog) [46, 119, 104, 46] (baseP p) (by simp; omega)
  rw [show [46, 119, 104, 46] ++ baseP p = whiteB ++ baseP p from rfl] at hcat
  have hwl : (whiteB ++ baseP p).length ≤ p.length + 4 := by simp [whiteB]; omega
  have hjl := joinP_two_len (parentP p) (whiteB ++ baseP p)
  have HE : Keep (whiteoutP p = if p.isEmpty || !mayP p then [] else joinP [parentP p, whiteB ++ baseP p]) := ⟨rfl⟩
  generalize whiteoutP p = out at *
  generalize p.isEmpty = b1 at *
  generalize mayP p = b2 at *
  generalize parentP p = pa at *
  generalize hwb : whiteB ++ baseP p = wb at *
  generalize baseP p = ba at *
  have HJ := Keep.keep (fun v w (h : RdS w (· < w.heap.size) v [pa, wb]) => join_any v [pa, wb] w h (by simp) (by omega))
  clear hM hwb hpl hbl hwl hjl
  cases b1 with
  | true =>
    have HX : Keep (out = []) := ⟨by rw [HE.out]; rfl⟩
    go_enter Tryd.func21, Tryd.ntmps21
    go_wp2_with fail
    go_ret
    exact ⟨by rw [HX.out]; rfl, Below.refl _ _⟩
  | false =>
  cases b2 with
  | false =>
    have HX : Keep (out = []) := ⟨by rw [HE.out]; rfl⟩
    go_enter Tryd.func21, Tryd.ntmps21
    go_wp2_with fail
    refine HMY.out.mono ?_
    rintro e w1 ⟨rfl, hb1⟩
    go_wp2_with fail
    go_ret
    exact ⟨by rw [HX.out]; rfl, hb1⟩
  | true =>
    have HX : Keep (out = joinP [pa, wb]) := ⟨by rw [HE.out]; rfl⟩
    go_enter Tryd.func21, Tryd.ntmps21
    go_wp2_with fail
    refine HMY.out.mono ?_
    rintro e w1 ⟨rfl, hb1⟩
    have HB1 := Keep.keep hb1
    clear hb1
    go_wp2_with fail
    refine (HPA.out _).mono ?_
    rintro e w1' ⟨rfl, rfl⟩
    go_wp2_with fail
    refine (HBA.out _).mono ?_
    rintro e w1' ⟨rfl, rfl⟩
    go_wp2_with fail
    refine calls_at (R := fun wq => Below w1.heap.size w1 wq ∧ RdS wq (· < wq.heap.size) (.slice (some ⟨w1.heap.size, 0, none⟩) 2 2) [pa, wb]) ⟨(Below.refl _ _).alloc (Nat.le_refl _) _, rdS_two w1 pa wb⟩ ?_
    intro w2 H2
    refine (HJ.out _ w2 H2.out.2).mono ?_
    rintro e w3 ⟨rfl, hb3⟩
    have HB3 := Keep.keep (HB1.out.trans ((H2.out.1.trans (hb3.mono H2.out.1.size)).mono HB1.out.size))
    clear hb3
    go_wp2_with fail
    go_ret
    exact ⟨by rw [HX.out]; rfl, HB3.out⟩
set_option maxHeartbeats 4000000 in
set_option maxRecDepth 100000 in
theorem opaq_any (p : List UInt8) (hp : p.length ≤ 1000000) (B : Nat) (w : World) (hB : B ≤ w.heap.size) (hM : Mx B w) :
    Calls Tryd.prog 20 #[.string ⟨p.toArray⟩] w fun e w' => e = .returned (.string ⟨(opaqueP p).toArray⟩) ∧ Below w.heap.size w w' := by
  have HMY := Keep.keep (may_any p hp B w hB hM)
  have hjl := joinP_two_len p markB
  have HE : Keep (opaqueP p = if !mayP p then [] else joinP [p, markB]) := ⟨rfl⟩
  have hml : markB.length = 12 := rfl
  generalize opaqueP p = out at *
  generalize mayP p = b2 at *
  have HJ := Keep.keep (fun v w (h : RdS w (· < w.heap.size) v [p, markB]) => join_any v [p, markB] w h (by simp) (by omega))
  clear hM hjl hml
  cases b2 with
  | false =>
    have HX : Keep (out = []) := ⟨by rw [HE.out]; rfl⟩
    go_enter Tryd.func20, Tryd.ntmps20
    go_wp2_with fail
    refine HMY.out.mono ?_
    rintro e w1 ⟨rfl, hb1⟩
    go_wp2_with fail
    go_ret
    exact ⟨by rw [HX.out]; rfl, hb1⟩
  | true =>
    have HX : Keep (out = joinP [p, markB]) := ⟨by rw [HE.out]; rfl⟩
    go_enter Tryd.func20, Tryd.ntmps20
    go_wp2_with fail
    refine HMY.out.mono ?_
    rintro e w1 ⟨rfl, hb1⟩
    have HB1 := Keep.keep hb1
    clear hb1
    go_wp2_with fail
    refine calls_at (R := fun wq => Below w1.heap.size w1 wq ∧ RdS wq (· < wq.heap.size) (.slice (some ⟨w1.heap.size, 0, none⟩) 2 2) [p, markB]) ⟨(Below.refl _ _).alloc (Nat.le_refl _) _, rdS_two w1 p markB⟩ ?_
    intro w2 H2
    refine (HJ.out _ w2 H2.out.2).mono ?_
    rintro e w3 ⟨rfl, hb3⟩
    have HB3 := Keep.keep (HB1.out.trans ((H2.out.1.trans (hb3.mono H2.out.1.size)).mono HB1.out.size))
    clear hb3
    go_wp2_with fail
    go_ret
    exact ⟨by rw [HX.out]; rfl, HB3.out⟩
/-- two lists of names, compared -/
theorem sequal_any (v1 v2 : Value) (l1 l2 : List (List UInt8)) (w : World) (h1 : RdS w (· < w.heap.size) v1 l1) (h2 : RdS w (· < w.heap.size) v2 l2) (hn1 : l1.length ≤ 1000000000) (hn2 : l2.length ≤ 1000000000) :
    Calls Tryd.prog 11 #[v1, v2] w fun e w' => e = .returned (.bool (decide (l1 = l2))) ∧ Below w.heap.size w w' := by
  obtain ⟨a1, c1, rfl, hc1, -, g1⟩ := h1.shape
  obtain ⟨a2, c2, rfl, hc2, -, g2⟩ := h2.shape
  by_cases hl : l1.length = l2.length
  · rcases Nat.eq_zero_or_pos l1.length with h0 | h0
    · obtain rfl : l1 = [] := List.eq_nil_of_length_eq_zero h0
      obtain rfl : l2 = [] := List.eq_nil_of_length_eq_zero (by rw [← hl]; rfl)
      refine (Tryd.slices_Equal_string_empty a1 a2 c1 0 c2 w (by omega)).mono ?_
      rintro e w' ⟨rfl, rfl⟩
      exact ⟨rfl, Below.refl _ _⟩
    · rcases g1 with ⟨_, g1⟩ | ⟨b1, o1, rfl, -⟩
      · omega
      rcases g2 with ⟨_, g2⟩ | ⟨b2, o2, rfl, -⟩
      · omega
      have h := Tryd.slices_Equal_string b1 o1 l1.length c1 b2 o2 l2.length c2 (l1.map fun x => (⟨x.toArray⟩ : ByteArray)) (l2.map fun x => (⟨x.toArray⟩ : ByteArray)) w (by simp) (by simp) (by omega) (by omega)
        (fun j hj => by
          rw [List.length_map] at hj
          rw [h1.cell b1 o1 _ _ rfl j (strV l1[j]) (by simp [hj])]
          simp [List.getD_eq_getElem?_getD, hj, strV])
        (fun j hj => by
          rw [List.length_map] at hj
          rw [h2.cell b2 o2 _ _ rfl j (strV l2[j]) (by simp [hj])]
          simp [List.getD_eq_getElem?_getD, hj, strV])
      rw [List.take_of_length_le (by simp), List.take_of_length_le (by simp)] at h
      refine h.mono ?_
      rintro e w' ⟨rfl, q, rfl⟩
      refine ⟨?_, below_drewN' (Below.refl _ _) _⟩
      congr 2
      simp only [decide_eq_decide]
      constructor
      · intro e
        have := congrArg (List.map (fun b : ByteArray => b.data.toList)) e
        simpa [Function.comp_def] using this
      · rintro rfl; rfl
  · refine (Tryd.slices_Equal_string_lens a1 a2 l1.length c1 l2.length c2 w hl).mono ?_
    rintro e w' ⟨rfl, rfl⟩
    exact ⟨by rw [decide_eq_false (fun e => hl (by rw [e]))], Below.refl _ _⟩
end Go.Proofs.YtkijhaibcnhedaaDoor
