/- path.May; what Clean asks of names. -/
import Derived.Test.YtkijhaibcnhedaaDoorPathFn3
namespace Go.Proofs.YtkijhaibcnhedaaDoor
open Go.RowKit
theorem spl_mem_len : ∀ (l : List UInt8), ∀ x ∈ spl l, x.length ≤ l.length
  | [], x, hx => by simp [spl] at hx; subst hx; exact Nat.le_refl _
  | c :: l, x, hx => by
    have ih := spl_mem_len l
    unfold spl at hx
    rw [List.length_cons]
    split at hx
    · rcases List.mem_cons.1 hx with rfl | hx
      · simp
      · have := ih x hx; omega
    · split at hx
      · obtain rfl := List.mem_singleton.1 hx; simp
      · rename_i h t he
        rw [he] at ih
        rcases List.mem_cons.1 hx with rfl | hx
        · have := ih h (by simp); simp; omega
        · have := ih x (by simp [hx]); omega
theorem splitP_mem_len (l : List UInt8) (x : List UInt8) (hx : x ∈ splitP l) : x.length ≤ l.length := by
  unfold splitP at hx
  split at hx
  · cases hx
  · exact spl_mem_len l x hx
theorem ent_mayc : ∀ args w, (callFunc 40 args).run Tryd.prog w = .ok (.enter 40 args) w := enters_of Tryd.func40 (by kernel_rfl) rfl
theorem ent_cl1 : ∀ args w, (callFunc 49 args).run Tryd.prog w = .ok (.enter 49 args) w := enters_of Tryd.func49 (by kernel_rfl) rfl
theorem ent_cl2 : ∀ args w, (callFunc 50 args).run Tryd.prog w = .ok (.enter 50 args) w := enters_of Tryd.func50 (by kernel_rfl) rfl
theorem mayc_any (s : List UInt8) (hs : s.length ≤ 1000000) (w : World) :
    Calls Tryd.prog 40 #[strV s] w fun e w' => e = .returned (.bool (!mayN s)) ∧ Below w.heap.size w w' := by
  have HM := Keep.keep (mayname_any s hs w)
  generalize mayN s = b at *
  unfold strV
  go_enter Tryd.func40, Tryd.ntmps40
  go_wp2_with fail
  refine HM.out.mono ?_
  rintro e w1 ⟨rfl, hb⟩
  go_wp2_with fail
  go_ret
  exact ⟨rfl, hb⟩
theorem cl1_any (s : List UInt8) (w : World) : Calls Tryd.prog 49 #[strV s] w fun e w' => e = .returned (.bool (s.isEmpty || s == [46])) ∧ Below w.heap.size w w' := by
  have e1 := bne_nil s
  unfold strV
  generalize s.isEmpty = b1 at *
  generalize hb2 : (s == [46]) = b2 at *
  cases b1 with
  | true =>
    go_enter Tryd.func49, Tryd.ntmps49
    go_wp2_with fail
    go_ret
    exact ⟨rfl, Below.refl _ _⟩
  | false =>
    go_enter Tryd.func49, Tryd.ntmps49
    go_wp2_with fail
    go_ret
    exact ⟨rfl, Below.refl _ _⟩
theorem cl2_any (s : List UInt8) (w : World) : Calls Tryd.prog 50 #[strV s] w fun e w' => e = .returned (.bool (decide (255 < s.length))) ∧ Below w.heap.size w w' := by
  have e1 : decide ((255 : Int) < (s.length : Int)) = decide (255 < s.length) := by simp only [decide_eq_decide]; omega
  unfold strV
  generalize decide (255 < s.length) = b1 at *
  go_enter Tryd.func50, Tryd.ntmps50
  go_wp2_with fail
  go_ret
  exact ⟨rfl, Below.refl _ _⟩
set_option maxHeartbeats 1000000 in
set_option maxRecDepth 100000 in
theorem may_any (p : List UInt8) (hp : p.length ≤ 1000000) (B : Nat) (w : World) (hB : B ≤ w.heap.size) (hM : Mx B w) :
    Calls Tryd.prog 10 #[.string ⟨p.toArray⟩] w fun e w' => e = .returned (.bool (mayP p)) ∧ Below w.heap.size w w' := by
  have HS := Keep.keep (split_any p hp B w hB hM)
  have HP : Keep (PredF 40 (fun s => !mayN s) (splitP p)) := ⟨fun x hx w => mayc_any x (Nat.le_trans (splitP_mem_len p x hx) hp) w⟩
  have hall : (splitP p).all mayN = !(splitP p).any (fun s => !mayN s) := by rw [List.all_eq_not_any_not]
  have HC := Keep.keep (fun v w (h : RdS w (· < w.heap.size) v (splitP p)) => cfunc_any 40 (fun s => !mayN s) v (splitP p) w ent_mayc HP.out h)
  unfold mayP
  rw [hall]
  have hq1 : decide ((p.length : Int) ≤ 4080) = decide (p.length ≤ 4080) := by simp only [decide_eq_decide]; omega
  have hq2 : decide (((splitP p).length : Int) < 255) = decide ((splitP p).length < 255) := by simp only [decide_eq_decide]; omega
  generalize decide (p.length ≤ 4080) = b1 at *
  generalize decide ((splitP p).length < 255) = b2 at *
  generalize (splitP p).any (fun s => !mayN s) = b3 at *
  clear hM HP hall
  go_enter Tryd.func10, Tryd.ntmps10
  go_wp2_with fail
  refine HS.out.mono ?_
  rintro e w1 ⟨v, rfl, ho, hb⟩
  have HO := Keep.keep ((ownsV_reads ho).mono (N' := (· < w1.heap.size)) (fun b hb => hb.2.1)); have HB := Keep.keep hb
  obtain ⟨a, c, rfl, -⟩ := (ownsV_reads ho).shape
  clear ho hb
  cases b1 with
  | false =>
    go_wp2_with fail
    go_ret
    exact ⟨rfl, HB.out⟩
  | true =>
  cases b2 with
  | false =>
    go_wp2_with fail
    go_ret
    exact ⟨rfl, HB.out⟩
  | true =>
    go_wp2_with fail
    refine (HC.out _ _ HO.out).mono ?_
    rintro e w2 ⟨rfl, hb2⟩
    have HB2 := Keep.keep (HB.out.trans (hb2.mono HB.out.size))
    clear hb2
    go_wp2_with fail
    go_ret
    exact ⟨rfl, HB2.out⟩
end Go.Proofs.YtkijhaibcnhedaaDoor
