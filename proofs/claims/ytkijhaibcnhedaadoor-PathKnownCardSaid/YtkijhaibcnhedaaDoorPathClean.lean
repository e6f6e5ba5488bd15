/- path.Clean. -/
import Derived.Test.YtkijhaibcnhedaaDoorPathDel
import Derived.Lib.SlicesS
namespace Go.Proofs.YtkijhaibcnhedaaDoor
open Go.RowKit
theorem has_any (c : UInt8) (s : List UInt8) (w : World) : Calls Tryd.prog 46 #[.string ⟨s.toArray⟩, .string ⟨#[c]⟩] w fun e w' => e = .returned (.bool (s.contains c)) ∧ w' = w := by
  refine (Tryd.strings_Contains_one ⟨s.toArray⟩ c w).mono ?_
  rintro e w' ⟨rfl, rfl⟩
  refine ⟨?_, rfl⟩
  have : decide (0 ≤ Lib.indexByte s c) = s.contains c := by
    rcases first_of c s with ⟨h1, h2⟩ | ⟨o, h1, h2, h3, h4⟩
    · rw [h1]
      cases hc : s.contains c with
      | false => rfl
      | true => exact (h2 c (by simpa using hc) rfl).elim
    · rw [h1, decide_eq_true (by omega)]
      have h4 := (Lib.indexByte_some h1).1
      have : c ∈ s := List.mem_of_getElem? h4
      simpa using this
  rw [← this]
theorem scont_any (v : Value) (l : List (List UInt8)) (x : List UInt8) (w : World) (hr : RdS w (· < w.heap.size) v l) (hn : l.length ≤ 1000000000) :
    Calls Tryd.prog 47 #[v, .string ⟨x.toArray⟩] w fun e w' => e = .returned (.bool (l.contains x)) ∧ w' = w := by
  obtain ⟨a, cap, rfl, hcap, hmx, h3⟩ := hr.shape
  rcases h3 with ⟨rfl, h3⟩ | ⟨b, off, rfl, hb⟩
  · obtain rfl : l = [] := List.eq_nil_of_length_eq_zero (by omega)
    exact Tryd.slices_Contains_string_empty none cap ⟨x.toArray⟩ w
  · have h := Tryd.slices_Contains_string b off l.length cap (l.map fun x => (⟨x.toArray⟩ : ByteArray)) ⟨x.toArray⟩ w (by simp) (by omega) (fun j hj => by
      rw [List.length_map] at hj
      rw [hr.cell b off _ _ rfl j (strV l[j]) (by simp [hj])]
      simp [List.getD_eq_getElem?_getD, hj, strV])
    rw [List.take_of_length_le (by simp)] at h
    have e : Lib.containsS (l.map fun x => (⟨x.toArray⟩ : ByteArray)) ⟨x.toArray⟩ = l.contains x := by
      rw [Bool.eq_iff_iff, Lib.containsS_iff]
      simp
    rw [e] at h
    exact h
theorem keptP_mem_len (l : List UInt8) (x : List UInt8) (hx : x ∈ keptP l) : x.length ≤ l.length := spl_mem_len l x (List.mem_filter.1 hx).1
theorem keptP_len (l : List UInt8) : (keptP l).length ≤ l.length + 1 := Nat.le_trans (List.length_filter_le _ _) (spl_length l)
/-- what is joined of some of the parts is no longer -/
theorem joinS_len : ∀ l : List (List UInt8), l ≠ [] → (joinS l).length + 1 = (l.map fun x => x.length + 1).sum
  | [], h => absurd rfl h
  | [x], _ => by simp [joinS]
  | x :: y :: r, _ => by
    have ih := joinS_len (y :: r) (by simp)
    rw [joinS, List.length_append, List.length_cons, List.map_cons, List.sum_cons, ← ih]
    omega
theorem joinS_filter_len (p : List UInt8 → Bool) (l : List (List UInt8)) (h : l ≠ []) : (joinS (l.filter p)).length ≤ (joinS l).length := by
  have h1 := joinS_len l h
  have h2 : ∀ l : List (List UInt8), ((l.filter p).map fun x => x.length + 1).sum ≤ (l.map fun x => x.length + 1).sum := by
    intro l
    induction l with
    | nil => simp
    | cons x l ih =>
      rw [List.filter_cons]
      split
      · simp only [List.map_cons, List.sum_cons]; omega
      · simp only [List.map_cons, List.sum_cons]; omega
  have h3 := h2 l
  by_cases he : l.filter p = []
  · rw [he]; simp [joinS]
  · have := joinS_len _ he
    omega
theorem keptP_join (l : List UInt8) : (joinS (keptP l)).length ≤ l.length := by
  have := joinS_filter_len (fun s => !(s.isEmpty || s == [46])) (spl l) (spl_ne l)
  rw [joinS_spl] at this
  exact this
set_option maxHeartbeats 4000000 in
set_option maxRecDepth 100000 in
theorem clean_any (l : List UInt8) (hl : l.length ≤ 1000000) (B : Nat) (w : World) (hB : B ≤ w.heap.size) (hM : Mx B w) :
    Calls Tryd.prog 22 #[.string ⟨l.toArray⟩] w fun e w' => e = .returned (.tuple #[.string ⟨(cleanP l).1.toArray⟩, .int .i64 (cleanP l).2]) ∧ Below w.heap.size w w' := by
  have HS := Keep.keep (ssplit_any l hl B w hB hM)
  have HH := Keep.keep (fun w => has_any 0 l w)
  have HP : Keep (∀ w, Calls Tryd.prog 17 #[.string ⟨l.toArray⟩, .string ⟨#[47]⟩] w fun e w' => e = .returned (.bool (([47] : List UInt8).isPrefixOf l)) ∧ w' = w) := ⟨fun w => Tryd.strings_HasPrefix _ _ w⟩
  have hsl := spl_length l
  have HC := Keep.keep (fun v w (h : RdS w (· < w.heap.size) v (spl l)) => scont_any v (spl l) [46, 46] w h (by omega))
  have HD := Keep.keep (fun v w base (h : OwnS w base v (spl l)) => dfunc_any 49 (fun s => s.isEmpty || s == [46]) v (spl l) base w ent_cl1 (fun x _ w => cl1_any x w) h)
  rw [show ((spl l).filter fun x => !(x.isEmpty || x == [46])) = keptP l from rfl] at HD
  have hkl := keptP_len l
  have hkj := keptP_join l
  have HJ := Keep.keep (fun v w (h : RdS w (· < w.heap.size) v (keptP l)) => sjoin_any v (keptP l) w h (by omega) (by omega))
  have HF := Keep.keep (fun v w (h : RdS w (· < w.heap.size) v (keptP l)) => cfunc_any 50 (fun s => decide (255 < s.length)) v (keptP l) w ent_cl2 (fun x _ w => cl2_any x w) h)
  have hq1 : decide ((255 : Int) < ((keptP l).length : Int)) = decide (255 < (keptP l).length) := by simp only [decide_eq_decide]; omega
  have hq2 : decide ((4096 : Int) < ((joinS (keptP l)).length : Int)) = decide (4096 < (joinS (keptP l)).length) := by simp only [decide_eq_decide]; omega
  have HE : Keep (cleanP l = if l.contains 0 || ([47] : List UInt8).isPrefixOf l || (spl l).contains [46, 46] then ([], 30) else if decide (255 < (keptP l).length) || decide (4096 < (joinS (keptP l)).length) || (keptP l).any (fun s => decide (255 < s.length)) then ([], 3) else (joinS (keptP l), 0)) := ⟨rfl⟩
  generalize cleanP l = out at *
  generalize l.contains 0 = b1 at *
  generalize ([47] : List UInt8).isPrefixOf l = b2 at *
  generalize (spl l).contains [46, 46] = b3 at *
  generalize decide (255 < (keptP l).length) = b4 at *
  generalize decide (4096 < (joinS (keptP l)).length) = b5 at *
  generalize (keptP l).any (fun s => decide (255 < s.length)) = b6 at *
  clear hM hkl hkj
  go_enter Tryd.func22, Tryd.ntmps22
  go_wp2_with fail
  refine HS.out.mono ?_
  rintro e w1 ⟨v, rfl, ⟨b, rfl⟩, ho, hb⟩
  have HO := Keep.keep ho; have HB := Keep.keep hb
  have HR := Keep.keep ((ownsV_reads ho).mono (N' := (· < w1.heap.size)) (fun b hb => hb.2.1))
  clear ho hb HS
  go_wp2_with fail
  refine (HH.out _).mono ?_
  rintro e w1' ⟨rfl, rfl⟩
  cases b1 with
  | true =>
    have HX : Keep (out = ([], 30)) := ⟨by rw [HE.out]; rfl⟩
    go_wp2_with fail
    go_ret2
    exact ⟨by rw [HX.out]; rfl, HB.out⟩
  | false =>
  go_wp2_with fail
  refine (HP.out _).mono ?_
  rintro e w1' ⟨rfl, rfl⟩
  cases b2 with
  | true =>
    have HX : Keep (out = ([], 30)) := ⟨by rw [HE.out]; rfl⟩
    go_wp2_with fail
    go_ret2
    exact ⟨by rw [HX.out]; rfl, HB.out⟩
  | false =>
  go_wp2_with fail
  refine (HC.out _ _ HR.out).mono ?_
  rintro e w1' ⟨rfl, rfl⟩
  cases b3 with
  | true =>
    have HX : Keep (out = ([], 30)) := ⟨by rw [HE.out]; rfl⟩
    go_wp2_with fail
    go_ret2
    exact ⟨by rw [HX.out]; rfl, HB.out⟩
  | false =>
  go_wp2_with fail
  refine (HD.out _ _ _ HO.out).mono ?_
  rintro e w2 ⟨v2, rfl, ho2, hbk, hc2⟩
  have HB2 : Keep (Below w.heap.size w w2) := ⟨HB.out.trans ((hc2.lower HB.out.size).below (fun k hk e => by have := (ownsV_lt HO.out k e).1; omega))⟩
  have HR2 := Keep.keep ((ownsV_reads ho2).mono (N' := (· < w2.heap.size)) (fun b hb => hb.2.1))
  obtain ⟨a2, c2, rfl, -⟩ := (ownsV_reads ho2).shape
  clear ho2 hbk hc2 HR HO HC HD
  go_wp2_with fail
  refine (HJ.out _ _ HR2.out).mono ?_
  rintro e w3 ⟨rfl, hb3⟩
  have HB3 := Keep.keep (HB2.out.trans (hb3.mono HB2.out.size))
  have HR3 := Keep.keep ((HR2.out.below hb3 (fun b hb => hb)).mono (N' := (· < w3.heap.size)) (fun b hb => Nat.lt_of_lt_of_le hb hb3.size))
  clear hb3 HJ HR2
  cases b4 with
  | true =>
    have HX : Keep (out = ([], 3)) := ⟨by rw [HE.out]; rfl⟩
    go_wp2_with fail
    go_ret2
    exact ⟨by rw [HX.out]; rfl, HB3.out⟩
  | false =>
  cases b5 with
  | true =>
    have HX : Keep (out = ([], 3)) := ⟨by rw [HE.out]; rfl⟩
    go_wp2_with fail
    go_ret2
    exact ⟨by rw [HX.out]; rfl, HB3.out⟩
  | false =>
  go_wp2_with fail
  refine (HF.out _ _ HR3.out).mono ?_
  rintro e w4 ⟨rfl, hb4⟩
  have HB4 := Keep.keep (HB3.out.trans (hb4.mono HB3.out.size))
  clear hb4
  cases b6 with
  | true =>
    have HX : Keep (out = ([], 3)) := ⟨by rw [HE.out]; rfl⟩
    go_wp2_with fail
    go_ret2
    exact ⟨by rw [HX.out]; rfl, HB4.out⟩
  | false =>
    have HX : Keep (out = (joinS (keptP l), 0)) := ⟨by rw [HE.out]; rfl⟩
    go_wp2_with fail
    go_ret2
    exact ⟨by rw [HX.out]; rfl, HB4.out⟩
end Go.Proofs.YtkijhaibcnhedaaDoor
