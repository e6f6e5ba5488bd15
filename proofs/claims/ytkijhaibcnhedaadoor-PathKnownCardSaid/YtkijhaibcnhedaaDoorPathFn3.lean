/- path.Join, path.Above. -/
import Derived.Test.YtkijhaibcnhedaaDoorPathFn2
namespace Go.Proofs.YtkijhaibcnhedaaDoor
open Go.RowKit
/-- the names that are none are left out -/
abbrev flt (l : List (List UInt8)) : List (List UInt8) := l.filter fun x => !x.isEmpty
theorem flt_take {l : List (List UInt8)} {k : Nat} (hk : k < l.length) : flt (l.take (k + 1)) = if l[k].isEmpty then flt (l.take k) else flt (l.take k) ++ [l[k]] := by
  rw [List.take_succ_eq_append_getElem hk, flt, List.filter_append]
  cases h : l[k].isEmpty
  · rw [List.filter_cons_of_pos (by simp [h])]; rfl
  · rw [List.filter_cons_of_neg (by simp [h])]; simp
theorem sjoin_any (v : Value) (l : List (List UInt8)) (w : World) (hr : RdS w (· < w.heap.size) v l) (hn : l.length ≤ 1000000000) (hj : (joinS l).length ≤ 1000000000) :
    Calls Tryd.prog 38 #[v, .string ⟨#[47]⟩] w fun e w' => e = .returned (.string ⟨(joinS l).toArray⟩) ∧ Below w.heap.size w w' := by
  obtain ⟨a, cap, rfl, hcap, hmx, h3⟩ := hr.shape
  have hx : (l.map fun x => (⟨x.toArray⟩ : ByteArray)).map (·.data.toList) = l := by simp [Function.comp_def]
  rcases h3 with ⟨rfl, h3⟩ | ⟨b, off, rfl, hb⟩
  · obtain rfl : l = [] := List.eq_nil_of_length_eq_zero (by omega)
    refine (Tryd.strings_Join_none none cap ⟨#[47]⟩ w).mono ?_
    rintro e w' ⟨rfl, rfl⟩
    exact ⟨rfl, Below.refl _ _⟩
  · have h := Tryd.strings_Join b off cap (l.map fun x => (⟨x.toArray⟩ : ByteArray)) ⟨#[47]⟩ w (fun j x hj => by
      rw [List.getElem?_map] at hj
      obtain ⟨y, hy, rfl⟩ := Option.map_eq_some_iff.1 hj
      exact hr.cell b off _ _ rfl j (strV y) (by rw [List.getElem?_map, hy]; rfl)) hb (by simp; omega) (by simpa using hcap) (by rw [hx, join_eq]; omega)
    rw [hx, join_eq, List.length_map] at h
    exact h
set_option maxHeartbeats 1000000 in
set_option maxRecDepth 100000 in
theorem join_any (v : Value) (l : List (List UInt8)) (w : World) (hr : RdS w (· < w.heap.size) v l) (hn : l.length ≤ 1000000000) (hj : (joinP l).length ≤ 1000000000) :
    Calls Tryd.prog 9 #[v] w fun e w' => e = .returned (.string ⟨(joinP l).toArray⟩) ∧ Below w.heap.size w w' := by
  obtain ⟨a, cap, rfl, hcap, hmx, h3⟩ := hr.shape
  have HR := Keep.keep hr; have H3 := Keep.keep h3; have HJ := Keep.keep hj
  unfold maxLen at hmx
  clear hr h3 hj
  go_enter Tryd.func9, Tryd.ntmps9
  go_wp2_with fail
  go_loopg [3, 5, 8] l.length (fun g u3 _ u8 wx => ∃ k : Nat, k + g = l.length ∧ u8 = .int .i64 (k : Int) ∧ Hp NoM w wx [slA w.heap.size 9 1 u3 (flt (l.take k)).length ((flt (l.take k)).map strV)])
  case atStart => exact ⟨0, by omega, rfl, (Hp.begin NoM w).nilS _ _ _⟩
  case round =>
    obtain ⟨k, hkg, rfl, hH⟩ := hrel
    have HH := Keep.keep hH
    have hown := hH.sl 0 rfl
    obtain ⟨a3, c3, rfl, -⟩ := (ownsV_reads hown).shape
    have HO := Keep.keep hown
    clear hH hown
    cases gk with
    | zero =>
      obtain rfl : k = l.length := by omega
      have HS : Keep (RdS wr (· < wr.heap.size) (.slice a3 (flt l).length c3) (flt l)) := ⟨by
        have := ownsV_reads HO.out
        rw [List.take_length] at this
        exact this.mono (fun b hb => hb.2.1)⟩
      have hnl : (flt (l.take l.length)).length = (flt l).length := by rw [List.take_length]
      have HC := Keep.keep (sjoin_any _ (flt l) wr HS.out (Nat.le_trans (List.length_filter_le _ _) hn) HJ.out)
      rw [hnl]
      go_wp2_with fail
      refine HC.out.mono ?_
      rintro e w2 ⟨rfl, hb2⟩
      have HB := Keep.keep (HH.out.below.trans (hb2.mono HH.out.size))
      clear hb2
      go_wp2_with fail
      go_ret
      exact ⟨rfl, HB.out⟩
    | succ g =>
      have hk : k < l.length := by omega
      rcases H3.out with ⟨_, h3⟩ | ⟨b, off, rfl, hbl⟩
      · omega
      have hcell := (HR.out.below HH.out.below (fun b hb => hb)).cell b off _ _ rfl k (strV l[k]) (by simp [hk])
      have hft := flt_take hk
      have hfl : (flt (l.take k)).length ≤ l.length := Nat.le_trans (List.length_filter_le _ _) (by rw [List.length_take]; omega)
      have heq := bne_nil l[k]
      cases hem : l[k].isEmpty with
      | true =>
        rw [hem] at hft heq
        rw [if_pos rfl] at hft
        have HFT := Keep.keep hft
        clear hft hfl hem
        generalize l[k] = x at *
        unfold strV at hcell
        go_wp2_with fail
        go_roundg g
        case measure => omega
        case rel => exact ⟨k + 1, by omega, by simp, by rw [HFT.out]; exact HH.out⟩
      | false =>
        rw [hem] at hft heq
        rw [if_neg (by decide)] at hft
        have HFT := Keep.keep hft
        clear hft hem
        generalize l[k] = x at *
        unfold strV at hcell
        go_wp2_with (with_reducible refine arm_stop ?_)
        refine Stopped.out ?_
        refine arm_appendV slS ((HH.out.alloc _).sl 0 rfl) (RdV.new (N := fun _ => True) 9 [strV x] 1 1 _ rfl rfl (by unfold maxLen; omega) trivial) (by simp [strV, Value.oneCell']) (by unfold maxLen; omega) (by omega) (by simp; have := HH.out.size; omega) rfl rfl ?_
        intro v' w' ho hg hb _
        have HG := Keep.keep ((HH.out.alloc _).grow 0 rfl hg ho hb)
        obtain ⟨a4, c4, rfl, -⟩ := (ownsV_reads ho).shape
        clear ho hg hb
        simp only [Act.put, List.setIfInBounds_toArray, List.set_cons_succ, List.set_cons_zero]
        go_wp2_with fail
        go_roundg g
        case measure => omega
        case rel => exact ⟨k + 1, by omega, by simp, by rw [HFT.out, List.length_append, List.map_append]; exact HG.out⟩
def abvT (p : List UInt8) (k : Nat) : List (List UInt8) := (List.range k).filterMap fun i => if p[i]? = some 47 then some (p.take i) else none
theorem abvT_all (p : List UInt8) : abvT p p.length = aboveP p := rfl
theorem abvT_succ (p : List UInt8) (k : Nat) (hk : k < p.length) : abvT p (k + 1) = if p[k] = 47 then abvT p k ++ [p.take k] else abvT p k := by
  unfold abvT
  rw [List.range_succ, List.filterMap_append]
  by_cases h : p[k] = 47
  · rw [if_pos h]; simp [hk, h]
  · rw [if_neg h]; simp [hk, h]
theorem abvT_len (p : List UInt8) (k : Nat) : (abvT p k).length ≤ k := by
  unfold abvT
  exact Nat.le_trans (List.length_filterMap_le _ _) (by simp)
set_option maxHeartbeats 1000000 in
set_option maxRecDepth 100000 in
theorem above_any (p : List UInt8) (hp : p.length ≤ 1000000) (w : World) :
    Calls Tryd.prog 16 #[.string ⟨p.toArray⟩] w fun e w' => ∃ v, e = .returned v ∧ OwnS w' w.heap.size v (aboveP p) ∧ Below w.heap.size w w' := by
  go_enter Tryd.func16, Tryd.ntmps16
  go_wp2_with fail
  go_loopg [3, 4, 7] p.length (fun g u3 _ u7 wx => ∃ k : Nat, k + g = p.length ∧ u7 = .int .i64 (k : Int) ∧ Hp NoM w wx [slA w.heap.size 9 1 u3 (abvT p k).length ((abvT p k).map strV)])
  case atStart => exact ⟨0, by omega, rfl, (Hp.begin NoM w).nilS _ _ _⟩
  case round =>
    obtain ⟨k, hkg, rfl, hH⟩ := hrel
    have HH := Keep.keep hH
    have hown := hH.sl 0 rfl
    obtain ⟨a3, c3, rfl, -⟩ := (ownsV_reads hown).shape
    have HO := Keep.keep hown
    clear hH hown
    cases gk with
    | zero =>
      obtain rfl : k = p.length := by omega
      go_wp2_with fail
      go_ret
      exact ⟨_, rfl, HO.out, HH.out.below⟩
    | succ g =>
      have hk : k < p.length := by omega
      have hidx := run_index_str (P := Tryd.prog) Tryd.underlying9 ⟨p.toArray⟩ .i64 k p[k] (by simp [hk])
      have hgi : (⟨p.toArray⟩ : ByteArray)[k]'(hk) = p[k] := rfl
      have hst := run_slice_to (P := Tryd.prog) Tryd.underlying9 p .i64 k (by omega)
      have hsu := abvT_succ p k hk
      have hal := abvT_len p k
      by_cases h47 : p[k] = 47
      · rw [if_pos h47] at hsu
        rw [h47] at hgi hidx
        have HS := Keep.keep hsu
        clear hsu h47
        generalize p.take k = x at *
        go_wp2_with (with_reducible refine arm_stop ?_)
        refine Stopped.out ?_
        refine arm_appendV slS ((HH.out.alloc _).sl 0 rfl) (RdV.new (N := fun _ => True) 9 [strV x] 1 1 _ rfl rfl (by unfold maxLen; omega) trivial) (by simp [strV, Value.oneCell']) (by unfold maxLen; omega) (by omega) (by simp; have := HH.out.size; omega) rfl rfl ?_
        intro v' w' ho hg hb _
        have HG := Keep.keep ((HH.out.alloc _).grow 0 rfl hg ho hb)
        obtain ⟨a4, c4, rfl, -⟩ := (ownsV_reads ho).shape
        clear ho hg hb
        simp only [Act.put, List.setIfInBounds_toArray, List.set_cons_succ, List.set_cons_zero]
        go_wp2_with fail
        go_roundg g
        case measure => omega
        case rel => exact ⟨k + 1, by omega, by simp, by rw [HS.out, List.length_append, List.map_append]; exact HG.out⟩
      · rw [if_neg h47] at hsu
        have HS := Keep.keep hsu
        have hne : ((p[k].toNat : Int) == 47) = false := by
          rw [beq_eq_false_iff_ne]; intro e; exact h47 (UInt8.toNat_inj.1 (by show p[k].toNat = 47; omega))
        clear hsu h47
        generalize p[k] = c at *
        go_wp2_with fail
        go_roundg g
        case measure => omega
        case rel => exact ⟨k + 1, by omega, by simp, by rw [HS.out]; exact HH.out⟩
end Go.Proofs.YtkijhaibcnhedaaDoor
