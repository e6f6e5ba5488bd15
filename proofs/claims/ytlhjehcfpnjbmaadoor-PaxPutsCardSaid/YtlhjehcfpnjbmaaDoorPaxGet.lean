/- pax: Get. -/
import Derived.Test.YtlhjehcfpnjbmaaDoorPaxOneB
import Derived.Test.YtlhjehcfpnjbmaaDoorPaxGetL
namespace Go.Proofs.YtlhjehcfpnjbmaaDoor
open Go.RowKit
theorem slRec : SlK Tryd.prog 22 33 (.agg #[.string ⟨#[]⟩, .string ⟨#[]⟩]) 2 32 := SlK.mk' Tryd.underlying22 (by kernel_rfl) rfl (by decide)
theorem rcells_one (l : List R2) : ∀ u ∈ rcells l, u.oneCell' = true := by
  intro u hu
  simp only [rcells, List.mem_flatMap] at hu
  obtain ⟨p, _, hu⟩ := hu
  simp at hu
  rcases hu with rfl | rfl <;> rfl
theorem comb_nil (b : List UInt8) : comb [] (getR b) = getR b := by
  by_cases hb : b = []
  · subst hb; rfl
  · cases ho : oneP b with
    | bad e =>
      rw [getR_bad hb ho]
      rcases oneP_bad_pos ho with rfl | rfl <;> rfl
    | one k v n => rw [getR_one hb ho, comb_comb]; rfl
set_option maxHeartbeats 1000000 in
set_option maxRecDepth 100000 in
theorem get_any (v : Value) (l : List UInt8) (w : World) (hr : Reads w (· < w.heap.size) v l) (hl : l.length ≤ 16777216) :
    Calls Tryd.prog 11 #[v] w fun e w' => ∃ sv, e = .returned (.tuple #[sv, .int .i64 ((getR l).2 : Int)]) ∧ w'.ownsRow w.heap.size 33 2 sv (getR l).1.length (rcells (getR l).1) ∧ Below w.heap.size w w' := by
  obtain ⟨a, cap, rfl, hcap, hmx, hsh⟩ := hr.shape
  have HR := Keep.keep hr
  have hmx' : cap ≤ 9223372036854775807 := by unfold maxLen at hmx; omega
  clear hr hsh
  have hdl : decide ((16777216 : Int) < (l.length : Int)) = false := decide_eq_false (by omega)
  go_enter Tryd.func11, Tryd.ntmps11
  go_wp2_with fail
  go_loopg [0, 4, 5, 6, 7] l.length (fun g v0 v4 _ _ _ wx => ∃ (b : List UInt8) (acc : List R2), b.length ≤ g ∧ b.length + acc.length ≤ l.length ∧ Reads w (· < w.heap.size) v0 b ∧ getR l = comb acc (getR b) ∧
    Hp NoM w wx [slA w.heap.size 33 2 v4 acc.length (rcells acc)])
  case atStart => exact ⟨l, [], Nat.le_refl _, by simp, HR.out, (comb_nil _).symm, (Hp.begin _ w).nilS _ _ _⟩
  case round =>
    obtain ⟨b, acc, hbg, hba, hrd, hc, hH⟩ := hrel
    have HC := Keep.keep hc; have HH := Keep.keep hH; have HRD := Keep.keep hrd
    clear hc hH
    obtain ⟨a0, cap0, rfl, hcap0, hmx0, hsh0⟩ := hrd.shape
    have hmx0' : cap0 ≤ 9223372036854775807 := by unfold maxLen at hmx0; omega
    clear hrd
    have HSH0 := Keep.keep hsh0
    clear hsh0
    by_cases hb0 : b = []
    · subst hb0
      go_wp2_with fail
      go_ret2
      have hg : getR l = (acc, 0) := by rw [HC.out, getR_nil]; simp [comb]
      rw [hg]
      exact ⟨_, rfl, HH.out.sl 0 rfl, HH.out.below⟩
    · have hbl : 0 < b.length := List.length_pos_iff.2 hb0
      have HB0 := Keep.keep hb0
      have HONE := Keep.keep (one_any (.slice a0 b.length cap0) b (· < w.heap.size) wr (fun k hk => Nat.lt_of_lt_of_le hk HH.out.size) (HRD.out.below HH.out.below (fun _ h => h)) (by omega))
      clear hb0
      cases ho : oneP b with
      | bad e =>
        rw [ho] at HONE
        have he := oneP_bad_pos ho
        have hg := getR_bad HB0.out ho
        have hcg : getR l = ([], e) := by
          rw [HC.out, hg]
          rcases he with rfl | rfl <;> rfl
        have HCG := Keep.keep hcg
        have hei : ((e : Int) != 0) = true := by rw [bne_iff_ne]; omega
        clear ho hg hcg
        unfold oneV at HONE
        go_wp2_with (go_at_call 26; ((with_reducible refine HONE.out.mono ?_); rintro e w2 ⟨rfl, hb2⟩))
        go_ret2
        rw [HCG.out]
        exact ⟨_, rfl, World.ownsRow_nil _ _ _ _, ((HH.out.call hb2).alloc _).below⟩
      | one k vv n =>
        rw [ho] at HONE
        unfold oneV at HONE
        have hk := oneP_ok ho
        have hg := getR_one HB0.out ho
        have hn1 : 1 ≤ n := by have := hk.sz; omega
        have hnb : n ≤ b.length := hk.fits
        have HG := Keep.keep hg
        obtain ⟨g, rfl⟩ : ∃ g, gk = g + 1 := ⟨gk - 1, by omega⟩
        clear ho hk hg
        go_wp2_with (first | (go_at_call 26; ((with_reducible refine HONE.out.mono ?_); rintro e w2 ⟨rfl, hb2⟩; have H2 := Keep.keep (HH.out.call hb2); clear hb2)) | (with_reducible refine arm_stop ?_))
        refine Stopped.out ?_
        have HA := Keep.keep ((H2.out.alloc (.cells #[.string ⟨k.toArray⟩, .string ⟨vv.toArray⟩] 33)).alloc (.cells #[.string ⟨k.toArray⟩, .string ⟨vv.toArray⟩] 33))
        refine arm_appendV slRec (HA.out.sl 0 rfl) (RdV.new (w := w2.alloc (.cells #[.string ⟨k.toArray⟩, .string ⟨vv.toArray⟩] 33)) 33 (rcells [(k, vv)]) 2 1 _ (by simp) rfl (by unfold maxLen; omega) (N := fun _ => True) trivial) (rcells_one _) (by unfold maxLen; omega) (by omega) HA.out.size rfl rfl ?_
        intro v5 w5 ho5 hg5 hb5 hn5
        rw [← rcells_append] at ho5
        have H5 := Keep.keep (HA.out.grow 0 rfl hg5 ho5 hb5)
        clear ho5 hg5 hb5 hn5
        simp only [Act.put, List.setIfInBounds_toArray, List.set_cons_succ, List.set_cons_zero]
        have hlen : acc.length + 1 = (acc ++ [(k, vv)]).length := by simp
        rw [hlen] at H5
        clear hlen
        rcases HSH0.out with ⟨rfl, hc0⟩ | ⟨b0, off0, rfl, hN0⟩
        · omega
        have HR5 := Keep.keep (HRD.out)
        have hrc : getR l = comb (acc ++ [(k, vv)]) (getR (b.drop n)) := by rw [HC.out, HG.out, comb_comb]
        have HRC := Keep.keep hrc
        clear hrc
        by_cases hcn : cap0 = n
        · have hd0 : b.drop n = [] := List.drop_eq_nil_of_le (by omega)
          go_wp2_with fail
          go_roundg g
          case measure => omega
          case rel =>
            refine ⟨b.drop n, acc ++ [(k, vv)], by simp; omega, by simp; omega, ?_, HRC.out, H5.out⟩
            rw [hd0, show b.length - n = 0 by omega]
            exact Reads.ofEmpty hN0 (by unfold maxLen; omega)
        · go_wp2_with fail
          go_roundg g
          case measure => omega
          case rel =>
            refine ⟨b.drop n, acc ++ [(k, vv)], by simp; omega, by simp; omega, ?_, HRC.out, H5.out⟩
            exact HRD.out.sub n (b.length - n) (cap0 - n) (b.drop n) (by rw [List.take_of_length_le (by simp)]) (by simp; omega) (by omega) _ (by simp)
end Go.Proofs.YtlhjehcfpnjbmaaDoor
