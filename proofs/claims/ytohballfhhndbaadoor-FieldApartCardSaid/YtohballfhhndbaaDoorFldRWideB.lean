/- portolanref09.Wide. -/
import Derived.Test.YtohballfhhndbaaDoorFldRWide
namespace Go.Proofs.YtohballfhhndbaaDoor
open Go.RowKit
/-- the j-th byte when k bits have come (m bytes in all) -/
def cellW (n : Int) (m k j : Nat) : Int :=
  if k ≤ 8 * j then 0 else if 8 * j + 8 ≤ k then wideB n m j else if j = 0 then n / 2 ^ (8 * m - k) % 2 ^ (k - 1) + 2 ^ (k - 1) else n / 2 ^ (8 * m - k) % 2 ^ (k - 8 * j)
/-- the k-th bit (the first is 1) -/
def bitW (n : Int) (m k : Nat) : Int := if k = 0 then 1 else n / 2 ^ (8 * m - 1 - k) % 2
theorem cellW_other (n : Int) (m k j : Nat) (h : j ≠ k / 8) : cellW n m (k + 1) j = cellW n m k j := by
  unfold cellW
  rcases (by omega : k + 1 ≤ 8 * j ∨ 8 * j + 8 ≤ k) with h1 | h1
  · rw [if_pos h1, if_pos (by omega)]
  · rw [if_neg (by omega), if_pos (by omega), if_neg (by omega), if_pos h1]
theorem cellW_zero (n : Int) (m k j : Nat) (h : k ≤ 8 * j) : cellW n m k j = 0 := by unfold cellW; rw [if_pos h]
theorem cellW_full (n : Int) (m k j : Nat) (h : 8 * j + 8 ≤ k) : cellW n m k j = wideB n m j := by unfold cellW; rw [if_neg (by omega), if_pos h]
theorem cellW_first (n : Int) (m k : Nat) (h : 0 < k) (h2 : k < 8) : cellW n m k 0 = n / 2 ^ (8 * m - k) % 2 ^ (k - 1) + 2 ^ (k - 1) := by unfold cellW; rw [if_neg (by omega), if_neg (by omega), if_pos rfl]
theorem cellW_part (n : Int) (m k j : Nat) (hj : j ≠ 0) (h : 8 * j < k) (h2 : k < 8 * j + 8) : cellW n m k j = n / 2 ^ (8 * m - k) % 2 ^ (k - 8 * j) := by unfold cellW; rw [if_neg (by omega), if_neg (by omega), if_neg hj]
theorem wideB_first (n : Int) (m : Nat) : wideB n m 0 = n / 2 ^ (8 * (m - 1)) % 128 + 128 := by unfold wideB; rw [if_pos rfl]
theorem wideB_more (n : Int) (m j : Nat) (h : j ≠ 0) : wideB n m j = n / 2 ^ (8 * (m - 1 - j)) % 256 := by unfold wideB; rw [if_neg h]
theorem bitW_zero (n : Int) (m : Nat) : bitW n m 0 = 1 := by unfold bitW; rw [if_pos rfl]
theorem bitW_more (n : Int) (m k : Nat) (h : k ≠ 0) : bitW n m k = n / 2 ^ (8 * m - 1 - k) % 2 := by unfold bitW; rw [if_neg h]
theorem cellW_next (n : Int) (m k : Nat) (h : k < 8 * m) : cellW n m (k + 1) (k / 8) = 2 * cellW n m k (k / 8) + bitW n m k := by
  obtain ⟨q, r, hk, hr⟩ : ∃ q r, k = 8 * q + r ∧ r < 8 := ⟨k / 8, k % 8, by omega, by omega⟩
  have hq : k / 8 = q := by omega
  rw [hq]
  have hx : n / 2 ^ (8 * m - k) = n / 2 ^ (8 * m - 1 - k) / 2 := by
    have e : 8 * m - k = (8 * m - 1 - k) + 1 := by omega
    rw [e, shr_one]
  have hx1 : 8 * m - (k + 1) = 8 * m - 1 - k := by omega
  by_cases h8 : r = 7
  · subst h8
    have hx2 : 8 * m - 1 - k = 8 * (m - 1 - q) := by omega
    rw [cellW_full _ _ _ _ (by omega), bitW_more _ _ _ (by omega)]
    by_cases hq0 : q = 0
    · subst hq0
      rw [cellW_first _ _ _ (by omega) (by omega), wideB_first, hx, hx2, Nat.sub_zero, show k - 1 = 6 by omega]
      generalize n / 2 ^ (8 * (m - 1)) = x
      omega
    · rw [cellW_part _ _ _ _ hq0 (by omega) (by omega), wideB_more _ _ _ hq0, hx, hx2, show k - 8 * q = 7 by omega]
      generalize n / 2 ^ (8 * (m - 1 - q)) = x
      omega
  · by_cases hr0 : r = 0
    · subst hr0
      rw [cellW_zero _ _ k _ (by omega)]
      by_cases hq0 : q = 0
      · subst hq0
        obtain rfl : k = 0 := by omega
        rw [cellW_first _ _ _ (by omega) (by omega), bitW_zero]
        simp
      · rw [cellW_part _ _ _ _ hq0 (by omega) (by omega), bitW_more _ _ _ (by omega), hx1, show k + 1 - 8 * q = 1 by omega]
        omega
    · rw [bitW_more _ _ _ (by omega)]
      by_cases hq0 : q = 0
      · subst hq0
        rw [cellW_first _ _ _ (by omega) (by omega), cellW_first _ _ _ (by omega) (by omega), hx, hx1, show k + 1 - 1 = r by omega, show k - 1 = r - 1 by omega]
        generalize n / 2 ^ (8 * m - 1 - k) = x
        rcases (by omega : r = 1 ∨ r = 2 ∨ r = 3 ∨ r = 4 ∨ r = 5 ∨ r = 6) with h | h | h | h | h | h <;> subst h <;> simp only [Nat.reduceSub] <;> omega
      · rw [cellW_part _ _ _ _ hq0 (by omega) (by omega), cellW_part _ _ _ _ hq0 (by omega) (by omega), hx, hx1, show k + 1 - 8 * q = r + 1 by omega, show k - 8 * q = r by omega]
        generalize n / 2 ^ (8 * m - 1 - k) = x
        rcases (by omega : r = 1 ∨ r = 2 ∨ r = 3 ∨ r = 4 ∨ r = 5 ∨ r = 6) with h | h | h | h | h | h <;> subst h <;> simp only [Nat.reduceAdd] <;> omega
theorem cellW_low (n : Int) (m k : Nat) : 0 ≤ cellW n m k (k / 8) ∧ cellW n m k (k / 8) ≤ 127 := by
  unfold cellW
  obtain ⟨q, r, hk, hr⟩ : ∃ q r, k = 8 * q + r ∧ r < 8 := ⟨k / 8, k % 8, by omega, by omega⟩
  have hq : k / 8 = q := by omega
  rw [hq]
  by_cases h0 : k ≤ 8 * q
  · rw [if_pos h0]; omega
  · rw [if_neg h0, if_neg (by omega)]
    generalize n / 2 ^ (8 * m - k) = x
    by_cases hq0 : q = 0
    · rw [if_pos hq0]
      subst hq0
      rcases (by omega : k = 1 ∨ k = 2 ∨ k = 3 ∨ k = 4 ∨ k = 5 ∨ k = 6 ∨ k = 7) with rfl | rfl | rfl | rfl | rfl | rfl | rfl <;> simp <;> omega
    · rw [if_neg hq0]
      rcases (by omega : k - 8 * q = 1 ∨ k - 8 * q = 2 ∨ k - 8 * q = 3 ∨ k - 8 * q = 4 ∨ k - 8 * q = 5 ∨ k - 8 * q = 6 ∨ k - 8 * q = 7) with h | h | h | h | h | h | h <;> rw [h] <;> omega
theorem bitW_01 (n : Int) (m k : Nat) : bitW n m k = 0 ∨ bitW n m k = 1 := by unfold bitW; split <;> omega
/-- the row when k bits have come -/
structure RowW (n : Int) (m k : Nat) (c : Array Value) : Prop where
  sz : c.size = m
  at_ : ∀ j, j < m → c[j]? = some (.int .u8 (cellW n m k j))
theorem RowW.next {n : Int} {m k : Nat} {c : Array Value} (h : RowW n m k c) (hk : k < 8 * m) : RowW n m (k + 1) (c.setIfInBounds (k / 8) (.int .u8 (2 * cellW n m k (k / 8) + bitW n m k))) := by
  refine ⟨by simp [h.sz], fun j hj => ?_⟩
  by_cases e : j = k / 8
  · subst e
    rw [Array.getElem?_setIfInBounds_self, if_pos (by rw [h.sz]; exact hj), cellW_next n m k hk]
  · rw [Array.getElem?_setIfInBounds_ne (by omega), h.at_ j hj, cellW_other n m k j e]
theorem RowW.text {n : Int} {m : Nat} {c : Array Value} (h : RowW n m (8 * m) c) (j : Nat) (u : Value) (hj : (bcells (wideL n m))[j]? = some u) : c[0 + j]? = some u := by
  have hjm : j < m := by
    have := (List.getElem?_eq_some_iff.1 hj).1
    rwa [bcells_length, wideL_length] at this
  rw [Nat.zero_add, h.at_ j hjm, ← hj, bcells_get _ j (by rw [wideL_length]; exact hjm), cellW_full _ _ _ _ (by omega)]
  have := wideB_range n m j
  simp only [wideL, List.getElem_map, List.getElem_range]
  congr 2
  simp
  omega
set_option maxHeartbeats 2000000 in
set_option maxRecDepth 100000 in
theorem rwide_any (n many : Int) (h0 : -9223372036854775808 ≤ n) (h1 : n ≤ 9223372036854775807) (w : World) :
    Calls Tryd.prog 13 #[.int .i64 n, .int .i64 many] w fun e w' => ∃ v, e = .returned (.tuple #[v, .int .i64 (wideS n many).2]) ∧ Reads w' (NewIn w w') v (wideS n many).1 ∧ Below w.heap.size w w' := by
  by_cases hm : many < 2 ∨ 20 < many
  · have hs : wideS n many = ([], 1) := by unfold wideS; rw [if_pos hm]
    rw [hs]
    go_enter Tryd.func13, Tryd.ntmps13
    by_cases h2 : many < 2
    · have hd : decide (many < 2) = true := decide_eq_true h2
      clear hs hm
      go_wp2_with fail
      go_ret2
      exact ⟨_, rfl, Reads.none, Below.refl _ _⟩
    · have hd : decide (many < 2) = false := decide_eq_false h2
      have hd2 : decide (20 < many) = true := decide_eq_true (by omega)
      clear hs hm
      go_wp2_with fail
      go_ret2
      exact ⟨_, rfl, Reads.none, Below.refl _ _⟩
  · obtain ⟨m, rfl⟩ : ∃ m : Nat, many = (m : Int) := ⟨many.toNat, by omega⟩
    have hm1 : 2 ≤ m := by omega
    have hm2 : m ≤ 20 := by omega
    have hd : decide ((m : Int) < 2) = false := decide_eq_false (by omega)
    have hd2 : decide (20 < (m : Int)) = false := decide_eq_false (by omega)
    obtain ⟨M, hM⟩ : ∃ M : Nat, M + 1 = 8 * m := ⟨8 * m - 1, by omega⟩
    have hMi : 8 * (m : Int) - 1 = (M : Int) := by omega
    have hft : fitsT n M = decide (n / 2 ^ (M - 1) = 0 ∨ n / 2 ^ (M - 1) = -1) := fitsT_iff n M (by omega)
    have hs : wideS n (m : Int) = if fitsT n M then (wideL n m, 0) else ([], 3) := by
      unfold wideS
      rw [if_neg hm, Int.toNat_natCast, hft, show 8 * m - 2 = M - 1 by omega]
      simp
    have HS := Keep.keep hs
    have HTW := Keep.keep (twos_any n M (by omega) (by omega) h0 h1 w)
    have hmk := mkS (P := Tryd.prog) (T := 22) (e := 5) (z := .int .u8 0) (b := 1) Tryd.underlying22 (by kernel_rfl) rfl (by decide) (m : Int) m rfl (by omega)
    have HM := Keep.keep hM
    clear hs hm hft hM
    cases hf : fitsT n M
    · rw [hf] at HTW
      have HS2 : Keep (wideS n (m : Int) = ([], 3)) := ⟨by rw [HS.out, hf]; rfl⟩
      clear hf
      go_enter Tryd.func13, Tryd.ntmps13
      go_wp2_with (go_at_call 35; ((with_reducible refine HTW.out.mono ?_); rintro e w1 ⟨b, rfl, hr1, hb1⟩; clear hr1))
      go_ret2
      exact ⟨_, by rw [HS2.out]; rfl, by rw [HS2.out]; exact Reads.none, hb1⟩
    · rw [hf] at HTW
      have HS2 : Keep (wideS n (m : Int) = (wideL n m, 0)) := ⟨by rw [HS.out, hf]; rfl⟩
      clear hf
      go_enter Tryd.func13, Tryd.ntmps13
      go_wp2_with fail
      refine HTW.out.mono ?_
      rintro e w1 ⟨b, rfl, hr1, hb1⟩
      have HB1 := Keep.keep hb1; have HR1 := Keep.keep hr1
      clear hb1 hr1
      have H0 : Keep (Hp NoM w1 (w1.alloc (.cells (Array.replicate m (.int .u8 0)) 5)) [rowA w1.heap.size 5 (Array.replicate m (.int .u8 0))]) := ⟨(Hp.begin NoM w1).newRow _ _⟩
      have R0 : Keep (RowW n m 0 (Array.replicate m (.int .u8 0))) := ⟨⟨by simp, fun j hj => by rw [cellW_zero _ _ _ _ (by omega)]; simp [hj]⟩⟩
      go_wp2_with fail
      go_loopg [9, 10] (8 * m) (fun g u9 _ wx => ∃ (k : Nat) (c : Array Value), k + g = 8 * m ∧ u9 = .int .i64 (k : Int) ∧ RowW n m k c ∧ Hp NoM w1 wx [rowA w1.heap.size 5 c])
      case atStart => exact ⟨0, _, by omega, rfl, R0.out, H0.out⟩
      case round =>
        obtain ⟨k, c, hkg, rfl, hR, hH⟩ := hrel
        have HR := Keep.keep hR; have HH := Keep.keep hH
        clear hR hH H0 R0
        by_cases hk : k < 8 * m
        · obtain ⟨g, rfl⟩ : ∃ g, gk = g + 1 := ⟨gk - 1, by omega⟩
          obtain ⟨q, hq⟩ : ∃ q, k / 8 = q := ⟨_, rfl⟩
          have hk8 : (k : Int) / 8 = (q : Int) := by omega
          have hqm : q < m := by omega
          have hnx := HR.out.next hk
          have hlow := cellW_low n m k
          have hcell := (HH.out.row 0 rfl).cell (HR.out.at_ q hqm)
          have hfz : wr.frozen? ⟨w1.heap.size, q, none⟩ = false := (HH.out.row 0 rfl).frozen q
          rw [hq] at hnx hlow
          have HBW := Keep.keep (bitW_more n m k)
          have HBZ := Keep.keep (bitW_zero n m)
          obtain ⟨v0, hv0⟩ : ∃ v0, cellW n m k q = v0 := ⟨_, rfl⟩
          rw [hv0] at hnx hlow hcell
          obtain ⟨hl0, hl1⟩ := hlow
          have HNX := Keep.keep hnx
          have hd3 : decide ((k : Int) < 8 * (m : Int)) = true := decide_eq_true (by omega)
          clear hnx hq hv0
          by_cases hk0 : k = 0
          · have hkb : ((k : Int) == 0) = true := by rw [hk0]; rfl
            have HB : Keep (bitW n m k = 1) := ⟨by rw [hk0]; exact HBZ.out⟩
            clear hk0 HBW HBZ
            go_wp2_with fail
            go_roundg g
            case measure => omega
            case rel =>
              refine ⟨k + 1, c.setIfInBounds q (.int .u8 (2 * v0 + 1)), by omega, by simp, ?_, ?_⟩
              · have h9 := HNX.out; rw [HB.out] at h9; first | exact h9 | (rw [Int.add_zero] at h9; exact h9)
              · have h8 := (HH.out.setCell 0 rfl q (.int .u8 (v0 * 2)) rfl).setCell 0 rfl q (.int .u8 (v0 * 2 + 1)) rfl
                rw [Array.setIfInBounds_setIfInBounds, show v0 * 2 = 2 * v0 by omega] at h8
                rw [show v0 * 2 = 2 * v0 by omega]
                exact h8
          · have hkb : ((k : Int) == 0) = false := by rw [beq_eq_false_iff_ne]; omega
            obtain ⟨k1, hk1⟩ : ∃ k1 : Nat, (k : Int) - 1 = (k1 : Int) := ⟨k - 1, by omega⟩
            have hmm := HM.out
            have hbg := bitsV_get M n k1 (by omega)
            rw [show M - 1 - k1 = 8 * m - 1 - k by omega] at hbg
            have hrd := (HR1.out.below HH.out.below (fun b hb => hb.2)).cell b 0 M M rfl k1 (.bool (decide (n / 2 ^ (8 * m - 1 - k) % 2 = 1))) (by rw [List.getElem?_map, hbg]; rfl)
            rw [Nat.zero_add] at hrd
            have hbw := HBW.out hk0
            have hk1M : k1 < M := by omega
            clear HBW HBZ hmm hbg hk0
            by_cases hx : n / 2 ^ (8 * m - 1 - k) % 2 = 1
            · rw [decide_eq_true hx] at hrd
              have HB : Keep (bitW n m k = 1) := ⟨by rw [hbw, hx]⟩
              clear hx hbw
              go_wp2_with fail
              go_roundg g
              case measure => omega
              case rel =>
                refine ⟨k + 1, c.setIfInBounds q (.int .u8 (2 * v0 + 1)), by omega, by simp, ?_, ?_⟩
                · have h9 := HNX.out; rw [HB.out] at h9; first | exact h9 | (rw [Int.add_zero] at h9; exact h9)
                · have h8 := (HH.out.setCell 0 rfl q (.int .u8 (v0 * 2)) rfl).setCell 0 rfl q (.int .u8 (v0 * 2 + 1)) rfl
                  rw [Array.setIfInBounds_setIfInBounds, show v0 * 2 = 2 * v0 by omega] at h8
                  rw [show v0 * 2 = 2 * v0 by omega]
                  exact h8
            · rw [decide_eq_false hx] at hrd
              have HB : Keep (bitW n m k = 0) := ⟨by rw [hbw]; omega⟩
              clear hx hbw
              go_wp2_with fail
              go_roundg g
              case measure => omega
              case rel =>
                refine ⟨k + 1, c.setIfInBounds q (.int .u8 (2 * v0)), by omega, by simp, ?_, ?_⟩
                · have h9 := HNX.out; rw [HB.out] at h9; first | exact h9 | (rw [Int.add_zero] at h9; exact h9)
                · have h8 := HH.out.setCell 0 rfl q (.int .u8 (v0 * 2)) rfl
                  rw [show v0 * 2 = 2 * v0 by omega] at h8 ⊢
                  exact h8
        · obtain rfl : k = 8 * m := by omega
          have hd3 : decide (((8 * m : Nat) : Int) < 8 * (m : Int)) = false := decide_eq_false (by omega)
          have hres : Reads wr (NewIn w wr) (.slice (some ⟨w1.heap.size, 0, none⟩) m m) (wideL n m) := by
            have h1 := RdV.ofRow (N := NewIn w wr) (HH.out.row 0 rfl) ⟨HB1.out.size, (HH.out.new 0 rfl (b := w1.heap.size) rfl).2⟩ 1 0 m m (bcells (wideL n m)) (by rw [bcells_length, wideL_length]; omega) (Nat.le_refl _) (by unfold maxLen; omega) HR.out.text
            have h2 : m = (wideL n m).length := (wideL_length n m).symm
            have h3 : RdV wr (NewIn w wr) 1 (.slice (some ⟨w1.heap.size, 0, none⟩) m m) (wideL n m).length (bcells (wideL n m)) := by rw [wideL_length]; exact h1
            exact RdV.toBytes h3
          have HRES := Keep.keep hres
          clear hres
          go_wp2_with fail
          go_ret2
          exact ⟨_, by rw [HS2.out]; rfl, by rw [HS2.out]; exact HRES.out, HB1.out.trans (HH.out.below.mono HB1.out.size)⟩
end Go.Proofs.YtohballfhhndbaaDoor
