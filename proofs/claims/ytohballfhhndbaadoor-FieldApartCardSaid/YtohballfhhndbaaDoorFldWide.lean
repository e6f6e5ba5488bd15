/- field.Wide. -/
import Derived.Test.YtohballfhhndbaaDoorFldROct
namespace Go.Proofs.YtohballfhhndbaaDoor
open Go.RowKit
/-- the last r bytes of n -/
def wdK : Nat → Int → List UInt8
  | 0, _ => []
  | r + 1, n => UInt8.ofNat (n / 2 ^ (8 * r) % 256).toNat :: wdK r n
theorem wdK_length : ∀ (r : Nat) (n : Int), (wdK r n).length = r
  | 0, _ => rfl
  | r + 1, n => by rw [wdK, List.length_cons, wdK_length r n]
theorem wdK_get : ∀ (r : Nat) (n : Int) (j : Nat) (h : j < (wdK r n).length), (wdK r n)[j] = UInt8.ofNat (n / 2 ^ (8 * (r - 1 - j)) % 256).toNat
  | 0, _, j, h => by simp [wdK] at h
  | r + 1, n, 0, h => by simp [wdK]
  | r + 1, n, j + 1, h => by
    have := wdK_get r n j (by simpa [wdK] using h)
    simp only [wdK, List.getElem_cons_succ]
    rw [this, show r + 1 - 1 - (j + 1) = r - 1 - j by omega]
theorem wideL_cons (n : Int) (m : Nat) : wideL n (m + 1) = UInt8.ofNat (n / 2 ^ (8 * m) % 128 + 128).toNat :: wdK m n := by
  apply List.ext_getElem
  · simp [wideL, wdK_length]
  · intro i h1 h2
    match i, h1, h2 with
    | 0, _, _ => simp [wideL, wideB]
    | i + 1, h1, h2 =>
      rw [List.getElem_cons_succ, wdK_get]
      simp only [wideL, List.getElem_map, List.getElem_range, wideB]
      rw [if_neg (by omega), show m + 1 - 1 - (i + 1) = m - 1 - i by omega]
theorem shr_next (n : Int) (r : Nat) : n / 2 ^ (8 * (r + 1)) = n / 2 ^ (8 * r) / 256 := by
  have h : (2 : Int) ^ (8 * (r + 1)) = 2 ^ (8 * r) * 256 := by rw [Nat.mul_add, Int.pow_add]; rfl
  rw [h, Int.ediv_ediv_of_nonneg (Int.pow_nonneg (by decide))]
theorem or128 (y : Nat) (h : y < 256) : bits .or .u8 (y : Int) 128 = ((y % 128 + 128 : Nat) : Int) := by
  have e := u8_or_nat y 128 h (by decide)
  have : ∀ y, y < 256 → y ||| 128 = y % 128 + 128 := by decide +kernel
  rw [this y h] at e
  exact e
theorem shr_small (n : Int) (h0 : -9223372036854775808 ≤ n) (h1 : n ≤ 9223372036854775807) (t : Nat) (ht : 63 ≤ t) : n / 2 ^ t = 0 ∨ n / 2 ^ t = -1 := by
  have hp : (9223372036854775808 : Int) ≤ 2 ^ t := by
    have : (2 : Nat) ^ 63 ≤ 2 ^ t := Nat.pow_le_pow_right (by decide) ht
    have h2 : ((2 ^ 63 : Nat) : Int) ≤ ((2 ^ t : Nat) : Int) := by exact_mod_cast this
    rw [Int.natCast_pow, Int.natCast_pow] at h2
    exact h2
  generalize (2 : Int) ^ t = p at *
  by_cases hn : 0 ≤ n
  · left; exact Int.ediv_eq_zero_of_lt hn (by omega)
  · right
    have h3 : n / p = -1 := by
      rw [Int.ediv_eq_iff_of_pos (by omega)]
      omega
    exact h3
set_option maxHeartbeats 1000000 in
set_option maxRecDepth 100000 in
theorem wide_any (n many : Int) (h0 : -9223372036854775808 ≤ n) (h1 : n ≤ 9223372036854775807) (w : World) :
    Calls Tryd.prog 12 #[.int .i64 n, .int .i64 many] w fun e w' => ∃ v, e = .returned (.tuple #[v, .int .i64 (wideS n many).2]) ∧ Reads w' (NewIn w w') v (wideS n many).1 ∧ Below w.heap.size w w' := by
  have HF := Keep.keep (fun w => fits_any many w)
  by_cases hm : many < 2 ∨ 20 < many
  · have hs : wideS n many = ([], 1) := by unfold wideS; rw [if_pos hm]
    have hb : (decide (2 ≤ many) && decide (many ≤ 20)) = false := by
      rcases hm with h | h
      · rw [decide_eq_false (by omega)]; rfl
      · rw [decide_eq_false (p := many ≤ 20) (by omega), Bool.and_false]
    rw [hb] at HF
    rw [hs]
    clear hs hb hm
    go_enter Tryd.func12, Tryd.ntmps12
    go_wp2_with (go_at_call 32; ((with_reducible refine (HF.out _).mono ?_); rintro e w1 ⟨rfl, rfl⟩))
    go_ret2
    exact ⟨_, rfl, Reads.none, Below.refl _ _⟩
  · obtain ⟨m, rfl⟩ : ∃ m : Nat, many = (m : Int) + 1 := ⟨(many - 1).toNat, by omega⟩
    have hm1 : 1 ≤ m := by omega
    have hm2 : m ≤ 19 := by omega
    have hb : (decide (2 ≤ (m : Int) + 1) && decide ((m : Int) + 1 ≤ 20)) = true := by
      rw [decide_eq_true (by omega), decide_eq_true (by omega)]; rfl
    rw [hb] at HF
    have hmt : 8 * ((m : Int) + 1).toNat - 2 = 8 * (m + 1) - 2 := by omega
    have hmt2 : ((m : Int) + 1).toNat = m + 1 := by omega
    have hs : wideS n ((m : Int) + 1) = if n / 2 ^ (8 * (m + 1) - 2) = 0 ∨ n / 2 ^ (8 * (m + 1) - 2) = -1 then (wideL n (m + 1), 0) else ([], 3) := by
      unfold wideS; rw [if_neg hm, hmt, hmt2]
    have HS := Keep.keep hs
    have hbig : 8 ≤ m → n / 2 ^ (8 * (m + 1) - 2) = 0 ∨ n / 2 ^ (8 * (m + 1) - 2) = -1 := fun h => shr_small n h0 h1 _ (by omega)
    have HBIG := Keep.keep hbig
    have hmk := mkS (P := Tryd.prog) (T := 22) (e := 5) (z := .int .u8 0) (b := 1) Tryd.underlying22 (by kernel_rfl) rfl (by decide) ((m : Int) + 1) (m + 1) (by omega) (by omega)
    have H0 : Keep (Hp NoM w (w.alloc (.cells (Array.replicate (m + 1) (.int .u8 0)) 5)) [rowA w.heap.size 5 (Array.replicate (m + 1) (.int .u8 0))]) := ⟨(Hp.begin NoM w).newRow _ _⟩
    have R0 : Keep (RowE (m + 1) (Array.replicate (m + 1) (.int .u8 0)) (m + 1) (wdK 0 n)) := ⟨⟨by simp, by simp [wdK], fun j h => by simp [wdK] at h⟩⟩
    clear hs hm hb hmt hmt2 hbig
    go_enter Tryd.func12, Tryd.ntmps12
    go_wp2_with (go_at_call 32; ((with_reducible refine (HF.out _).mono ?_); rintro e w1 ⟨rfl, rfl⟩))
    go_loopg [7, 8] (m + 1) (fun g u7 u8 wx => ∃ (r p : Nat) (c : Array Value), p = g ∧ p + r = m + 1 ∧ u7 = .int .i64 (n / 2 ^ (8 * r)) ∧ u8 = .int .i64 ((p : Int) - 1) ∧ RowE (m + 1) c p (wdK r n) ∧ Hp NoM w wx [rowA w.heap.size 5 c])
    case atStart => exact ⟨0, m + 1, _, rfl, by omega, by simp, by simp, R0.out, H0.out⟩
    case round =>
      obtain ⟨r, p, c, rfl, hpr, rfl, rfl, hR, hH⟩ := hrel
      have HR := Keep.keep hR; have HH := Keep.keep hH
      have HNX := Keep.keep (shr_next n r)
      have HDK : Keep (wdK (r + 1) n = UInt8.ofNat (n / 2 ^ (8 * r) % 256).toNat :: wdK r n) := ⟨rfl⟩
      clear hR hH H0 R0
      cases p with
      | zero =>
        obtain rfl : r = m + 1 := by omega
        clear HDK
        have hxl := wideL_cons n m
        have hdm : wdK (m + 1) n = UInt8.ofNat (n / 2 ^ (8 * m) % 256).toNat :: wdK m n := rfl
        obtain ⟨y, hy⟩ : ∃ y, n / 2 ^ (8 * m) = y := ⟨_, rfl⟩
        rw [hy] at hxl hdm
        have HDM := Keep.keep hdm
        have hc0 : wr.cell? ⟨w.heap.size, 0, none⟩ = some (.int .u8 (y % 256)) := by
          have h1 := HR.out.at_ 0 (by rw [hdm]; simp)
          rw [Nat.add_zero] at h1
          have e : (((UInt8.ofNat (y % 256).toNat).toNat : Nat) : Int) = y % 256 := by simp; omega
          simp only [hdm, List.getElem_cons_zero, e] at h1
          exact (HH.out.row 0 rfl).cell h1
        have hfz : wr.frozen? ⟨w.heap.size, 0, none⟩ = false := (HH.out.row 0 rfl).frozen 0
        have hor : bits .or .u8 (y % 256) 128 = y % 128 + 128 := by
          have h1 := or128 (y % 256).toNat (by omega)
          rw [show (((y % 256).toNat : Nat) : Int) = y % 256 by omega] at h1
          rw [h1]; omega
        have HXL := Keep.keep hxl
        clear hy hxl hdm HNX
        have H2 := Keep.keep (HH.out.setCell 0 rfl 0 (.int .u8 (y % 128 + 128)) rfl)
        have HFIN : Keep (RowE (m + 1) (c.setIfInBounds 0 (.int .u8 (y % 128 + 128))) 0 (UInt8.ofNat (y % 128 + 128).toNat :: wdK m n)) := by
          have e : (((UInt8.ofNat (y % 128 + 128).toNat).toNat : Nat) : Int) = y % 128 + 128 := by simp; omega
          have hr0 : RowE (m + 1) c (0 + 1) (wdK m n) := by
            refine ⟨HR.out.sz, by rw [wdK_length]; omega, fun j hj => ?_⟩
            have h1 := HR.out.at_ (j + 1) (by rw [HDM.out]; simpa using hj)
            simp only [HDM.out, List.getElem_cons_succ] at h1
            rw [show 0 + (j + 1) = 0 + 1 + j by omega] at h1
            exact h1
          have h2 := hr0.put (UInt8.ofNat (y % 128 + 128).toNat)
          rw [e] at h2
          exact ⟨h2⟩
        by_cases hm8 : m < 8
        · have hd : decide (8 * ((m : Int) + 1) - 2 < 63) = true := decide_eq_true (by omega)
          by_cases hz : n / 2 ^ (8 * (m + 1) - 2) = 0 ∨ n / 2 ^ (8 * (m + 1) - 2) = -1
          · have HS2 : Keep (wideS n ((m : Int) + 1) = (wideL n (m + 1), 0)) := ⟨by rw [HS.out, if_pos hz]⟩
            rcases hz with hz | hz
            · have hd2 : decide (8 * ((m : Int) + 1) - 2 < 63) = true := hd
              go_wp2_with fail
              go_ret2
              exact ⟨_, by rw [HS2.out]; rfl, by rw [HS2.out, HXL.out]; exact HFIN.out.reads (H2.out.row 0 rfl) (H2.out.new 0 rfl rfl) (by unfold maxLen; omega) _ (by simp [wdK_length]), H2.out.below⟩
            · have hd2 : decide (8 * ((m : Int) + 1) - 2 < 63) = true := hd
              go_wp2_with fail
              go_ret2
              exact ⟨_, by rw [HS2.out]; rfl, by rw [HS2.out, HXL.out]; exact HFIN.out.reads (H2.out.row 0 rfl) (H2.out.new 0 rfl rfl) (by unfold maxLen; omega) _ (by simp [wdK_length]), H2.out.below⟩
          · have HS2 : Keep (wideS n ((m : Int) + 1) = ([], 3)) := ⟨by rw [HS.out, if_neg hz]⟩
            obtain ⟨z, hzz⟩ : ∃ z, n / 2 ^ (8 * (m + 1) - 2) = z := ⟨_, rfl⟩
            rw [hzz] at hz
            have hz0 : (z != 0) = true := by rw [bne_iff_ne]; intro h; exact hz (.inl h)
            have hz1 : (z != -1) = true := by rw [bne_iff_ne]; intro h; exact hz (.inr h)
            clear hz
            go_wp2_with fail
            go_ret2
            exact ⟨_, by rw [HS2.out]; rfl, by rw [HS2.out]; exact Reads.none, HH.out.below⟩
        · have hd : decide (8 * ((m : Int) + 1) - 2 < 63) = false := decide_eq_false (by omega)
          have HS2 : Keep (wideS n ((m : Int) + 1) = (wideL n (m + 1), 0)) := ⟨by rw [HS.out, if_pos (HBIG.out (by omega))]⟩
          go_wp2_with fail
          go_ret2
          exact ⟨_, by rw [HS2.out]; rfl, by rw [HS2.out, HXL.out]; exact HFIN.out.reads (H2.out.row 0 rfl) (H2.out.new 0 rfl rfl) (by unfold maxLen; omega) _ (by simp [wdK_length]), H2.out.below⟩
      | succ q =>
        obtain ⟨y, hyy⟩ : ∃ y, n / 2 ^ (8 * r) = y := ⟨_, rfl⟩
        rw [hyy] at HNX HDK ⊢
        have hqc : q < c.size := by rw [HR.out.sz]; omega
        have hcell := (HH.out.row 0 rfl).cell (i := q) (Array.getElem?_eq_getElem hqc)
        have hfz : wr.frozen? ⟨w.heap.size, q, none⟩ = false := (HH.out.row 0 rfl).frozen q
        generalize c[q] = vq at hcell
        have hwq : ((q + 1 : Nat) : Int) - 1 = (q : Int) := by omega
        clear hyy
        go_wp2_with fail
        go_roundg q
        case measure => omega
        case rel =>
          refine ⟨r + 1, q, c.setIfInBounds q (.int .u8 ((UInt8.ofNat (y % 256).toNat).toNat : Int)), rfl, by omega, ?_, by simp, ?_, ?_⟩
          · rw [HNX.out]
          · rw [HDK.out]; exact HR.out.put _
          · have h1 := HH.out.setCell 0 rfl q (.int .u8 (y % 256)) rfl
            have e : (((UInt8.ofNat (y % 256).toNat).toNat : Nat) : Int) = y % 256 := by simp; omega
            rw [e]
            exact h1
end Go.Proofs.YtohballfhhndbaaDoor
