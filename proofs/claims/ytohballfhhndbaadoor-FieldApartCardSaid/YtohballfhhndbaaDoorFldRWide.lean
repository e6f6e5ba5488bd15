/- portolanref09.twos, Wide. -/
import Derived.Test.YtohballfhhndbaaDoorFldWide
namespace Go.Proofs.YtohballfhhndbaaDoor
open Go.RowKit
/-- the values l stand at the end of a row of n, from p on -/
structure RowQ (n : Nat) (c : Array Value) (p : Nat) (l : List Value) : Prop where
  sz : c.size = n
  pl : p + l.length = n
  at_ : ∀ j v, l[j]? = some v → c[p + j]? = some v
theorem RowQ.put {n : Nat} {c : Array Value} {p : Nat} {l : List Value} (h : RowQ n c (p + 1) l) (v : Value) : RowQ n (c.setIfInBounds p v) p (v :: l) := by
  refine ⟨by simp [h.sz], by have := h.pl; simp only [List.length_cons]; omega, fun j u hj => ?_⟩
  have hs := h.sz; have hp := h.pl
  match j, hj with
  | 0, hj =>
    injection hj with hj
    subst hj
    rw [Nat.add_zero, Array.getElem?_setIfInBounds_self]; simp; omega
  | j + 1, hj =>
    rw [Array.getElem?_setIfInBounds_ne (by omega), show p + (j + 1) = p + 1 + j by omega]
    exact h.at_ j u (by simpa using hj)
/-- the last r bits of n -/
def bitsV : Nat → Int → List Bool
  | 0, _ => []
  | r + 1, n => decide (n / 2 ^ r % 2 = 1) :: bitsV r n
theorem bitsV_length : ∀ (r : Nat) (n : Int), (bitsV r n).length = r
  | 0, _ => rfl
  | r + 1, n => by rw [bitsV, List.length_cons, bitsV_length r n]
theorem bitsV_get : ∀ (r : Nat) (n : Int) (j : Nat), j < r → (bitsV r n)[j]? = some (decide (n / 2 ^ (r - 1 - j) % 2 = 1))
  | 0, _, j, h => by omega
  | r + 1, n, 0, h => by simp [bitsV]
  | r + 1, n, j + 1, h => by
    have := bitsV_get r n j (by omega)
    simp only [bitsV, List.getElem?_cons_succ]
    rw [this, show r + 1 - 1 - (j + 1) = r - 1 - j by omega]
theorem shr_one (n : Int) (r : Nat) : n / 2 ^ (r + 1) = n / 2 ^ r / 2 := by
  rw [Int.pow_succ, Int.ediv_ediv_of_nonneg (Int.pow_nonneg (by decide))]
theorem odd_t (y : Int) (h : y % 2 = 1) : (y.tmod 2 != 0) = true ∧ (y - 1).tdiv 2 = y / 2 := by
  constructor
  · rw [bne_iff_ne]
    intro h2
    have := Int.mul_tdiv_add_tmod y 2
    omega
  · obtain ⟨z, rfl⟩ : ∃ z, y = 2 * z + 1 := ⟨y / 2, by omega⟩
    rw [show 2 * z + 1 - 1 = 2 * z by omega, Int.mul_tdiv_cancel_left z (by decide)]
    omega
theorem even_t (y : Int) (h : ¬ y % 2 = 1) : (y.tmod 2 != 0) = false ∧ y.tdiv 2 = y / 2 := by
  obtain ⟨z, rfl⟩ : ∃ z, y = 2 * z := ⟨y / 2, by omega⟩
  rw [Int.mul_tmod_right, Int.mul_tdiv_cancel_left z (by decide)]
  exact ⟨rfl, by omega⟩
/-- does it fit -/
def fitsT (n : Int) (M : Nat) : Bool := if n / 2 ^ (M - 1) % 2 = 1 then n / 2 ^ M == -1 else n / 2 ^ M == 0
theorem fitsT_iff (n : Int) (M : Nat) (hM : 1 ≤ M) : fitsT n M = decide (n / 2 ^ (M - 1) = 0 ∨ n / 2 ^ (M - 1) = -1) := by
  obtain ⟨k, rfl⟩ : ∃ k, M = k + 1 := ⟨M - 1, by omega⟩
  unfold fitsT
  rw [Nat.add_sub_cancel, shr_one]
  generalize n / 2 ^ k = z
  by_cases h : z % 2 = 1
  · rw [if_pos h]
    by_cases h1 : z = -1
    · subst h1; rfl
    · rw [decide_eq_false (by omega), beq_eq_false_iff_ne]; omega
  · rw [if_neg h]
    by_cases h1 : z = 0
    · subst h1; rfl
    · rw [decide_eq_false (by omega), beq_eq_false_iff_ne]; omega
set_option maxHeartbeats 1000000 in
set_option maxRecDepth 100000 in
theorem twos_any (n : Int) (M : Nat) (hM : 1 ≤ M) (hM2 : M ≤ 200) (h0 : -9223372036854775808 ≤ n) (h1 : n ≤ 9223372036854775807) (w : World) :
    Calls Tryd.prog 35 #[.int .i64 n, .int .i64 (M : Int)] w fun e w' => ∃ b, e = .returned (.tuple #[.slice (some ⟨b, 0, none⟩) M M, .bool (fitsT n M)]) ∧ RdV w' (NewIn w w') 1 (.slice (some ⟨b, 0, none⟩) M M) M ((bitsV M n).map Value.bool) ∧ Below w.heap.size w w' := by
  have hmk := mkS (P := Tryd.prog) (T := 62) (e := 4) (z := .bool false) (b := 1) Tryd.underlying62 (by kernel_rfl) rfl (by decide) (M : Int) M rfl (by omega)
  have H0 : Keep (Hp NoM w (w.alloc (.cells (Array.replicate M (.bool false)) 4)) [rowA w.heap.size 4 (Array.replicate M (.bool false))]) := ⟨(Hp.begin NoM w).newRow _ _⟩
  have R0 : Keep (RowQ M (Array.replicate M (.bool false)) M ((bitsV 0 n).map Value.bool)) := ⟨⟨by simp, by simp [bitsV], fun j v h => by simp [bitsV] at h⟩⟩
  go_enter Tryd.func35, Tryd.ntmps35
  go_wp2_with fail
  go_loopg [0, 7, 8] M (fun g u0 u7 _ wx => ∃ (r p : Nat) (c : Array Value), p = g ∧ p + r = M ∧ u0 = .int .i64 (n / 2 ^ r) ∧ u7 = .int .i64 ((p : Int) - 1) ∧ RowQ M c p ((bitsV r n).map Value.bool) ∧ Hp NoM w wx [rowA w.heap.size 4 c])
  case atStart => exact ⟨0, M, _, rfl, by omega, by simp, by simp, R0.out, H0.out⟩
  case round =>
    obtain ⟨r, p, c, rfl, hpr, rfl, rfl, hR, hH⟩ := hrel
    have HR := Keep.keep hR; have HH := Keep.keep hH
    have HNX := Keep.keep (shr_one n r)
    have HDK : Keep ((bitsV (r + 1) n).map Value.bool = .bool (decide (n / 2 ^ r % 2 = 1)) :: (bitsV r n).map Value.bool) := ⟨rfl⟩
    clear hR hH H0 R0
    have hrange : -9223372036854775808 ≤ n / 2 ^ r ∧ n / 2 ^ r ≤ 9223372036854775807 := by
      have hp : (1 : Int) ≤ 2 ^ r := by have := Int.pow_pos (n := (2 : Int)) (m := r) (by decide); omega
      constructor
      · rw [Int.le_ediv_iff_mul_le (by omega)]
        generalize (2 : Int) ^ r = pp at *
        omega
      · by_cases hn : 0 ≤ n
        · have := Int.ediv_le_self (2 ^ r) hn; omega
        · have : n / 2 ^ r < 0 := Int.ediv_neg_of_neg_of_pos (by omega) (by omega)
          omega
    obtain ⟨hr0, hr1⟩ := hrange
    cases p with
    | zero =>
      obtain rfl : r = M := by omega
      have hb0 := bitsV_get r n 0 (by omega)
      rw [Nat.sub_zero] at hb0
      have hc0 := (HH.out.row 0 rfl).cell (HR.out.at_ 0 (.bool (decide (n / 2 ^ (r - 1) % 2 = 1))) (by rw [List.getElem?_map, hb0]; rfl))
      have hres : RdV wr (NewIn w wr) 1 (.slice (some ⟨w.heap.size, 0, none⟩) r r) r ((bitsV r n).map Value.bool) :=
        RdV.ofRow (HH.out.row 0 rfl) (HH.out.new 0 rfl rfl) 1 0 r r _ (by simp [bitsV_length]) (Nat.le_refl _) (by unfold maxLen; omega) (fun j u hj => HR.out.at_ j u hj)
      have HRES := Keep.keep hres
      clear hres hb0 HNX HDK
      by_cases ho : n / 2 ^ (r - 1) % 2 = 1
      · have hd := decide_eq_true ho
        have HF : Keep (fitsT n r = (n / 2 ^ r == -1)) := ⟨by unfold fitsT; rw [if_pos ho]⟩
        rw [Nat.zero_add, hd] at hc0
        clear ho hd
        go_wp2_with fail
        go_ret2
        exact ⟨_, by rw [HF.out]; rfl, HRES.out, HH.out.below⟩
      · have hd := decide_eq_false ho
        have HF : Keep (fitsT n r = (n / 2 ^ r == 0)) := ⟨by unfold fitsT; rw [if_neg ho]⟩
        rw [Nat.zero_add, hd] at hc0
        clear ho hd
        go_wp2_with fail
        go_ret2
        exact ⟨_, by rw [HF.out]; rfl, HRES.out, HH.out.below⟩
    | succ q =>
      obtain ⟨y, hyy⟩ : ∃ y, n / 2 ^ r = y := ⟨_, rfl⟩
      rw [hyy] at HNX HDK hr0 hr1 ⊢
      have hqc : q < c.size := by rw [HR.out.sz]; omega
      have hcell := (HH.out.row 0 rfl).cell (i := q) (Array.getElem?_eq_getElem hqc)
      have hfz : wr.frozen? ⟨w.heap.size, q, none⟩ = false := (HH.out.row 0 rfl).frozen q
      generalize c[q] = vq at hcell
      have hwq : ((q + 1 : Nat) : Int) - 1 = (q : Int) := by omega
      clear hyy
      by_cases ho : y % 2 = 1
      · obtain ⟨hto, htd⟩ := odd_t y ho
        have HO : Keep (decide (y % 2 = 1) = true) := ⟨decide_eq_true ho⟩
        have hym : -9223372036854775808 ≤ y - 1 := by omega
        have hw1 : IntKind.i64.wrap (y - 1) = y - 1 := IntWalk.i64_in _ (by omega)
        clear ho
        go_wp2_with fail
        go_roundg q
        case measure => omega
        case rel =>
          refine ⟨r + 1, q, c.setIfInBounds q (.bool true), rfl, by omega, by rw [HNX.out], by simp, ?_, HH.out.setCell 0 rfl q (.bool true) rfl⟩
          rw [HDK.out, HO.out]; exact HR.out.put _
      · obtain ⟨hto, htd⟩ := even_t y ho
        have HO : Keep (decide (y % 2 = 1) = false) := ⟨decide_eq_false ho⟩
        clear ho
        go_wp2_with fail
        go_roundg q
        case measure => omega
        case rel =>
          refine ⟨r + 1, q, c.setIfInBounds q (.bool false), rfl, by omega, by rw [HNX.out], by simp, ?_, HH.out.setCell 0 rfl q (.bool false) rfl⟩
          rw [HDK.out, HO.out]; exact HR.out.put _
end Go.Proofs.YtohballfhhndbaaDoor
