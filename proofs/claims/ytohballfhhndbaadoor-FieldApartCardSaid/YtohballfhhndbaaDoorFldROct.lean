/- portolanref09.Octal. -/
import Derived.Test.YtohballfhhndbaaDoorFldOct
import Derived.Test.YtohballfhhndbaaDoorMk
namespace Go.Proofs.YtohballfhhndbaaDoor
open Go.RowKit
/-- the text l stands at the end of a row of n bytes, from p on -/
structure RowE (n : Nat) (c : Array Value) (p : Nat) (l : List UInt8) : Prop where
  sz : c.size = n
  pl : p + l.length = n
  at_ : ∀ j (h : j < l.length), c[p + j]? = some (.int .u8 (l[j].toNat : Int))
theorem RowE.put {n : Nat} {c : Array Value} {p : Nat} {l : List UInt8} (h : RowE n c (p + 1) l) (d : UInt8) : RowE n (c.setIfInBounds p (.int .u8 (d.toNat : Int))) p (d :: l) := by
  refine ⟨by simp [h.sz], by have := h.pl; simp only [List.length_cons]; omega, fun j hj => ?_⟩
  have hs := h.sz; have hp := h.pl
  match j, hj with
  | 0, _ => rw [Nat.add_zero, Array.getElem?_setIfInBounds_self]; simp; omega
  | j + 1, hj =>
    have := h.at_ j (by simpa using hj)
    rw [Array.getElem?_setIfInBounds_ne (by omega), show p + (j + 1) = p + 1 + j by omega]
    simpa using this
theorem RowE.reads {n : Nat} {c : Array Value} {p b : Nat} {e : TypeId} {w : World} {l : List UInt8} {N : Nat → Prop} (h : RowE n c p l) (hr : Row w b e c) (hN : N b) (hn : n ≤ maxLen) (k : Nat) (hk : k = l.length) : Reads w N (.slice (some ⟨b, p, none⟩) k k) l := by
  subst hk
  have hp := h.pl
  have h1 := RdV.ofRow (N := N) hr hN 1 p l.length l.length (bcells l) (by rw [bcells_length]; omega) (Nat.le_refl _) (by omega) (fun j v hj => by
    have hj2 : j < l.length := by
      have := (List.getElem?_eq_some_iff.1 hj).1
      rwa [bcells_length] at this
    rw [h.at_ j hj2, ← hj]
    simp [bcells, hj2])
  exact RdV.toBytes h1
set_option maxHeartbeats 1000000 in
set_option maxRecDepth 100000 in
theorem roctal_any (n many : Int) (h0 : -9223372036854775808 ≤ n) (h1 : n ≤ 9223372036854775807) (w : World) :
    Calls Tryd.prog 11 #[.int .i64 n, .int .i64 many] w fun e w' => ∃ v, e = .returned (.tuple #[v, .int .i64 (octS n many).2]) ∧ Reads w' (NewIn w w') v (octS n many).1 ∧ Below w.heap.size w w' := by
  by_cases hm : many < 2 ∨ 20 < many
  · have hs : octS n many = ([], 1) := by unfold octS; rw [if_pos hm]
    rw [hs]
    go_enter Tryd.func11, Tryd.ntmps11
    by_cases h2 : many < 2
    · have hd : decide (many < 2) = true := decide_eq_true h2
      clear hs hm
      go_wp2_with fail
      go_ret2
      exact ⟨_, rfl, Reads.none, Below.refl _ _⟩
    · have hd : decide (many < 2) = false := decide_eq_false h2
      have hd2 : decide (20 < many) = true := decide_eq_true (by omega)
      clear hs hm
      go_wp2_with fail
      go_ret2
      exact ⟨_, rfl, Reads.none, Below.refl _ _⟩
  · obtain ⟨k, rfl⟩ : ∃ k : Nat, many = (k : Int) + 1 := ⟨(many - 1).toNat, by omega⟩
    have hk1 : 1 ≤ k := by omega
    have hk2 : k ≤ 19 := by omega
    have hd : decide ((k : Int) + 1 < 2) = false := decide_eq_false (by omega)
    have hd2 : decide (20 < (k : Int) + 1) = false := decide_eq_false (by omega)
    have hkt : ((k : Int) + 1).toNat - 1 = k := by omega
    by_cases hn : n < 0
    · have hs : octS n ((k : Int) + 1) = ([], 3) := by unfold octS; rw [if_neg hm, if_pos (.inl hn)]
      rw [hs]
      have hd3 : decide (n < 0) = true := decide_eq_true hn
      clear hs hm
      go_enter Tryd.func11, Tryd.ntmps11
      go_wp2_with fail
      go_ret2
      exact ⟨_, rfl, Reads.none, Below.refl _ _⟩
    · obtain ⟨x, rfl⟩ : ∃ x : Nat, n = (x : Int) := ⟨n.toNat, by omega⟩
      have hs : octS (x : Int) ((k : Int) + 1) = if 8 ^ k ≤ x then ([], 3) else (octK k x ++ [0], 0) := by
        unfold octS
        rw [if_neg hm, hkt, Int.toNat_natCast]
        by_cases h : 8 ^ k ≤ x
        · rw [if_pos (.inr h), if_pos h]
        · rw [if_neg (by rintro (h' | h'); exact hn h'; exact h h'), if_neg h]
      have HS := Keep.keep hs
      have hd3 : decide ((x : Int) < 0) = false := decide_eq_false hn
      clear hs hm hn
      go_enter Tryd.func11, Tryd.ntmps11
      have hmk := mkS (P := Tryd.prog) (T := 22) (e := 5) (z := .int .u8 0) (b := 1) Tryd.underlying22 (by kernel_rfl) rfl (by decide) ((k : Int) + 1) (k + 1) (by omega) (by omega)
      have H0 : Keep (Hp NoM w (w.alloc (.cells (Array.replicate (k + 1) (.int .u8 0)) 5)) [rowA w.heap.size 5 (Array.replicate (k + 1) (.int .u8 0))]) := ⟨(Hp.begin NoM w).newRow _ _⟩
      have R0 : Keep (RowE (k + 1) (Array.replicate (k + 1) (.int .u8 0)) k (octK 0 x ++ [0])) := ⟨⟨by simp, by simp [octK], fun j h => by
        obtain rfl : j = 0 := by simp [octK] at h; omega
        simp [octK]⟩⟩
      have hk3 : (k : Int) + 1 - 2 = (k : Int) - 1 := by omega
      go_wp2_with fail
      go_loopg [0, 7] k (fun g u0 u7 wx => ∃ (r p : Nat) (c : Array Value), p = g ∧ p + r = k ∧ u0 = .int .i64 ((x / 8 ^ r : Nat) : Int) ∧ u7 = .int .i64 ((p : Int) - 1) ∧ RowE (k + 1) c p (octK r x ++ [0]) ∧ Hp NoM w wx [rowA w.heap.size 5 c])
      case atStart => exact ⟨0, k, _, rfl, by omega, by simp, rfl, R0.out, H0.out⟩
      case round =>
        obtain ⟨r, p, c, rfl, hpr, rfl, rfl, hR, hH⟩ := hrel
        have HR := Keep.keep hR; have HH := Keep.keep hH
        have hy : x / 8 ^ r ≤ 9223372036854775807 := Nat.le_trans (Nat.div_le_self _ _) (by omega)
        have hyn : x / 8 ^ (r + 1) = x / 8 ^ r / 8 := by rw [Nat.pow_succ, Nat.div_div_eq_div_mul]
        have hoc : octK (r + 1) x = UInt8.ofNat (48 + x / 8 ^ r % 8) :: octK r x := octK_cons r x
        have HYN := Keep.keep hyn; have HOC := Keep.keep hoc
        clear hR hH hyn hoc H0 R0
        obtain ⟨y, hyy⟩ : ∃ y, x / 8 ^ r = y := ⟨_, rfl⟩
        rw [hyy] at hy HYN HOC ⊢
        cases p with
        | zero =>
          obtain rfl : r = k := by omega
          have hxk : 8 ^ r ≤ x ↔ 0 < y := by rw [← hyy, Nat.div_pos_iff]; exact ⟨fun h => ⟨Nat.pow_pos (by decide), h⟩, fun h => h.2⟩
          have HXK := Keep.keep hxk
          clear hyy hxk
          by_cases h8 : 0 < y
          · have HS2 : Keep (octS (x : Int) ((r : Int) + 1) = ([], 3)) := ⟨by rw [HS.out, if_pos (HXK.out.2 h8)]⟩
            go_wp2_with fail
            go_ret2
            exact ⟨_, by rw [HS2.out]; rfl, by rw [HS2.out]; exact Reads.none, HH.out.below⟩
          · have HS2 : Keep (octS (x : Int) ((r : Int) + 1) = (octK r x ++ [0], 0)) := ⟨by rw [HS.out, if_neg (fun h => h8 (HXK.out.1 h))]⟩
            obtain rfl : y = 0 := by omega
            go_wp2_with fail
            go_ret2
            exact ⟨_, by rw [HS2.out]; rfl, by rw [HS2.out]; exact HR.out.reads (HH.out.row 0 rfl) (HH.out.new 0 rfl rfl) (by unfold maxLen; omega) _ (by simp [octK_length]), HH.out.below⟩
        | succ q =>
          have hqc : q < c.size := by rw [HR.out.sz]; omega
          have hcell := (HH.out.row 0 rfl).cell (i := q) (Array.getElem?_eq_getElem hqc)
          have hfz : wr.frozen? ⟨w.heap.size, q, none⟩ = false := (HH.out.row 0 rfl).frozen q
          generalize c[q] = vq at hcell
          have hwq : ((q + 1 : Nat) : Int) - 1 = (q : Int) := by omega
          clear hyy
          go_wp2_with fail
          go_roundg q
          case measure => omega
          case rel =>
            refine ⟨r + 1, q, c.setIfInBounds q (.int .u8 ((UInt8.ofNat (48 + y % 8)).toNat : Int)), rfl, by omega, ?_, by simp, ?_, ?_⟩
            · rw [HYN.out]; simp
            · rw [HOC.out, List.cons_append]; exact HR.out.put _
            · have h1 := HH.out.setCell 0 rfl q (.int .u8 (48 + (y : Int) % 8)) rfl
              have e : (((UInt8.ofNat (48 + y % 8)).toNat : Nat) : Int) = 48 + (y : Int) % 8 := by simp; omega
              rw [e]
              exact h1
end Go.Proofs.YtohballfhhndbaaDoor
