/- strconv.FormatInt IN OCTAL. -/
import Derived.Test.YtohballfhhndbaaDoorFldSpec
import Derived.Test.YtohballfhhndbaaDoorConv
import Derived.Test.YtohballfhhndbaaDoorShelf
import Derived.Shelf.Spec.TrailingZeros
import Derived.Lib.AppendIntMem
import Derived.ChangeOld
namespace Go.Proofs.YtohballfhhndbaaDoor
open Go.RowKit
abbrev Tz (B : Nat) (w : World) : Prop := Lib.TabBelow Tryd.prog B w "math/bits.deBruijn64tab" .u8 (Lib.deBruijn64tab.map Int.ofNat)
theorem tz_cell {B : Nat} {w : World} (h : Tz B w) : w.cell? ⟨4, 7, none⟩ = some (.int .u8 3) := by
  have h1 : Tryd.prog.globalNamed "math/bits.deBruijn64tab" = some 4 := by kernel_rfl
  have h2 := World.var?_cell h1 h.here 7
  rw [h2]
  rfl
set_option maxHeartbeats 1000000 in
theorem tz64_8 (B : Nat) (w : World) (hT : Tz B w) : Calls Tryd.prog 86 #[.int .u64 8] w fun e w' => e = .returned (.int .i64 3) ∧ w = w' := by
  have hc := tz_cell hT
  have h1 : IntKind.u64.wrap (-8) = 18446744073709551608 := by decide
  have h2 : bits .and .u64 8 18446744073709551608 = 8 := by decide
  have h3 : IntKind.u64.wrap 2286961704410830920 = 2286961704410830920 := by decide
  clear hT
  go_enter Tryd.func86, Tryd.ntmps86
  go_wp2_with fail
  go_ret
  exact ⟨rfl, rfl⟩
theorem tz_8 (B : Nat) (w : World) (hT : Tz B w) : Calls Tryd.prog 78 #[.int .u64 8] w fun e w' => e = .returned (.int .i64 3) ∧ w = w' := by
  have HT := Keep.keep (tz64_8 B w hT)
  go_enter Tryd.func78, Tryd.ntmps78
  go_wp2_with (go_at_call 86; ((with_reducible refine HT.out.mono ?_); rintro e w1 ⟨rfl, rfl⟩))
  go_ret
  exact ⟨rfl, rfl⟩
theorem pow2_8 (w : World) : Calls Tryd.prog 77 #[.int .i64 8] w fun e w' => e = .returned (.bool true) ∧ w = w' := by
  have h : bits .and .i64 8 7 = 0 := by decide
  go_enter Tryd.func77, Tryd.ntmps77
  go_wp2_with fail
  go_ret
  exact ⟨rfl, rfl⟩
/-- the text l stands at the row's end, from p on -/
structure RowT (c : Array Value) (p : Nat) (l : List UInt8) : Prop where
  sz : c.size = 65
  pl : p + l.length = 65
  at_ : ∀ j (h : j < l.length), c[p + j]? = some (.int .u8 (l[j].toNat : Int))
theorem RowT.put {c : Array Value} {p : Nat} {l : List UInt8} (h : RowT c (p + 1) l) (d : UInt8) : RowT (c.setIfInBounds p (.int .u8 (d.toNat : Int))) p (d :: l) := by
  refine ⟨by simp [h.sz], by have := h.pl; simp only [List.length_cons]; omega, fun j hj => ?_⟩
  have hs := h.sz; have hp := h.pl
  match j, hj with
  | 0, _ => rw [Nat.add_zero, Array.getElem?_setIfInBounds_self]; simp; omega
  | j + 1, hj =>
    have := h.at_ j (by simpa using hj)
    rw [Array.getElem?_setIfInBounds_ne (by omega), show p + (j + 1) = p + 1 + j by omega]
    simpa using this
theorem pow8_bound (m x : Nat) (hx : x < 18446744073709551616) (h : m = 0 ∨ 8 ^ m ≤ x) : m ≤ 21 := by
  rcases h with rfl | h
  · omega
  · refine Nat.le_of_not_lt fun hlt => ?_
    have : 8 ^ 22 ≤ 8 ^ m := Nat.pow_le_pow_right (by decide) hlt
    have : (8 : Nat) ^ 22 = 73786976294838206464 := by decide
    omega
/-- the digit of a number below 8 -/
theorem dig_at (d : Nat) (hd : d < 8) (h : d < (⟨#[48, 49, 50, 51, 52, 53, 54, 55, 56, 57, 97, 98, 99, 100, 101, 102, 103, 104, 105, 106, 107, 108, 109, 110, 111, 112, 113, 114, 115, 116, 117, 118, 119, 120, 121, 122]⟩ : ByteArray).size) :
    (⟨#[48, 49, 50, 51, 52, 53, 54, 55, 56, 57, 97, 98, 99, 100, 101, 102, 103, 104, 105, 106, 107, 108, 109, 110, 111, 112, 113, 114, 115, 116, 117, 118, 119, 120, 121, 122]⟩ : ByteArray)[d]'h = UInt8.ofNat (48 + d) := by
  rcases (by omega : d = 0 ∨ d = 1 ∨ d = 2 ∨ d = 3 ∨ d = 4 ∨ d = 5 ∨ d = 6 ∨ d = 7) with rfl | rfl | rfl | rfl | rfl | rfl | rfl | rfl <;> rfl
theorem sl65 (b q : Nat) (hq : q < 65) (w : World) : (Instr.sliceAt 117 (.pointer (some ⟨b, 0, none⟩)) (some (.int .i64 (q : Int))) none none).run Tryd.prog w = .ok (.slice (some ⟨b, q, none⟩) (65 - q) (65 - q)) w := by
  have hl : Tryd.prog.arrayLen 117 = 65 := by kernel_rfl
  have he : Tryd.prog.elem 117 = 5 := by kernel_rfl
  have h := run_sliceAt_array_l (P := Tryd.prog) w 117 ⟨b, 0, none⟩ (by kernel_rfl) .i64 (q : Int) (by omega) (by rw [hl]; omega)
  rw [h, hl, he, Tryd.sizeOf5]
  simp only [Result.andThen, slicedAt]
  rw [if_neg (by omega)]
  simp [Addr.add_mid]
set_option maxHeartbeats 2000000 in
set_option maxRecDepth 100000 in
theorem fb_any (u x : Nat) (neg : Bool) (hx : x < 18446744073709551616) (hu : u < 18446744073709551616) (hn : if neg then IntKind.u64.wrap (-(u : Int)) = (x : Int) else u = x) (B : Nat) (w : World) (hB : B ≤ w.heap.size) (hT : Tz B w) :
    Calls Tryd.prog 60 #[.slice none 0 0, .int .u64 (u : Int), .int .i64 8, .bool neg, .bool false] w fun e w' =>
      ∃ m, e = .returned (.tuple #[.slice none 0 0, .string ⟨((if neg then [45] else []) ++ octK (m + 1) x).toArray⟩]) ∧ x < 8 ^ (m + 1) ∧ (m = 0 ∨ 8 ^ m ≤ x) ∧ Below w.heap.size w w' := by
  have HP := Keep.keep (fun w => pow2_8 w)
  have HZ := Keep.keep (fun (wx : World) (h : Below w.heap.size w wx) => tz_8 B wx (hT.on (h.mono hB)))
  have HX := Keep.keep hx
  clear hT hB hx
  go_enter Tryd.func60, Tryd.ntmps60
  cases neg
  · simp only [Bool.false_eq_true, if_false] at hn
    subst hn
    go_wp2_with (first
      | (go_at_call 77; ((with_reducible refine (HP.out _).mono ?_); rintro e w1 ⟨rfl, rfl⟩)))
    refine (HZ.out _ ((Below.refl _ _).alloc (Nat.le_refl _) _)).mono ?_
    rintro e w1 ⟨rfl, rfl⟩
    have H0 : Keep (Hp NoM w (w.alloc (.cells Tryd.zeroCells117 117)) [rowA w.heap.size 117 Tryd.zeroCells117]) := ⟨(Hp.begin NoM w).newRow _ _⟩
    have R0 : Keep (RowT Tryd.zeroCells117 65 []) := ⟨⟨rfl, rfl, fun j h => by simp at h⟩⟩
    go_wp2_with fail
    go_loopg [1, 13] u (fun g u1 u13 wx => ∃ (m p : Nat) (c : Array Value), u / 8 ^ m = g ∧ u1 = .int .u64 (g : Int) ∧ u13 = .int .i64 (p : Int) ∧ p + m = 65 ∧ (m = 0 ∨ 8 ^ m ≤ u) ∧ RowT c p (octK m u) ∧ Hp NoM w wx [rowA w.heap.size 117 c])
    case atStart => exact ⟨0, 65, _, by simp, rfl, rfl, rfl, .inl rfl, R0.out, H0.out⟩
    case round =>
      obtain ⟨m, p, c, hg, rfl, rfl, hpm, hm, hR, hH⟩ := hrel
      have hm21 := pow8_bound m u HX.out hm
      obtain ⟨q, rfl⟩ : ∃ q, p = q + 1 := ⟨p - 1, by omega⟩
      have HH := Keep.keep hH; have HR := Keep.keep hR; have HM := Keep.keep hm; have HG := Keep.keep hg
      have hqc : q < c.size := by rw [hR.sz]; omega
      have hcell := (hH.row 0 rfl).cell (i := q) (Array.getElem?_eq_getElem hqc)
      have hfz : wr.frozen? ⟨w.heap.size, q, none⟩ = false := (hH.row 0 rfl).frozen q
      generalize c[q] = vq at hcell
      have hgk : gk < 18446744073709551616 := by
        have := HX.out
        have := Nat.div_le_self u (8 ^ m)
        omega
      clear hH hR hm hg H0 R0
      by_cases h8 : 8 ≤ gk
      · have hand : bits .and .u64 (gk : Int) 7 = ((gk % 8 : Nat) : Int) := by
          have := u64_and_nat gk 7 (by omega) (by decide)
          rw [show gk &&& 7 = gk % 8 from Nat.and_two_pow_sub_one_eq_mod gk 3] at this
          exact this
        have hd := dig_at (gk % 8) (by omega)
        have hlt : gk % 8 < 36 := by omega
        have hwq : ((q + 1 : Nat) : Int) - 1 = (q : Int) := by omega
        go_wp2_with fail
        go_roundg (gk / 8)
        case measure => omega
        case rel =>
          refine ⟨m + 1, q, c.setIfInBounds q (.int .u8 ((UInt8.ofNat (48 + u / 8 ^ m % 8)).toNat : Int)), ?_, by simp, rfl, by omega, .inr ?_, ?_, ?_⟩
          · rw [← HG.out, Nat.pow_succ, Nat.div_div_eq_div_mul]
          · have := HG.out
            rw [Nat.pow_succ]
            rw [Nat.mul_comm]
            exact (Nat.le_div_iff_mul_le (Nat.pow_pos (by decide))).1 (by rw [HG.out]; exact h8)
          · rw [octK_cons]; exact HR.out.put _
          · have h1 := HH.out.setCell 0 rfl q (.int .u8 ((48 + (gk : Int) % 8) % 256)) rfl
            rw [HG.out]
            have e : (((UInt8.ofNat (48 + gk % 8)).toNat : Nat) : Int) = (48 + (gk : Int) % 8) % 256 := by simp
            rw [e]
            exact h1
      · have hd := dig_at gk (by omega)
        have hlt : gk < 36 := by omega
        have hwq : ((q + 1 : Nat) : Int) - 1 = (q : Int) := by omega
        have hR2 := HR.out.put (UInt8.ofNat (48 + gk))
        have hxl : u < 8 ^ (m + 1) := by
          rw [Nat.pow_succ, Nat.mul_comm]
          exact (Nat.div_lt_iff_lt_mul (Nat.pow_pos (by decide))).1 (by rw [HG.out]; omega)
        have ho : octK (m + 1) u = UInt8.ofNat (48 + gk) :: octK m u := by rw [octK_cons, HG.out, Nat.mod_eq_of_lt (by omega)]
        rw [← ho] at hR2
        have e : (((UInt8.ofNat (48 + gk)).toNat : Nat) : Int) = (48 + (gk : Int)) % 256 := by simp
        rw [e] at hR2
        have H2 := Keep.keep (HH.out.setCell 0 rfl q (.int .u8 ((48 + (gk : Int)) % 256)) rfl)
        have HR2 := Keep.keep hR2
        have HXL := Keep.keep hxl
        have hsl := sl65 w.heap.size q (by omega)
        have hrd : Reads (wr.setCell ⟨w.heap.size, q, none⟩ (.int .u8 ((48 + (gk : Int)) % 256))) (fun _ => True) (.slice (some ⟨w.heap.size, q, none⟩) (65 - q) (65 - q)) (octK (m + 1) u) := by
          have h1 := RdV.ofRow (N := fun _ => True) (H2.out.row 0 rfl) trivial 1 q (65 - q) (65 - q) (bcells (octK (m + 1) u)) (by rw [bcells_length, octK_length]; omega) (Nat.le_refl _) (by unfold maxLen; omega) (fun j v hj => by
            have hj2 : j < (octK (m + 1) u).length := by
              have := (List.getElem?_eq_some_iff.1 hj).1
              rwa [bcells_length] at this
            rw [HR2.out.at_ j hj2, ← hj]
            simp [bcells, hj2])
          have h2 : 65 - q = (octK (m + 1) u).length := by rw [octK_length]; omega
          rw [h2] at h1 ⊢
          exact RdV.toBytes h1
        have hcv := run_string_of hrd
        clear hR2 hxl ho e HR HH hrd
        go_wp2_with fail
        go_ret2
        exact ⟨m, rfl, HXL.out, HM.out, H2.out.below⟩
  · simp only [if_true] at hn
    go_wp2_with (first
      | (go_at_call 77; ((with_reducible refine (HP.out _).mono ?_); rintro e w1 ⟨rfl, rfl⟩)))
    refine (HZ.out _ ((Below.refl _ _).alloc (Nat.le_refl _) _)).mono ?_
    rintro e w1 ⟨rfl, rfl⟩
    have H0 : Keep (Hp NoM w (w.alloc (.cells Tryd.zeroCells117 117)) [rowA w.heap.size 117 Tryd.zeroCells117]) := ⟨(Hp.begin NoM w).newRow _ _⟩
    have R0 : Keep (RowT Tryd.zeroCells117 65 []) := ⟨⟨rfl, rfl, fun j h => by simp at h⟩⟩
    go_wp2_with fail
    go_loopg [1, 13] x (fun g u1 u13 wx => ∃ (m p : Nat) (c : Array Value), x / 8 ^ m = g ∧ u1 = .int .u64 (g : Int) ∧ u13 = .int .i64 (p : Int) ∧ p + m = 65 ∧ (m = 0 ∨ 8 ^ m ≤ x) ∧ RowT c p (octK m x) ∧ Hp NoM w wx [rowA w.heap.size 117 c])
    case atStart => exact ⟨0, 65, _, by simp, rfl, rfl, rfl, .inl rfl, R0.out, H0.out⟩
    case round =>
      obtain ⟨m, p, c, hg, rfl, rfl, hpm, hm, hR, hH⟩ := hrel
      have hm21 := pow8_bound m x HX.out hm
      obtain ⟨q, rfl⟩ : ∃ q, p = q + 1 := ⟨p - 1, by omega⟩
      have HH := Keep.keep hH; have HR := Keep.keep hR; have HM := Keep.keep hm; have HG := Keep.keep hg
      have hqc : q < c.size := by rw [hR.sz]; omega
      have hcell := (hH.row 0 rfl).cell (i := q) (Array.getElem?_eq_getElem hqc)
      have hfz : wr.frozen? ⟨w.heap.size, q, none⟩ = false := (hH.row 0 rfl).frozen q
      generalize c[q] = vq at hcell
      have hgk : gk < 18446744073709551616 := by
        have := HX.out
        have := Nat.div_le_self x (8 ^ m)
        omega
      clear hH hR hm hg H0 R0
      by_cases h8 : 8 ≤ gk
      · have hand : bits .and .u64 (gk : Int) 7 = ((gk % 8 : Nat) : Int) := by
          have := u64_and_nat gk 7 (by omega) (by decide)
          rw [show gk &&& 7 = gk % 8 from Nat.and_two_pow_sub_one_eq_mod gk 3] at this
          exact this
        have hd := dig_at (gk % 8) (by omega)
        have hlt : gk % 8 < 36 := by omega
        have hwq : ((q + 1 : Nat) : Int) - 1 = (q : Int) := by omega
        go_wp2_with fail
        go_roundg (gk / 8)
        case measure => omega
        case rel =>
          refine ⟨m + 1, q, c.setIfInBounds q (.int .u8 ((UInt8.ofNat (48 + x / 8 ^ m % 8)).toNat : Int)), ?_, by simp, rfl, by omega, .inr ?_, ?_, ?_⟩
          · rw [← HG.out, Nat.pow_succ, Nat.div_div_eq_div_mul]
          · have := HG.out
            rw [Nat.pow_succ]
            rw [Nat.mul_comm]
            exact (Nat.le_div_iff_mul_le (Nat.pow_pos (by decide))).1 (by rw [HG.out]; exact h8)
          · rw [octK_cons]; exact HR.out.put _
          · have h1 := HH.out.setCell 0 rfl q (.int .u8 ((48 + (gk : Int) % 8) % 256)) rfl
            rw [HG.out]
            have e : (((UInt8.ofNat (48 + gk % 8)).toNat : Nat) : Int) = (48 + (gk : Int) % 8) % 256 := by simp
            rw [e]
            exact h1
      · have hd := dig_at gk (by omega)
        have hlt : gk < 36 := by omega
        have hwq : ((q + 1 : Nat) : Int) - 1 = (q : Int) := by omega
        have hR2 := HR.out.put (UInt8.ofNat (48 + gk))
        have hxl : x < 8 ^ (m + 1) := by
          rw [Nat.pow_succ, Nat.mul_comm]
          exact (Nat.div_lt_iff_lt_mul (Nat.pow_pos (by decide))).1 (by rw [HG.out]; omega)
        have ho : octK (m + 1) x = UInt8.ofNat (48 + gk) :: octK m x := by rw [octK_cons, HG.out, Nat.mod_eq_of_lt (by omega)]
        rw [← ho] at hR2
        have e : (((UInt8.ofNat (48 + gk)).toNat : Nat) : Int) = (48 + (gk : Int)) % 256 := by simp
        rw [e] at hR2
        have H2 := Keep.keep (HH.out.setCell 0 rfl q (.int .u8 ((48 + (gk : Int)) % 256)) rfl)
        have HR2 := Keep.keep hR2
        have HXL := Keep.keep hxl
        obtain ⟨q, rfl⟩ : ∃ r, q = r + 1 := ⟨q - 1, by omega⟩
        have hqc2 : q < 65 := by omega
        have hc2 : (wr.setCell ⟨w.heap.size, q + 1, none⟩ (.int .u8 ((48 + (gk : Int)) % 256))).cell? ⟨w.heap.size, q, none⟩ = some ((c.setIfInBounds (q + 1) (.int .u8 ((48 + (gk : Int)) % 256)))[q]'(by have := hR2.sz; omega)) :=
          (H2.out.row 0 rfl).cell (i := q) (Array.getElem?_eq_getElem (by have := hR2.sz; omega))
        have hf2 : (wr.setCell ⟨w.heap.size, q + 1, none⟩ (.int .u8 ((48 + (gk : Int)) % 256))).frozen? ⟨w.heap.size, q, none⟩ = false := (H2.out.row 0 rfl).frozen q
        have HR3 := Keep.keep (hR2.put 45)
        have H3 := Keep.keep (H2.out.setCell 0 rfl q (.int .u8 45) rfl)
        generalize (c.setIfInBounds (q + 1) (.int .u8 ((48 + (gk : Int)) % 256)))[q]'(by have := hR2.sz; omega) = vq2 at hc2
        have hwq2 : ((q + 1 : Nat) : Int) - 1 = (q : Int) := by omega
        have hsl := sl65 w.heap.size q (by omega)
        have hrd : Reads ((wr.setCell ⟨w.heap.size, q + 1, none⟩ (.int .u8 ((48 + (gk : Int)) % 256))).setCell ⟨w.heap.size, q, none⟩ (.int .u8 45)) (fun _ => True) (.slice (some ⟨w.heap.size, q, none⟩) (65 - q) (65 - q)) (45 :: octK (m + 1) x) := by
          have hl : (45 :: octK (m + 1) x).length = 65 - q := by rw [List.length_cons, octK_length]; omega
          have h1 := RdV.ofRow (N := fun _ => True) (H3.out.row 0 rfl) trivial 1 q (65 - q) (65 - q) (bcells (45 :: octK (m + 1) x)) (by rw [bcells_length]; omega) (Nat.le_refl _) (by unfold maxLen; omega) (fun j v hj => by
            have hj2 : j < (45 :: octK (m + 1) x).length := by
              have := (List.getElem?_eq_some_iff.1 hj).1
              rwa [bcells_length] at this
            refine (HR3.out.at_ j hj2).trans ?_
            rw [← hj]
            exact (bcells_get _ j hj2).symm)
          rw [← hl] at h1 ⊢
          exact RdV.toBytes h1
        have hcv := run_string_of hrd
        clear hR2 hxl ho e HR HH hrd
        go_wp2_with fail
        go_ret2
        exact ⟨m, rfl, HXL.out, HM.out, H3.out.below⟩
set_option maxHeartbeats 1000000 in
/-- a number of no sign -/
theorem fmt_pos (n : Nat) (hn : n ≤ 9223372036854775807) (B : Nat) (w : World) (hB : B ≤ w.heap.size) (hT : Tz B w) :
    Calls Tryd.prog 33 #[.int .i64 (n : Int), .int .i64 8] w fun e w' => ∃ m, e = .returned (.string ⟨(octK (m + 1) n).toArray⟩) ∧ n < 8 ^ (m + 1) ∧ (m = 0 ∨ 8 ^ m ≤ n) ∧ Below w.heap.size w w' := by
  have HF := Keep.keep (fb_any n n false (by omega) (by omega) (by simp) B w hB hT)
  have hwr : IntKind.u64.wrap (n : Int) = (n : Int) := IntWalk.u64_in _ (by omega)
  have HI : Keep (Calls Tryd.prog 45 #[.int .i64 (n : Int), .int .i64 8] w fun e w' => ∃ m, e = .returned (.string ⟨(octK (m + 1) n).toArray⟩) ∧ n < 8 ^ (m + 1) ∧ (m = 0 ∨ 8 ^ m ≤ n) ∧ Below w.heap.size w w') := by
    constructor
    have hd : decide ((n : Int) < 0) = false := decide_eq_false (by omega)
    go_enter Tryd.func45, Tryd.ntmps45
    go_wp2_with (go_at_call 60; ((with_reducible refine HF.out.mono ?_); rintro e w1 ⟨m, rfl, h1, h2, hb1⟩; have H1 := Keep.keep h1; have H2 := Keep.keep h2; clear h1 h2))
    go_ret
    exact ⟨m, rfl, H1.out, H2.out, hb1⟩
  clear hwr
  go_enter Tryd.func33, Tryd.ntmps33
  go_wp2_with (go_at_call 45; ((with_reducible refine HI.out.mono ?_); rintro e w1 ⟨m, rfl, h1, h2, hb1⟩; have H1 := Keep.keep h1; have H2 := Keep.keep h2; clear h1 h2))
  go_ret
  exact ⟨m, rfl, H1.out, H2.out, hb1⟩
set_option maxHeartbeats 1000000 in
/-- .. of a sign: some text -/
theorem fmt_neg (n : Int) (hn : n < 0) (hm : -9223372036854775808 ≤ n) (B : Nat) (w : World) (hB : B ≤ w.heap.size) (hT : Tz B w) :
    Calls Tryd.prog 33 #[.int .i64 n, .int .i64 8] w fun e w' => ∃ l : List UInt8, e = .returned (.string ⟨l.toArray⟩) ∧ Below w.heap.size w w' := by
  obtain ⟨x, rfl⟩ : ∃ x : Nat, n = -(x : Int) := ⟨(-n).toNat, by omega⟩
  obtain ⟨y, hy⟩ : ∃ y : Nat, y + x = 18446744073709551616 := ⟨18446744073709551616 - x, by omega⟩
  have hwr : IntKind.u64.wrap (-(x : Int)) = (y : Int) := by
    rw [IntKind.wrap_u64]; omega
  have HF := Keep.keep (fb_any y x true (by omega) (by omega) (by
    rw [if_pos rfl, IntKind.wrap_u64]; omega) B w hB hT)
  clear hy
  have HI : Keep (Calls Tryd.prog 45 #[.int .i64 (-(x : Int)), .int .i64 8] w fun e w' => ∃ l : List UInt8, e = .returned (.string ⟨l.toArray⟩) ∧ Below w.heap.size w w') := by
    constructor
    have hd : decide (0 < x) = true := decide_eq_true (by omega)
    go_enter Tryd.func45, Tryd.ntmps45
    go_wp2_with fail
    refine HF.out.mono ?_
    rintro e w1 ⟨m, rfl, h1, h2, hb1⟩
    clear h1 h2
    go_wp2_with fail
    go_ret
    exact ⟨_, rfl, hb1⟩
  clear hwr
  go_enter Tryd.func33, Tryd.ntmps33
  go_wp2_with (go_at_call 45; ((with_reducible refine HI.out.mono ?_); rintro e w1 ⟨m, rfl, hb1⟩))
  go_ret
  exact ⟨_, rfl, hb1⟩
end Go.Proofs.YtohballfhhndbaaDoor
