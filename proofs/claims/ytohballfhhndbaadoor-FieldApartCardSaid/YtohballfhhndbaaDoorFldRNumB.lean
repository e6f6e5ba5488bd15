/- portolanref09.Number: in base 256. -/
import Derived.Test.YtohballfhhndbaaDoorFldRNum
namespace Go.Proofs.YtohballfhhndbaaDoor
open Go.RowKit
theorem slBool : SlK Tryd.prog 62 4 (.bool false) 1 1 := SlK.mk' Tryd.underlying62 (by kernel_rfl) rfl (by decide)
theorem slBool' : SlTy Tryd.prog 62 4 (.bool false) 1 := SlTy.mk' Tryd.underlying62 (by kernel_rfl) rfl
abbrev bvs (l : List Bool) : List Value := l.map Value.bool
theorem widS_of (l : List UInt8) (n : Int) (h : valW l = n) (h0 : -9223372036854775808 ≤ n) (h1 : n ≤ 9223372036854775807) : widS l = (n, 0) := by
  unfold widS; rw [h, if_pos ⟨h0, h1⟩]
set_option maxHeartbeats 4000000 in
set_option maxRecDepth 100000 in
theorem rnum_wide (v : Value) (c : UInt8) (t : List UInt8) (w : World) (hr : Reads w (· < w.heap.size) v (c :: t)) (hl : t.length ≤ 19) (hc : 128 ≤ c.toNat) :
    Calls Tryd.prog 15 #[v] w fun e w' => e = .returned (.tuple #[.int .i64 (widS (c :: t)).1, .int .i64 (widS (c :: t)).2]) ∧ Below w.heap.size w w' := by
  obtain ⟨a, cap, rfl, hcap, hmx, -⟩ := hr.shape
  obtain ⟨b, off, rfl, hc0⟩ := reads_at hr (i := 0) (by simp)
  simp only [List.getElem_cons_zero, Nat.add_zero] at hc0
  have hlt : decide ((c.toNat : Int) < 128) = false := decide_eq_false (by omega)
  have HBV := Keep.keep (bits_value c t)
  obtain ⟨l, hll⟩ : ∃ l, c :: t = l := ⟨_, rfl⟩
  have hlen : l.length = t.length + 1 := by rw [← hll]; rfl
  rw [hll] at hr HBV ⊢
  have hl1 : decide ((l.length : Int) < 1) = false := decide_eq_false (by omega)
  have hl20 : decide ((20 : Int) < (l.length : Int)) = false := decide_eq_false (by omega)
  have HR := Keep.keep hr
  have hl2 : l.length ≤ 20 := by omega
  have hl0 : 0 < l.length := by omega
  have hcc : c.toNat < 256 := c.toNat_lt
  clear hr hcap hmx hlen
  go_enter Tryd.func15, Tryd.ntmps15
  go_wp2_with fail
  clear hll hc0
  go_loopg [6, 7, 8, 9, 10] l.length (fun g u6 u7 _ _ _ wx => ∃ i : Nat, i + g = l.length ∧ u7 = .int .i64 (i : Int) ∧ Hp NoM w wx [slA w.heap.size 4 1 u6 (8 * i) (bvs (bitsOf (l.take i)))])
  case atStart => exact ⟨0, by omega, rfl, (Hp.begin NoM w).nilS _ _ _⟩
  case round =>
    obtain ⟨i, hig, rfl, hH⟩ := hrel
    have HH := Keep.keep hH
    clear hH
    by_cases hi : i < l.length
    · obtain ⟨g, rfl⟩ : ∃ g, gk = g + 1 := ⟨gk - 1, by omega⟩
      have hdi : decide ((i : Int) < (l.length : Int)) = true := decide_eq_true (by omega)
      have HBS := Keep.keep (bitsOf_snoc l i hi)
      obtain ⟨d, hdd⟩ : ∃ d, l[i] = d := ⟨_, rfl⟩
      have HCELL : Keep (∀ wx, Below w.heap.size w wx → wx.cell? ⟨b, off + i, none⟩ = some (.int .u8 (d.toNat : Int))) := ⟨fun wx h => by
        rw [← hdd]; exact (HR.out.below h (fun b hb => hb)).cell b off _ _ rfl i hi⟩
      rw [hdd] at HBS
      have hd256 : d.toNat < 256 := d.toNat_lt
      clear hdd
      go_wp2_with fail
      have HH0 : Keep (Hp NoM w wr [slA w.heap.size 4 1 u6 (8 * i + 0) (bvs (bitsOf (l.take i) ++ bb d 0))]) := ⟨by simpa [bb] using HH.out⟩
      go_loopg [6, 8, 9, 10] 8 (fun g u6 u8 _ _ wx => ∃ p : Nat, p + g = 8 ∧ u8 = .int .i64 ((g : Int) - 1) ∧ Hp NoM w wx [slA w.heap.size 4 1 u6 (8 * i + p) (bvs (bitsOf (l.take i) ++ bb d p))])
      case atStart => exact ⟨0, by omega, rfl, HH0.out⟩
      case round =>
        obtain ⟨p, hpg, rfl, hH2⟩ := hrel
        have HI := Keep.keep hH2
        clear hH2 HH0 HH
        cases gk with
        | zero =>
          obtain rfl : p = 8 := by omega
          go_wp2_with fail
          go_roundg g
          case measure => omega
          case rel =>
            refine ⟨i + 1, by omega, by simp, ?_⟩
            have h := HI.out
            rw [← HBS.out] at h
            exact h
        | succ k =>
          have hcell := HCELL.out wr HI.out.below
          have hk1 : ((k + 1 : Nat) : Int) - 1 = (k : Int) := by omega
          have hbs := bb_succ d p
          rw [show 7 - p = k by omega] at hbs
          have HBB := Keep.keep hbs
          clear hbs
          go_wp2_with fail
          go_loopg [9, 10] k (fun g u9 u10 wx => ∃ j : Nat, j + g = k ∧ u10 = .int .i64 (j : Int) ∧ u9 = .int .u8 ((d.toNat / 2 ^ j : Nat) : Int) ∧ wx = wr)
          case atStart => exact ⟨0, by omega, rfl, by simp, rfl⟩
          case round =>
            obtain ⟨j, hjg, rfl, rfl, rfl⟩ := hrel
            have hx : d.toNat / 2 ^ j < 256 := Nat.lt_of_le_of_lt (Nat.div_le_self _ _) hd256
            by_cases hj : j < k
            · obtain ⟨g2, rfl⟩ : ∃ g2, gk = g2 + 1 := ⟨gk - 1, by omega⟩
              have hdj : decide ((j : Int) < (k : Int)) = true := decide_eq_true (by omega)
              have HNX : Keep (d.toNat / 2 ^ (j + 1) = d.toNat / 2 ^ j / 2) := ⟨by rw [Nat.pow_succ, Nat.div_div_eq_div_mul]⟩
              obtain ⟨x, hxx⟩ : ∃ x, d.toNat / 2 ^ j = x := ⟨_, rfl⟩
              rw [hxx] at hx HNX ⊢
              clear hxx
              go_wp2_with fail
              go_roundg g2
              case measure => omega
              case rel => exact ⟨j + 1, by omega, by simp, by rw [HNX.out]; simp, rfl⟩
            · obtain rfl : j = k := by omega
              have hdj : decide ((j : Int) < (j : Int)) = false := decide_eq_false (by omega)
              obtain ⟨x, hxx⟩ : ∃ x, d.toNat / 2 ^ j = x := ⟨_, rfl⟩
              rw [hxx] at hx HBB ⊢
              have hxb : (((x : Int) % 2) == 1) = decide (x % 2 = 1) := by
                by_cases h : x % 2 = 1
                · rw [decide_eq_true h, beq_iff_eq]; omega
                · rw [decide_eq_false h, beq_eq_false_iff_ne]; omega
              obtain ⟨xb, hxbb⟩ : ∃ xb, decide (x % 2 = 1) = xb := ⟨_, rfl⟩
              rw [hxbb] at hxb HBB
              clear hxx hxbb
              go_wp2_with (with_reducible refine arm_stop ?_)
              refine Stopped.out ?_
              have hrow : RdV (wr.alloc (.cells #[.bool xb] 4)) (fun _ => True) 1 (.slice (some ⟨wr.heap.size, 0, none⟩) 1 1) 1 (bvs [xb]) :=
                RdV.ofRow (N := fun _ => True) (Row.new wr 4 #[.bool xb]) trivial 1 0 1 1 (bvs [xb]) rfl (Nat.le_refl _) (by unfold maxLen; omega) (fun q u hu => by
                  match q, hu with
                  | 0, hu => simpa using hu
                  | (q + 1), hu => simp at hu)
              refine arm_appendV slBool ((HI.out.alloc _).sl 0 rfl) hrow (by simp [Value.oneCell']) (by unfold maxLen; omega) (by omega) (HI.out.alloc _).size rfl rfl ?_
              intro v6 w7 ho7 hg7 hb7 _
              have H7 := Keep.keep ((HI.out.alloc _).grow 0 rfl hg7 ho7 hb7)
              clear ho7 hg7 hb7 hrow
              simp only [Act.put, List.setIfInBounds_toArray, List.set_cons_succ, List.set_cons_zero]
              go_wp2_with fail
              go_roundg j
              case measure => omega
              case rel =>
                refine ⟨p + 1, by omega, by simp, ?_⟩
                have h := H7.out
                rw [HBB.out]
                simpa [bvs, Nat.add_assoc] using h
    · obtain rfl : i = l.length := by omega
      have hdi : decide ((l.length : Int) < (l.length : Int)) = false := decide_eq_false (by omega)
      have hall := HH.out
      rw [List.take_length] at hall
      have HA := Keep.keep hall
      clear hall HH
      obtain ⟨a6, cap6, rfl, hcap6, hmx6, -⟩ := (ownsV_reads (HA.out.sl 0 rfl)).shape
      unfold maxLen at hmx6
      obtain ⟨a2, hsl, hsr⟩ := slice_fromV slBool' a6 (8 * l.length) cap6 1 .i64 (by omega) hcap6
      have hslz : ∀ w, (Instr.slice 62 (.slice a6 (8 * l.length) cap6) (some (.int .i64 1)) none none).run Tryd.prog w = .ok (.slice a2 (8 * l.length - 1) (cap6 - 1)) w := hsl
      obtain ⟨bs0, hbs0⟩ : ∃ bs0, (bitsOf l).tail = bs0 := ⟨_, rfl⟩
      have hbl : bs0.length = 8 * l.length - 1 := by rw [← hbs0, List.length_tail, bitsOf_length]
      have hrd0 : ∀ wx, Below wr.heap.size wr wx → RdV wx (· < wr.heap.size) 1 (.slice a2 bs0.length (cap6 - 1)) bs0.length (bvs bs0) := fun wx hb => by
        have h1 := ((ownsV_reads (HA.out.sl 0 rfl)).below hb (fun b hb => hb.2.1)).mono (N' := (· < wr.heap.size)) (fun b hb => hb.2.1)
        have h2 := hsr wx _ _ h1
        rw [hbl, ← hbs0]
        simpa [bvs, List.drop_one] using h2
      rw [← hbl] at hslz
      rw [hbs0] at HBV
      have HRD0 := Keep.keep hrd0
      have hbpos : 0 < bs0.length := by omega
      have hcap2 : bs0.length ≤ cap6 - 1 := by omega
      have hbmax : bs0.length ≤ 159 := by omega
      clear hrd0 hsl hsr hbs0 hbl
      go_wp2_with fail
      generalize wr = w4 at *
      go_loopg [6] bs0.length (fun g u6 wx => ∃ (bs : List Bool) (a3 : Option Addr) (cap3 : Nat), bs.length = g ∧ 0 < bs.length ∧ bs.length ≤ 159 ∧ bs.length ≤ cap3 ∧ u6 = .slice a3 bs.length cap3 ∧ twoV bs = valW l ∧ (∀ wy, Below w4.heap.size w4 wy → RdV wy (· < w4.heap.size) 1 (.slice a3 bs.length cap3) bs.length (bvs bs)) ∧ Below w4.heap.size w4 wx)
      case atStart => exact ⟨bs0, a2, cap6 - 1, rfl, hbpos, hbmax, hcap2, rfl, HBV.out, HRD0.out, Below.refl _ _⟩
      case round =>
        obtain ⟨bs, a3, cap3, hbg, hb0, hb9, hbc, rfl, htw, hrd, hbw⟩ := hrel
        have HRD := Keep.keep hrd; have HTW := Keep.keep htw; have HBG := Keep.keep hbg; have HBW := Keep.keep hbw
        have hrw := hrd wr hbw
        obtain ⟨b3, off3, cc3, he3, _, _, _⟩ := hrw.has (by omega)
        injection he3 with he3 _ hcc3
        subst he3 hcc3
        clear hrd htw hbg hbw HBV HRD0 hbpos hbmax hcap2 hslz
        by_cases h64 : 64 < bs.length
        · have hd64 : decide ((64 : Int) < (bs.length : Int)) = true := decide_eq_true (by omega)
          match bs, hb0, hb9, hbc, HRD, HTW, HBG, hrw, h64, hd64 with
          | b0 :: b1 :: r, hb0, hb9, hbc, HRD, HTW, HBG, hrw, h64, hd64 =>
            have hc0 := hrw.cell b3 off3 _ _ rfl 0 (.bool b0) rfl
            have hc1 := hrw.cell b3 off3 _ _ rfl 1 (.bool b1) rfl
            rw [Nat.add_zero] at hc0
            simp only [List.length_cons] at *
            obtain ⟨L, hL⟩ : ∃ L, r.length + 1 = L := ⟨_, rfl⟩
            clear hd64
            rw [hL] at hbc h64 hrw HRD ⊢
            have hd64 : decide ((64 : Int) < (L : Int) + 1) = true := decide_eq_true (by omega)
            have HL := Keep.keep hL
            clear hL
            by_cases hbb : b0 = b1
            · subst hbb
              have hne : (b0 != b0) = false := by simp
              obtain ⟨a5, hsl, hsr⟩ := slice_fromV slBool' (some ⟨b3, off3, none⟩) (L + 1) cap3 1 .i64 (by omega) hbc
              have hslz : ∀ w, (Instr.slice 62 (.slice (some ⟨b3, off3, none⟩) (L + 1) cap3) (some (.int .i64 1)) none none).run Tryd.prog w = .ok (.slice a5 L (cap3 - 1)) w := hsl
              have HSR : Keep (∀ wy, Below w4.heap.size w4 wy → RdV wy (· < w4.heap.size) 1 (.slice a5 L (cap3 - 1)) L (bvs (b0 :: r))) := ⟨fun wy h => hsr wy _ _ (HRD.out wy h)⟩
              have HTW2 : Keep (twoV (b0 :: r) = valW l) := ⟨by rw [← two_same]; exact HTW.out⟩
              clear hsl hsr hrw
              go_wp2_with fail
              go_quiet (fail)
              have HBW2 := Keep.keep (HBW.out.trans (below_drewN' (Below.refl _ wr) nq |>.mono HBW.out.size))
              go_wp2_with fail
              have hL := HL.out
              subst hL
              go_roundg (r.length + 1)
              case measure => rw [← HBG.out]; omega
              case rel => exact ⟨b0 :: r, a5, cap3 - 1, rfl, by simp, by simp; omega, by simp; omega, rfl, HTW2.out, HSR.out, HBW2.out⟩
            · have HE : Keep (widS l = (0, 3)) := ⟨by
                unfold widS
                rw [if_neg]
                rw [← HTW.out]
                exact two_far b0 b1 r hbb (by have := HL.out; omega)⟩
              clear hrw
              cases b0 <;> cases b1
              · exact absurd rfl hbb
              · clear hbb
                go_wp2_with fail
                go_quiet (fail)
                have HBW2 := Keep.keep (HBW.out.trans (below_drewN' (Below.refl _ wr) nq |>.mono HBW.out.size))
                go_wp2_with fail
                go_ret2
                exact ⟨by rw [HE.out]; rfl, HA.out.below.trans (HBW2.out.mono HA.out.size)⟩
              · clear hbb
                go_wp2_with fail
                go_quiet (fail)
                have HBW2 := Keep.keep (HBW.out.trans (below_drewN' (Below.refl _ wr) nq |>.mono HBW.out.size))
                go_wp2_with fail
                go_ret2
                exact ⟨by rw [HE.out]; rfl, HA.out.below.trans (HBW2.out.mono HA.out.size)⟩
              · exact absurd rfl hbb
          | [x], _, _, _, _, _, _, _, h64, _ => exact absurd h64 (by simp)
        · have hd64 : decide ((64 : Int) < (bs.length : Int)) = false := decide_eq_false (by omega)
          cases bs with
          | nil => exact absurd hb0 (by simp)
          | cons b0 r =>
            have hc0 := hrw.cell b3 off3 _ _ rfl 0 (.bool b0) rfl
            rw [Nat.add_zero] at hc0
            simp only [List.length_cons] at *
            have hr63 : r.length ≤ 63 := by omega
            have HN := Keep.keep (fun (k : Nat) (q : Nat) (hk : (r.take k).length ≤ q) (hq : q ≤ 63) => two_near b0 (r.take k) q hk hq)
            have HTW2 : Keep (r.foldl stepB (if b0 then -1 else 0) = valW l) := ⟨HTW.out⟩
            have HCE : Keep (∀ j, (h : j < r.length) → wr.cell? ⟨b3, off3 + (j + 1), none⟩ = some (.bool r[j])) := ⟨fun j h => hrw.cell b3 off3 _ _ rfl (j + 1) (.bool r[j]) (by simp [bvs, h])⟩
            obtain ⟨ini, hini⟩ : ∃ ini : Int, (if b0 then (-1 : Int) else 0) = ini := ⟨_, rfl⟩
            rw [hini] at HN HTW2
            clear hrw HRD HTW HBG
            cases b0
            · have hi0 : ini = 0 := by rw [← hini]; rfl
              subst hi0
              clear hini
              go_wp2_with fail
              go_loopg [11, 12] r.length (fun g u11 u12 wx => ∃ (j : Nat) (n : Int), j + g = r.length ∧ u12 = .int .i64 ((j : Int) + 1) ∧ u11 = .int .i64 n ∧ (r.take j).foldl stepB (0) = n ∧ wx = wr)
              case atStart => exact ⟨0, _, by omega, rfl, rfl, rfl, rfl⟩
              case round =>
                obtain ⟨j, n, hjg, rfl, rfl, hn, rfl⟩ := hrel
                have HNN := Keep.keep hn
                clear hn
                by_cases hj : j < r.length
                · obtain ⟨g, rfl⟩ : ∃ g, gk = g + 1 := ⟨gk - 1, by omega⟩
                  have hdj : decide ((j : Int) + 1 < (r.length : Int) + 1) = true := decide_eq_true (by omega)
                  have hcell := HCE.out j hj
                  have hnear := HN.out j 62 (by rw [List.length_take]; omega) (by decide)
                  have hsn := foldB_snoc r (0) j hj
                  rw [HNN.out] at hnear hsn
                  have e62 : (2 : Int) ^ 62 = 4611686018427387904 := by decide
                  rw [e62] at hnear
                  obtain ⟨hn0, hn1⟩ := hnear
                  obtain ⟨x, hx⟩ : ∃ x, r[j] = x := ⟨_, rfl⟩
                  rw [hx] at hcell hsn
                  have HSN := Keep.keep hsn
                  clear hx e62 hsn
                  cases x
                  · go_wp2_with fail
                    go_roundg g
                    case measure => omega
                    case rel => exact ⟨j + 1, 2 * n, by omega, by simp, rfl, by rw [HSN.out]; simp [stepB], rfl⟩
                  · go_wp2_with fail
                    go_roundg g
                    case measure => omega
                    case rel => exact ⟨j + 1, 2 * n + 1, by omega, by simp, rfl, by rw [HSN.out]; simp [stepB], rfl⟩
                · obtain rfl : j = r.length := by omega
                  have hdj : decide ((r.length : Int) + 1 < (r.length : Int) + 1) = false := decide_eq_false (by omega)
                  have hnear := HN.out r.length 63 (by rw [List.length_take]; omega) (by decide)
                  rw [HNN.out] at hnear
                  have e63 : (2 : Int) ^ 63 = 9223372036854775808 := by decide
                  rw [e63] at hnear
                  have hn := HNN.out
                  rw [List.take_length, HTW2.out] at hn
                  have HE : Keep (widS l = (n, 0)) := ⟨widS_of l n hn (by omega) (by omega)⟩
                  clear hn e63 hnear
                  go_wp2_with fail
                  go_ret2
                  exact ⟨by rw [HE.out]; rfl, HA.out.below.trans (HBW.out.mono HA.out.size)⟩
            · have hi0 : ini = -1 := by rw [← hini]; rfl
              subst hi0
              clear hini
              go_wp2_with fail
              go_loopg [11, 12] r.length (fun g u11 u12 wx => ∃ (j : Nat) (n : Int), j + g = r.length ∧ u12 = .int .i64 ((j : Int) + 1) ∧ u11 = .int .i64 n ∧ (r.take j).foldl stepB (-1) = n ∧ wx = wr)
              case atStart => exact ⟨0, _, by omega, rfl, rfl, rfl, rfl⟩
              case round =>
                obtain ⟨j, n, hjg, rfl, rfl, hn, rfl⟩ := hrel
                have HNN := Keep.keep hn
                clear hn
                by_cases hj : j < r.length
                · obtain ⟨g, rfl⟩ : ∃ g, gk = g + 1 := ⟨gk - 1, by omega⟩
                  have hdj : decide ((j : Int) + 1 < (r.length : Int) + 1) = true := decide_eq_true (by omega)
                  have hcell := HCE.out j hj
                  have hnear := HN.out j 62 (by rw [List.length_take]; omega) (by decide)
                  have hsn := foldB_snoc r (-1) j hj
                  rw [HNN.out] at hnear hsn
                  have e62 : (2 : Int) ^ 62 = 4611686018427387904 := by decide
                  rw [e62] at hnear
                  obtain ⟨hn0, hn1⟩ := hnear
                  obtain ⟨x, hx⟩ : ∃ x, r[j] = x := ⟨_, rfl⟩
                  rw [hx] at hcell hsn
                  have HSN := Keep.keep hsn
                  clear hx e62 hsn
                  cases x
                  · go_wp2_with fail
                    go_roundg g
                    case measure => omega
                    case rel => exact ⟨j + 1, 2 * n, by omega, by simp, rfl, by rw [HSN.out]; simp [stepB], rfl⟩
                  · go_wp2_with fail
                    go_roundg g
                    case measure => omega
                    case rel => exact ⟨j + 1, 2 * n + 1, by omega, by simp, rfl, by rw [HSN.out]; simp [stepB], rfl⟩
                · obtain rfl : j = r.length := by omega
                  have hdj : decide ((r.length : Int) + 1 < (r.length : Int) + 1) = false := decide_eq_false (by omega)
                  have hnear := HN.out r.length 63 (by rw [List.length_take]; omega) (by decide)
                  rw [HNN.out] at hnear
                  have e63 : (2 : Int) ^ 63 = 9223372036854775808 := by decide
                  rw [e63] at hnear
                  have hn := HNN.out
                  rw [List.take_length, HTW2.out] at hn
                  have HE : Keep (widS l = (n, 0)) := ⟨widS_of l n hn (by omega) (by omega)⟩
                  clear hn e63 hnear
                  go_wp2_with fail
                  go_ret2
                  exact ⟨by rw [HE.out]; rfl, HA.out.below.trans (HBW.out.mono HA.out.size)⟩
end Go.Proofs.YtohballfhhndbaaDoor
