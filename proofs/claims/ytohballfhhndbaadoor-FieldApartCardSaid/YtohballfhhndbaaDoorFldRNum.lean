/- portolanref09.Number. -/
import Derived.Test.YtohballfhhndbaaDoorFldBits
import Derived.Test.YtohballfhhndbaaDoorFldNumB
import Derived.Test.YtohballfhhndbaaDoorAppV
namespace Go.Proofs.YtohballfhhndbaaDoor
open Go.RowKit
set_option maxHeartbeats 2000000 in
set_option maxRecDepth 100000 in
/-- a number in octal -/
theorem rnum_oct (v : Value) (c : UInt8) (t : List UInt8) (w : World) (hr : Reads w (· < w.heap.size) v (c :: t)) (hl : t.length ≤ 19) (hc : c.toNat < 128) :
    Calls Tryd.prog 15 #[v] w fun e w' => e = .returned (.tuple #[.int .i64 (octV 0 ((c :: t).dropWhile (· == 32))).1, .int .i64 (octV 0 ((c :: t).dropWhile (· == 32))).2]) ∧ w = w' := by
  obtain ⟨a, cap, rfl, hcap, hmx, -⟩ := hr.shape
  obtain ⟨b, off, rfl, hc0⟩ := reads_at hr (i := 0) (by simp)
  simp only [List.getElem_cons_zero, Nat.add_zero] at hc0
  have hlt : decide ((c.toNat : Int) < 128) = true := decide_eq_true (by omega)
  obtain ⟨l, hll⟩ : ∃ l, c :: t = l := ⟨_, rfl⟩
  have hlen : l.length = t.length + 1 := by rw [← hll]; rfl
  rw [hll] at hr ⊢
  have hl1 : decide ((l.length : Int) < 1) = false := decide_eq_false (by omega)
  have hl20 : decide ((20 : Int) < (l.length : Int)) = false := decide_eq_false (by omega)
  have hcl : (c :: t).length = l.length := by rw [hll]
  have HR := Keep.keep hr
  have hl2 : l.length ≤ 20 := by omega
  have hl0 : 0 < l.length := by omega
  clear hr hcap hmx hlen hcl
  go_enter Tryd.func15, Tryd.ntmps15
  go_wp2_with fail
  go_loopg [4] l.length (fun g u4 wx => ∃ i : Nat, i + g = l.length ∧ u4 = .int .i64 (i : Int) ∧ l.dropWhile (· == 32) = (l.drop i).dropWhile (· == 32) ∧ wx = w)
  case atStart => exact ⟨0, by omega, rfl, rfl, rfl⟩
  case round =>
    obtain ⟨i, hig, rfl, hd, rfl⟩ := hrel
    have HD := Keep.keep hd
    clear hd hc0 hll
    by_cases hi : i < l.length
    · have hcell : wr.cell? ⟨b, off + i, none⟩ = some (.int .u8 (l[i].toNat : Int)) := HR.out.cell b off _ _ rfl i hi
      have hdr : l.drop i = l[i] :: l.drop (i + 1) := List.drop_eq_getElem_cons hi
      obtain ⟨d, hdd⟩ : ∃ d, l[i] = d := ⟨_, rfl⟩
      rw [hdd] at hdr hcell
      have hdi : decide ((i : Int) < (l.length : Int)) = true := decide_eq_true (by omega)
      by_cases h32 : d = 32
      · obtain ⟨g, rfl⟩ : ∃ g, gk = g + 1 := ⟨gk - 1, by omega⟩
        have hd : ((d.toNat : Int) == 32) = true := by rw [h32]; rfl
        have HD2 : Keep (l.dropWhile (· == 32) = (l.drop (i + 1)).dropWhile (· == 32)) := ⟨by rw [HD.out, hdr, h32]; rfl⟩
        clear hdr hdd h32
        go_wp2_with fail
        go_roundg g
        case measure => omega
        case rel => exact ⟨i + 1, by omega, by simp, HD2.out, rfl⟩
      · have hd : ((d.toNat : Int) == 32) = false := by
          rw [beq_eq_false_iff_ne]; intro e; exact h32 (UInt8.toNat_inj.1 (by show d.toNat = 32; omega))
        have HD2 : Keep (l.dropWhile (· == 32) = l.drop i) := ⟨by rw [HD.out, hdr, List.dropWhile_cons, if_neg (by simp [h32])]⟩
        clear hdr hdd h32
        go_wp2_with fail
        clear hcell
        go_loopg [4, 5] (l.length - i) (fun g u4 u5 wx => ∃ (j : Nat) (n : Int), j + g = l.length ∧ u4 = .int .i64 (j : Int) ∧ u5 = .int .i64 n ∧ octV 0 (l.dropWhile (· == 32)) = octV n (l.drop j) ∧ -9223372036854775808 ≤ n ∧ n ≤ 9223372036854775807 ∧ wx = wr)
        case atStart => exact ⟨i, 0, by omega, rfl, rfl, by rw [HD2.out], by omega, by omega, rfl⟩
        case round =>
          obtain ⟨j, n, hjg, rfl, rfl, hn, hn0, hn1, rfl⟩ := hrel
          have HN := Keep.keep hn
          clear hn
          by_cases hj : j < l.length
          · have hdj : decide ((j : Int) < (l.length : Int)) = true := decide_eq_true (by omega)
            have hcell : wr.cell? ⟨b, off + j, none⟩ = some (.int .u8 (l[j].toNat : Int)) := HR.out.cell b off _ _ rfl j hj
            have hdr : l.drop j = l[j] :: l.drop (j + 1) := List.drop_eq_getElem_cons hj
            obtain ⟨d, hdd⟩ : ∃ d, l[j] = d := ⟨_, rfl⟩
            rw [hdd] at hdr hcell
            have hd256 : d.toNat < 256 := d.toNat_lt
            have hv : octV n (l.drop j) = if d = 32 ∨ d = 0 then (n, 0) else if d.toNat < 48 ∨ 55 < d.toNat then (0, 5) else octV (IntKind.i64.wrap (IntKind.i64.wrap (8 * n) + (d.toNat - 48 : Int))) (l.drop (j + 1)) := by rw [hdr]; rfl
            rw [← HN.out] at hv
            have hd32 : d = 32 ↔ d.toNat = 32 := ⟨fun h => by rw [h]; rfl, fun h => UInt8.toNat_inj.1 h⟩
            have hd0 : d = 0 ↔ d.toNat = 0 := ⟨fun h => by rw [h]; rfl, fun h => UInt8.toNat_inj.1 h⟩
            simp only [hd32, hd0] at hv
            clear hdr hdd hd32 hd0
            generalize d.toNat = x at *
            by_cases hlo : 48 ≤ x
            · have hdl : decide ((48 : Int) ≤ (x : Int)) = true := decide_eq_true (by omega)
              by_cases hhi : x ≤ 55
              · have hdh : decide ((x : Int) ≤ 55) = true := decide_eq_true (by omega)
                obtain ⟨g, rfl⟩ : ∃ g, gk = g + 1 := ⟨gk - 1, by omega⟩
                rw [if_neg (by omega), if_neg (by omega)] at hv
                obtain ⟨z, hz⟩ : ∃ z, IntKind.i64.wrap (IntKind.i64.wrap (8 * n) + ((x : Int) - 48)) = z := ⟨_, rfl⟩
                have HWZ : Keep (wrap64 (wrap64 (8 * n) + ((x : Int) - 48)) = z) := ⟨by rw [← hz, IntWalk.i64_left, IntWalk.i64_left]⟩
                have hz01 : -9223372036854775808 ≤ z ∧ z ≤ 9223372036854775807 := by rw [← hz, IntKind.wrap_i64]; omega
                obtain ⟨hz0, hz1⟩ := hz01
                rw [hz] at hv
                have HV := Keep.keep hv
                clear hv hz
                go_wp2_with fail
                go_roundg g
                case measure => omega
                case rel => exact ⟨j + 1, z, by omega, by simp, by rw [HWZ.out], HV.out, hz0, hz1, rfl⟩
              · have hdh : decide ((x : Int) ≤ 55) = false := decide_eq_false (by omega)
                have HE : Keep (octV 0 (l.dropWhile (· == 32)) = (0, 5)) := ⟨by rw [hv, if_neg (by omega), if_pos (by omega)]⟩
                have hx32 : ((x : Int) != 32) = true := by rw [bne_iff_ne]; omega
                have hx0 : ((x : Int) != 0) = true := by rw [bne_iff_ne]; omega
                clear hv
                go_wp2_with fail
                go_ret2
                exact ⟨by rw [HE.out]; rfl, rfl⟩
            · have hdl : decide ((48 : Int) ≤ (x : Int)) = false := decide_eq_false (by omega)
              by_cases h32 : x = 32
              · have HE : Keep (octV 0 (l.dropWhile (· == 32)) = (n, 0)) := ⟨by rw [hv, if_pos (by omega)]⟩
                have hx32 : ((x : Int) != 32) = false := by rw [bne_eq_false_iff_eq]; omega
                clear hv
                go_wp2_with fail
                go_ret2
                exact ⟨by rw [HE.out]; rfl, rfl⟩
              · have hx32 : ((x : Int) != 32) = true := by rw [bne_iff_ne]; omega
                by_cases h0 : x = 0
                · have HE : Keep (octV 0 (l.dropWhile (· == 32)) = (n, 0)) := ⟨by rw [hv, if_pos (by omega)]⟩
                  have hx0 : ((x : Int) != 0) = false := by rw [bne_eq_false_iff_eq]; omega
                  clear hv
                  go_wp2_with fail
                  go_ret2
                  exact ⟨by rw [HE.out]; rfl, rfl⟩
                · have HE : Keep (octV 0 (l.dropWhile (· == 32)) = (0, 5)) := ⟨by rw [hv, if_neg (by omega), if_pos (by omega)]⟩
                  have hx0 : ((x : Int) != 0) = true := by rw [bne_iff_ne]; omega
                  clear hv
                  go_wp2_with fail
                  go_ret2
                  exact ⟨by rw [HE.out]; rfl, rfl⟩
          · obtain rfl : j = l.length := by omega
            have hdj : decide ((l.length : Int) < (l.length : Int)) = false := decide_eq_false (by omega)
            have HE : Keep (octV 0 (l.dropWhile (· == 32)) = (n, 0)) := ⟨by rw [HN.out, List.drop_length]; rfl⟩
            go_wp2_with fail
            go_ret2
            exact ⟨by rw [HE.out]; rfl, rfl⟩
    · obtain rfl : i = l.length := by omega
      have hdi : decide ((l.length : Int) < (l.length : Int)) = false := decide_eq_false (by omega)
      have HD2 : Keep (l.dropWhile (· == 32) = l.drop l.length) := ⟨by rw [HD.out, List.drop_length]; rfl⟩
      go_wp2_with fail
      go_loopg [4, 5] 0 (fun g u4 u5 wx => ∃ (j : Nat) (n : Int), j + g = l.length ∧ u4 = .int .i64 (j : Int) ∧ u5 = .int .i64 n ∧ octV 0 (l.dropWhile (· == 32)) = octV n (l.drop j) ∧ -9223372036854775808 ≤ n ∧ n ≤ 9223372036854775807 ∧ wx = wr)
      case atStart => exact ⟨l.length, 0, by omega, rfl, rfl, by rw [HD2.out], by omega, by omega, rfl⟩
      case round =>
        obtain ⟨j, n, hjg, rfl, rfl, hn, hn0, hn1, rfl⟩ := hrel
        have HN := Keep.keep hn
        clear hn
        by_cases hj : j < l.length
        · have hdj : decide ((j : Int) < (l.length : Int)) = true := decide_eq_true (by omega)
          have hcell : wr.cell? ⟨b, off + j, none⟩ = some (.int .u8 (l[j].toNat : Int)) := HR.out.cell b off _ _ rfl j hj
          have hdr : l.drop j = l[j] :: l.drop (j + 1) := List.drop_eq_getElem_cons hj
          obtain ⟨d, hdd⟩ : ∃ d, l[j] = d := ⟨_, rfl⟩
          rw [hdd] at hdr hcell
          have hd256 : d.toNat < 256 := d.toNat_lt
          have hv : octV n (l.drop j) = if d = 32 ∨ d = 0 then (n, 0) else if d.toNat < 48 ∨ 55 < d.toNat then (0, 5) else octV (IntKind.i64.wrap (IntKind.i64.wrap (8 * n) + (d.toNat - 48 : Int))) (l.drop (j + 1)) := by rw [hdr]; rfl
          rw [← HN.out] at hv
          have hd32 : d = 32 ↔ d.toNat = 32 := ⟨fun h => by rw [h]; rfl, fun h => UInt8.toNat_inj.1 h⟩
          have hd0 : d = 0 ↔ d.toNat = 0 := ⟨fun h => by rw [h]; rfl, fun h => UInt8.toNat_inj.1 h⟩
          simp only [hd32, hd0] at hv
          clear hdr hdd hd32 hd0
          generalize d.toNat = x at *
          by_cases hlo : 48 ≤ x
          · have hdl : decide ((48 : Int) ≤ (x : Int)) = true := decide_eq_true (by omega)
            by_cases hhi : x ≤ 55
            · have hdh : decide ((x : Int) ≤ 55) = true := decide_eq_true (by omega)
              obtain ⟨g, rfl⟩ : ∃ g, gk = g + 1 := ⟨gk - 1, by omega⟩
              rw [if_neg (by omega), if_neg (by omega)] at hv
              obtain ⟨z, hz⟩ : ∃ z, IntKind.i64.wrap (IntKind.i64.wrap (8 * n) + ((x : Int) - 48)) = z := ⟨_, rfl⟩
              have HWZ : Keep (wrap64 (wrap64 (8 * n) + ((x : Int) - 48)) = z) := ⟨by rw [← hz, IntWalk.i64_left, IntWalk.i64_left]⟩
              have hz01 : -9223372036854775808 ≤ z ∧ z ≤ 9223372036854775807 := by rw [← hz, IntKind.wrap_i64]; omega
              obtain ⟨hz0, hz1⟩ := hz01
              rw [hz] at hv
              have HV := Keep.keep hv
              clear hv hz
              go_wp2_with fail
              go_roundg g
              case measure => omega
              case rel => exact ⟨j + 1, z, by omega, by simp, by rw [HWZ.out], HV.out, hz0, hz1, rfl⟩
            · have hdh : decide ((x : Int) ≤ 55) = false := decide_eq_false (by omega)
              have HE : Keep (octV 0 (l.dropWhile (· == 32)) = (0, 5)) := ⟨by rw [hv, if_neg (by omega), if_pos (by omega)]⟩
              have hx32 : ((x : Int) != 32) = true := by rw [bne_iff_ne]; omega
              have hx0 : ((x : Int) != 0) = true := by rw [bne_iff_ne]; omega
              clear hv
              go_wp2_with fail
              go_ret2
              exact ⟨by rw [HE.out]; rfl, rfl⟩
          · have hdl : decide ((48 : Int) ≤ (x : Int)) = false := decide_eq_false (by omega)
            by_cases h32 : x = 32
            · have HE : Keep (octV 0 (l.dropWhile (· == 32)) = (n, 0)) := ⟨by rw [hv, if_pos (by omega)]⟩
              have hx32 : ((x : Int) != 32) = false := by rw [bne_eq_false_iff_eq]; omega
              clear hv
              go_wp2_with fail
              go_ret2
              exact ⟨by rw [HE.out]; rfl, rfl⟩
            · have hx32 : ((x : Int) != 32) = true := by rw [bne_iff_ne]; omega
              by_cases h0 : x = 0
              · have HE : Keep (octV 0 (l.dropWhile (· == 32)) = (n, 0)) := ⟨by rw [hv, if_pos (by omega)]⟩
                have hx0 : ((x : Int) != 0) = false := by rw [bne_eq_false_iff_eq]; omega
                clear hv
                go_wp2_with fail
                go_ret2
                exact ⟨by rw [HE.out]; rfl, rfl⟩
              · have HE : Keep (octV 0 (l.dropWhile (· == 32)) = (0, 5)) := ⟨by rw [hv, if_neg (by omega), if_pos (by omega)]⟩
                have hx0 : ((x : Int) != 0) = true := by rw [bne_iff_ne]; omega
                clear hv
                go_wp2_with fail
                go_ret2
                exact ⟨by rw [HE.out]; rfl, rfl⟩
        · obtain rfl : j = l.length := by omega
          have hdj : decide ((l.length : Int) < (l.length : Int)) = false := decide_eq_false (by omega)
          have HE : Keep (octV 0 (l.dropWhile (· == 32)) = (n, 0)) := ⟨by rw [HN.out, List.drop_length]; rfl⟩
          go_wp2_with fail
          go_ret2
          exact ⟨by rw [HE.out]; rfl, rfl⟩
end Go.Proofs.YtohballfhhndbaaDoor
