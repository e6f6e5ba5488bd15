/- sha.schedule makes the document's 64 words. -/
import Derived.Test.YtofficleahalaaaDoorMem
import Derived.Test.YtofficleahalaaaDoorShaRot
import Derived.Test.YtofficleahalaaaDoorQTail
namespace Go.Proofs.YtofficleahalaaaDoor
open Go.RowKit
def words (ws : List Nat) : Array Value := (ws.map fun (x : Nat) => Value.int .u32 (x : Int)).toArray
theorem words_get (ws : List Nat) (i : Nat) (h : i < ws.length) : (words ws)[i]? = some (.int .u32 ((ws[i] : Nat) : Int)) := by
  simp [words, h]
theorem words_getD (ws : List Nat) (i : Nat) (h : i < ws.length) : (words ws)[i]? = some (.int .u32 ((ws.getD i 0 : Nat) : Int)) := by
  rw [words_get ws i h]; simp [h]
theorem words_set (ws : List Nat) (i x : Nat) : (words ws).setIfInBounds i (.int .u32 (x : Int)) = words (ws.set i x) := by
  simp [words, List.map_set]
theorem agg64 : AggTy Tryd.prog 58 64 := ⟨⟨_, Tryd.underlying58, rfl⟩, by kernel_rfl⟩
/-- the words while word k is under way -/
def under (l : List UInt8) (k x : Nat) : List Nat := sched l k ++ x :: List.replicate (63 - k) 0
theorem under_length (l : List UInt8) (k x : Nat) (h : k < 64) : (under l k x).length = 64 := by
  simp [under, sched_length]; omega
theorem under_at (l : List UInt8) (k x : Nat) : (under l k x).getD k 0 = x := by
  simp [under, List.getD_eq_getElem?_getD, sched_length]
theorem under_before (l : List UInt8) (k x i : Nat) (h : i < k) : (under l k x).getD i 0 = (sched l k).getD i 0 := by
  simp [under, List.getD_eq_getElem?_getD, List.getElem?_append_left, sched_length, h]
theorem under_set (l : List UInt8) (k x y : Nat) : (under l k x).set k y = under l k y := by
  simp [under, List.set_append_right, sched_length]
theorem under_next (l : List UInt8) (k : Nat) (h : k < 63) : under l k (nextWord l (sched l k)) = under l (k + 1) 0 := by
  simp only [under, sched_succ, List.append_assoc, List.singleton_append]
  rw [show 63 - k = (63 - (k + 1)) + 1 by omega, List.replicate_succ]
theorem under_last (l : List UInt8) : under l 63 (nextWord l (sched l 63)) = sched l 64 := by
  simp [under, sched_succ]
/-- a word's first j bytes -/
def part (l : List UInt8) (t : Nat) : Nat → Nat
  | 0 => 0
  | j + 1 => part l t j * 256 + (l.getD (4*t+j) 0).toNat
theorem part_lt (l : List UInt8) (t : Nat) : ∀ j, part l t j < 256 ^ j
  | 0 => by simp [part]
  | j + 1 => by
    have := part_lt l t j
    have h := (l.getD (4*t+j) 0).toNat_lt
    rw [part, Nat.pow_succ]; omega
theorem part_word (l : List UInt8) (t : Nat) : part l t 4 = word l t := by simp [part, word]
theorem part_step (l : List UInt8) (t j : Nat) (h : j < 4) (c : Nat) (hc : (l.getD (4*t+j) 0).toNat = c) :
    bits BinOp.or IntKind.u32 ((part l t j : Int) * 256 % 4294967296) (c : Int) = ((part l t (j+1) : Nat) : Int) := by
  have hp := part_lt l t j
  have hp2 : part l t j < 256 ^ 3 := Nat.lt_of_lt_of_le hp (Nat.pow_le_pow_right (by decide) (by omega))
  have hcl : c < 256 := by rw [← hc]; exact UInt8.toNat_lt _
  have e : ((part l t j : Int) * 256 % 4294967296) = ((part l t j * 256 : Nat) : Int) := by
    have : (part l t j * 256 : Nat) < 4294967296 := by omega
    rw [Int.emod_eq_of_lt (by omega) (by omega)]; simp
  rw [e, u32_or_nat _ _ (by omega) (by omega), nat_join 8 _ _ (by omega) (by omega), part, hc]
def Sch (B : Nat) (w0 w : World) (c : List Nat) : Prop := Row w (B+1) 58 (words c) ∧ Row w B 58 (words (List.replicate 64 0)) ∧ Below B w0 w
theorem Sch.drewN {B : Nat} {w0 w : World} {c : List Nat} (h : Sch B w0 w c) (n : Nat) : Sch B w0 (w.drewN n) c := ⟨h.1, h.2.1, below_drewN' h.2.2 n⟩
theorem Sch.set {B : Nat} {w0 w : World} {c : List Nat} (h : Sch B w0 w c) (i x : Nat) : Sch B w0 (w.setCell ⟨B+1, i, none⟩ (.int .u32 (x : Int))) (c.set i x) :=
  ⟨by rw [← words_set]; exact h.1.set i _, h.2.1.other (by simp) _, h.2.2.setCell (by simp) _⟩
set_option maxHeartbeats 800000 in
set_option maxRecDepth 100000 in
theorem schedule_any (v : Value) (l : List UInt8) (w : World) (hv : Reads w (· < w.heap.size) v l) (hl : l.length = 64) :
    Calls Tryd.prog 50 #[v] w fun e w' => e = .returned (.agg (words (sched l 64))) ∧ Below w.heap.size w w' := by
  obtain ⟨⟨a, cap, rfl, h1, h2, h3⟩, hc⟩ := hv
  rcases h3 with h3 | ⟨b, off, rfl, hlt⟩
  · omega
  replace hc := hc b off _ _ rfl
  rw [hl] at h1 ⊢
  have HC := Keep.keep hc; clear hc
  have HL := Keep.keep hl; clear hl
  unfold maxLen at h2
  go_enter Tryd.func50, Tryd.ntmps50
  go_wp2
  go_loopw [11] (fun t wr => ∃ k : Nat, k ≤ 64 ∧ t = .int .i64 k ∧ Sch w.heap.size w wr (if k < 64 then under l k 0 else sched l 64)) (fun t _ => 64 - (intOf t).toNat)
  case atStart => exact ⟨0, by omega, rfl, Row.new' (by simp) rfl, (Row.new' (by simp) rfl).old _, ((Below.refl _ _).alloc (Nat.le_refl _) _).alloc (by simp) _⟩
  case round =>
    obtain ⟨k, hk, rfl, hs⟩ := hrel
    by_cases hk64 : k < 64
    · rw [if_pos hk64] at hs
      have HS := Keep.keep hs; clear hs
      by_cases hk16 : k < 16
      · go_wp2
        
        go_loopw [24] (fun t wi => ∃ j : Nat, j ≤ 4 ∧ t = .int .i64 j ∧ Sch w.heap.size w wi (under l k (part l k j))) (fun t _ => 4 - (intOf t).toNat)
        case atStart => exact ⟨0, by omega, rfl, HS.out⟩
        case round =>
          obtain ⟨j, hj, rfl, hs⟩ := hrel
          by_cases hj4 : j < 4
          · have hc0 := HC.out (4*k+j) (by rw [HL.out]; omega)
            have hc1 := hs.2.2.cell (p := ⟨b, off + (4*k + j), none⟩) hlt
            rw [hc0, ← Nat.add_assoc] at hc1
            have hget : l[4*k+j]'(by rw [HL.out]; omega) = l.getD (4*k+j) 0 := by simp [List.getD_eq_getElem?_getD, HL.out, show 4*k+j < 64 by omega]
            rw [hget] at hc1
            have hcell := hs.1.cell (words_getD _ k (by rw [under_length _ _ _ hk64]; exact hk64))
            rw [under_at] at hcell
            have hfz := hs.1.frozen k
            have hst := part_step l k j hj4 _ rfl
            obtain ⟨c, hcdef⟩ : ∃ c, (l.getD (4*k+j) 0).toNat = c := ⟨_, rfl⟩
            have hcl : c < 256 := by rw [← hcdef]; exact UInt8.toNat_lt _
            rw [hcdef] at hc1 hst
            have HST := Keep.keep hst; clear hst hc0 hget
            have HS2 := Keep.keep hs; clear hs
            have HCD := Keep.keep hcdef; clear hcdef
            go_wp2
            refine ⟨⟨j + 1, by omega, by go_num, ?_⟩, by simp [intOf]; omega⟩
            rw [HST.out, ← under_set l k (part l k j)]
            exact HS2.out.set _ _
          · obtain rfl : j = 4 := by omega
            have HS2 := Keep.keep hs; clear hs
            go_wp2
            refine ⟨⟨k + 1, by omega, by go_num, ?_⟩, by simp [intOf]; omega⟩
            have h4 := HS2.out
            rw [part_word] at h4
            have e : nextWord l (sched l k) = word l k := by rw [nextWord, if_pos (by rw [sched_length]; exact hk16), sched_length]
            rw [if_pos (by omega), ← under_next l k (by omega), e]
            exact h4
      · have hlen := under_length l k 0 hk64
        have hc15 := HS.out.1.cell (words_getD _ (k-15) (by rw [hlen]; omega))
        have hc2 := HS.out.1.cell (words_getD _ (k-2) (by rw [hlen]; omega))
        have hc7 := HS.out.1.cell (words_getD _ (k-7) (by rw [hlen]; omega))
        have hc16 := HS.out.1.cell (words_getD _ (k-16) (by rw [hlen]; omega))
        have hc0 := HS.out.1.cell (words_getD _ k (by rw [hlen]; omega))
        have hfz := HS.out.1.frozen k
        rw [under_before _ _ _ _ (by omega)] at hc15 hc2 hc7 hc16
        have hb := fun i => (show (sched l k).getD i 0 < 4294967296 by
          rw [List.getD_eq_getElem?_getD]
          cases h : (sched l k)[i]? with
          | none => simp
          | some x => exact sched_lt l k x (List.mem_of_getElem? h))
        have hb15 := hb (k-15)
        have hb2 := hb (k-2)
        have hb7 := hb (k-7)
        have hb16 := hb (k-16)
        clear hb hlen
        generalize hx15 : (sched l k).getD (k-15) 0 = x15 at *
        generalize hx2 : (sched l k).getD (k-2) 0 = x2 at *
        generalize hx7 : (sched l k).getD (k-7) 0 = x7 at *
        generalize hx16 : (sched l k).getD (k-16) 0 = x16 at *
        have HX15 := Keep.keep hx15; have HX2 := Keep.keep hx2; have HX7 := Keep.keep hx7; have HX16 := Keep.keep hx16; clear hx15 hx2 hx7 hx16
        go_wp2
        go_quiet (fail)
        have r1 := rotr_lt x15 7 hb15
        have r2 := rotr_lt x15 18 hb15
        have r3 := rotr_lt x2 17 hb2
        have r4 := rotr_lt x2 19 hb2
        have e1 := u32_xor_nat _ _ r1 r2
        have e2 := u32_xor_nat _ (x15 / 8) (Nat.xor_lt_two_pow (n := 32) r1 r2) (by omega)
        have e3 := u32_xor_nat _ _ r3 r4
        have e4 := u32_xor_nat _ (x2 / 1024) (Nat.xor_lt_two_pow (n := 32) r3 r4) (by omega)
        rw [show rotr x15 7 ^^^ rotr x15 18 ^^^ x15 / 8 = sig0 x15 from rfl, show ((x15 / 8 : Nat) : Int) = (x15 : Int) / 8 from rfl] at e2
        rw [show rotr x2 17 ^^^ rotr x2 19 ^^^ x2 / 1024 = sig1 x2 from rfl, show ((x2 / 1024 : Nat) : Int) = (x2 : Int) / 1024 from rfl] at e4
        clear r1 r2 r3 r4
        go_wp2_with (go_at_call 51; ((with_reducible refine (turn_int _ _ _ (by omega) (by omega) (by omega) (by omega)).mono ?_); rintro e w' ⟨rfl, rfl⟩))
        clear e1 e2 e3 e4
        refine wp_region_quiet_tail_drawn 15 (by kernel_rfl) (by kernel_rfl) ?_
        simp only [List.take_succ_cons, List.take_zero, List.drop_succ_cons, List.drop_zero]
        repeat (go_big_quiet_step (fail))
        refine wpQuiet_nil ?_
        rintro w' ⟨nq', rfl⟩
        go_wp2
        refine ⟨⟨k + 1, by omega, by go_num, ?_⟩, by simp [intOf]; omega⟩
        have e : (((sig1 x2 : Nat) : Int) + ↑x7 + ↑(sig0 x15) + ↑x16) % 4294967296 = ((nextWord l (sched l k) : Nat) : Int) := by
          rw [nextWord, if_neg (by rw [sched_length]; exact hk16), sched_length, HX15.out, HX2.out, HX7.out, HX16.out]
          simp
        rw [e]
        have hs2 := (HS.out.drewN (nq + nq')).set k (nextWord l (sched l k))
        rw [under_set] at hs2
        by_cases h63 : k + 1 < 64
        · rw [if_pos h63, ← under_next l k (by omega)]; exact hs2
        · obtain rfl : k = 63 := by omega
          rw [if_neg (by omega), ← under_last l]; exact hs2
    · obtain rfl : k = 64 := by omega
      rw [if_neg (by omega)] at hs
      have hsz : (words (sched l 64)).size = 64 := by simp [words, sched_length]
      have hrow0 := hs.1
      have hrow1 := hs.2.1
      have h1c : (words (sched l 64)).all (·.oneCell') = true := by simp [words, Value.oneCell']
      have hrow := hs.2.1.setRow (words (sched l 64))
      have hbe := below_setRow hs.2.2 (Nat.le_refl _) (words (sched l 64))
      have hs0 : (words (List.replicate 64 0)).size = 64 := by simp [words]
      clear hs
      have HS := Keep.keep hsz; clear hsz
      have HS0 := Keep.keep hs0; clear hs0
      have HR := Keep.keep hrow; clear hrow
      have HB := Keep.keep hbe; clear hbe
      have HR0 := Keep.keep hrow0; clear hrow0
      have HR1 := Keep.keep hrow1; clear hrow1
      have H1C := Keep.keep h1c; clear h1c
      generalize hcs : words (sched l 64) = cs at *
      have HCS := Keep.keep hcs; clear hcs
      go_wp2_with (first | ((with_reducible refine arm_loadRow HR0.out agg64 HS.out ?_ ?_); (focus rfl); simp only [Act.put, List.setIfInBounds_toArray, List.set_cons_succ, List.set_cons_zero]) | ((with_reducible refine arm_storeRow HR1.out agg64 HS0.out HS.out H1C.out ?_ ?_ ?_); (focus rfl); (focus rfl); simp only [Act.put]))
      refine bodyPost_ret (v := .agg cs) ?_ rfl ⟨by rw [HCS.out], HB.out⟩
      exact results_row (p := 2) (ty := 58) rfl HR.out agg64 HS.out rfl
end Go.Proofs.YtofficleahalaaaDoor
