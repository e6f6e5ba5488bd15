/- THE REFERENCE's block: compress. -/
import Derived.Test.YtofficleahalaaaDoorShaRefK
namespace Go.Proofs.YtofficleahalaaaDoor
open Go.RowKit
theorem compl_bit (e : Nat) (he : e < 4294967296) (i : Nat) : (4294967295 - e).testBit i = (decide (i < 32) && !e.testBit i) := by
  rw [show 4294967295 - e = 2 ^ 32 - (e + 1) by omega, Nat.testBit_two_pow_sub_succ he]
theorem choose_or (e f g : Nat) (he : e < 4294967296) : (e &&& f) ||| ((4294967295 - e) &&& g) = choose e f g := by
  unfold choose
  apply Nat.eq_of_testBit_eq
  intro i
  simp only [Nat.testBit_or, Nat.testBit_xor, Nat.testBit_and, compl_bit e he]
  cases e.testBit i <;> cases f.testBit i <;> cases g.testBit i <;> cases decide (i < 32) <;> rfl
theorem most_or (a b c : Nat) : (a &&& b) ||| (a &&& c) ||| (b &&& c) = most a b c := by
  unfold most
  apply Nat.eq_of_testBit_eq
  intro i
  simp only [Nat.testBit_or, Nat.testBit_xor, Nat.testBit_and]
  cases a.testBit i <;> cases b.testBit i <;> cases c.testBit i <;> rfl
/-- the memory of the reference's first loop -/
structure Rm (w wr : World) (h ks c : List Nat) : Prop where
  h : Row wr w.heap.size 49 (words h)
  k : Row wr (w.heap.size + 1) 58 (words ks)
  r : Row wr (w.heap.size + 1 + 1) 49 (words (List.replicate 8 0))
  ws : Row wr (w.heap.size + 1 + 1 + 1) 58 (words c)
  b : Below w.heap.size w wr
theorem Rm.drewN {w wr : World} {h ks c : List Nat} (s : Rm w wr h ks c) (n : Nat) : Rm w (wr.drewN n) h ks c := ⟨s.h, s.k, s.r, s.ws, below_drewN' s.b n⟩
theorem Rm.set {w wr : World} {h ks c : List Nat} (s : Rm w wr h ks c) (i x : Nat) : Rm w (wr.setCell ⟨w.heap.size + 1 + 1 + 1, i, none⟩ (.int .u32 (x : Int))) h ks (c.set i x) :=
  ⟨s.h.other (by simp; omega) _, s.k.other (by simp) _, s.r.other (by simp) _, by rw [← words_set]; exact s.ws.set i _, s.b.setCell (by simp; omega) _⟩
theorem word_sum (l : List UInt8) (t c0 c1 c2 c3 : Nat) (h0 : (l.getD (4*t) 0).toNat = c0) (h1 : (l.getD (4*t+1) 0).toNat = c1) (h2 : (l.getD (4*t+2) 0).toNat = c2) (h3 : (l.getD (4*t+3) 0).toNat = c3) :
    c0 * 16777216 + c1 * 65536 + c2 * 256 + c3 = word l t := by
  unfold word; rw [h0, h1, h2, h3]; omega
set_option maxHeartbeats 1000000 in
set_option maxRecDepth 100000 in
theorem block_any (v : Value) (l : List UInt8) (h : List Nat) (w : World) (hv : Reads w (· < w.heap.size) v l) (hl : l.length = 64) (hok : Ok8 h) :
    Calls Tryd.prog 30 #[.agg (words h), v, .agg (words Ks)] w fun e w' => e = .returned (.agg (words (compress h l))) ∧ Below w.heap.size w w' := by
  obtain ⟨b, off, cap, hu, h1, h2, hlt⟩ := hv.has (by omega)
  subst hu
  rw [hl] at h1 ⊢
  unfold maxLen at h2
  have HV := Keep.keep hv; have HL := Keep.keep hl; have HOK := Keep.keep hok
  clear hv hl hok
  generalize hkk : words Ks = ck at *
  generalize hhh : words h = ch at *
  have HKK := Keep.keep hkk; have HHH := Keep.keep hhh; clear hkk hhh
  go_enter Tryd.func30, Tryd.ntmps30
  go_wp2
  have HSc := Keep.keep (show ch.size = 8 by rw [← HHH.out]; simp [words, HOK.out.len])
  go_loopw [8] (fun t wr => ∃ k : Nat, k ≤ 64 ∧ t = .int .i64 k ∧ Rm w wr h Ks (if k < 64 then under l k 0 else sched l 64)) (fun t _ => 64 - (intOf t).toNat)
  case atStart =>
    refine ⟨0, by omega, rfl, ⟨?_, ?_, (Row.new' (by simp) rfl).old _, Row.new' (by simp) rfl, ((((Below.refl _ _).alloc (Nat.le_refl _) _).alloc (by simp) _).alloc (by simp; omega) _).alloc (by simp; omega) _⟩⟩
    · rw [HHH.out]; exact (((Row.new w _ _).old _).old _).old _
    · rw [HKK.out]; exact ((Row.new' (by simp) rfl).old _).old _
  case round =>
    obtain ⟨k, hk, rfl, hs⟩ := hrel
    by_cases hk64 : k < 64
    · rw [if_pos hk64] at hs
      have hlen := under_length l k 0 hk64
      have hc0 := hs.ws.cell (words_getD _ k (by rw [hlen]; omega))
      have hfz := hs.ws.frozen k
      have HS := Keep.keep hs; clear hs
      have hnext : ∀ wr', Rm w wr' h Ks (under l k (nextWord l (sched l k))) → Rm w wr' h Ks (if k + 1 < 64 then under l (k + 1) 0 else sched l 64) := by
        intro wr' hs2
        by_cases h63 : k + 1 < 64
        · rw [if_pos h63, ← under_next l k (by omega)]; exact hs2
        · obtain rfl : k = 63 := by omega
          rw [if_neg (by omega), ← under_last l]; exact hs2
      have HN := Keep.keep hnext; clear hnext
      by_cases hk16 : k < 16
      · have hb := fun i (hi : i < 4) => (show wr.cell? ⟨b, off + (4*k+i), none⟩ = some (.int .u8 (((l.getD (4*k+i) 0).toNat : Nat) : Int)) by
          rw [HS.out.b.cell (p := ⟨b, off + (4*k+i), none⟩) hlt, HV.out.cell b off _ _ rfl (4*k+i) (by rw [HL.out]; omega)]
          simp [List.getD_eq_getElem?_getD, HL.out, show 4*k+i < 64 by omega])
        have d0 := hb 0 (by omega)
        have d1 := hb 1 (by omega)
        have d2 := hb 2 (by omega)
        have d3 := hb 3 (by omega)
        rw [Nat.add_zero] at d0
        have y0 := (l.getD (4*k) 0).toNat_lt
        have y1 := (l.getD (4*k+1) 0).toNat_lt
        have y2 := (l.getD (4*k+2) 0).toNat_lt
        have y3 := (l.getD (4*k+3) 0).toNat_lt
        clear hb hlen
        generalize g0 : (l.getD (4*k) 0).toNat = c0 at *
        generalize g1 : (l.getD (4*k+1) 0).toNat = c1 at *
        generalize g2 : (l.getD (4*k+2) 0).toNat = c2 at *
        generalize g3 : (l.getD (4*k+3) 0).toNat = c3 at *
        have HW := Keep.keep (word_sum l k c0 c1 c2 c3 g0 g1 g2 g3)
        clear g0 g1 g2 g3
        go_wp2
        refine wp_region_quiet_tail_drawn 35 (by kernel_rfl) (by kernel_rfl) ?_; simp only [List.take_succ_cons, List.take_zero, List.drop_succ_cons, List.drop_zero]; (repeat (go_big_quiet_step (fail))); refine wpQuiet_nil ?_; rintro _ ⟨nq, rfl⟩
        go_wp2
        refine ⟨⟨k + 1, by omega, by go_num, HN.out _ ?_⟩, by simp [intOf]; omega⟩
        have e : nextWord l (sched l k) = word l k := by rw [nextWord, if_pos (by rw [sched_length]; exact hk16), sched_length]
        have e2 : ((c0 : Int) * 16777216 + (c1 : Int) * 65536 + (c2 : Int) * 256 + (c3 : Int)) = ((word l k : Nat) : Int) := by rw [← HW.out]; simp
        rw [e, e2, ← under_set l k 0]
        exact (HS.out.drewN nq).set _ _
      · have hc15 := HS.out.ws.cell (words_getD _ (k-15) (by rw [hlen]; omega))
        have hc2 := HS.out.ws.cell (words_getD _ (k-2) (by rw [hlen]; omega))
        have hc7 := HS.out.ws.cell (words_getD _ (k-7) (by rw [hlen]; omega))
        have hc16 := HS.out.ws.cell (words_getD _ (k-16) (by rw [hlen]; omega))
        rw [under_before _ _ _ _ (by omega)] at hc15 hc2 hc7 hc16
        have hb15 := sched_getD_lt l k (k-15)
        have hb2 := sched_getD_lt l k (k-2)
        have hb7 := sched_getD_lt l k (k-7)
        have hb16 := sched_getD_lt l k (k-16)
        clear hlen
        generalize hx15 : (sched l k).getD (k-15) 0 = x15 at *
        generalize hx2 : (sched l k).getD (k-2) 0 = x2 at *
        generalize hx7 : (sched l k).getD (k-7) 0 = x7 at *
        generalize hx16 : (sched l k).getD (k-16) 0 = x16 at *
        have HX15 := Keep.keep hx15; have HX2 := Keep.keep hx2; have HX7 := Keep.keep hx7; have HX16 := Keep.keep hx16; clear hx15 hx2 hx7 hx16
        have r1 := rotr_lt x15 7 hb15
        have r2 := rotr_lt x15 18 hb15
        have r3 := rotr_lt x2 17 hb2
        have r4 := rotr_lt x2 19 hb2
        have e1 := u32_xor_nat _ _ r1 r2
        have e2 := u32_xor_nat _ (x15 / 8) (Nat.xor_lt_two_pow (n := 32) r1 r2) (by omega)
        have e3 := u32_xor_nat _ _ r3 r4
        have e4 := u32_xor_nat _ (x2 / 1024) (Nat.xor_lt_two_pow (n := 32) r3 r4) (by omega)
        rw [show rotr x15 7 ^^^ rotr x15 18 ^^^ x15 / 8 = sig0 x15 from rfl, show ((x15 / 8 : Nat) : Int) = (x15 : Int) / 8 from rfl] at e2
        rw [show rotr x2 17 ^^^ rotr x2 19 ^^^ x2 / 1024 = sig1 x2 from rfl, show ((x2 / 1024 : Nat) : Int) = (x2 : Int) / 1024 from rfl] at e4
        clear r1 r2 r3 r4
        go_wp2
        refine wp_region_quiet_tail_drawn 29 (by kernel_rfl) (by kernel_rfl) ?_; simp only [List.take_succ_cons, List.take_zero, List.drop_succ_cons, List.drop_zero]; (repeat (go_big_quiet_step (((go_at_call 49; exact Calls.quiet_of (turned_int _ _ _ (by omega) (by omega) (by omega) (by omega))))))); refine wpQuiet_nil ?_; rintro _ ⟨nq, rfl⟩
        clear e1 e2 e3 e4
        go_wp2
        refine ⟨⟨k + 1, by omega, by go_num, HN.out _ ?_⟩, by simp [intOf]; omega⟩
        have e : (((sig1 x2 : Nat) : Int) + ↑x7 + ↑(sig0 x15) + ↑x16) % 4294967296 = ((nextWord l (sched l k) : Nat) : Int) := by
          rw [nextWord, if_neg (by rw [sched_length]; exact hk16), sched_length, HX15.out, HX2.out, HX7.out, HX16.out]
          simp
        rw [e, ← under_set l k 0]
        exact (HS.out.drewN nq).set _ _
    · have hki : (k : Int) = 64 := by omega
      rw [hki]
      obtain rfl : k = 64 := by omega
      clear hki
      rw [if_neg (by omega)] at hs
      obtain ⟨z0, z1, z2, z3, z4, z5, z6, z7, hz, b0, b1, b2, b3, b4, b5, b6, b7⟩ := HOK.out
      have hrow := hs.h
      rw [hz] at hrow
      have c0 : wr.cell? ⟨w.heap.size, 0, none⟩ = some (.int .u32 (z0 : Int)) := hrow.cell rfl
      have c1 : wr.cell? ⟨w.heap.size, 1, none⟩ = some (.int .u32 (z1 : Int)) := hrow.cell rfl
      have c2 : wr.cell? ⟨w.heap.size, 2, none⟩ = some (.int .u32 (z2 : Int)) := hrow.cell rfl
      have c3 : wr.cell? ⟨w.heap.size, 3, none⟩ = some (.int .u32 (z3 : Int)) := hrow.cell rfl
      have c4 : wr.cell? ⟨w.heap.size, 4, none⟩ = some (.int .u32 (z4 : Int)) := hrow.cell rfl
      have c5 : wr.cell? ⟨w.heap.size, 5, none⟩ = some (.int .u32 (z5 : Int)) := hrow.cell rfl
      have c6 : wr.cell? ⟨w.heap.size, 6, none⟩ = some (.int .u32 (z6 : Int)) := hrow.cell rfl
      have c7 : wr.cell? ⟨w.heap.size, 7, none⟩ = some (.int .u32 (z7 : Int)) := hrow.cell rfl
      have HS := Keep.keep hs; have HZ := Keep.keep hz
      clear hs hrow hz
      go_wp2
      go_quiet (fail)
      go_wp2
      clear c0 c1 c2 c3 c4 c5 c6 c7
      have hR0 : ∃ wz : World, wz = wr.drewN nq ∧ Keep (Rm w wz h Ks (sched l 64)) := ⟨_, rfl, ⟨HS.out.drewN nq⟩⟩
      have HR0 := Keep.keep (HS.out.drewN nq)
      clear hR0
      go_loopw [11, 12, 13, 14, 15, 16, 17, 18, 19] (fun v0 v1 v2 v3 v4 v5 v6 v7 t wx => ∃ k x0 x1 x2 x3 x4 x5 x6 x7 : Nat, k ≤ 64 ∧ t = .int .i64 k ∧ v0 = .int .u32 x0 ∧ v1 = .int .u32 x1 ∧ v2 = .int .u32 x2 ∧ v3 = .int .u32 x3 ∧ v4 = .int .u32 x4 ∧ v5 = .int .u32 x5 ∧ v6 = .int .u32 x6 ∧ v7 = .int .u32 x7 ∧ rounds (sched l 64) h k = [x0, x1, x2, x3, x4, x5, x6, x7] ∧ Rm w wx h Ks (sched l 64)) (fun _ _ _ _ _ _ _ _ t _ => 64 - (intOf t).toNat)
      case atStart => exact ⟨0, _, _, _, _, _, _, _, _, by omega, rfl, rfl, rfl, rfl, rfl, rfl, rfl, rfl, rfl, HZ.out, HR0.out⟩
      case round =>
        obtain ⟨k, x0, x1, x2, x3, x4, x5, x6, x7, hk, rfl, rfl, rfl, rfl, rfl, rfl, rfl, rfl, rfl, hx, hr⟩ := hrel
        have HX := Keep.keep hx; have HR := Keep.keep hr
        obtain ⟨a0, a1, a2, a3, a4, a5, a6, a7, ha, y0, y1, y2, y3, y4, y5, y6, y7⟩ := ok8_rounds HOK.out (sched l 64) k
        rw [hx] at ha
        injection ha with q0 ha; injection ha with q1 ha; injection ha with q2 ha; injection ha with q3 ha; injection ha with q4 ha; injection ha with q5 ha; injection ha with q6 ha; injection ha with q7 ha
        rw [← q0] at y0; rw [← q1] at y1; rw [← q2] at y2; rw [← q3] at y3; rw [← q4] at y4; rw [← q5] at y5; rw [← q6] at y6; rw [← q7] at y7
        clear hx hr ha q0 q1 q2 q3 q4 q5 q6 q7 b0 b1 b2 b3 b4 b5 b6 b7
        by_cases hk64 : k < 64
        · have ck := HR.out.k.cell (words_getD Ks k (by rw [Ks_length]; exact hk64))
          have cw := HR.out.ws.cell (words_getD (sched l 64) k (by rw [sched_length]; exact hk64))
          have yk := Ks_lt k
          have yw := sched_getD_lt l 64 k
          generalize hKK : Ks.getD k 0 = KK at ck yk
          generalize hWW : (sched l 64).getD k 0 = WW at cw yw
          have HKQ := Keep.keep hKK; have HWW := Keep.keep hWW; clear hKK hWW
          have e1 := u32_and_nat _ _ y4 y5
          have n4 : ((4294967295 : Int) - (x4 : Int)) = ((4294967295 - x4 : Nat) : Int) := by omega
          have e2 : bits BinOp.and IntKind.u32 ((4294967295 : Int) - (x4 : Int)) (x6 : Int) = (((4294967295 - x4) &&& x6 : Nat) : Int) := by rw [n4]; exact u32_and_nat _ _ (by omega) y6
          have e3 : bits BinOp.or IntKind.u32 ((x4 &&& x5 : Nat) : Int) (((4294967295 - x4) &&& x6 : Nat) : Int) = ((choose x4 x5 x6 : Nat) : Int) := by
            rw [← choose_or x4 x5 x6 y4]; exact u32_or_nat _ _ (Nat.and_lt_two_pow (n := 32) x4 y5) (Nat.and_lt_two_pow (n := 32) _ y6)
          clear n4
          generalize (4294967295 - x4) &&& x6 = m46 at e2 e3
          have e4 := u32_and_nat _ _ y0 y1
          have e5 := u32_and_nat _ _ y0 y2
          have e6 := u32_or_nat _ _ (Nat.and_lt_two_pow (n := 32) x0 y1) (Nat.and_lt_two_pow (n := 32) x0 y2)
          have e7 := u32_and_nat _ _ y1 y2
          have e8 : bits BinOp.or IntKind.u32 ((x0 &&& x1 ||| x0 &&& x2 : Nat) : Int) ((x1 &&& x2 : Nat) : Int) = ((most x0 x1 x2 : Nat) : Int) := by
            rw [← most_or x0 x1 x2]; exact u32_or_nat _ _ (Nat.or_lt_two_pow (n := 32) (Nat.and_lt_two_pow (n := 32) x0 y1) (Nat.and_lt_two_pow (n := 32) x0 y2)) (Nat.and_lt_two_pow (n := 32) x1 y2)
          have yCh := choose_lt x4 x5 x6 y5 y6
          have yMo := most_lt x0 x1 x2 y1 y2
          go_wp2
          clear e1 e2 e3 e4 e5 e6 e7 e8
          have e1 := u32_xor_nat _ _ (rotr_lt x4 6 y4) (rotr_lt x4 11 y4)
          have e2 : bits BinOp.xor IntKind.u32 ((rotr x4 6 ^^^ rotr x4 11 : Nat) : Int) (rotr x4 25 : Int) = ((Sig1 x4 : Nat) : Int) := u32_xor_nat _ _ (Nat.xor_lt_two_pow (n := 32) (rotr_lt x4 6 y4) (rotr_lt x4 11 y4)) (rotr_lt x4 25 y4)
          have yS1 := Sig1_lt x4 y4
          go_quiet ((go_at_call 49; exact Calls.quiet_of (turned_int _ _ _ (by omega) (by omega) (by omega) (by omega))))
          clear e1 e2 ck cw
          have e1 := u32_xor_nat _ _ (rotr_lt x0 2 y0) (rotr_lt x0 13 y0)
          have e2 : bits BinOp.xor IntKind.u32 ((rotr x0 2 ^^^ rotr x0 13 : Nat) : Int) (rotr x0 22 : Int) = ((Sig0 x0 : Nat) : Int) := u32_xor_nat _ _ (Nat.xor_lt_two_pow (n := 32) (rotr_lt x0 2 y0) (rotr_lt x0 13 y0)) (rotr_lt x0 22 y0)
          have yS0 := Sig0_lt x0 y0
          go_wp2_with (go_at_call 49; ((with_reducible refine (turned_int _ _ _ (by omega) (by omega) (by omega) (by omega)).mono ?_); rintro e w' ⟨rfl, n', rfl⟩))
          refine ⟨⟨k + 1, (T1 x4 x5 x6 x7 KK WW + T2 x0 x1 x2) % 4294967296, x0, x1, x2, (x3 + T1 x4 x5 x6 x7 KK WW) % 4294967296, x4, x5, x6, by omega, by go_num, ?_, rfl, rfl, rfl, ?_, rfl, rfl, rfl, ?_, ?_⟩, by simp [intOf]; omega⟩
          · first | (congr 1; done) | (congr 1; unfold T1 T2; omega)
          · first | (congr 1; done) | (congr 1; unfold T1; omega)
          · rw [rounds, HX.out, HKQ.out, HWW.out]; rfl
          · exact ⟨HR.out.h, HR.out.k, HR.out.r, HR.out.ws, by repeat (first | exact HR.out.b | apply below_drewN')⟩
        · have hki : (k : Int) = 64 := by omega
          rw [hki]
          obtain rfl : k = 64 := by omega
          clear hki
          have hrow := HR.out.h
          rw [HZ.out] at hrow
          have c0 : wr.cell? ⟨w.heap.size, 0, none⟩ = some (.int .u32 (z0 : Int)) := hrow.cell rfl
          have c1 : wr.cell? ⟨w.heap.size, 1, none⟩ = some (.int .u32 (z1 : Int)) := hrow.cell rfl
          have c2 : wr.cell? ⟨w.heap.size, 2, none⟩ = some (.int .u32 (z2 : Int)) := hrow.cell rfl
          have c3 : wr.cell? ⟨w.heap.size, 3, none⟩ = some (.int .u32 (z3 : Int)) := hrow.cell rfl
          have c4 : wr.cell? ⟨w.heap.size, 4, none⟩ = some (.int .u32 (z4 : Int)) := hrow.cell rfl
          have c5 : wr.cell? ⟨w.heap.size, 5, none⟩ = some (.int .u32 (z5 : Int)) := hrow.cell rfl
          have c6 : wr.cell? ⟨w.heap.size, 6, none⟩ = some (.int .u32 (z6 : Int)) := hrow.cell rfl
          have c7 : wr.cell? ⟨w.heap.size, 7, none⟩ = some (.int .u32 (z7 : Int)) := hrow.cell rfl
          clear hrow
          have hz8 := HR.out.r
          have d0 : wr.cell? ⟨w.heap.size + 1 + 1, 0, none⟩ = some (.int .u32 0) := hz8.cell rfl
          have f0 := hz8.frozen 0
          have d1 : wr.cell? ⟨w.heap.size + 1 + 1, 1, none⟩ = some (.int .u32 0) := hz8.cell rfl
          have f1 := hz8.frozen 1
          have d2 : wr.cell? ⟨w.heap.size + 1 + 1, 2, none⟩ = some (.int .u32 0) := hz8.cell rfl
          have f2 := hz8.frozen 2
          have d3 : wr.cell? ⟨w.heap.size + 1 + 1, 3, none⟩ = some (.int .u32 0) := hz8.cell rfl
          have f3 := hz8.frozen 3
          have d4 : wr.cell? ⟨w.heap.size + 1 + 1, 4, none⟩ = some (.int .u32 0) := hz8.cell rfl
          have f4 := hz8.frozen 4
          have d5 : wr.cell? ⟨w.heap.size + 1 + 1, 5, none⟩ = some (.int .u32 0) := hz8.cell rfl
          have f5 := hz8.frozen 5
          have d6 : wr.cell? ⟨w.heap.size + 1 + 1, 6, none⟩ = some (.int .u32 0) := hz8.cell rfl
          have f6 := hz8.frozen 6
          have d7 : wr.cell? ⟨w.heap.size + 1 + 1, 7, none⟩ = some (.int .u32 0) := hz8.cell rfl
          have f7 := hz8.frozen 7
          clear hz8
          have hcomp : compress h l = [plus z0 x0, plus z1 x1, plus z2 x2, plus z3 x3, plus z4 x4, plus z5 x5, plus z6 x6, plus z7 x7] := by
            rw [compress, HX.out, HZ.out]; rfl
          have HCO := Keep.keep hcomp; clear hcomp
          go_wp2
          have pl : ∀ x y : Nat, Value.int .u32 (((x : Int) + (y : Int)) % 4294967296) = Value.int .u32 ((plus x y : Nat) : Int) := fun x y => by simp [plus]
          simp only [pl]
          have hcs : (words (compress h l)).size = 8 := by rw [HCO.out]; rfl
          refine bodyPost_ret (v := .agg (words (compress h l))) ?_ rfl ⟨rfl, ?_⟩
          · refine results_row (p := 6) (ty := 49) (e := 49) rfl ?_ agg8 hcs rfl
            rw [HCO.out]
            exact (((((((HR.out.r.set 0 _).set 1 _).set 2 _).set 3 _).set 4 _).set 5 _).set 6 _).set' 7 _ rfl
          · exact (((((((HR.out.b.setCell (by simp; omega) _).setCell (by simp; omega) _).setCell (by simp; omega) _).setCell (by simp; omega) _).setCell (by simp; omega) _).setCell (by simp; omega) _).setCell (by simp; omega) _).setCell (by simp; omega) _
end Go.Proofs.YtofficleahalaaaDoor
