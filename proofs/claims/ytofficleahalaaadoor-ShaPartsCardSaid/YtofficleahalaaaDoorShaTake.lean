/- State.take takes a block: compress. -/
import Derived.Test.YtofficleahalaaaDoorShaSched
namespace Go.Proofs.YtofficleahalaaaDoor
open Go.RowKit
theorem agg8 : AggTy Tryd.prog 49 8 := ⟨⟨_, Tryd.underlying49, rfl⟩, by kernel_rfl⟩
/-- what the constants' variable holds -/
def Consts (w : World) : Prop := ∀ i, i < 64 → w.cell? ⟨1, i, none⟩ = some (.int .u32 ((Ks.getD i 0 : Nat) : Int))
/-- the eight words, as values, ahead of what else a state holds -/
def stCells (h : List Nat) (left : Value) (many : Nat) : Array Value := words h ++ #[left, .int .u64 (many : Int), .bool true]
theorem Consts.chg {M : Nat → Prop} {w w' : World} {B : Nat} (h : Consts w) (hb : Chg M B w w') (hB : 1 < B) (hm : ¬ M 1) : Consts w' := fun i hi => by
  rw [hb.cell (p := ⟨1, i, none⟩) hB hm]; exact h i hi
theorem stCells_get (c : List Nat) (hc : c.length = 8) (left : Value) (many i : Nat) (hi : i < 8) : (stCells c left many)[i]? = some (.int .u32 ((c.getD i 0 : Nat) : Int)) := by
  unfold stCells
  rw [Array.getElem?_append_left (by simp [words, hc, hi]), words_getD c i (by omega)]
theorem stCells_set (c : List Nat) (hc : c.length = 8) (left : Value) (many i x : Nat) (hi : i < 8) : (stCells c left many).setIfInBounds i (.int .u32 (x : Int)) = stCells (c.set i x) left many := by
  unfold stCells
  rw [← words_set]
  apply Array.ext'
  simp [words, hc, hi]
/-- the sums so far -/
def sums (h r : List Nat) (i : Nat) : List Nat := (List.zipWith plus h r).take i ++ h.drop i
theorem sums_length (h r : List Nat) (hh : h.length = 8) (hr : r.length = 8) (i : Nat) (hi : i ≤ 8) : (sums h r i).length = 8 := by
  simp [sums, hh, hr]; omega
theorem sums_at (h r : List Nat) (hh : h.length = 8) (hr : r.length = 8) (i : Nat) (hi : i < 8) : (sums h r i).getD i 0 = h.getD i 0 := by
  simp [sums, List.getD_eq_getElem?_getD, List.getElem?_append_right, hh, hr, show min i 8 = i by omega]
theorem sums_step (h r : List Nat) (hh : h.length = 8) (hr : r.length = 8) (i : Nat) (hi : i < 8) : (sums h r i).set i (plus (h.getD i 0) (r.getD i 0)) = sums h r (i + 1) := by
  apply List.ext_getElem (by simp [sums, hh, hr]; omega)
  intro j h1 h2
  simp only [List.length_set, sums_length h r hh hr i (by omega)] at h1
  rw [List.getElem_set]
  split
  · subst_vars
    simp [sums, hh, hr, List.getElem_append, List.getD_eq_getElem?_getD, hi]
    intro hx; omega
  · simp only [sums, List.getElem_append, List.length_take, List.length_zipWith, hh, hr]
    split <;> split <;> first | (simp; done) | omega | (simp; congr 1; omega)
theorem sums_all (h r : List Nat) (hh : h.length = 8) (hr : r.length = 8) : sums h r 8 = List.zipWith plus h r := by
  simp [sums, hh, hr, List.take_of_length_le]
theorem Ok8.len {v : List Nat} (h : Ok8 v) : v.length = 8 := by obtain ⟨_, _, _, _, _, _, _, _, rfl, _⟩ := h; rfl
theorem Ok8.lt {v : List Nat} (h : Ok8 v) (i : Nat) : v.getD i 0 < 4294967296 := by
  obtain ⟨_, _, _, _, _, _, _, _, rfl, h⟩ := h
  match i with
  | 0 | 1 | 2 | 3 | 4 | 5 | 6 | 7 => simp; omega
  | i + 8 => simp
theorem Consts.drewN {w : World} (h : Consts w) (n : Nat) : Consts (w.drewN n) := h
/-- the memory while the rounds go -/
structure Tk (w wr : World) (V Wb S : Nat) (e : TypeId) (c : Array Value) (cs : Array Value) (vs : List Nat) : Prop where
  s : Row wr S e c
  v : Row wr V 49 (words vs)
  ws : Row wr Wb 58 cs
  k : Consts wr
  b : Below V w wr
theorem Tk.drewN {w wr : World} {V Wb S : Nat} {e : TypeId} {c cs : Array Value} {vs : List Nat} (h : Tk w wr V Wb S e c cs vs) (n : Nat) : Tk w (wr.drewN n) V Wb S e c cs vs := ⟨h.s, h.v, h.ws, h.k, below_drewN' h.b n⟩
theorem Tk.setRow {w wr : World} {V Wb S : Nat} {e : TypeId} {c cs : Array Value} {vs : List Nat} (h : Tk w wr V Wb S e c cs vs) (hVW : V < Wb) (hSV : S < V) (hK : 1 < S) (vs' : List Nat) : Tk w (wr.setRow V (words vs')) V Wb S e c cs vs' := by
  have hc : Chg (· = V) wr.heap.size wr (wr.setRow V (words vs')) := Chg.setRow (M := fun x => x = V) (.refl _ _ _) (.inr rfl) _
  exact ⟨h.s.chg hc h.s.lt (by omega), h.v.setRow _, h.ws.chg hc h.ws.lt (by omega), h.k.chg hc (by have := h.s.lt; omega) (by omega), below_setRow h.b (Nat.le_refl _) _⟩
theorem Tk.setCell {w wr : World} {V Wb S : Nat} {e : TypeId} {c cs : Array Value} {vs vs' : List Nat} (h : Tk w wr V Wb S e c cs vs) (hVW : V < Wb) (hSV : S < V) (hK : 1 < S) (i x : Nat) (hv : vs.set i x = vs') : Tk w (wr.setCell ⟨V, i, none⟩ (.int .u32 (x : Int))) V Wb S e c cs vs' := by
  subst hv
  have hc : Chg (· = V) wr.heap.size wr (wr.setCell ⟨V, i, none⟩ (.int .u32 (x : Int))) := Chg.setCell (M := fun x => x = V) (.refl _ _ _) (.inr rfl) _
  exact ⟨h.s.chg hc h.s.lt (by omega), by rw [← words_set]; exact h.v.set i _, h.ws.chg hc h.ws.lt (by omega), h.k.chg hc (by have := h.s.lt; omega) (by omega), h.b.setCell (Nat.le_refl _) _⟩
set_option maxHeartbeats 1000000 in
set_option maxRecDepth 100000 in
theorem take_any (v : Value) (l : List UInt8) (S : Nat) (e : TypeId) (h : List Nat) (left : Value) (many : Nat) (w : World) (hv : Reads w (· < w.heap.size) v l) (hl : l.length = 64)
    (hS : Row w S e (stCells h left many)) (hok : Ok8 h) (hK : Consts w) (hgK : 1 < S) :
    Calls Tryd.prog 33 #[.pointer (some ⟨S, 0, none⟩), v] w fun e' w' => e' = .returned (.tuple #[]) ∧ Row w' S e (stCells (compress h l) left many) ∧ Chg (· = S) w.heap.size w w' := by
  obtain ⟨h0, h1, h2, h3, h4, h5, h6, h7, rfl, b0, b1, b2, b3, b4, b5, b6, b7⟩ := hok
  have c0 : w.cell? ⟨S, 0, none⟩ = some (.int .u32 (h0 : Int)) := hS.cell rfl
  have c1 : w.cell? ⟨S, 1, none⟩ = some (.int .u32 (h1 : Int)) := hS.cell rfl
  have c2 : w.cell? ⟨S, 2, none⟩ = some (.int .u32 (h2 : Int)) := hS.cell rfl
  have c3 : w.cell? ⟨S, 3, none⟩ = some (.int .u32 (h3 : Int)) := hS.cell rfl
  have c4 : w.cell? ⟨S, 4, none⟩ = some (.int .u32 (h4 : Int)) := hS.cell rfl
  have c5 : w.cell? ⟨S, 5, none⟩ = some (.int .u32 (h5 : Int)) := hS.cell rfl
  have c6 : w.cell? ⟨S, 6, none⟩ = some (.int .u32 (h6 : Int)) := hS.cell rfl
  have c7 : w.cell? ⟨S, 7, none⟩ = some (.int .u32 (h7 : Int)) := hS.cell rfl
  have hlt := hS.lt
  have HS := Keep.keep hS; clear hS
  have HV := Keep.keep hv; clear hv
  have HL := Keep.keep hl; clear hl
  have HK := Keep.keep hK; clear hK
  have hokh : Ok8 [h0, h1, h2, h3, h4, h5, h6, h7] := ⟨_, _, _, _, _, _, _, _, rfl, b0, b1, b2, b3, b4, b5, b6, b7⟩
  have HOK := Keep.keep hokh; clear hokh
  go_enter Tryd.func33, Tryd.ntmps33
  go_wp2_with fail
  clear c0 c1 c2 c3 c4 c5 c6 c7
  with_reducible refine (schedule_any _ l _ ?_ HL.out).mono ?_
  · exact (HV.out.below (B := w.heap.size) ((Below.refl _ _).alloc (Nat.le_refl _) _) (fun _ h => h)).mono (fun b hb => by simp; omega)
  rintro e' w1 ⟨rfl, hb1⟩
  have hsz1 : w.heap.size < w1.heap.size := by have := hb1.size; simp at this; omega
  have hV1 : Row w1 w.heap.size 49 (words [h0, h1, h2, h3, h4, h5, h6, h7]) := (Row.new' rfl rfl).below hb1 (by simp)
  have HV1 := Keep.keep hV1; clear hV1
  have HB1 := Keep.keep hb1; clear hb1
  have hsz : (words (sched l 64)).size = 64 := by simp [words, sched_length]
  have h1c : (words (sched l 64)).all (·.oneCell') = true := by simp [words, Value.oneCell']
  have HSZ := Keep.keep hsz; clear hsz
  have H1C := Keep.keep h1c; clear h1c
  generalize hcs : words (sched l 64) = cs at *
  have HCS := Keep.keep hcs; clear hcs
  go_wp2_with (first | ((with_reducible refine arm_storeRow (Row.new w1 58 _) agg64 ?_ HSZ.out H1C.out ?_ ?_ ?_); (focus rfl); (focus rfl); (focus rfl); simp only [Act.put, World.setRow_alloc_new]))
  go_loopw [18] (fun t wr => ∃ k : Nat, k ≤ 64 ∧ t = .int .i64 k ∧ Tk w wr w.heap.size w1.heap.size S e (stCells [h0, h1, h2, h3, h4, h5, h6, h7] left many) cs (rounds (sched l 64) [h0, h1, h2, h3, h4, h5, h6, h7] k)) (fun t _ => 64 - (intOf t).toNat)
  case atStart =>
    have hb2 : Below w.heap.size w w1 := (((Below.refl _ _).alloc (Nat.le_refl _) _).trans (HB1.out.mono (by simp)))
    refine ⟨0, by omega, rfl, ⟨(HS.out.below hb2 hlt).old _, HV1.out.old _, Row.new _ _ _, ?_, hb2.alloc (by omega) _⟩⟩
    exact HK.out.chg (.of_below (hb2.alloc (by omega) _)) (by omega) (fun h => h.elim) (M := fun _ => False)
  case round =>
    obtain ⟨k, hk, rfl, hs⟩ := hrel
    have HT := Keep.keep hs; clear hs
    by_cases hk64 : k < 64
    · obtain ⟨x0, x1, x2, x3, x4, x5, x6, x7, hx, y0, y1, y2, y3, y4, y5, y6, y7⟩ := ok8_rounds HOK.out (sched l 64) k
      have hv := HT.out.v
      rw [hx] at hv
      have HX := Keep.keep hx; clear hx
      have c0 : wr.cell? ⟨w.heap.size, 0, none⟩ = some (.int .u32 (x0 : Int)) := hv.cell rfl
      have c1 : wr.cell? ⟨w.heap.size, 1, none⟩ = some (.int .u32 (x1 : Int)) := hv.cell rfl
      have c2 : wr.cell? ⟨w.heap.size, 2, none⟩ = some (.int .u32 (x2 : Int)) := hv.cell rfl
      have c4 : wr.cell? ⟨w.heap.size, 4, none⟩ = some (.int .u32 (x4 : Int)) := hv.cell rfl
      have c5 : wr.cell? ⟨w.heap.size, 5, none⟩ = some (.int .u32 (x5 : Int)) := hv.cell rfl
      have c6 : wr.cell? ⟨w.heap.size, 6, none⟩ = some (.int .u32 (x6 : Int)) := hv.cell rfl
      have c7 : wr.cell? ⟨w.heap.size, 7, none⟩ = some (.int .u32 (x7 : Int)) := hv.cell rfl
      have ck := HT.out.k k hk64
      have cw := HT.out.ws.cell (show cs[k]? = some (.int .u32 (((sched l 64).getD k 0 : Nat) : Int)) by rw [← HCS.out]; exact words_getD _ k (by rw [sched_length]; exact hk64))
      have yk := Ks_lt k
      have yw := sched_getD_lt l 64 k
      have HV := Keep.keep hv; clear hv
      generalize hKK : Ks.getD k 0 = KK at *
      generalize hWW : (sched l 64).getD k 0 = WW at *
      have HKK := Keep.keep hKK; have HWW := Keep.keep hWW; clear hKK hWW
      have e1 := u32_xor_nat _ _ (rotr_lt x4 6 y4) (rotr_lt x4 11 y4)
      have e2 : bits BinOp.xor IntKind.u32 ((rotr x4 6 ^^^ rotr x4 11 : Nat) : Int) (rotr x4 25 : Int) = ((Sig1 x4 : Nat) : Int) := u32_xor_nat _ _ (Nat.xor_lt_two_pow (n := 32) (rotr_lt x4 6 y4) (rotr_lt x4 11 y4)) (rotr_lt x4 25 y4)
      have e3 := u32_and_nat _ _ y4 y5
      have e0 := not32 x4 y4
      have yn : 4294967295 - x4 < 4294967296 := by omega
      generalize hn4 : 4294967295 - x4 = n4 at e0 yn
      have e4 := u32_and_nat n4 x6 yn y6
      have e5 : bits BinOp.xor IntKind.u32 ((x4 &&& x5 : Nat) : Int) ((n4 &&& x6 : Nat) : Int) = ((choose x4 x5 x6 : Nat) : Int) := by
        rw [choose, hn4]; exact u32_xor_nat _ _ (Nat.and_lt_two_pow (n := 32) x4 y5) (Nat.and_lt_two_pow (n := 32) n4 y6)
      clear yn hn4
      have yS1 := Sig1_lt x4 y4
      have yCh := choose_lt x4 x5 x6 y5 y6
      go_wp2
      go_quiet (fail)
      go_wp2
      go_quiet ((go_at_call 51; exact quiet_after_same (turn_int _ _ _ (by omega) (by omega) (by omega) (by omega))))
      clear e0 e1 e2 e3 e4 e5 ck cw c4 c5 c6 c7
      have e1 := u32_xor_nat _ _ (rotr_lt x0 2 y0) (rotr_lt x0 13 y0)
      have e2 : bits BinOp.xor IntKind.u32 ((rotr x0 2 ^^^ rotr x0 13 : Nat) : Int) (rotr x0 22 : Int) = ((Sig0 x0 : Nat) : Int) := u32_xor_nat _ _ (Nat.xor_lt_two_pow (n := 32) (rotr_lt x0 2 y0) (rotr_lt x0 13 y0)) (rotr_lt x0 22 y0)
      have e3 := u32_and_nat _ _ y0 y1
      have e4 := u32_and_nat _ _ y0 y2
      have e5 := u32_xor_nat _ _ (Nat.and_lt_two_pow (n := 32) x0 y1) (Nat.and_lt_two_pow (n := 32) x0 y2)
      have e6 := u32_and_nat _ _ y1 y2
      have e7 : bits BinOp.xor IntKind.u32 ((x0 &&& x1 ^^^ x0 &&& x2 : Nat) : Int) ((x1 &&& x2 : Nat) : Int) = ((most x0 x1 x2 : Nat) : Int) := u32_xor_nat _ _ (Nat.xor_lt_two_pow (n := 32) (Nat.and_lt_two_pow (n := 32) x0 y1) (Nat.and_lt_two_pow (n := 32) x0 y2)) (Nat.and_lt_two_pow (n := 32) x1 y2)
      have yS0 := Sig0_lt x0 y0
      have yMo := most_lt x0 x1 x2 y1 y2
      go_wp2
      go_quiet ((go_at_call 51; exact quiet_after_same (turn_int _ _ _ (by omega) (by omega) (by omega) (by omega))))
      clear e1 e2 e3 e4 e5 e6 e7 c0 c1 c2
      go_wp2
      refine wp_region_quiet_tail_drawn 2 (by kernel_rfl) (by kernel_rfl) ?_; simp only [List.take_succ_cons, List.take_zero, List.drop_succ_cons, List.drop_zero]; (repeat (quiet_step (fail))); refine wpQuiet_nil ?_; rintro _ ⟨nq, rfl⟩
      refine wpList_world (R := fun w2 => Tk w w2 w.heap.size w1.heap.size S e (stCells [h0, h1, h2, h3, h4, h5, h6, h7] left many) cs [x0, x1, x2, x3, x4, x5, x6, x7]) (by rw [← HX.out]; exact ((((HT.out.drewN _).drewN _).drewN _).drewN _)) ?_
      intro w2 HT2
      refine arm_copyRow HT2.out.v (words [x0, x1, x2, x3, x4, x5, x6]).toList (words [x0, x0, x1, x2, x3, x4, x5, x6]) Tryd.underlying86 (by kernel_rfl) rfl rfl rfl ?_ (by simp [words]) ?_ rfl ?_
      · intro j u hj
        simp only [words, List.map_cons, List.map_nil] at hj ⊢
        match j, hj with
        | 0, hj | 1, hj | 2, hj | 3, hj | 4, hj | 5, hj | 6, hj => exact hj
        | j + 7, hj => cases hj
      · intro u hu
        simp [words] at hu
        rcases hu with rfl | rfl | rfl | rfl | rfl | rfl | rfl <;> rfl
      simp only [Act.put, List.setIfInBounds_toArray, List.set_cons_succ, List.set_cons_zero]
      refine wpList_world (R := fun w2 => Tk w w2 w.heap.size w1.heap.size S e (stCells [h0, h1, h2, h3, h4, h5, h6, h7] left many) cs [x0, x0, x1, x2, x3, x4, x5, x6]) (HT2.out.setRow (by omega) (by omega) hgK _) ?_
      intro w3 HT3
      have d4 : w3.cell? ⟨w.heap.size, 4, none⟩ = some (.int .u32 (x3 : Int)) := HT3.out.v.cell rfl
      have d0 : w3.cell? ⟨w.heap.size, 0, none⟩ = some (.int .u32 (x0 : Int)) := HT3.out.v.cell rfl
      have f4 := HT3.out.v.frozen 4
      have f0 := HT3.out.v.frozen 0
      go_wp2
      refine ⟨⟨k + 1, by omega, by go_num, ?_⟩, by simp [intOf]; omega⟩
      have q1 : (((x3 : Int) + ((x7 : Int) + (Sig1 x4 : Int) + (choose x4 x5 x6 : Int) + (KK : Int) + (WW : Int))) % 4294967296) = (((x3 + T1 x4 x5 x6 x7 KK WW) % 4294967296 : Nat) : Int) := by
        unfold T1; omega
      have q2 : (((x7 : Int) + (Sig1 x4 : Int) + (choose x4 x5 x6 : Int) + (KK : Int) + (WW : Int) + ((Sig0 x0 : Int) + (most x0 x1 x2 : Int))) % 4294967296) = (((T1 x4 x5 x6 x7 KK WW + T2 x0 x1 x2) % 4294967296 : Nat) : Int) := by
        unfold T1 T2; omega
      rw [q1, q2]
      have e : rounds (sched l 64) [h0, h1, h2, h3, h4, h5, h6, h7] (k + 1) = [(T1 x4 x5 x6 x7 KK WW + T2 x0 x1 x2) % 4294967296, x0, x1, x2, (x3 + T1 x4 x5 x6 x7 KK WW) % 4294967296, x4, x5, x6] := by
        rw [rounds, HX.out, HKK.out, HWW.out]; rfl
      rw [e]
      exact (HT3.out.setCell (by omega) (by omega) hgK 4 _ rfl).setCell (by omega) (by omega) hgK 0 _ rfl
    · obtain rfl : k = 64 := by omega
      have hok2 := ok8_rounds HOK.out (sched l 64) 64
      have HC := Keep.keep (show compress [h0, h1, h2, h3, h4, h5, h6, h7] l = List.zipWith plus [h0, h1, h2, h3, h4, h5, h6, h7] (rounds (sched l 64) [h0, h1, h2, h3, h4, h5, h6, h7] 64) from rfl)
      have HT1 := Keep.keep (show Row wr S e (stCells (sums [h0, h1, h2, h3, h4, h5, h6, h7] (rounds (sched l 64) [h0, h1, h2, h3, h4, h5, h6, h7] 64) 0) left many) ∧ Row wr w.heap.size 49 (words (rounds (sched l 64) [h0, h1, h2, h3, h4, h5, h6, h7] 64)) ∧ Chg (fun x => x = S) w.heap.size w wr from ⟨HT.out.s, HT.out.v, .of_below HT.out.b⟩)
      clear HT
      generalize rounds (sched l 64) [h0, h1, h2, h3, h4, h5, h6, h7] 64 = r at hok2 HC HT1
      have HOK2 := Keep.keep hok2; clear hok2
      generalize hh : [h0, h1, h2, h3, h4, h5, h6, h7] = h at HOK HC HT1
      have HH := Keep.keep hh; clear hh
      clear b0 b1 b2 b3 b4 b5 b6 b7
      go_wp2
      go_loopw [92] (fun t wr => ∃ i : Nat, i ≤ 8 ∧ t = .int .i64 i ∧ Row wr S e (stCells (sums h r i) left many) ∧ Row wr w.heap.size 49 (words r) ∧ Chg (fun x => x = S) w.heap.size w wr) (fun t _ => 8 - (intOf t).toNat)
      case atStart => exact ⟨0, by omega, rfl, HT1.out⟩
      case round =>
        obtain ⟨i, hi, rfl, hs⟩ := hrel
        have HT2 := Keep.keep hs; clear hs
        by_cases hi8 : i < 8
        · have d0 := HT2.out.1.cell (stCells_get _ (sums_length h r HOK.out.len HOK2.out.len i hi) left many i hi8)
          rw [sums_at h r HOK.out.len HOK2.out.len i hi8] at d0
          have d1 := HT2.out.2.1.cell (words_getD r i (by rw [HOK2.out.len]; exact hi8))
          have y0 := HOK.out.lt i
          have y1 := HOK2.out.lt i
          have f0 := HT2.out.1.frozen i
          generalize hx0 : h.getD i 0 = x0 at *
          generalize hx1 : r.getD i 0 = x1 at *
          have HX0 := Keep.keep hx0; have HX1 := Keep.keep hx1; clear hx0 hx1
          go_wp2
          refine wp_region_quiet_tail_drawn 13 (by kernel_rfl) (by kernel_rfl) ?_; simp only [List.take_succ_cons, List.take_zero, List.drop_succ_cons, List.drop_zero]; (repeat (go_big_quiet_step (fail))); refine wpQuiet_nil ?_; rintro _ ⟨nq, rfl⟩
          go_wp2
          refine ⟨⟨i + 1, by omega, by go_num, ?_⟩, by simp [intOf]; omega⟩
          have e : (((x0 : Int) + (x1 : Int)) % 4294967296) = ((plus (h.getD i 0) (r.getD i 0) : Nat) : Int) := by
            rw [HX0.out, HX1.out]; simp [plus]
          rw [e, ← sums_step h r HOK.out.len HOK2.out.len i hi8]
          refine ⟨(HT2.out.1.drewN nq).set' i _ (stCells_set _ (sums_length h r HOK.out.len HOK2.out.len i hi) left many i _ hi8), (HT2.out.2.1.drewN nq).other (by simp; omega) _, (HT2.out.2.2.drewN nq).setCell (.inr rfl) _⟩
        · obtain rfl : i = 8 := by omega
          go_wp2
          go_end0
          refine ⟨rfl, ?_, HT2.out.2.2⟩
          rw [HH.out, HC.out, ← sums_all h r HOK.out.len HOK2.out.len]
          exact HT2.out.1
end Go.Proofs.YtofficleahalaaaDoor
