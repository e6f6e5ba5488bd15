/- pax.Last: a range over slices.Backward. -/
import Derived.RangeFuncNested
import Derived.RangeFuncBound
import Derived.RangeFuncCalls
import Derived.RangeFuncLeaves
import Derived.Shelf.Abstract
import Derived.Shelf.RegionOpen
import Derived.WalkKit
import Derived.OwnWalkIn
import Derived.TacticsInMore
import Derived.LoopNIn
import Derived.LoopIn
import Derived.Test.YtlhjehcfpnjbmaaDoorPaxRef
namespace Go.Proofs.YtlhjehcfpnjbmaaDoor
open Go.RowKit Go.Shelf
attribute [local go_sem] Oper.semAt_some
def upto {α : Type} (f : Nat → α) (k : Nat) : List α := (List.range k).map f
theorem upto_succ {α : Type} (f : Nat → α) (k : Nat) : upto f (k + 1) = upto f k ++ [f k] := by simp [upto, List.range_succ]
theorem upto_length {α : Type} (f : Nat → α) (k : Nat) : (upto f k).length = k := by simp [upto]
/-- the k-th that Backward hands out -/
def bkAt (l : List R2) (k : Nat) : Nat × R2 := (l.length - 1 - k, l[l.length - 1 - k]?.getD ([], []))
theorem upto_bk (l : List R2) (k : Nat) (hk : k ≤ l.length) : (upto (bkAt l) k).map (·.2) = l.reverse.take k := by
  apply List.ext_getElem
  · simp [upto]; omega
  · intro i h1 h2
    have : i < k := by simpa [upto] using h1
    have h3 : l.length - 1 - i < l.length := by omega
    simp [upto, bkAt, List.getElem_reverse, h3]
def encB (x : Nat × R2) : Array Value := #[.int .i64 (x.1 : Int), recV x.2.1 x.2.2]
/-- what a round keeps: what lay below n₀, and the box of the slice -/
def KB (n₀ Bs : Nat) (W W' : World) : Prop := Below n₀ W W' ∧ ∀ v, W.cell? ⟨Bs, 0, none⟩ = some v → W'.cell? ⟨Bs, 0, none⟩ = some v
theorem KB.refl (n₀ Bs : Nat) (W : World) : KB n₀ Bs W W := ⟨Below.refl _ _, fun _ h => h⟩
theorem KB.trans {n₀ Bs : Nat} {A B C : World} (h : KB n₀ Bs A B) (k : KB n₀ Bs B C) : KB n₀ Bs A C := ⟨h.1.trans k.1, fun v hv => k.2 v (h.2 v hv)⟩
theorem KB.alloc {n₀ Bs : Nat} {A B : World} (h : KB n₀ Bs A B) (hs : n₀ ≤ B.heap.size) (o : Obj) : KB n₀ Bs A (B.alloc o) := ⟨h.1.alloc hs o, fun v hv => by
    have h1 := h.2 v hv
    obtain ⟨o', ho, hc⟩ := cells_of_cell h1
    exact cell_kept h1 (World.grownBy_alloc B o none) (fun r e => by cases e)⟩
theorem KB.set {n₀ Bs : Nat} {A B : World} (h : KB n₀ Bs A B) {b : Nat} (hb : n₀ ≤ b) (hne : Bs ≠ b) (v : Value) : KB n₀ Bs A (B.setCell ⟨b, 0, none⟩ v) :=
  ⟨h.1.setCell (p := ⟨b, 0, none⟩) hb _, fun u hu => by
    have h1 := h.2 u hu
    obtain ⟨o, ho, _⟩ := cells_of_cell h1
    exact (World.cell?_of_block ((grownBy_setCell' B b v).block Bs (Array.getElem?_eq_some_iff.1 ho).1 (fun e => hne (by injection e)))).trans h1⟩
theorem KB.b {n₀ Bs : Nat} {w : World} (hn : n₀ ≤ w.heap.size) (W : World) (l : Nat) (o o' : Obj) (hl : w.heap.size ≤ l) (h : W.heap[l]? = some o) (hc : o.isCells = false) (hw : o.isWalk = false) : KB n₀ Bs W (W.putObj l o') :=
  ⟨belowK_b hn W l o o' hl h hc hw, fun v hv => cell_kept hv (grownBy_putObj' W l o') (fun r e => by cases e; exact ⟨o, h, hc⟩)⟩
set_option maxRecDepth 100000 in
set_option maxHeartbeats 2000000 in
/-- slices.Backward's closure -/
theorem back1_in (F : Fence) (n : Nat) (h1 : F.fn 41) (hro : F.round = none) (hn : 1 ≤ n) (lo Bs n₀ : Nat) (a : Option Addr) (cap : Nat) (l : List R2) (hl : l.length ≤ 1000000) (J Jx : List (Nat × R2) → World → Prop)
    (hY : ∀ pre x W, J pre W → pre.length < l.length → YieldAt F (n - 1) Tryd.prog lo (encB x) W fun e W' =>
      (e = .returned (.bool true) ∧ J (pre ++ [x]) W' ∧ KB n₀ Bs W W') ∨ (e = .returned (.bool false) ∧ Jx (pre ++ [x]) W'))
    (W : World) (hBs : W.cell? ⟨Bs, 0, none⟩ = some (.slice a l.length cap)) (hr : RdV W (· < n₀) 2 (.slice a l.length cap) l.length (rcells l)) (h0 : J [] W) :
    CallsIn F n Tryd.prog 41 #[.func (.yield lo) #[] #[], .pointer (some ⟨Bs, 0, none⟩)] W fun e W' => (∃ v, e = .returned v) ∧
      ((∃ ys, ys = upto (bkAt l) l.length ∧ J ys W') ∨ (∃ pre, (∃ k, k ≤ l.length ∧ pre = upto (bkAt l) k) ∧ Jx pre W')) := by
  refine callsIn_of_wp Tryd.func41 rfl h1 ?_ hro
  simp only [Tryd.ntmps41, List.size_toArray, List.length_cons, List.length_nil, Nat.reduceAdd, Nat.reduceSub, Array.replicate_succ, Array.replicate_zero, List.push_toArray, List.append_toArray, List.nil_append, List.cons_append]
  gi_wp2
  gi_loopw [3] (fun i wr => ∃ m k : Nat, m + k = l.length ∧ i = .int .i64 ((m : Int) - 1) ∧ J (upto (bkAt l) k) wr ∧ KB n₀ Bs W wr)
    (fun i _ => (intOf i + 1).toNat)
  case atStart => exact ⟨l.length, 0, by omega, rfl, h0, KB.refl _ _ _⟩
  case round =>
    obtain ⟨m, k, hmk, rfl, hJs, hnx⟩ := hrel
    have hcB : wr.cell? ⟨Bs, 0, none⟩ = some (.slice a l.length cap) := hnx.2 _ hBs
    cases m with
    | zero =>
      obtain rfl : k = l.length := by omega
      gi_wp2
      go_end0
      exact ⟨⟨_, rfl⟩, .inl ⟨_, rfl, hJs⟩⟩
    | succ j =>
      have hj : j < l.length := by omega
      have ej : (((j + 1 : Nat) : Int) - 1) = (j : Int) := by omega
      rw [ej]
      obtain ⟨p, hp⟩ : ∃ p, l[j]? = some p := ⟨l[j], List.getElem?_eq_getElem hj⟩
      have hbk : bkAt l k = (j, p) := by
        unfold bkAt
        rw [show l.length - 1 - k = j by omega, hp]
        rfl
      have hrd := hr.below hnx.1 (fun _ h => h)
      obtain ⟨b, off, cap', he, _, _, _⟩ := hrd.has (by omega)
      injection he with he _ hcc
      subst he hcc
      obtain ⟨hc0, hc1⟩ := hrd.recAt hp
      obtain ⟨pk, pv⟩ := p
      obtain ⟨fn, tmps, assign, body, hy, hR⟩ := hY _ (j, (pk, pv)) wr hJs (by rw [upto_length]; omega)
      dsimp only [encB, recV] at hy
      clear hrd hp
      gi_wp2
      refine hR.mono ?_
      rintro e W3 (⟨rfl, hJ3, hk3⟩ | ⟨rfl, hJx3⟩)
      · gi_wp2
        go_roundw
        case rel => exact ⟨j, k + 1, by omega, by simp, by rw [upto_succ, hbk]; exact hJ3, hnx.trans hk3⟩
        case measure => simp [intOf]
      · gi_wp2
        refine bodyPost_ret (results_none rfl _ _ _) rfl ?_
        exact ⟨⟨_, rfl⟩, .inr ⟨_, ⟨k + 1, by omega, by rw [upto_succ, hbk]⟩, hJx3⟩⟩
/-- slices.Backward -/
theorem back_in (F : Fence) (n : Nat) (h : F.fn 29) (hro : F.round = none) (a : Option Addr) (len cap : Nat) (w : World) :
    CallsIn F n Tryd.prog 29 #[.slice a len cap] w fun e w' => e = .returned (.func (.func 41) #[] #[.pointer (some ⟨w.heap.size, 0, none⟩)]) ∧ w' = w.alloc (.cells #[.slice a len cap] 22) := by
  refine callsIn_of_wp Tryd.func29 rfl h ?_ hro
  simp only [Tryd.ntmps29, List.size_toArray, List.length_cons, List.length_nil, Nat.reduceAdd, Nat.reduceSub, Array.replicate_succ, Array.replicate_zero, List.push_toArray, List.append_toArray, List.nil_append, List.cons_append]
  gi_wp2
  go_ret
  exact ⟨rfl, rfl⟩
/-- .. hands back a value that stops -/
theorem back_stops (F : Fence) (n : Nat) (h1 : F.fn 41) (hro : F.round = none) (hn : 1 ≤ n) (Bs n₀ : Nat) (a : Option Addr) (cap : Nat) (l : List R2) (hl : l.length ≤ 1000000) (w : World) (hBs : Bs < w.heap.size) (hn₀ : n₀ ≤ w.heap.size)
    (hc : w.cell? ⟨Bs, 0, none⟩ = some (.slice a l.length cap)) (hr : RdV w (· < n₀) 2 (.slice a l.length cap) l.length (rcells l)) :
    SeqStopsK F n Tryd.prog 41 #[.pointer (some ⟨Bs, 0, none⟩)] encB (KB n₀ Bs) (fun ys => ys = upto (bkAt l) l.length) (fun pre => ∃ k, k ≤ l.length ∧ pre = upto (bkAt l) k) l.length w := fun lo J Jx W hW _ _ hY h0 => by
  have hc' := (hW.cell (p := ⟨Bs, 0, none⟩) hBs).trans hc
  exact back1_in F n h1 hro hn lo Bs n₀ a cap l hl J Jx hY W hc' (hr.below hW (fun _ h => Nat.lt_of_lt_of_le h hn₀)) h0
def lastR (key : List UInt8) (pre : List (Nat × R2)) : Option R2 := (pre.map (·.2)).find? fun p => p.1 == key
theorem lastR_snoc (key : List UInt8) (pre : List (Nat × R2)) (x : Nat × R2) (h : lastR key pre = none) : lastR key (pre ++ [x]) = if x.2.1 == key then some x.2 else none := by
  unfold lastR at *
  rw [List.map_append, List.find?_append, h]
  simp only [List.map_cons, List.map_nil, List.find?_cons, Option.none_or]
  cases x.2.1 == key <;> rfl
theorem lastR_all (l : List R2) (key : List UInt8) : (lastR key (upto (bkAt l) l.length)).map (·.2) = lastP l key := by
  unfold lastR lastP
  rw [upto_bk l l.length (Nat.le_refl _), List.take_of_length_le (by simp)]
theorem lastR_some (l : List R2) (key : List UInt8) (k : Nat) (hk : k ≤ l.length) (h : (lastR key (upto (bkAt l) k)).isSome = true) : (lastR key (upto (bkAt l) k)).map (·.2) = lastP l key := by
  unfold lastR lastP at *
  rw [upto_bk l k hk] at *
  obtain ⟨u, hu⟩ := Option.isSome_iff_exists.1 h
  rw [hu, List.IsPrefix.find?_eq_some (List.take_prefix _ _) hu]
/-- a box of two cells -/
def Box2 (W : World) (B : Nat) (u v : Value) : Prop := W.cell? ⟨B, 0, none⟩ = some u ∧ W.cell? ⟨B, 1, none⟩ = some v
set_option maxRecDepth 100000 in
set_option maxHeartbeats 4000000 in
theorem last_in (F : Fence) (n : Nat) (h0 : F.fn 15) (h1 : F.fn 29) (h2 : F.fn 41) (hro : F.round = none) (hn : 6 ≤ n) (sv : Value) (l : List R2) (key : List UInt8) (w : World) (hl : l.length ≤ 1000000)
    (hr : RdV w (· < w.heap.size) 2 sv l.length (rcells l)) :
    CallsIn F n Tryd.prog 15 #[sv, .string ⟨key.toArray⟩] w fun e w' => e = .returned (lastV (lastP l key)) ∧ Below w.heap.size w w' := by
  obtain ⟨a, cap, rfl, hcap, hmx, -⟩ := hr.shape
  have hn1 : 1 ≤ n := by omega
  refine callsIn_of_wp_marks Tryd.func15 rfl h0 ?_ hro
  simp only [Tryd.ntmps15, List.size_toArray, List.length_cons, List.length_nil, Nat.reduceAdd, Nat.reduceSub, Array.replicate_succ, Array.replicate_zero, List.push_toArray, List.append_toArray, List.nil_append, List.cons_append]
  gi_wp2_with (gi_at_call 29; refine (back_in F (n - 1) h1 hro _ _ _ _).mono ?_; rintro e w' ⟨rfl, rfl⟩)
  have bK := (((Boxed.new w 9 (.string ⟨key.toArray⟩)).alloc (.cells #[.string ⟨#[]⟩] 9)).alloc (.cells #[.bool false] 4)).alloc (.cells #[.slice a l.length cap] 22)
  have bR := ((Boxed.new (w.alloc (.cells #[.string ⟨key.toArray⟩] 9)) 9 (.string ⟨#[]⟩)).alloc (.cells #[.bool false] 4)).alloc (.cells #[.slice a l.length cap] 22)
  have bO := (Boxed.new ((w.alloc (.cells #[.string ⟨key.toArray⟩] 9)).alloc (.cells #[.string ⟨#[]⟩] 9)) 4 (.bool false)).alloc (.cells #[.slice a l.length cap] 22)
  have bS := Boxed.new (((w.alloc (.cells #[.string ⟨key.toArray⟩] 9)).alloc (.cells #[.string ⟨#[]⟩] 9)).alloc (.cells #[.bool false] 4)) 22 (.slice a l.length cap)
  simp only [World.size_alloc] at bR bO bS
  have hB0 : Below w.heap.size w ((((w.alloc (.cells #[.string ⟨key.toArray⟩] 9)).alloc (.cells #[.string ⟨#[]⟩] 9)).alloc (.cells #[.bool false] 4)).alloc (.cells #[.slice a l.length cap] 22)) :=
    ((((Below.refl _ w).alloc (Nat.le_refl _) _).alloc (by simp) _).alloc (by simp; omega) _).alloc (by simp; omega) _
  have hsz : ((((w.alloc (.cells #[.string ⟨key.toArray⟩] 9)).alloc (.cells #[.string ⟨#[]⟩] 9)).alloc (.cells #[.bool false] 4)).alloc (.cells #[.slice a l.length cap] 22)).heap.size = w.heap.size + 4 := by simp
  obtain ⟨W0, hW0⟩ : ∃ W0, ((((w.alloc (.cells #[.string ⟨key.toArray⟩] 9)).alloc (.cells #[.string ⟨#[]⟩] 9)).alloc (.cells #[.bool false] 4)).alloc (.cells #[.slice a l.length cap] 22)) = W0 := ⟨_, rfl⟩
  rw [hW0] at bK bR bO bS hB0 hsz ⊢
  clear hW0
  have hr0 : RdV W0 (· < w.heap.size) 2 (.slice a l.length cap) l.length (rcells l) := hr.below hB0 (fun _ h => h)
  refine wpIn_rangeFunc_ownH hro hn1 (gf := 41) (lb := #[.pointer (some ⟨w.heap.size + 1 + 1 + 1, 0, none⟩)]) rfl h2 (enters_of Tryd.func41 (by kernel_rfl) rfl)
    (back_stops F (n - 1) h2 hro (by omega) (w.heap.size + 1 + 1 + 1) w.heap.size a cap l hl W0 (by omega) (by omega) bS.cell hr0) KB.trans (KB.b (by omega)) (Below.refl _ _) (fun _ => rfl)
    (fun pre W => (((lastR key pre = none ∧ Boxed W (w.heap.size + 1) 9 (.string ⟨#[]⟩)) ∧ Boxed W (w.heap.size + 1 + 1) 4 (.bool false)) ∧ Boxed W w.heap.size 9 (.string ⟨key.toArray⟩)) ∧ Below w.heap.size w W)
    (fun c pre W => (((c = .ret ∧ (lastR key pre).isSome = true) ∧ Boxed W (w.heap.size + 1) 9 (.string ⟨(((lastR key pre).map (·.2)).getD []).toArray⟩)) ∧ Boxed W (w.heap.size + 1 + 1) 4 (.bool true)) ∧ Below w.heap.size w W)
    (OwnFrom.and (OwnFrom.and (OwnFrom.and (OwnFrom.and (ownFrom_pure _ _) (Own.from (boxed_own _ _ _) _)) (Own.from (boxed_own _ _ _) _)) (Own.from (boxed_own _ _ _) _)) (ownFrom_below (Nat.le_refl _) (by omega)))
    (fun c => OwnFrom.and (OwnFrom.and (OwnFrom.and (ownFrom_pure _ _) (Own.from (boxed_own _ _ (fun pre => .string ⟨(((lastR key pre).map (·.2)).getD []).toArray⟩)) _)) (Own.from (boxed_own _ _ _) _)) (ownFrom_below (Nat.le_refl _) (by omega)))
    ⟨⟨⟨⟨rfl, bR⟩, bO⟩, bK⟩, hB0⟩
    (fun x a' W => ∃ Bx, Box2 W Bx (.string ⟨x.2.1.toArray⟩) (.string ⟨x.2.2.toArray⟩) ∧ a' = { tmps := #[.slice a l.length cap, .string ⟨key.toArray⟩, undef, .pointer (some ⟨w.heap.size, 0, none⟩), .pointer (some ⟨w.heap.size + 1, 0, none⟩), .pointer (some ⟨w.heap.size + 1 + 1, 0, none⟩), undef, .pointer (some ⟨Bx, 0, none⟩), .slice a l.length cap, .func (.func 41) #[] #[.pointer (some ⟨w.heap.size + 1 + 1 + 1, 0, none⟩)], .int .i64 (x.1 : Int), recV x.2.1 x.2.2, undef, undef, undef, undef, undef, undef], defers := [] })
    (fun x a' _ X Y row hs hg hr => by obtain ⟨Bx, e2, e3⟩ := hs; exact ⟨Bx, ⟨cell_kept e2.1 hg (fun r e => (hr r e).2), cell_kept e2.2 hg (fun r e => (hr r e).2)⟩, e3⟩)
    ?assign ?body ?done ?stop
  case assign =>
    rintro lo pre x W K ⟨⟨⟨⟨hp, bR1⟩, bO1⟩, bK1⟩, hB1⟩ hK
    obtain ⟨xi, xk, xv⟩ := x
    dsimp only [encB, recV]
    gi_wp2
    exact hK _ _ ((KeepsOthers.alloc _ _).from _) ((KB.refl _ _ W).alloc hB1.size _) ⟨⟨⟨⟨hp, bR1.alloc _⟩, bO1.alloc _⟩, bK1.alloc _⟩, hB1.alloc hB1.size _⟩ ⟨W.heap.size, ⟨(Row.new W 33 _).cell (i := 0) rfl, (Row.new W 33 _).cell (i := 1) rfl⟩, rfl⟩
  case body =>
    rintro lo pre x a' W hl0 ⟨r, hr1⟩ ⟨⟨⟨⟨hp, bR1⟩, bO1⟩, bK1⟩, hB1⟩ ⟨Bx, ⟨hx0, hx1⟩, rfl⟩ hlt
    obtain ⟨xi, xk, xv⟩ := x
    have cR := bR1.cell
    have fR := bR1.frozen
    have cO := bO1.cell
    have fO := bO1.frozen
    have cK := bK1.cell
    have hsn := lastR_snoc key pre (xi, xk, xv) hp
    dsimp only at hsn hx0 hx1
    have HSN := Keep.keep hsn
    clear hsn
    cases hke : (xk == key)
    · rw [hke] at HSN
      gi_wp2
      exact ⟨KeepsFrom.refl _ _, KB.refl _ _ _, ⟨⟨⟨⟨HSN.out, bR1⟩, bO1⟩, bK1⟩, hB1⟩⟩
    · rw [hke] at HSN
      gi_wp2
      have hv : ((lastR key (pre ++ [(xi, xk, xv)])).map (·.2)).getD [] = xv := by rw [HSN.out]; rfl
      exact ⟨((KeepsOthers.setCell _ _ _).trans (KeepsOthers.setCell _ _ _)).from _, ⟨⟨⟨rfl, by rw [HSN.out]; rfl⟩, by rw [hv]; exact (bR1.set _).other (by omega) _⟩, (bO1.other (by omega) _).set _⟩, (hB1.setCell (p := ⟨w.heap.size + 1, 0, none⟩) (by simp) _).setCell (p := ⟨w.heap.size + 1 + 1, 0, none⟩) (by simp; omega) _⟩
  case done =>
    rintro D ys W hD rfl ⟨⟨⟨⟨hp, bR1⟩, bO1⟩, bK1⟩, hB1⟩ hK
    have cR := bR1.cell
    have fR := bR1.frozen
    have cO := bO1.cell
    have fO := bO1.frozen
    gi_wp2
    have hK' := ((KeepsOthers.setCell W ⟨w.heap.size + 1, 0, none⟩ (.string ⟨#[]⟩)).trans (KeepsOthers.setCell _ ⟨w.heap.size + 1 + 1, 0, none⟩ (.bool false))).same D _ hK rfl
    refine ⟨by simp, .inl ⟨_, _, rfl, run_takeDeferred hK', ?_⟩⟩
    have hc5 := cell_kept ((bR1.set (.string ⟨#[]⟩)).other (B' := w.heap.size + 1 + 1) (by omega) (.bool false)).cell (grownBy_putObj' _ D (.deferred none)) (fun r e => by cases e; exact ⟨_, hK', rfl⟩)
    have hc6 := cell_kept ((bO1.other (B' := w.heap.size + 1) (by omega) (.string ⟨#[]⟩)).set (.bool false)).cell (grownBy_putObj' _ D (.deferred none)) (fun r e => by cases e; exact ⟨_, hK', rfl⟩)
    have e1 := lastR_all l key
    rw [hp] at e1
    have e2 : lastP l key = none := e1.symm
    refine ⟨lastV (lastP l key), ?_, rfl, ((hB1.setCell (p := ⟨w.heap.size + 1, 0, none⟩) (by simp) _).setCell (p := ⟨w.heap.size + 1 + 1, 0, none⟩) (by simp; omega) _).trans (belowK_b (w := w) (Nat.le_refl _) _ D _ _ (by omega) hK' rfl rfl)⟩
    simp [results, Tryd.f15, go_sem, hc5, hc6, lastV, e2]
  case stop =>
    rintro D c pre W hD hpre ⟨⟨⟨⟨rfl, hin⟩, bR1⟩, bO1⟩, hB1⟩ hK
    obtain ⟨k, hk, rfl⟩ := hpre
    gi_wp2
    refine ⟨by simp, .inl ⟨_, _, rfl, run_takeDeferred hK, ?_⟩⟩
    have hc5 := cell_kept bR1.cell (grownBy_putObj' _ D (.deferred none)) (fun r e => by cases e; exact ⟨_, hK, rfl⟩)
    have hc6 := cell_kept bO1.cell (grownBy_putObj' _ D (.deferred none)) (fun r e => by cases e; exact ⟨_, hK, rfl⟩)
    refine ⟨lastV (lastP l key), ?_, rfl, hB1.trans (belowK_b (w := w) (Nat.le_refl _) W D _ _ (by omega) hK rfl rfl)⟩
    have e1 := lastR_some l key k hk hin
    have e2 : (lastP l key).isSome = true := by rw [← e1]; simpa using hin
    rw [e1] at hc5
    simp [results, Tryd.f15, go_sem, hc5, hc6, lastV, e2]
theorem last_any (sv : Value) (l : List R2) (key : List UInt8) (w : World) (hl : l.length ≤ 1000000) (hr : RdV w (· < w.heap.size) 2 sv l.length (rcells l)) :
    Calls Tryd.prog 15 #[sv, .string ⟨key.toArray⟩] w fun e w' => e = .returned (lastV (lastP l key)) ∧ Below w.heap.size w w' :=
  callsIn_wide.1 (last_in Fence.wide 8 trivial trivial trivial rfl (by decide) sv l key w hl hr)
end Go.Proofs.YtlhjehcfpnjbmaaDoor
