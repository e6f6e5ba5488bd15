/- PARTS OF ONE PROOF, set in one file: TreeKnown, Nest, Ok, NodeOpen, TreeLaid, OpenS. Each part tells its own conditions. -/
import Derived.Deep.Slices
import Derived.Deep.SlicePairs
import Derived.Lib.LaidU8
import Derived.LaidHandle
import Derived.LaidSub
import Derived.PinnedBridge
import Derived.Deep.DeepWitnessRowRef
import Derived.SliceStrings
import Derived.Test.YtphgmkhbhboklaaGreatDoorP1
import Derived.Test.YtphgmkhbhboklaaGreatDoorP2
import Derived.Test.YtphgmkhbhboklaaGreatDoorP3
import Derived.Test.YtphgmkhbhboklaaGreatDoorP4
import Derived.Test.YtphgmkhbhboklaaGreatDoorP6
import Derived.Test.YtphgmkhbhboklaaGreatDoorP7
import Derived.Test.YtphgmkhbhboklaaGreatDoorP8
import Derived.Test.YtphgmkhbhboklaaGreatDoorP12
/- TreeKnown: the chapter's rows; errors; none. -/
namespace Go.Proofs.YtphgmkhbhboklaaGreatDoor
open Go.RowKit Go.Shelf
attribute [local go_sem] Oper.semAt_some
/-- block D waits for what is put off -/
def defA (D : Nat) : As := ⟨fun b => b = D, fun w => w.heap[D]? = some (.deferred (some [])), fun w w' h hp => by rw [h D rfl]; exact hp⟩
abbrev cDir : Array Value := #[.int .i64 1, .int .u32 0, .int .u32 0, .int .u32 0, .int .i64 0, .slice none 0 0, .slice none 0 0, .string ⟨#[]⟩]
abbrev dvG (g : Nat) : Value := .slice (some ⟨g, 0, none⟩) 1 1
abbrev cFile (g : Nat) : Array Value := #[.int .i64 2, .int .u32 0, .int .u32 0, .int .u32 0, .int .i64 0, .slice none 0 0, .slice (some ⟨g, 0, none⟩) 1 1, .string ⟨#[]⟩]
def txA (g : Nat) : As := ⟨fun b => b = g, fun w => Reads w (fun b => b = g) (dvG g) [120], fun w w' h hp => hp.loc (fun b hb => h b hb)⟩
/-- what the examples' nodes may be -/
def NdK (g : Nat) (x : Mv) : Prop := x.1.1.length ≤ 400000 ∧ x.2.1 = nilV ∧ (x.1.2 = fileX ∧ x.2.2 = dvG g ∨ (x.1.2 = dirN ∨ x.1.2 = dir7) ∧ x.2.2 = nilV)
theorem NdK.nd {g : Nat} {x : Mv} (h : NdK g x) {w : World} (hg : Reads w (fun b => b = g) (dvG g) [120]) {N : Nat → Prop} (hN : N g) : NdR w N x.1.2 x.2.1 x.2.2 := by
  obtain ⟨-, h1, ⟨h2, h3⟩ | ⟨h2, h3⟩⟩ := h
  · rw [h1, h2, h3]
    exact ⟨RdV.ofNil, hg.mono (fun b hb => by have hb : b = g := hb; rw [hb]; exact hN)⟩
  · rw [h1, h3]
    rcases h2 with h2 | h2 <;> (rw [h2]; exact ndR_nil rfl rfl)
theorem NdK.sm {g : Nat} {x : Mv} (h : NdK g x) : Sm x.1 := by
  obtain ⟨h0, -, h⟩ := h
  have hn : x.1.2 = fileX ∨ x.1.2 = dirN ∨ x.1.2 = dir7 := by
    rcases h with ⟨h, -⟩ | ⟨h | h, -⟩
    · exact .inl h
    · exact .inr (.inl h)
    · exact .inr (.inr h)
  rcases hn with hn | hn | hn
  · exact ⟨h0, by rw [hn]; simp [fileX], by rw [hn]; simp [fileX], by rw [hn]; simp [fileX], by rw [hn]; simp [fileX], by rw [hn]; simp [fileX]⟩
  · exact ⟨h0, by rw [hn]; simp [dirN], by rw [hn]; simp [dirN], by rw [hn]; simp [dirN], by rw [hn]; simp [dirN], by rw [hn]; simp [dirN]⟩
  · exact ⟨h0, by rw [hn]; simp [dir7], by rw [hn]; simp [dir7], by rw [hn]; simp [dir7], by rw [hn]; simp [dir7], by rw [hn]; simp [dir7]⟩
/-- many, each with no slices -/
def manyV (n : Nat) : List Mv := (manyM n).map fun m => (m, nilV, nilV)
def pathsOf (l : List Mb) : Tx := l.flatMap fun m => m.1 ++ [32]
/-- tree.New of Members that are laid at once -/
theorem new_lit (B g n : Nat) (l : List Mv) (w : World) (hT : Tabs B w) (hg : Reads w (fun b => b = g) (dvG g) [120]) (hgl : g < w.heap.size) (hl : ∀ x ∈ l, NdK g x) (hn : l.length = n) (hn1 : n ≤ 1000000) :
    Calls Tryz.prog 19 #[.slice (some ⟨w.heap.size, 0, none⟩) n n] (w.alloc (.cells (mcells l).toArray 32)) fun e w' => (∃ pv, e = .returned (.tuple #[pv, .int .i64 (newT (l.map (·.1))).1]) ∧ NewIs w w' pv (newT (l.map (·.1))).2) ∧ Below w.heap.size w w' := by
  subst hn
  have hb : Below w.heap.size w (w.alloc (.cells (mcells l).toArray 32)) := (Below.refl _ _).alloc (Nat.le_refl _) _
  refine (new_tree _ l B _ (hT.on (hb.mono hT.b)) ⟨RdV.new 32 (mcells l) 9 l.length _ rfl (mcells_length l) (by unfold maxLen; omega) (by simp), fun x hx => (hl x hx).nd (hg.below hb (fun b hb => by have hb : b = g := hb; omega)) (by simp; omega)⟩ (fun x hx => (hl x hx).sm) hn1).mono ?_
  rintro e w' ⟨⟨pv, he, hi⟩, hb'⟩
  refine ⟨⟨pv, he, ?_⟩, hb.trans (hb'.mono hb.size)⟩
  cases ho : (newT (l.map (·.1))).2 with
  | none => rw [ho] at hi; exact hi
  | some t =>
    rw [ho] at hi
    obtain ⟨T, mb, Bk, f, h1, h2, h3, h4, h5⟩ := hi
    have hs := hb.size
    exact ⟨T, mb, Bk, f, h1, h2, by omega, by omega, fun b hb => ⟨by have := (h5 b hb).1; omega, (h5 b hb).2⟩⟩
/-- one assertion more, on blocks that stood there unclaimed -/
theorem Hp.pushOld {M : Nat → Prop} {w wr : World} {ls : List As} (h : Hp M w wr ls) (A : As) (hP : A.P wr) (hb : ∀ b, A.blk b → w.heap.size ≤ b ∧ b < wr.heap.size ∧ ∀ B ∈ ls, ¬ B.blk b) : Hp M w wr (ls ++ [A]) := by
  refine ⟨h.c, fun B hB => ?_, fun i j A1 A2 h1 h2 b e1 e2 => ?_⟩
  · rcases List.mem_append.1 hB with hB | hB
    · exact h.p B hB
    · obtain rfl := List.mem_singleton.1 hB
      exact ⟨hP, fun b e => ⟨.inl (hb b e).1, (hb b e).2.1⟩⟩
  · have key : ∀ (i : Nat) (A1 : As), (ls ++ [A])[i]? = some A1 → ls[i]? = some A1 ∨ (i = ls.length ∧ A1 = A) := by
      intro i A1 hi
      rcases Nat.lt_or_ge i ls.length with hl | hl
      · rw [List.getElem?_append_left hl] at hi
        exact .inl hi
      · rw [List.getElem?_append_right hl] at hi
        have h1 := (List.getElem?_eq_some_iff.1 hi).1
        have h0 : i - ls.length = 0 := by simpa using h1
        rw [h0] at hi
        injection hi with hi
        exact .inr ⟨by omega, hi.symm⟩
    rcases key i A1 h1 with g1 | ⟨rfl, rfl⟩ <;> rcases key j A2 h2 with k1 | ⟨rfl, rfl⟩
    · exact h.d i j A1 A2 g1 k1 b e1 e2
    · exact ((hb b e2).2.2 A1 (List.mem_of_getElem? g1) e1).elim
    · exact ((hb b e1).2.2 A2 (List.mem_of_getElem? k1) e2).elim
    · rfl
theorem set_same {ls : List As} {i : Nat} (A : As) (h : i < ls.length) : (ls.set i A)[i]? = some A := by simp [h]
/-- a call that turns a tree of the list -/
theorem Hp.tree {w wr wx : World} {ls : List As} {T mb : Nat} {Bk Bk' : Nat → Prop} {f f' : Tx → Value × Value} {L L' : List Mb} (h : Hp NoM w wr ls) (i : Nat) (hi : ls[i]? = some (trA T mb Bk f L)) (ht : TreeIn wx T mb Bk' f' L') (hB : ∀ b, Bk' b → Bk b ∨ Fresh wr.heap.size wx b) (hc : Chg (fun j => j = mb) wr.heap.size wr wx) : Hp NoM w wx (ls.set i (trA T mb Bk' f' L')) :=
  h.upd i hi _ (hc.mono (Nat.le_refl _) (fun k hk => .inr (.inl hk))) ht (fun b hb => by
    rcases hb with rfl | rfl | h
    · exact .inl (.inl rfl)
    · exact .inl (.inr (.inl rfl))
    · rcases hB b h with h | h
      · exact .inl (.inr (.inr h))
      · exact .inr h)
theorem put_five (B g T mb : Nat) (Bk : Nat → Prop) (f : Tx → Value × Value) (L : List Mb) (m : Mb) (dv : Value) {w : World} (wr : World) {ls : List As} (hT : Tabs B wr) (h : Hp NoM w wr ls) (j : Nat) (hj : ls[j]? = some (txA g)) (i : Nat) (hi : ls[i]? = some (trA T mb Bk f L)) (hL : L.length ≤ 100000) (hk : NdK g (m, nilV, dv)) (hij : j ≠ i := by decide) :
    Calls Tryz.prog 9 #[.pointer (some ⟨T, 0, none⟩), .agg (mbC m nilV dv)] wr fun e w' => e = .returned (.int .i64 (putT L m).1) ∧ ∃ Bk' f', Hp NoM w w' (ls.set i (trA T mb Bk' f' (putT L m).2)) := by
  have hg := h.p _ (List.mem_of_getElem? hj)
  have ht : TreeIn wr T mb Bk f L := h.get i hi
  have hgm : g ≠ mb := fun e => hij (h.d j i _ _ hj hi g rfl (.inr (.inl e)))
  refine (put_tree T mb Bk f L B wr ht (fun b hb => ((h.p _ (List.mem_of_getElem? hi)).2 b (.inr (.inr hb))).2) (by omega) hT m nilV dv hk.sm (hk.nd hg.1 ⟨(hg.2 g rfl).2, hgm⟩)).mono ?_
  rintro e w' ⟨rfl, ⟨Bk', f', ht', hB⟩, hc⟩
  exact ⟨rfl, Bk', f', h.tree i hi ht' hB hc⟩
theorem rem_five (T mb : Nat) (Bk : Nat → Prop) (f : Tx → Value × Value) (L : List Mb) (p : Tx) {w : World} (wr : World) {ls : List As} (h : Hp NoM w wr ls) (i : Nat) (hi : ls[i]? = some (trA T mb Bk f L)) (hp : p.length ≤ 1000000) :
    Calls Tryz.prog 13 #[.pointer (some ⟨T, 0, none⟩), .string ⟨p.toArray⟩] wr fun e w' => e = .returned (.int .i64 (removeT L p).1) ∧ Hp NoM w w' (ls.set i (trA T mb Bk f (removeT L p).2)) := by
  refine (remove_tree T mb Bk f L wr (h.get i hi) (fun b hb => ((h.p _ (List.mem_of_getElem? hi)).2 b (.inr (.inr hb))).2) p hp).mono ?_
  rintro e w' ⟨rfl, ht, hc⟩
  exact ⟨rfl, h.tree i hi ht (fun b hb => .inl hb) hc⟩
set_option maxHeartbeats 8000000 in
set_option maxRecDepth 100000 in
theorem known_law (B : Nat) (w : World) (hT : Tabs B w) : Calls Tryz.prog 5 #[] w fun e w' => e = .returned (.bool true) ∧ Below w.heap.size w w' := by
  have HT := Keep.keep hT
  clear hT
  have hbt : ∀ w, (Instr.build 65 #[]).run Tryz.prog w = .ok (.agg #[.map none]) w := fun w => by kernel_rfl
  have hbm0 : ∀ w, (Instr.build 32 #[]).run Tryz.prog w = .ok (.agg #[.string ⟨#[]⟩, .int .i64 0, .int .u32 0, .int .u32 0, .int .u32 0, .int .i64 0, .slice none 0 0, .slice none 0 0, .string ⟨#[]⟩]) w := fun w => by kernel_rfl
  refine callsIn_wide.1 (callsIn_of_wp_marks (n := 12) Tryz.func5 rfl trivial ?_ rfl)
  simp only [Tryz.ntmps5, List.size_toArray, List.length_nil, Nat.reduceSub, Array.replicate_succ, Array.replicate_zero, List.push_toArray, List.append_toArray, List.nil_append, List.cons_append]
  refine wpIn_wide.2 ?_
  go_upto_region 3 with fail
  refine wp_world (R := fun w1 => Hp NoM w w1 [rowA w.heap.size 4 #[.bool false], rowA (w.heap.size + 1) 65 #[.map none]]) ?_ ?_
  · exact ((Hp.begin NoM w).newRow _ _).newRow' _ _ _ _ (by simp) rfl
  intro w1 H1
  obtain ⟨b0, hb0⟩ : ∃ b0, w.heap.size = b0 := ⟨_, rfl⟩
  have HB0 := Keep.keep hb0
  rw [hb0] at H1 ⊢
  clear hb0
  have HGN := Keep.keep (get_none (.pointer none) [] w1 (none_nil w1))
  go_upto_region 3 with fail
  go_wp2_with fail
  refine HGN.out.mono ?_
  rintro e w2 ⟨rfl, hb2⟩
  have H2 := Keep.keep (H1.out.call hb2)
  clear hb2 HGN H1
  unfold ndC nilV strV nd0
  dsimp only
  go_upto_region 4 with fail
  refine wp_world (R := fun w3 => Hp NoM w w3 [rowA b0 4 #[.bool false], rowA (b0 + 1) 65 #[.map none]]) (H2.out.alloc _) ?_
  intro w3 H3
  generalize w2.heap.size = bq at *
  clear H2
  go_wp2_with fail
  refine (list_none (.pointer none) [] w3 (none_nil w3)).mono ?_
  rintro e w4 ⟨rfl, hb4⟩
  have H4 := Keep.keep (H3.out.call hb4)
  clear hb4 H3
  go_wp2_with fail
  refine (put_none (.pointer none) ([], nd0) none 0 0 none 0 0 w4 (none_nil w4)).mono ?_
  rintro e w5 ⟨rfl, hb5⟩
  have H5 := Keep.keep (H4.out.call hb5)
  clear hb5 H4
  go_wp2_with fail
  refine (put_none _ ([], nd0) none 0 0 none 0 0 w5 (none_zero (b0 + 1) w5 (H5.out.row 1 rfl))).mono ?_
  rintro e w6 ⟨rfl, hb6⟩
  have H6 := Keep.keep (H5.out.call hb6)
  clear hb6 H5
  go_wp2_with fail
  refine (remove_none _ [97] w6 (none_nil w6)).mono ?_
  rintro e w7 ⟨rfl, hb7⟩
  have H7 := Keep.keep (H6.out.call hb7)
  clear hb7 H6
  go_wp2_with fail
  refine (len_none _ w7 (none_nil w7)).mono ?_
  rintro e w8 ⟨rfl, hb8⟩
  have H8 := Keep.keep (H7.out.call hb8)
  clear hb8 H7
  go_wp2_with fail
  refine (all_none w8).mono ?_
  rintro e w9 ⟨rfl, hb9⟩
  have H9 := Keep.keep (H8.out.call hb9)
  clear hb9 H8
  go_wp2_with fail
  refine (copy_none _ w9 (none_nil w9)).mono ?_
  rintro e w10 ⟨rfl, hb10⟩
  have H10 := Keep.keep (H9.out.call hb10)
  clear hb10 H9
  go_wp2_with fail
  refine (same_none _ _ w10 (none_nil w10) (none_zero (b0 + 1) w10 (H10.out.row 1 rfl))).mono ?_
  rintro e w11 ⟨rfl, hb11⟩
  have H11 := Keep.keep (H10.out.call hb11)
  clear hb11 H10
  go_wp2_with fail
  refine (each_any none w11).mono ?_
  rintro e w12 ⟨rfl, hw12⟩
  have H12 := Keep.keep (H11.out.newRow 24 #[.pointer none])
  rw [← hw12] at H12
  obtain ⟨nE, hnE⟩ : ∃ nE, w11.heap.size = nE := ⟨_, rfl⟩
  have hnb : b0 + 2 ≤ nE := by
    have h1 := (H11.out.row 1 rfl).lt
    omega
  rw [hnE] at H12 ⊢
  clear hnE hw12 H11 hbt hbm0
  have hfn : ∀ (w : World), (binOp .eql 68 (.func (.func 56) #[] #[.pointer (some ⟨nE, 0, none⟩)]) .nilFunc).run Tryz.prog w = .ok (.bool false) w := fun w => by kernel_rfl
  go_wp2_with fail
  clear hfn
  have hs12 := (H12.out.row 2 rfl).lt
  have hbz := H12.out.size
  refine rangeFunc_row (n := 12) (v := 0) (cs := fun x : NoMb => mbC x.1 nilV nilV) (by decide) rfl (enters_of Tryz.func56 (by kernel_rfl) rfl) 32
    (each_stops_none (fun _ => False) 11 (by decide) nE (nE + 1) noF w12 ((H12.out.row 2 rfl).cell (i := 0) rfl) (by omega) (by omega))
    KE.trans (KE.b (by omega))
    (fun _ W => Hp NoM w W [rowA b0 4 #[.bool false]]) (fun _ _ _ => False) ?hI (fun _ => ownFrom_pure _ (fun _ => False)) ?h0 ?assign ?body ?done ?stop
  case hI =>
    intro s X Y row h hg hr
    refine h.grownBy hg (fun r e => ⟨by have := (hr r e).1; omega, fun A hA hb => ?_⟩)
    obtain rfl : A = _ := by simpa using hA
    have hb : r = b0 := hb
    have := (hr r e).1
    omega
  case h0 => exact (H12.out.init).init
  case assign =>
    rintro lo pre ⟨x, hx⟩ W K hI hK
    exact (List.not_mem_nil hx).elim
  case body =>
    rintro lo pre ⟨x, hx0⟩ W Bx hl0 hr1 hI hx hx3 hlt
    exact (List.not_mem_nil hx0).elim
  case stop =>
    rintro D c pre W hD hpre hF hK
    exact hF.elim
  case done =>
    rintro D ys W hD hys hHp hK
    have hbD : b0 < D := by have := (hHp.row 0 rfl).lt; omega
    have HD0 : Keep (Hp NoM w W [rowA b0 4 #[.bool false], defA D]) := ⟨hHp.pushOld (defA D) hK (fun b hb => by
      have hb : b = D := hb
      rw [hb]
      exact ⟨by omega, (Array.getElem?_eq_some_iff.1 hK).1, fun A hA => by
        obtain rfl : A = _ := by simpa using hA
        intro h
        have h : D = b0 := h
        omega⟩)⟩
    clear hHp hK hys
    have hbn1 : ∀ w, (Instr.build 30 #[(0, .int .i64 1)]).run Tryz.prog w = .ok (.agg cDir) w := fun w => by kernel_rfl
    have hbn2 : ∀ (g : Nat) w, (Instr.build 30 #[(0, .int .i64 2), (6, .slice (some ⟨g, 0, none⟩) 1 1)]).run Tryz.prog w = .ok (.agg (cFile g)) w := fun g w => by kernel_rfl
    have kc := convB
    go_upto_region 13 with fail
    refine wp_world (R := fun W1 => Hp NoM w W1 [rowA b0 4 #[.bool false], defA D, txA W.heap.size, rowA (W.heap.size + 1) 30 cDir, rowA (W.heap.size + 1 + 1) 30 (cFile W.heap.size)]) ?_ ?_
    · refine ((HD0.out.push (txA W.heap.size) (w' := W.alloc (.cells #[.int .u8 120] 5 (1, 2))) (.of_below ((Below.refl _ _).alloc (Nat.le_refl _) _)) ?_ ?_).newRow' 30 cDir _ _ (by simp) rfl).newRow' 30 (cFile W.heap.size) _ _ (by simp) rfl
      · have hr : RowF (W.alloc (.cells #[.int .u8 120] 5 (1, 2))) W.heap.size 5 (bcells [120] ++ []).toArray := ⟨(1, 2), heap_alloc_newF W _, by simp [bcells]⟩
        exact hr.reads (N := fun b => b = W.heap.size) rfl 1 (by simp) (by unfold maxLen; omega)
      · intro b hb
        have hb : b = W.heap.size := hb
        subst hb
        simp
    intro W1 HW1
    obtain ⟨g, hg⟩ : ∃ g, W.heap.size = g := ⟨_, rfl⟩
    rw [hg] at HW1 ⊢
    clear hg HD0 kc hbn1 hbn2
    have HSD : Keep ((#[.int .i64 1, .int .u32 0, .int .u32 0, .int .u32 0, .int .i64 0, .slice none 0 0, .slice none 0 0, .string ⟨#[]⟩] : Array Value).size = 8) := ⟨rfl⟩
    have HSF : Keep ((#[.int .i64 2, .int .u32 0, .int .u32 0, .int .u32 0, .int .i64 0, .slice none 0 0, .slice (some ⟨g, 0, none⟩) 1 1, .string ⟨#[]⟩] : Array Value).size = 8) := ⟨rfl⟩
    have HMD : Keep (∀ (p : Tx) w, (Instr.build 32 #[(0, .string ⟨p.toArray⟩), (1, .agg #[.int .i64 1, .int .u32 0, .int .u32 0, .int .u32 0, .int .i64 0, .slice none 0 0, .slice none 0 0, .string ⟨#[]⟩])]).run Tryz.prog w = .ok (.agg #[.string ⟨p.toArray⟩, .int .i64 1, .int .u32 0, .int .u32 0, .int .u32 0, .int .i64 0, .slice none 0 0, .slice none 0 0, .string ⟨#[]⟩]) w) := ⟨fun p w => by kernel_rfl⟩
    have HMF : Keep (∀ (p : Tx) w, (Instr.build 32 #[(0, .string ⟨p.toArray⟩), (1, .agg #[.int .i64 2, .int .u32 0, .int .u32 0, .int .u32 0, .int .i64 0, .slice none 0 0, .slice (some ⟨g, 0, none⟩) 1 1, .string ⟨#[]⟩])]).run Tryz.prog w = .ok (.agg #[.string ⟨p.toArray⟩, .int .i64 2, .int .u32 0, .int .u32 0, .int .u32 0, .int .i64 0, .slice none 0 0, .slice (some ⟨g, 0, none⟩) 1 1, .string ⟨#[]⟩]) w) := ⟨fun p w => by kernel_rfl⟩
    have HRD : Keep (Row W1 (g + 1) 30 #[.int .i64 1, .int .u32 0, .int .u32 0, .int .u32 0, .int .i64 0, .slice none 0 0, .slice none 0 0, .string ⟨#[]⟩]) := ⟨HW1.out.row 3 rfl⟩
    have HRF : Keep (Row W1 (g + 1 + 1) 30 #[.int .i64 2, .int .u32 0, .int .u32 0, .int .u32 0, .int .i64 0, .slice none 0 0, .slice (some ⟨g, 0, none⟩) 1 1, .string ⟨#[]⟩]) := ⟨HW1.out.row 4 rfl⟩
    have hm0 := HMF.out [98]
    have hm1 := HMF.out [97, 47, 120, 47, 121]
    have hm2 := HMD.out [97, 45, 98]
    have hm3 := HMD.out [97, 47, 120]
    have hm4 := HMD.out [97]
    go_wp2_with (first | ((with_reducible refine arm_loadRow HRF.out aggN HSF.out ?_ ?_); (focus rfl); simp only [Act.put, List.setIfInBounds_toArray, List.set_cons_succ, List.set_cons_zero]) | ((with_reducible refine arm_loadRow HRD.out aggN HSD.out ?_ ?_); (focus rfl); simp only [Act.put, List.setIfInBounds_toArray, List.set_cons_succ, List.set_cons_zero]))
    refine (new_lit B g 5 [(([98], fileX), nilV, dvG g), (([97, 47, 120, 47, 121], fileX), nilV, dvG g), (([97, 45, 98], dirN), nilV, nilV), (([97, 47, 120], dirN), nilV, nilV), (([97], dirN), nilV, nilV)] W1 (HT.out.on (HW1.out.below.mono HT.out.b)) (HW1.out.get 2 rfl) ((HW1.out.p _ (List.mem_of_getElem? (i := 2) rfl)).2 g rfl).2 (by
      intro x hx
      simp only [List.mem_cons, List.not_mem_nil, or_false] at hx
      rcases hx with rfl | rfl | rfl | rfl | rfl
      all_goals exact ⟨by simp, rfl, by first | exact .inl ⟨rfl, rfl⟩ | exact .inr ⟨.inl rfl, rfl⟩⟩) rfl (by omega)).mono ?_
    rintro e W2 ⟨⟨pv, rfl, hnew⟩, hb⟩
    have hkt := kt1
    unfold five at hkt
    simp only [List.map_cons, List.map_nil, hkt] at hnew ⊢
    have HQ := Keep.keep (HW1.out.call hb)
    obtain ⟨T, mb, Bk, f, rfl, hti, hTw, hmw, hBk⟩ := hnew
    have HW2 := Keep.keep ((HW1.out).push (trA T mb Bk f L5) (.of_below hb) hti (fun b hb' => by
      rcases hb' with rfl | rfl | h
      · exact ⟨hTw, hti.row.lt⟩
      · exact ⟨hmw, hti.map.lt⟩
      · exact hBk b h))
    clear hti hTw hmw hBk
    clear hb HQ HRD HRF hkt hm0 hm1 hm2 hm3 hm4
    clear HW1
    have HRD : Keep (Row W2 (g + 1) 30 #[.int .i64 1, .int .u32 0, .int .u32 0, .int .u32 0, .int .i64 0, .slice none 0 0, .slice none 0 0, .string ⟨#[]⟩]) := ⟨HW2.out.row 3 rfl⟩
    have HRF : Keep (Row W2 (g + 1 + 1) 30 #[.int .i64 2, .int .u32 0, .int .u32 0, .int .u32 0, .int .i64 0, .slice none 0 0, .slice (some ⟨g, 0, none⟩) 1 1, .string ⟨#[]⟩]) := ⟨HW2.out.row 4 rfl⟩
    have hm0 := HMD.out [97]
    have hm1 := HMD.out [97]
    go_wp2_with (first | ((with_reducible refine arm_loadRow HRF.out aggN HSF.out ?_ ?_); (focus rfl); simp only [Act.put, List.setIfInBounds_toArray, List.set_cons_succ, List.set_cons_zero]) | ((with_reducible refine arm_loadRow HRD.out aggN HSD.out ?_ ?_); (focus rfl); simp only [Act.put, List.setIfInBounds_toArray, List.set_cons_succ, List.set_cons_zero]))
    refine (new_lit B g 2 [(([97], dirN), nilV, nilV), (([97], dirN), nilV, nilV)] W2 (HT.out.on (HW2.out.below.mono HT.out.b)) (HW2.out.get 2 rfl) ((HW2.out.p _ (List.mem_of_getElem? (i := 2) rfl)).2 g rfl).2 (by
      intro x hx
      simp only [List.mem_cons, List.not_mem_nil, or_false] at hx
      rcases hx with rfl | rfl
      all_goals exact ⟨by simp, rfl, by first | exact .inl ⟨rfl, rfl⟩ | exact .inr ⟨.inl rfl, rfl⟩⟩) rfl (by omega)).mono ?_
    rintro e W3 ⟨⟨pv, rfl, hnew⟩, hb⟩
    have hkt := kt2
    simp only [List.map_cons, List.map_nil, hkt] at hnew ⊢
    have HQ := Keep.keep (HW2.out.call hb)
    have hnew : pv = .pointer none := hnew
    subst hnew
    have HW3 := Keep.keep HQ.out
    clear hb HQ HRD HRF hkt hm0 hm1
    clear HW2
    have HRD : Keep (Row W3 (g + 1) 30 #[.int .i64 1, .int .u32 0, .int .u32 0, .int .u32 0, .int .i64 0, .slice none 0 0, .slice none 0 0, .string ⟨#[]⟩]) := ⟨HW3.out.row 3 rfl⟩
    have HRF : Keep (Row W3 (g + 1 + 1) 30 #[.int .i64 2, .int .u32 0, .int .u32 0, .int .u32 0, .int .i64 0, .slice none 0 0, .slice (some ⟨g, 0, none⟩) 1 1, .string ⟨#[]⟩]) := ⟨HW3.out.row 4 rfl⟩
    have hm0 := HMF.out [97]
    have hm1 := HMF.out [97, 47, 98]
    go_wp2_with (first | ((with_reducible refine arm_loadRow HRF.out aggN HSF.out ?_ ?_); (focus rfl); simp only [Act.put, List.setIfInBounds_toArray, List.set_cons_succ, List.set_cons_zero]) | ((with_reducible refine arm_loadRow HRD.out aggN HSD.out ?_ ?_); (focus rfl); simp only [Act.put, List.setIfInBounds_toArray, List.set_cons_succ, List.set_cons_zero]))
    refine (new_lit B g 2 [(([97], fileX), nilV, dvG g), (([97, 47, 98], fileX), nilV, dvG g)] W3 (HT.out.on (HW3.out.below.mono HT.out.b)) (HW3.out.get 2 rfl) ((HW3.out.p _ (List.mem_of_getElem? (i := 2) rfl)).2 g rfl).2 (by
      intro x hx
      simp only [List.mem_cons, List.not_mem_nil, or_false] at hx
      rcases hx with rfl | rfl
      all_goals exact ⟨by simp, rfl, by first | exact .inl ⟨rfl, rfl⟩ | exact .inr ⟨.inl rfl, rfl⟩⟩) rfl (by omega)).mono ?_
    rintro e W4 ⟨⟨pv, rfl, hnew⟩, hb⟩
    have hkt := kt3
    simp only [List.map_cons, List.map_nil, hkt] at hnew ⊢
    have HQ := Keep.keep (HW3.out.call hb)
    have hnew : pv = .pointer none := hnew
    subst hnew
    have HW4 := Keep.keep HQ.out
    clear hb HQ HRD HRF hkt hm0 hm1
    clear HW3
    have HRD : Keep (Row W4 (g + 1) 30 #[.int .i64 1, .int .u32 0, .int .u32 0, .int .u32 0, .int .i64 0, .slice none 0 0, .slice none 0 0, .string ⟨#[]⟩]) := ⟨HW4.out.row 3 rfl⟩
    have HRF : Keep (Row W4 (g + 1 + 1) 30 #[.int .i64 2, .int .u32 0, .int .u32 0, .int .u32 0, .int .i64 0, .slice none 0 0, .slice (some ⟨g, 0, none⟩) 1 1, .string ⟨#[]⟩]) := ⟨HW4.out.row 4 rfl⟩
    have hm0 := HMD.out []
    go_wp2_with (first | ((with_reducible refine arm_loadRow HRF.out aggN HSF.out ?_ ?_); (focus rfl); simp only [Act.put, List.setIfInBounds_toArray, List.set_cons_succ, List.set_cons_zero]) | ((with_reducible refine arm_loadRow HRD.out aggN HSD.out ?_ ?_); (focus rfl); simp only [Act.put, List.setIfInBounds_toArray, List.set_cons_succ, List.set_cons_zero]))
    refine (new_lit B g 1 [(([], dirN), nilV, nilV)] W4 (HT.out.on (HW4.out.below.mono HT.out.b)) (HW4.out.get 2 rfl) ((HW4.out.p _ (List.mem_of_getElem? (i := 2) rfl)).2 g rfl).2 (by
      intro x hx
      simp only [List.mem_cons, List.not_mem_nil, or_false] at hx
      rcases hx with rfl
      all_goals exact ⟨by simp, rfl, by first | exact .inl ⟨rfl, rfl⟩ | exact .inr ⟨.inl rfl, rfl⟩⟩) rfl (by omega)).mono ?_
    rintro e W5 ⟨⟨pv, rfl, hnew⟩, hb⟩
    have hkt := kt4
    simp only [List.map_cons, List.map_nil, hkt] at hnew ⊢
    have HQ := Keep.keep (HW4.out.call hb)
    have hnew : pv = .pointer none := hnew
    subst hnew
    have HW5 := Keep.keep HQ.out
    clear hb HQ HRD HRF hkt hm0
    clear HW4
    have HRD : Keep (Row W5 (g + 1) 30 #[.int .i64 1, .int .u32 0, .int .u32 0, .int .u32 0, .int .i64 0, .slice none 0 0, .slice none 0 0, .string ⟨#[]⟩]) := ⟨HW5.out.row 3 rfl⟩
    have HRF : Keep (Row W5 (g + 1 + 1) 30 #[.int .i64 2, .int .u32 0, .int .u32 0, .int .u32 0, .int .i64 0, .slice none 0 0, .slice (some ⟨g, 0, none⟩) 1 1, .string ⟨#[]⟩]) := ⟨HW5.out.row 4 rfl⟩
    have hm0 := HMF.out [97, 47, 46, 119, 104, 46, 98]
    have hm1 := HMD.out [97]
    go_wp2_with (first | ((with_reducible refine arm_loadRow HRF.out aggN HSF.out ?_ ?_); (focus rfl); simp only [Act.put, List.setIfInBounds_toArray, List.set_cons_succ, List.set_cons_zero]) | ((with_reducible refine arm_loadRow HRD.out aggN HSD.out ?_ ?_); (focus rfl); simp only [Act.put, List.setIfInBounds_toArray, List.set_cons_succ, List.set_cons_zero]))
    refine (new_lit B g 2 [(([97, 47, 46, 119, 104, 46, 98], fileX), nilV, dvG g), (([97], dirN), nilV, nilV)] W5 (HT.out.on (HW5.out.below.mono HT.out.b)) (HW5.out.get 2 rfl) ((HW5.out.p _ (List.mem_of_getElem? (i := 2) rfl)).2 g rfl).2 (by
      intro x hx
      simp only [List.mem_cons, List.not_mem_nil, or_false] at hx
      rcases hx with rfl | rfl
      all_goals exact ⟨by simp, rfl, by first | exact .inl ⟨rfl, rfl⟩ | exact .inr ⟨.inl rfl, rfl⟩⟩) rfl (by omega)).mono ?_
    rintro e W6 ⟨⟨pv, rfl, hnew⟩, hb⟩
    have hkt := kt5
    simp only [List.map_cons, List.map_nil, hkt] at hnew ⊢
    have HQ := Keep.keep (HW5.out.call hb)
    have hnew : pv = .pointer none := hnew
    subst hnew
    have HW6 := Keep.keep HQ.out
    clear hb HQ HRD HRF hkt hm0 hm1
    clear HW5
    go_wp2_with fail
    refine (list_tree T mb Bk f L5 W6 (HW6.out.get 5 rfl) (fun b hb => ((HW6.out.p _ (List.mem_of_getElem? (i := 5) rfl)).2 b (.inr (.inr hb))).2) [] (by simp) (by decide)).mono ?_
    rintro e W7 ⟨⟨v7, rfl, ho⟩, hb⟩
    simp only [kt6] at ho ⊢
    obtain ⟨a7, c7, rfl, -⟩ := (ownsV_reads ho).shape
    have HW7 := Keep.keep (HW6.out.push (slA W6.heap.size 9 1 (.slice a7 3 c7) 3 [encStr [97], encStr [97, 45, 98], encStr [98]]) (.of_below hb) ho (fun b hb' => ownsV_lt ho b hb'))
    simp only [List.length_cons, List.length_nil, Nat.reduceAdd]
    clear ho hb
    clear HW6
    go_wp2_with fail
    refine (list_tree T mb Bk f L5 W7 (HW7.out.get 5 rfl) (fun b hb => ((HW7.out.p _ (List.mem_of_getElem? (i := 5) rfl)).2 b (.inr (.inr hb))).2) [97, 47, 120] (by simp) (by decide)).mono ?_
    rintro e W8 ⟨⟨v8, rfl, ho⟩, hb⟩
    simp only [kt7] at ho ⊢
    obtain ⟨a8, c8, rfl, -⟩ := (ownsV_reads ho).shape
    have HW8 := Keep.keep (HW7.out.push (slA W7.heap.size 9 1 (.slice a8 1 c8) 1 [encStr [121]]) (.of_below hb) ho (fun b hb' => ownsV_lt ho b hb'))
    simp only [List.length_cons, List.length_nil, Nat.reduceAdd]
    clear ho hb
    clear HW7
    go_wp2_with fail
    refine (list_tree T mb Bk f L5 W8 (HW8.out.get 5 rfl) (fun b hb => ((HW8.out.p _ (List.mem_of_getElem? (i := 5) rfl)).2 b (.inr (.inr hb))).2) [98] (by simp) (by decide)).mono ?_
    rintro e W9 ⟨⟨v9, rfl, ho⟩, hb⟩
    simp only [kt8] at ho ⊢
    obtain ⟨a9, c9, rfl, -⟩ := (ownsV_reads ho).shape
    have HW9 := Keep.keep (HW8.out.call hb)
    simp only [List.length_nil]
    clear ho hb
    clear HW8
    go_wp2_with fail
    refine (list_tree T mb Bk f L5 W9 (HW9.out.get 5 rfl) (fun b hb => ((HW9.out.p _ (List.mem_of_getElem? (i := 5) rfl)).2 b (.inr (.inr hb))).2) [97, 47, 121] (by simp) (by decide)).mono ?_
    rintro e W10 ⟨⟨v10, rfl, ho⟩, hb⟩
    simp only [kt9] at ho ⊢
    obtain ⟨a10, c10, rfl, -⟩ := (ownsV_reads ho).shape
    have HW10 := Keep.keep (HW9.out.call hb)
    simp only [List.length_nil]
    clear ho hb
    clear HW9
    go_wp2_with fail
    refine (all_tree T mb Bk f L5 W10 (by decide) (HW10.out.get 5 rfl) ⟨((HW10.out.p _ (List.mem_of_getElem? (i := 5) rfl)).2 T (.inl rfl)).2, ((HW10.out.p _ (List.mem_of_getElem? (i := 5) rfl)).2 mb (.inr (.inl rfl))).2, (fun b hb => ((HW10.out.p _ (List.mem_of_getElem? (i := 5) rfl)).2 b (.inr (.inr hb))).2)⟩).mono ?_
    rintro e W11 ⟨v11, l11, rfl, hl11, hm11, hb⟩
    have hlen11 : l11.length = 5 := by rw [← List.length_map (f := (·.1)), hl11]; rfl
    obtain ⟨a11, c11, rfl, -⟩ := hm11.rd.shape
    have HM11 := Keep.keep hm11; have HL11 := Keep.keep hl11; have HLN := Keep.keep hlen11
    have HW11 := Keep.keep (HW10.out.call hb)
    rw [hlen11] at HM11 ⊢
    clear hl11 hm11 hb hlen11
    clear HW10
    obtain ⟨s7, hs7⟩ : ∃ s, W6.heap.size = s := ⟨_, rfl⟩
    obtain ⟨s8, hs8⟩ : ∃ s, W7.heap.size = s := ⟨_, rfl⟩
    rw [hs7, hs8] at HW11
    clear hs7 hs8
    go_wp2_with fail
    go_loopg [28, 30, 186] 5 (fun n u28 _ u186 wx => ∃ k : Nat, k + n = 5 ∧ u28 = .string ⟨(pathsOf (L5.take k)).toArray⟩ ∧ u186 = .int .i64 (k : Int) ∧ Hp NoM w wx [rowA b0 4 #[.bool false], defA D, txA g, rowA (g + 1) 30 cDir, rowA (g + 1 + 1) 30 (cFile g), trA T mb Bk f L5, slA s7 9 1 (.slice a7 3 c7) 3 [encStr [97], encStr [97, 45, 98], encStr [98]], slA s8 9 1 (.slice a8 1 c8) 1 [encStr [121]]] ∧ Below W11.heap.size W11 wx)
    case atStart => exact ⟨0, by omega, rfl, rfl, HW11.out, Below.refl _ _⟩
    case round =>
      obtain ⟨k, hkg, rfl, rfl, hH, hbl⟩ := hrel
      have HR := Keep.keep hH; have HBL := Keep.keep hbl
      clear hH hbl
      cases gk with
      | succ n =>
        have hk : k < 5 := by omega
        have hk1 : k < l11.length := by rw [HLN.out]; exact hk
        have hd : decide ((k : Int) < 5) = true := decide_eq_true (by omega)
        obtain ⟨b, off, rfl⟩ : ∃ b off, a11 = some ⟨b, off, none⟩ := by
          obtain ⟨b, off, cap, h, -⟩ := HM11.out.rd.has (by omega)
          injection h with h
          exact ⟨b, off, h⟩
        have hmr := HM11.out.below HBL.out (fun b hb => hb.2) (fun b hb => hb.2)
        have hld := hmr.load hk1
        have hsh := (hmr.nd _ (List.getElem_mem hk1)).shape
        have HPS : Keep (pathsOf (L5.take (k + 1)) = pathsOf (L5.take k) ++ (l11[k].1.1 ++ [32])) := ⟨by
          have h5 : k < L5.length := hk
          have : l11[k].1 = L5[k] := by simp only [← HL11.out, List.getElem_map]
          rw [this]
          unfold pathsOf
          rw [List.take_succ_eq_append_getElem h5, List.flatMap_append, List.flatMap_cons, List.flatMap_nil, List.append_nil]⟩
        have hxl : l11[k].1.1.length ≤ 5 := by
          have : l11[k].1 = L5[k]'hk := by simp only [← HL11.out, List.getElem_map]
          rw [this]
          exact (show ∀ j, (hj : j < 5) → (L5[j]'hj).1.length ≤ 5 by decide) k hk
        have hal : (pathsOf (L5.take k)).length ≤ 30 := by
          exact (show ∀ j, j < 5 → (pathsOf (L5.take j)).length ≤ 30 by decide) k hk
        clear hmr
        generalize l11[k] = x at *
        obtain ⟨⟨xp, ⟨kind, mode, uid, gid, time, attrs, data, link⟩⟩, av, dv⟩ := x
        obtain ⟨aa, la, ca, ad, ld, cd, e1, e2⟩ := hsh
        dsimp only at e1 e2 HPS hxl
        subst e1 e2
        unfold mcell mbC strV at hld
        dsimp only at hld
        have hc1 := run_cat (P := Tryz.prog) xp [32] (by simp; omega)
        have hc2 := run_cat (P := Tryz.prog) (pathsOf (L5.take k)) (xp ++ [32]) (by simp; omega)
        rw [← HPS.out] at hc2
        generalize pathsOf (L5.take k) = acc at *
        obtain ⟨acc2, hacc2⟩ : ∃ a, pathsOf (L5.take (k + 1)) = a := ⟨_, rfl⟩
        have HA2 := Keep.keep hacc2
        rw [hacc2] at hc2
        clear hacc2
        generalize hxs : xp ++ [32] = xs at *
        clear hxs HPS hal hxl
        go_wp2_with ((with_reducible refine arm_loadM hld ?_ ?_); (focus rfl); simp only [Act.put, List.setIfInBounds_toArray, List.set_cons_succ, List.set_cons_zero])
        go_roundg n
        case measure => omega
        case rel => exact ⟨k + 1, by omega, by rw [HA2.out], by simp, HR.out.alloc _, HBL.out.alloc HBL.out.size _⟩
      | zero =>
        obtain rfl : k = 5 := by omega
        have HPF : Keep (pathsOf (L5.take 5) = [97, 32, 97, 45, 98, 32, 97, 47, 120, 32, 97, 47, 120, 47, 121, 32, 98, 32]) := ⟨by decide⟩
        rw [HPF.out]
        clear HM11 HL11 HLN HBL HW11 HPF
        generalize wr = W12 at *
        have HRF : Keep (Row W12 (g + 1 + 1) 30 #[.int .i64 2, .int .u32 0, .int .u32 0, .int .u32 0, .int .i64 0, .slice none 0 0, .slice (some ⟨g, 0, none⟩) 1 1, .string ⟨#[]⟩]) := ⟨HR.out.row 4 rfl⟩
        have hm0 := HMF.out [98, 47, 99]
        have HPT := Keep.keep (put_five B g T mb Bk f L5 ([98, 47, 99], fileX) (dvG g) W12 (HT.out.on (HR.out.below.mono HT.out.b)) HR.out 2 rfl 5 rfl (by decide) ⟨by simp, rfl, .inl ⟨rfl, rfl⟩⟩)
        go_wp2_with (((with_reducible refine arm_loadRow HRF.out aggN HSF.out ?_ ?_); (focus rfl); simp only [Act.put, List.setIfInBounds_toArray, List.set_cons_succ, List.set_cons_zero]))
        refine HPT.out.mono ?_
        rintro e W13 ⟨rfl, Bk, f, hq⟩
        have hkt := kt10
        simp only [hkt] at hq ⊢
        have HW13 := Keep.keep hq
        clear hq hkt hm0 HPT HRF
        clear HR
        have HRF : Keep (Row W13 (g + 1 + 1) 30 #[.int .i64 2, .int .u32 0, .int .u32 0, .int .u32 0, .int .i64 0, .slice none 0 0, .slice (some ⟨g, 0, none⟩) 1 1, .string ⟨#[]⟩]) := ⟨HW13.out.row 4 rfl⟩
        have hm0 := HMF.out [113, 47, 99]
        have HPT := Keep.keep (put_five B g T mb Bk f L5 ([113, 47, 99], fileX) (dvG g) W13 (HT.out.on (HW13.out.below.mono HT.out.b)) HW13.out 2 rfl 5 rfl (by decide) ⟨by simp, rfl, .inl ⟨rfl, rfl⟩⟩)
        go_wp2_with (((with_reducible refine arm_loadRow HRF.out aggN HSF.out ?_ ?_); (focus rfl); simp only [Act.put, List.setIfInBounds_toArray, List.set_cons_succ, List.set_cons_zero]))
        refine HPT.out.mono ?_
        rintro e W14 ⟨rfl, Bk, f, hq⟩
        have hkt := kt11
        simp only [hkt] at hq ⊢
        have HW14 := Keep.keep hq
        clear hq hkt hm0 HPT HRF
        clear HW13
        have HRF : Keep (Row W14 (g + 1 + 1) 30 #[.int .i64 2, .int .u32 0, .int .u32 0, .int .u32 0, .int .i64 0, .slice none 0 0, .slice (some ⟨g, 0, none⟩) 1 1, .string ⟨#[]⟩]) := ⟨HW14.out.row 4 rfl⟩
        have hm0 := HMF.out [46, 46, 47, 99]
        have HPT := Keep.keep (put_five B g T mb Bk f L5 ([46, 46, 47, 99], fileX) (dvG g) W14 (HT.out.on (HW14.out.below.mono HT.out.b)) HW14.out 2 rfl 5 rfl (by decide) ⟨by simp, rfl, .inl ⟨rfl, rfl⟩⟩)
        go_wp2_with (((with_reducible refine arm_loadRow HRF.out aggN HSF.out ?_ ?_); (focus rfl); simp only [Act.put, List.setIfInBounds_toArray, List.set_cons_succ, List.set_cons_zero]))
        refine HPT.out.mono ?_
        rintro e W15 ⟨rfl, Bk, f, hq⟩
        have hkt := kt12
        simp only [hkt] at hq ⊢
        have HW15 := Keep.keep hq
        clear hq hkt hm0 HPT HRF
        clear HW14
        have hbn7 : ∀ w, (Instr.build 30 #[(0, .int .i64 1), (1, .int .u32 7)]).run Tryz.prog w = .ok (.agg #[.int .i64 1, .int .u32 7, .int .u32 0, .int .u32 0, .int .i64 0, .slice none 0 0, .slice none 0 0, .string ⟨#[]⟩]) w := fun w => by kernel_rfl
        have hm0 : ∀ w, (Instr.build 32 #[(0, .string ⟨#[97]⟩), (1, .agg #[.int .i64 1, .int .u32 7, .int .u32 0, .int .u32 0, .int .i64 0, .slice none 0 0, .slice none 0 0, .string ⟨#[]⟩])]).run Tryz.prog w = .ok (.agg #[.string ⟨#[97]⟩, .int .i64 1, .int .u32 7, .int .u32 0, .int .u32 0, .int .i64 0, .slice none 0 0, .slice none 0 0, .string ⟨#[]⟩]) w := fun w => by kernel_rfl
        have HPT := Keep.keep (put_five B g T mb Bk f L5 ([97], dir7) nilV W15 (HT.out.on (HW15.out.below.mono HT.out.b)) HW15.out 2 rfl 5 rfl (by decide) ⟨by simp, rfl, .inr ⟨.inr rfl, rfl⟩⟩)
        go_wp2_with fail
        refine HPT.out.mono ?_
        rintro e W16 ⟨rfl, Bk, f, hq⟩
        have hkt := kt13
        simp only [hkt] at hq ⊢
        have HW16 := Keep.keep hq
        clear hq hkt hm0 HPT hbn7
        clear HW15
        go_wp2_with fail
        refine (under_tree T mb Bk f L6 [97] W16 (by decide) (by simp) (HW16.out.get 5 rfl) ⟨((HW16.out.p _ (List.mem_of_getElem? (i := 5) rfl)).2 T (.inl rfl)).2, ((HW16.out.p _ (List.mem_of_getElem? (i := 5) rfl)).2 mb (.inr (.inl rfl))).2, (fun b hb => ((HW16.out.p _ (List.mem_of_getElem? (i := 5) rfl)).2 b (.inr (.inr hb))).2)⟩).mono ?_
        rintro e W17 ⟨v35, l35, rfl, hl35, hm35, hb⟩
        have hlen35 : l35.length = 3 := by rw [← List.length_map (f := (·.1)), hl35]; exact kt14
        obtain ⟨a35, c35, rfl, -⟩ := hm35.rd.shape
        rw [hlen35]
        have HW17 := Keep.keep (HW16.out.call hb)
        clear hl35 hm35 hb hlen35
        clear HW16
        have HPT := Keep.keep (rem_five T mb Bk f L6 [] W17 HW17.out 5 rfl (by simp))
        go_wp2_with fail
        refine HPT.out.mono ?_
        rintro e W18 ⟨rfl, hq⟩
        have hkt := kt15
        simp only [hkt] at hq ⊢
        have HW18 := Keep.keep hq
        clear hq hkt HPT
        clear HW17
        have HPT := Keep.keep (rem_five T mb Bk f L6 [97] W18 HW18.out 5 rfl (by simp))
        go_wp2_with fail
        refine HPT.out.mono ?_
        rintro e W19 ⟨rfl, hq⟩
        have hkt := kt16
        simp only [hkt] at hq ⊢
        have HW19 := Keep.keep hq
        clear hq hkt HPT
        clear HW18
        have HB19 : Keep (Hp NoM w W19 [rowA b0 4 #[.bool false], defA D, txA g, rowA (g + 1) 30 cDir, rowA (g + 1 + 1) 30 (cFile g), trA T mb Bk f L2', slA s7 9 1 (.slice a7 3 c7) 3 [encStr [97], encStr [97, 45, 98], encStr [98]], slA s8 9 1 (.slice a8 1 c8) 1 [encStr [121]]]) := ⟨HW19.out⟩
        clear HW19
        go_wp2_with fail
        go_loopg [38, 39, 218] 4097 (fun n u38 _ u218 wx => ∃ k : Nat, k + n = 4097 ∧ u218 = .int .i64 (k : Int) ∧ Hp NoM w wx [rowA b0 4 #[.bool false], defA D, txA g, rowA (g + 1) 30 cDir, rowA (g + 1 + 1) 30 (cFile g), trA T mb Bk f L2', slA s7 9 1 (.slice a7 3 c7) 3 [encStr [97], encStr [97, 45, 98], encStr [98]], slA s8 9 1 (.slice a8 1 c8) 1 [encStr [121]], slA w.heap.size 32 9 u38 k (mcells (manyV k))])
        case atStart => exact ⟨0, by omega, rfl, HB19.out.nilS _ _ _⟩
        case round =>
          obtain ⟨k, hkg, rfl, hH⟩ := hrel
          have HK := Keep.keep hH
          obtain ⟨a38, c38, rfl, -⟩ := (ownsV_reads (hH.sl 8 rfl)).shape
          clear hH HB19
          cases gk with
          | succ n =>
            have hk : k < 4097 := by omega
            have hd : decide ((k : Int) < 4097) = true := decide_eq_true (by omega)
            obtain ⟨q1, hq1⟩ : ∃ q, k / 26 = q := ⟨_, rfl⟩
            obtain ⟨q2, hq2⟩ : ∃ q, q1 / 26 = q := ⟨_, rfl⟩
            obtain ⟨r1, hr1⟩ : ∃ q, q1 % 26 = q := ⟨_, rfl⟩
            obtain ⟨r0, hr0⟩ : ∃ q, k % 26 = q := ⟨_, rfl⟩
            obtain ⟨x2, hx2⟩ : ∃ x : UInt8, UInt8.ofNat (97 + q2) = x := ⟨_, rfl⟩
            obtain ⟨x1, hx1⟩ : ∃ x : UInt8, UInt8.ofNat (97 + r1) = x := ⟨_, rfl⟩
            obtain ⟨x0, hx0⟩ : ∃ x : UInt8, UInt8.ofNat (97 + r0) = x := ⟨_, rfl⟩
            have HNM : Keep (nmK k = [x2, x1, x0]) := ⟨by unfold nmK; rw [hq1, hq2, hr1, hr0, hx2, hx1, hx0]⟩
            have hb2 : q2 ≤ 6 := by omega
            have hb1 : r1 < 26 := by omega
            have hbb0 : r0 < 26 := by omega
            have e1 : (k : Int) / 26 = (q1 : Int) := by omega
            have e2 : (q1 : Int) / 26 = (q2 : Int) := by omega
            have e3 : (q1 : Int) % 26 = (r1 : Int) := by omega
            have e4 : (k : Int) % 26 = (r0 : Int) := by omega
            have e1t : Int.tdiv (k : Int) 26 = (q1 : Int) := by rw [Int.tdiv_eq_ediv_of_nonneg (by omega)]; exact e1
            have e2t : Int.tdiv (q1 : Int) 26 = (q2 : Int) := by rw [Int.tdiv_eq_ediv_of_nonneg (by omega)]; exact e2
            have e3t : Int.tmod (q1 : Int) 26 = (r1 : Int) := by rw [Int.tmod_eq_emod_of_nonneg (by omega)]; exact e3
            have e4t : Int.tmod (k : Int) 26 = (r0 : Int) := by rw [Int.tmod_eq_emod_of_nonneg (by omega)]; exact e4
            have e5 : 97 + (q2 : Int) = (x2.toNat : Int) := by rw [← hx2, UInt8.toNat_ofNat']; omega
            have e6 : 97 + (r1 : Int) = (x1.toNat : Int) := by rw [← hx1, UInt8.toNat_ofNat']; omega
            have e7 : 97 + (r0 : Int) = (x0.toNat : Int) := by rw [← hx0, UInt8.toNat_ofNat']; omega
            have f5 : IntKind.u8.wrap (x2.toNat : Int) = (x2.toNat : Int) := IntWalk.u8_in _ (by have := x2.toNat_lt; omega)
            have f6 : IntKind.u8.wrap (x1.toNat : Int) = (x1.toNat : Int) := IntWalk.u8_in _ (by have := x1.toNat_lt; omega)
            have f7 : IntKind.u8.wrap (x0.toNat : Int) = (x0.toNat : Int) := IntWalk.u8_in _ (by have := x0.toNat_lt; omega)
            clear hq1 hq2 hr1 hr0 hx2 hx1 hx0
            have hal : Below wr.heap.size wr (wr.alloc (.cells #[.int .u8 (x2.toNat : Int), .int .u8 (x1.toNat : Int), .int .u8 (x0.toNat : Int)] 5)) := (Below.refl _ _).alloc (Nat.le_refl _) _
            have hcv := run_string_of (w := wr.alloc (.cells #[.int .u8 (x2.toNat : Int), .int .u8 (x1.toNat : Int), .int .u8 (x0.toNat : Int)] 5)) (N := fun _ => True) (v := .slice (some ⟨wr.heap.size, 0, none⟩) 3 3) (l := [x2, x1, x0]) (RdV.toBytes (RdV.new 5 (bcells [x2, x1, x0]) 1 3 _ rfl rfl (by unfold maxLen; omega) trivial))
            have HRD := fun o => (Keep.keep ((HK.out.row 3 rfl).old o) : Keep (Row (wr.alloc o) (g + 1) 30 #[.int .i64 1, .int .u32 0, .int .u32 0, .int .u32 0, .int .i64 0, .slice none 0 0, .slice none 0 0, .string ⟨#[]⟩]))
            have hmm := HMD.out [x2, x1, x0]
            have HKA := Keep.keep (HK.out.alloc (.cells #[.int .u8 (x2.toNat : Int), .int .u8 (x1.toNat : Int), .int .u8 (x0.toNat : Int)] 5))
            have HMS : Keep (mcells (manyV (k + 1)) = mcells (manyV k) ++ [.string ⟨#[x2, x1, x0]⟩, .int .i64 1, .int .u32 0, .int .u32 0, .int .u32 0, .int .i64 0, .slice none 0 0, .slice none 0 0, .string ⟨#[]⟩]) := ⟨by
              unfold manyV
              rw [many_succ, List.map_append, mcells_append]
              unfold mkM
              rw [HNM.out]; rfl⟩
            clear hal HNM
            go_wp2_with (first
              | ((with_reducible refine arm_loadRow (HRD _).out aggN HSD.out ?_ ?_); (focus rfl); simp only [Act.put, List.setIfInBounds_toArray, List.set_cons_succ, List.set_cons_zero])
              | (with_reducible refine arm_stop ?_))
            refine Stopped.out ?_
            refine arm_appendV slMbF ((HKA.out.alloc _).sl 8 rfl) (RdV.new (N := fun _ => True) 32 [.string ⟨#[x2, x1, x0]⟩, .int .i64 1, .int .u32 0, .int .u32 0, .int .u32 0, .int .i64 0, .slice none 0 0, .slice none 0 0, .string ⟨#[]⟩] 9 1 (wr.heap.size + 1) (by simp) rfl (by unfold maxLen; omega) trivial) (by simp [Value.oneCell']) (by unfold maxLen; omega) (by omega) (HKA.out.alloc _).size rfl rfl ?_
            intro v3 w3 ho hgr hov _
            rw [← HMS.out] at ho
            have HG := Keep.keep ((HKA.out.alloc _).grow 8 rfl hgr ho hov)
            obtain ⟨a4, c4, rfl, -⟩ := (ownsV_reads ho).shape
            clear ho hgr hov HKA HMS hmm HRD hcv e1 e2 e3 e4 e1t e2t e3t e4t e5 e6 e7 f5 f6 f7
            simp only [Act.put, List.setIfInBounds_toArray, List.set_cons_succ, List.set_cons_zero]
            go_wp2_with fail
            go_roundg n
            case measure => omega
            case rel => exact ⟨k + 1, by omega, by simp, HG.out⟩
          | zero =>
            obtain rfl : k = 4097 := by omega
            obtain ⟨M, hM⟩ : ∃ M, manyV 4097 = M := ⟨_, rfl⟩
            have hMm : M.map (·.1) = manyM 4097 := by
              rw [← hM]; unfold manyV; rw [List.map_map]
              exact List.map_id _
            have hMl : M.length = 4097 := by rw [← List.length_map (f := (·.1)), hMm, many_len]
            have HMK : Keep (∀ x ∈ M, NdK g x) := ⟨fun x hx => by
              rw [← hM] at hx
              obtain ⟨y, hy, rfl⟩ := List.mem_map.1 hx
              obtain ⟨j, -, rfl⟩ := many_key hy
              exact ⟨by simp [mkM, nmK], rfl, .inr ⟨.inl rfl, rfl⟩⟩⟩
            have HME : Keep (∀ j (hj : j < M.length), M[j] = (mkM j, nilV, nilV)) := ⟨fun j hj => by
              have h1 : M[j]? = ((List.range 4097)[j]?.map mkM).map fun m => (m, nilV, nilV) := by
                rw [← hM]; unfold manyV manyM; rw [List.getElem?_map, List.getElem?_map]
              rw [List.getElem?_eq_getElem hj, List.getElem?_range (by omega)] at h1
              injection h1⟩
            rw [hM] at HK
            have HN1 : Keep (newT (M.map (·.1)) = (42, none)) := ⟨by rw [hMm]; exact kt17⟩
            have HN2 : Keep (newT ((M.take 4096).map (·.1)) = (0, some (manyM 4096))) := ⟨by
              rw [List.map_take, hMm]
              have : (manyM 4097).take 4096 = manyM 4096 := by
                rw [many_succ, List.take_append_of_le_length (by rw [many_len]; exact Nat.le_refl _), List.take_of_length_le (by rw [many_len]; exact Nat.le_refl _)]
              rw [this]; exact kt18⟩
            obtain ⟨F, hF⟩ : ∃ F, manyM 4096 = F := ⟨_, rfl⟩
            have HFL : Keep (F.length = 4096) := ⟨by rw [← hF, many_len]⟩
            have HK19 : Keep (putT F (nmK 4096, dirN) = (42, F)) := ⟨by rw [← hF]; exact kt19⟩
            have HK20 : Keep ((putT F (nmK 7, dirN)).1 = 0) := ⟨by rw [← hF]; exact kt20⟩
            rw [hF] at HN2
            clear hF hM hMm
            have HML := Keep.keep hMl
            clear hMl
            obtain ⟨p4, hp4⟩ : ∃ p, nmK 4096 = p := ⟨_, rfl⟩
            obtain ⟨p7, hp7⟩ : ∃ p, nmK 7 = p := ⟨_, rfl⟩
            have HP4 : Keep (p4.length ≤ 3) := ⟨by rw [← hp4]; simp [nmK]⟩
            have HP7 : Keep (p7.length ≤ 3) := ⟨by rw [← hp7]; simp [nmK]⟩
            have HM4 : Keep (∀ (hj : 4096 < M.length), M[4096] = ((p4, dirN), nilV, nilV)) := ⟨fun hj => by rw [HME.out 4096 hj, ← hp4]; rfl⟩
            have HM7 : Keep (∀ (hj : 7 < M.length), M[7] = ((p7, dirN), nilV, nilV)) := ⟨fun hj => by rw [HME.out 7 hj, ← hp7]; rfl⟩
            rw [hp4] at HK19; rw [hp7] at HK20
            clear hp4 hp7 HME
            obtain ⟨b, rfl⟩ : ∃ b, a38 = some ⟨b, 0, none⟩ := by
              rcases (HK.out.sl 8 rfl).2 with ⟨_, h⟩ | ⟨g', cap', cur, h, _⟩
              · omega
              · injection h with h _ _
                exact ⟨g', h⟩
            have hc38 : 4097 ≤ c38 := by
              obtain ⟨a, c, h, h1, -⟩ := (ownsV_reads (HK.out.sl 8 rfl)).shape
              injection h with _ _ h
              omega
            -- the many, wherever the row stays
            have HMB : Keep (∀ wx, Hp NoM w wx [rowA b0 4 #[.bool false], defA D, txA g, rowA (g + 1) 30 cDir, rowA (g + 1 + 1) 30 (cFile g), trA T mb Bk f L2', slA s7 9 1 (.slice a7 3 c7) 3 [encStr [97], encStr [97, 45, 98], encStr [98]], slA s8 9 1 (.slice a8 1 c8) 1 [encStr [121]], slA w.heap.size 32 9 (.slice (some ⟨b, 0, none⟩) 4097 c38) 4097 (mcells M)] → Mbs wx (· < wx.heap.size) (· < wx.heap.size) (.slice (some ⟨b, 0, none⟩) 4097 c38) M) := ⟨fun wx h => by
              refine ⟨?_, fun x hx => (HMK.out x hx).nd (h.get 2 rfl) (((h.p _ (List.mem_of_getElem? (i := 2) rfl)).2 g rfl).2)⟩
              have := (ownsV_reads (h.sl 8 rfl)).mono (N' := (· < wx.heap.size)) (fun b hb => hb.2.1)
              rw [HML.out]; exact this⟩
            have HSM : Keep (∀ x ∈ M, Sm x.1) := ⟨fun x hx => (HMK.out x hx).sm⟩
            have HNW := Keep.keep (new_tree (.slice (some ⟨b, 0, none⟩) 4097 c38) M B wr (HT.out.on (HK.out.below.mono HT.out.b)) (HMB.out wr HK.out) HSM.out (by rw [HML.out]; omega))
            rw [HN1.out] at HNW
            clear HN1
            go_wp2_with fail
            refine HNW.out.mono ?_
            rintro e W20 ⟨⟨pv, rfl, hnew⟩, hb⟩
            have hnew : pv = .pointer none := hnew
            subst hnew
            have HW20 := Keep.keep (HK.out.call hb)
            clear hb HK HNW
            have hsl := fun wx => slice_mto (some ⟨b, 0, none⟩) 4097 c38 4096 .i64 (by omega) wx
            have HNW := Keep.keep (new_tree (.slice (some ⟨b, 0, none⟩) 4096 c38) (M.take 4096) B W20 (HT.out.on (HW20.out.below.mono HT.out.b)) ((HMB.out W20 HW20.out).take 4096 (by rw [HML.out]; omega)) (fun x hx => HSM.out x (List.mem_of_mem_take hx)) (by rw [List.length_take, HML.out]; omega))
            rw [HN2.out] at HNW
            clear HN2
            go_wp2_with fail
            refine HNW.out.mono ?_
            rintro e W21 ⟨⟨pv, rfl, T2, m2, Bk2, f2, rfl, hti, hTw, hmw, hBk⟩, hb⟩
            have HW21 := Keep.keep (HW20.out.push (trA T2 m2 Bk2 f2 F) (.of_below hb) hti (fun b' hb' => by
              rcases hb' with rfl | rfl | h
              · exact ⟨hTw, hti.row.lt⟩
              · exact ⟨hmw, hti.map.lt⟩
              · exact hBk b' h))
            have HM21 := Keep.keep ((HMB.out W20 HW20.out).below hb (fun b hb => hb) (fun b hb => hb))
            clear hti hTw hmw hBk hb HNW HW20 hsl
            have hld4 := HM21.out.load (k := 4096) (by rw [HML.out]; omega)
            rw [HM4.out, show 0 + 4096 * 9 = 36864 from rfl] at hld4
            unfold mcell mbC strV at hld4
            dsimp only [dirN, nilV] at hld4
            have HPT := Keep.keep (put_five B g T2 m2 Bk2 f2 F (p4, dirN) nilV W21 (HT.out.on (HW21.out.below.mono HT.out.b)) HW21.out 2 rfl 9 rfl (by rw [HFL.out]; omega) ⟨(show p4.length ≤ 400000 by have := HP4.out; omega), rfl, .inr ⟨.inl rfl, rfl⟩⟩)
            rw [HK19.out] at HPT
            go_wp2_with ((with_reducible refine arm_loadM hld4 ?_ ?_); (focus rfl); simp only [Act.put, List.setIfInBounds_toArray, List.set_cons_succ, List.set_cons_zero])
            refine HPT.out.mono ?_
            rintro e W22 ⟨rfl, Bk2, f2, hq⟩
            have HW22 := Keep.keep hq
            have hld7 := (HMB.out W22 ⟨HW22.out.c, fun A hA => HW22.out.p A (List.mem_append_left [trA T2 m2 Bk2 f2 F] hA), fun i j A C hi hj b h1 h2 => HW22.out.d i j A C (List.getElem?_append_left (l₂ := [trA T2 m2 Bk2 f2 F]) (List.getElem?_eq_some_iff.1 hi).1 ▸ hi) (List.getElem?_append_left (l₂ := [trA T2 m2 Bk2 f2 F]) (List.getElem?_eq_some_iff.1 hj).1 ▸ hj) b h1 h2⟩).load (k := 7) (by rw [HML.out]; omega)
            rw [HM7.out, show 0 + 7 * 9 = 63 from rfl] at hld7
            unfold mcell mbC strV at hld7
            dsimp only [dirN, nilV] at hld7
            clear hq HPT hld4 HW21 HM21 HK19
            have HPT := Keep.keep (put_five B g T2 m2 Bk2 f2 F (p7, dirN) nilV W22 (HT.out.on (HW22.out.below.mono HT.out.b)) HW22.out 2 rfl 9 rfl (by rw [HFL.out]; omega) ⟨(show p7.length ≤ 400000 by have := HP7.out; omega), rfl, .inr ⟨.inl rfl, rfl⟩⟩)
            rw [HK20.out] at HPT
            go_wp2_with ((with_reducible refine arm_loadM hld7 ?_ ?_); (focus rfl); simp only [Act.put, List.setIfInBounds_toArray, List.set_cons_succ, List.set_cons_zero])
            refine HPT.out.mono ?_
            rintro e W23 ⟨rfl, Bk3, f3, hq⟩
            have HW23 := Keep.keep hq
            clear hq HPT hld7 HW22 HK20 HM4 HM7 HMB HSM HMK HML
            have HS1 : Keep (RdV W23 (· < W23.heap.size) 1 (.slice a7 3 c7) 3 [encStr [97], encStr [97, 45, 98], encStr [98]]) := ⟨(ownsV_reads (HW23.out.sl 6 rfl)).mono (fun b hb => hb.2.1)⟩
            have hb23 : Below W23.heap.size W23 (W23.alloc (.cells #[.string ⟨#[97]⟩, .string ⟨#[97, 45, 98]⟩, .string ⟨#[98]⟩] 9)) := (Below.refl _ _).alloc (Nat.le_refl _) _
            have HTX := Keep.keep (texts_any (.slice a7 3 c7) (.slice (some ⟨W23.heap.size, 0, none⟩) 3 3) [[97], [97, 45, 98], [98]] [[97], [97, 45, 98], [98]] (W23.alloc (.cells #[.string ⟨#[97]⟩, .string ⟨#[97, 45, 98]⟩, .string ⟨#[98]⟩] 9)) ((HS1.out.below hb23 (fun b hb => hb)).mono (fun b hb => Nat.lt_of_lt_of_le hb hb23.size)) (RdV.new 9 [encStr [97], encStr [97, 45, 98], encStr [98]] 1 3 _ rfl rfl (by unfold maxLen; omega) (by simp)))
            rw [decide_eq_true rfl] at HTX
            clear HS1
            go_wp2_with fail
            refine HTX.out.mono ?_
            rintro e W24 ⟨rfl, hb⟩
            have HW24 := Keep.keep ((HW23.out.call hb23).call hb)
            clear hb hb23 HTX HW23
            have HS1 : Keep (RdV W24 (· < W24.heap.size) 1 (.slice a8 1 c8) 1 [encStr [121]]) := ⟨(ownsV_reads (HW24.out.sl 7 rfl)).mono (fun b hb => hb.2.1)⟩
            have hb24 : Below W24.heap.size W24 (W24.alloc (.cells #[.string ⟨#[121]⟩] 9)) := (Below.refl _ _).alloc (Nat.le_refl _) _
            have HTX := Keep.keep (texts_any (.slice a8 1 c8) (.slice (some ⟨W24.heap.size, 0, none⟩) 1 1) [[121]] [[121]] (W24.alloc (.cells #[.string ⟨#[121]⟩] 9)) ((HS1.out.below hb24 (fun b hb => hb)).mono (fun b hb => Nat.lt_of_lt_of_le hb hb24.size)) (RdV.new 9 [encStr [121]] 1 1 _ rfl rfl (by unfold maxLen; omega) (by simp)))
            rw [decide_eq_true rfl] at HTX
            clear HS1
            go_wp2_with fail
            refine HTX.out.mono ?_
            rintro e W25 ⟨rfl, hb⟩
            have HW25 := Keep.keep ((HW24.out.call hb24).call hb)
            clear hb hb24 HTX HW24
            have HLN2 := len_tree T mb Bk f L2' W25 (HW25.out.get 5 rfl)
            rw [show (L2'.length : Int) = 2 from rfl] at HLN2
            have HLN := Keep.keep HLN2
            clear HLN2
            go_wp2_with fail
            refine HLN.out.mono ?_
            rintro e w' ⟨rfl, rfl⟩
            go_wp2_with fail
            refine (tells_any B W25 (HT.out.on (HW25.out.below.mono HT.out.b))).mono ?_
            rintro e W26 ⟨rfl, hb⟩
            have HW26 := Keep.keep (HW25.out.call hb)
            clear hb HLN HW25
            have hr0 := HW26.out.row 0 rfl
            have c0 := hr0.cell (i := 0) rfl
            have f0 := hr0.frozen 0
            have hK9 : W26.heap[D]? = some (.deferred (some [])) := HW26.out.get 1 rfl
            have HB9 := Keep.keep HW26.out.below
            have HR0 := Keep.keep hr0
            clear hr0 HW26
            have HKD := Keep.keep hK9
            clear hK9
            go_wp2_with fail
            have hK' := (KeepsOthers.setCell W26 ⟨b0, 0, none⟩ (.bool true)).same D _ HKD.out rfl
            refine ⟨by simp, .inl ⟨_, _, rfl, run_takeDeferred hK', ?_⟩⟩
            have hr5 : Row (W26.setCell ⟨b0, 0, none⟩ (.bool true)) b0 4 #[.bool true] := HR0.out.set 0 (.bool true)
            have hc5 := cell_kept (hr5.cell (i := 0) rfl) (grownBy_putObj' _ D (.deferred none)) (fun r e => by cases e; exact ⟨_, hK', rfl⟩)
            have hb0e := HB0.out
            refine ⟨.bool true, ?_, rfl, ((Chg.of_below (M := NoM) HB9.out).setCell (p := ⟨b0, 0, none⟩) (.inl (by show w.heap.size ≤ b0; omega)) _).below (fun _ _ h => h) |>.trans (belowK_b (w := w) (Nat.le_refl _) _ D _ _ (by omega) hK' rfl rfl)⟩
            simp [results, Tryz.f5, go_sem, hc5]
end Go.Proofs.YtphgmkhbhboklaaGreatDoor
/- ARGUMENTS WITH SLICES WITHIN SLICES, OPENED: what lies deeper has no word of its own on its blocks; its cells tell them. -/
namespace Go.Proofs.YtphgmkhbhboklaaGreatDoor
open Go.ChangeShapes Go.WideShapes Go.ChangeAt Go.RowKit
theorem cell_spot {w : World} {a : Addr} {v : Value} (h : w.cell? a = some v) : a.spot = none ∧ a.block < w.heap.size := by
  unfold World.cell? at h
  split at h
  · rename_i c e fr hb
    split at h
    · cases h
    · rename_i hs
      exact ⟨by simpa using hs, (Array.getElem?_eq_some_iff.1 hb).1⟩
  · cases h
/-- a []byte that lies anywhere within an argument -/
theorem reads_of_trod {P : Program} {H : Type} {enc : TypeId × Value → H} {t e : TypeId} {held : Bool} {fuel : Nat} (ht : P.underlying t = some (.slice e)) (he : P.underlying e = some (.int .u8)) (hc : P.cellsOf e = 1) {W : World} {v : Value} {x : DataW H × List MemPlace}
    (hf : DataW.trod enc P W 0 (fun _ => true) held fuel t [v] = some x) : ∃ l, Reads W (fun b => b < W.heap.size) v l := by
  rcases open_ints ht he hc hf with ⟨hcs, hx⟩ | ⟨⟨b, off, sp⟩, len, cap, zs, hcs, _, hl, hm, hz, hx, hcell, hwz⟩
  · injection hcs with hcs _
    subst hcs
    exact ⟨[], Reads.ofNil⟩
  · injection hcs with hcs _
    subst hcs
    simp only [if_true] at hz
    have hsp : cap = 0 ∨ (sp = none ∧ b < W.heap.size) := by
      rcases Nat.eq_zero_or_pos cap with h | h
      · exact .inl h
      · have := cell_spot (hcell 0 (by omega))
        exact .inr this
    refine ⟨(zs.take len).map fun x => UInt8.ofNat x.toNat, ⟨some ⟨b, off, sp⟩, cap, ?_, ?_, hm, ?_⟩, fun b' off' n' c' he' j hj => ?_⟩
    · congr 1; simp; omega
    · simp; omega
    · rcases hsp with h | ⟨rfl, h⟩
      · exact .inl h
      · exact .inr ⟨b, off, rfl, h⟩
    · injection he' with e1 _ _; injection e1 with e1; injection e1 with e1 e2 e3; subst e1 e2 e3
      have hj' : j < len := by simp at hj; omega
      have hjz : j < zs.length := by omega
      have hc := hcell j hjz
      rw [Addr.add_mid] at hc
      rw [hc]
      have hw := hwz _ (List.getElem_mem hjz)
      have hm1 : IntKind.u8.min = 0 := rfl
      have hm2 : IntKind.u8.max = 255 := rfl
      simp only [Lit.wf, Bool.and_eq_true, decide_eq_true_eq, hm1, hm2] at hw
      simp only [List.getElem_map, List.getElem_take, List.getD_eq_getElem?_getD, List.getElem?_eq_getElem hjz, Option.getD_some, UInt8.toNat_ofNat']
      congr 2
      omega
end Go.Proofs.YtphgmkhbhboklaaGreatDoor
/- ARGUMENTS THAT ARE WHOLE NUMBERS, OPENED. -/
namespace Go.Proofs.YtphgmkhbhboklaaGreatDoor
open Go.ChangeShapes Go.WideShapes Go.ChangeAt Go.RowKit
/-- an argument that is an int64 (or an int) -/
theorem okI64 {P : Program} {w : World} {r : Reach} {base : Nat} {t : TypeId} {v : Value} (ht : P.underlying t = some (.int .i64)) (h : Value.okWide P w r base t v) : ∃ n : Int, v = .int .i64 n ∧ -9223372036854775808 ≤ n ∧ n ≤ 9223372036854775807 := by
  simp only [Value.okWide, ht, Cell.okWide] at h
  have hm1 : IntKind.i64.min = -9223372036854775808 := rfl
  have hm2 : IntKind.i64.max = 9223372036854775807 := rfl
  cases v <;> simp only [Cell.ok, ht] at h
  rename_i k x
  obtain ⟨rfl, h1, h2⟩ := h
  rw [hm1] at h1; rw [hm2] at h2
  exact ⟨x, rfl, h1, h2⟩
theorem okU16 {P : Program} {w : World} {r : Reach} {base : Nat} {t : TypeId} {v : Value} (ht : P.underlying t = some (.int .u16)) (h : Value.okWide P w r base t v) : ∃ n : Nat, v = .int .u16 (n : Int) ∧ n < 65536 := by
  simp only [Value.okWide, ht, Cell.okWide] at h
  have hm1 : IntKind.u16.min = 0 := rfl
  have hm2 : IntKind.u16.max = 65535 := rfl
  cases v <;> simp only [Cell.ok, ht] at h
  rename_i k x
  obtain ⟨rfl, h1, h2⟩ := h
  rw [hm1] at h1; rw [hm2] at h2
  exact ⟨x.toNat, by congr 1; omega, by omega⟩
theorem okU8 {P : Program} {w : World} {r : Reach} {base : Nat} {t : TypeId} {v : Value} (ht : P.underlying t = some (.int .u8)) (h : Value.okWide P w r base t v) : ∃ n : Nat, v = .int .u8 (n : Int) ∧ n < 256 := by
  simp only [Value.okWide, ht, Cell.okWide] at h
  have hm1 : IntKind.u8.min = 0 := rfl
  have hm2 : IntKind.u8.max = 255 := rfl
  cases v <;> simp only [Cell.ok, ht] at h
  rename_i k x
  obtain ⟨rfl, h1, h2⟩ := h
  rw [hm1] at h1; rw [hm2] at h2
  exact ⟨x.toNat, by congr 1; omega, by omega⟩
end Go.Proofs.YtphgmkhbhboklaaGreatDoor
/- ARGUMENTS THAT ARE SLICES OF MEMBERS, OR OF ACTS, OPENED. -/
namespace Go.Proofs.YtphgmkhbhboklaaGreatDoor
open Go.ChangeShapes Go.WideShapes Go.ChangeAt Go.RowKit
section
variable {H : Type} {enc : TypeId × Value → H} {W : World} {fuel : Nat} {x : DataW H × List MemPlace}
theorem str_of_trod {v : Value} (h : DataW.trod enc Tryz.prog W 0 (fun _ => true) true fuel 9 [v] = some x) : ∃ l : Tx, v = strV l ∧ l.length ≤ maxLen := by
  obtain ⟨⟨⟨l⟩⟩, e, _, hm⟩ := DataW.trod_string Tryz.underlying9 h
  injection e with e _
  exact ⟨l, e, hm⟩
theorem attrs_of_trod {v : Value} (hf : DataW.trod enc Tryz.prog W 0 (fun _ => true) true fuel 28 [v] = some x) : ∃ l : List R2, RdV W (· < W.heap.size) 2 v l.length (rcells l) := by
  rcases Deep.open_slice_pairs Tryz.underlying28 Tryz.underlying85 (by kernel_rfl) rfl rfl (by kernel_rfl) (by kernel_rfl) hf with ⟨hcs, _⟩ | ⟨⟨b, off, sp⟩, len, cap, m, n, V0, V1, D0, D1, P0, P1, hcs, _, hl, hm, hmm, _, hx⟩
  · injection hcs with hcs _
    subst hcs
    exact ⟨[], RdV.ofNil⟩
  · injection hcs with hcs _
    subst hcs
    simp only [if_true] at hmm
    have hsp : cap = 0 ∨ (sp = none ∧ b < W.heap.size) := by
      rcases Nat.eq_zero_or_pos cap with h | h
      · exact .inl h
      · exact .inr (cell_spot (hx 0 (by omega)).1)
    have key : ∀ i, i < m → ∃ q : R2, V0 i = strV q.1 ∧ V1 i = strV q.2 := fun i hi => by
      obtain ⟨_, _, t0, t1⟩ := hx i hi
      obtain ⟨l0, e0, _⟩ := str_of_trod t0
      obtain ⟨l1, e1, _⟩ := str_of_trod t1
      exact ⟨(l0, l1), e0, e1⟩
    obtain ⟨q, hq⟩ := Deep.choose_lt (α := R2) key
    have hll : ((List.range len).map q).length = len := by simp
    refine ⟨(List.range len).map q, rcells_length _, ⟨_, cap, by rw [hll], by omega, hm, ?_⟩, ?_⟩
    · rcases hsp with h | ⟨rfl, h⟩
      · exact .inl h
      · exact .inr ⟨b, off, rfl, h⟩
    · intro b' off' m' c' he j u hu
      injection he with e1 _ _; injection e1 with e1; injection e1 with e1 e2 e3; subst e1 e2 e3
      have hj := (List.getElem?_eq_some_iff.1 hu).1
      rw [rcells_length, hll] at hj
      obtain ⟨i, hi⟩ : ∃ i, i = j / 2 := ⟨_, rfl⟩
      have hil : i < len := by omega
      have hrg := rcells_get ((List.range len).map q) i (by rw [hll]; exact hil)
      have hqi : ((List.range len).map q)[i]'(by rw [hll]; exact hil) = q i := by simp
      rw [hqi] at hrg
      obtain ⟨k0, k1, _, _⟩ := hx i (by omega)
      obtain ⟨s0, s1⟩ := hq i (by omega)
      rw [Addr.add_mid] at k0 k1
      rcases (by omega : j = i * 2 ∨ j = i * 2 + 1) with rfl | rfl
      · rw [hrg.1] at hu; injection hu with hu
        rw [k0, s0, hu]
      · rw [hrg.2] at hu; injection hu with hu
        rw [← Nat.add_assoc, ← hu, ← s1]
        rw [← Nat.add_assoc] at k1
        exact k1
theorem cOne : Tryz.prog.cellsOf 3 = 1 ∧ Tryz.prog.cellsOf 27 = 1 ∧ Tryz.prog.cellsOf 2 = 1 ∧ Tryz.prog.cellsOf 28 = 1 ∧ Tryz.prog.cellsOf 23 = 1 ∧ Tryz.prog.cellsOf 9 = 1 ∧ Tryz.prog.cellsOf 4 = 1 ∧ Tryz.prog.cellsOf 30 = 8 ∧ Tryz.prog.cellsOf 32 = 9 ∧ Tryz.prog.cellsOf 36 = 10 := ⟨by kernel_rfl, by kernel_rfl, by kernel_rfl, by kernel_rfl, by kernel_rfl, by kernel_rfl, by kernel_rfl, by kernel_rfl, by kernel_rfl, by kernel_rfl⟩
set_option maxRecDepth 100000 in
theorem node_of_trod {cs : List Value} (hf : DataW.trod enc Tryz.prog W 0 (fun _ => true) true fuel 30 cs = some x) :
    ∃ n av dv, cs = (ndC n av dv).toList ∧ NdR W (· < W.heap.size) n av dv ∧ -9223372036854775808 ≤ n.kind ∧ n.kind ≤ 9223372036854775807 := by
  obtain ⟨xs, k, -, -, hlen, hxs, hg⟩ := DataW.trod_struct Tryz.underlying30 hf
  obtain ⟨c1, c2, c3, c4, c5, c6, c7, c8, -, -⟩ := cOne
  rw [c8] at hlen
  obtain ⟨v0, v1, v2, v3, v4, v5, v6, v7, rfl⟩ : ∃ v0 v1 v2 v3 v4 v5 v6 v7, cs = [v0, v1, v2, v3, v4, v5, v6, v7] := by
    match cs, hlen with
    | [v0, v1, v2, v3, v4, v5, v6, v7], _ => exact ⟨v0, v1, v2, v3, v4, v5, v6, v7, rfl⟩
  obtain ⟨y0, y1, y2, y3, y4, y5, y6, y7, rfl⟩ : ∃ y0 y1 y2 y3 y4 y5 y6 y7, xs = [y0, y1, y2, y3, y4, y5, y6, y7] := by
    match xs, hxs with
    | [v0, v1, v2, v3, v4, v5, v6, v7], _ => exact ⟨v0, v1, v2, v3, v4, v5, v6, v7, rfl⟩
  have g0 := hg 0 _ rfl
  have g1 := hg 1 _ rfl
  have g2 := hg 2 _ rfl
  have g3 := hg 3 _ rfl
  have g4 := hg 4 _ rfl
  have g5 := hg 5 _ rfl
  have g6 := hg 6 _ rfl
  have g7 := hg 7 _ rfl
  simp only [List.getElem?_cons_zero, List.getElem?_cons_succ] at g0 g1 g2 g3 g4 g5 g6 g7
  obtain ⟨n0, h0, _, w0⟩ := DataW.trod_int Tryz.underlying3 g0
  obtain ⟨n1, h1, _, _⟩ := DataW.trod_int Tryz.underlying27 g1
  obtain ⟨n2, h2, _, _⟩ := DataW.trod_int Tryz.underlying27 g2
  obtain ⟨n3, h3, _, _⟩ := DataW.trod_int Tryz.underlying27 g3
  obtain ⟨n4, h4, _, _⟩ := DataW.trod_int Tryz.underlying2 g4
  obtain ⟨l5, h5⟩ := attrs_of_trod g5
  obtain ⟨l6, h6⟩ := reads_of_trod Tryz.underlying23 Tryz.underlying5 (by kernel_rfl) g6
  obtain ⟨l7, h7, _⟩ := str_of_trod g7
  injection h0 with h0 _; injection h1 with h1 _; injection h2 with h2 _; injection h3 with h3 _; injection h4 with h4 _
  subst h0 h1 h2 h3 h4 h7
  have hm1 : IntKind.i64.min = -9223372036854775808 := rfl
  have hm2 : IntKind.i64.max = 9223372036854775807 := rfl
  simp only [Lit.wf, Bool.and_eq_true, decide_eq_true_eq, hm1, hm2] at w0
  exact ⟨⟨n0, n1, n2, n3, n4, l5, l6, l7⟩, v5, v6, rfl, ⟨h5, h6⟩, by exact w0⟩
set_option maxRecDepth 100000 in
theorem mb_of_trod {cs : List Value} (hf : DataW.trod enc Tryz.prog W 0 (fun _ => true) true fuel 32 cs = some x) :
    ∃ y : Mv, cs = (mcell y).toList ∧ NdR W (· < W.heap.size) y.1.2 y.2.1 y.2.2 ∧ Kb y.1 := by
  obtain ⟨xs, k, -, -, hlen, hxs, hg⟩ := DataW.trod_struct Tryz.underlying32 hf
  obtain ⟨c1, c2, c3, c4, c5, c6, c7, c8, c9, -⟩ := cOne
  rw [c9] at hlen
  obtain ⟨v0, v1, v2, v3, v4, v5, v6, v7, v8, rfl⟩ : ∃ v0 v1 v2 v3 v4 v5 v6 v7 v8, cs = [v0, v1, v2, v3, v4, v5, v6, v7, v8] := by
    match cs, hlen with
    | [v0, v1, v2, v3, v4, v5, v6, v7, v8], _ => exact ⟨v0, v1, v2, v3, v4, v5, v6, v7, v8, rfl⟩
  obtain ⟨y0, y1, rfl⟩ : ∃ y0 y1, xs = [y0, y1] := by
    match xs, hxs with
    | [v0, v1], _ => exact ⟨v0, v1, rfl⟩
  have g0 := hg 0 _ rfl
  have g1 := hg 1 _ rfl
  simp only [List.getElem_toArray, List.getElem_cons_succ, List.getElem_cons_zero, c6, c8, List.drop_succ_cons, List.drop_zero, List.take_succ_cons, List.take_zero, List.getElem?_cons_zero, List.getElem?_cons_succ] at g0 g1
  obtain ⟨l0, h0, _⟩ := str_of_trod g0
  obtain ⟨n, av, dv, h1, h2, h3⟩ := node_of_trod g1
  subst h0
  refine ⟨((l0, n), av, dv), ?_, h2, h3⟩
  rw [h1]; rfl
set_option maxRecDepth 100000 in
theorem act_of_trod {cs : List Value} (hf : DataW.trod enc Tryz.prog W 0 (fun _ => true) true fuel 36 cs = some x) :
    ∃ y : Av, cs = acell y ∧ NdR W (· < W.heap.size) y.2.1.2 y.2.2.1 y.2.2.2 ∧ Kb y.2.1 := by
  obtain ⟨xs, k, -, -, hlen, hxs, hg⟩ := DataW.trod_struct Tryz.underlying36 hf
  obtain ⟨c1, c2, c3, c4, c5, c6, c7, c8, c9, c10⟩ := cOne
  rw [c10] at hlen
  obtain ⟨v0, v1, v2, v3, v4, v5, v6, v7, v8, v9, rfl⟩ : ∃ v0 v1 v2 v3 v4 v5 v6 v7 v8 v9, cs = [v0, v1, v2, v3, v4, v5, v6, v7, v8, v9] := by
    match cs, hlen with
    | [v0, v1, v2, v3, v4, v5, v6, v7, v8, v9], _ => exact ⟨v0, v1, v2, v3, v4, v5, v6, v7, v8, v9, rfl⟩
  obtain ⟨y0, y1, rfl⟩ : ∃ y0 y1, xs = [y0, y1] := by
    match xs, hxs with
    | [v0, v1], _ => exact ⟨v0, v1, rfl⟩
  have g0 := hg 0 _ rfl
  have g1 := hg 1 _ rfl
  simp only [List.getElem_toArray, List.getElem_cons_succ, List.getElem_cons_zero, c7, c9, List.drop_succ_cons, List.drop_zero, List.take_succ_cons, List.take_zero, List.getElem?_cons_zero, List.getElem?_cons_succ] at g0 g1
  obtain ⟨b0, h0, _⟩ := DataW.trod_bool Tryz.underlying4 g0
  obtain ⟨y, h1, h2, h3⟩ := mb_of_trod g1
  injection h0 with h0 _
  subst h0
  refine ⟨(b0, y), ?_, h2, h3⟩
  rw [h1]; rfl
set_option maxRecDepth 100000 in
/-- a slice of rows of k cells -/
theorem slice_of_trod {α : Type} [Inhabited α] {t e : TypeId} {k : Nat} (ht : Tryz.prog.underlying t = some (.slice e)) (hk : Tryz.prog.cellsOf e = k) (hk0 : 0 < k) (cl : α → List Value) (hcl : ∀ a, (cl a).length = k) (p : α → Prop) (cells : List α → List Value) (hlen : ∀ l, (cells l).length = l.length * k)
    (hcells : ∀ (l : List α) (j i : Nat) (h : j < l.length), i < k → (cells l)[j * k + i]? = (cl l[j])[i]?)
    (hel : ∀ (n : Nat) (cs : List Value) (y : DataW H × List MemPlace), DataW.trod enc Tryz.prog W 0 (fun _ => true) true n e cs = some y → ∃ a, cs = cl a ∧ p a)
    {v : Value} (hf : DataW.trod enc Tryz.prog W 0 (fun _ => true) true fuel t [v] = some x) : ∃ l : List α, RdV W (· < W.heap.size) k v l.length (cells l) ∧ ∀ a ∈ l, p a := by
  rcases Deep.open_slice ht hf with ⟨hcs, _⟩ | ⟨⟨b, off, sp⟩, len, cap, m, n, D, Pl, hcs, _, hl, hm, hmm, _, hx⟩
  · injection hcs with hcs _
    subst hcs
    refine ⟨[], ⟨by simp [hlen], ⟨_, _, rfl, Nat.zero_le _, Nat.zero_le _, .inl rfl⟩, fun _ _ _ _ e j u hu => by cases e⟩, fun a ha => (List.not_mem_nil ha).elim⟩
  · injection hcs with hcs _
    subst hcs
    simp only [if_true] at hmm
    rw [hk] at hx
    have key : ∀ i, i < m → ∃ a, (∀ j u, (cl a)[j]? = some u → W.cell? ((⟨b, off, sp⟩ : Addr).add (i * k + j)) = some u) ∧ p a := fun i hi => by
      obtain ⟨cs', h1, h2⟩ := hx i hi
      obtain ⟨_, hl', hcell⟩ := World.cells?_some h1
      obtain ⟨a, rfl, hp⟩ := hel _ _ _ h2
      refine ⟨a, fun j u hj => ?_, hp⟩
      have hjl := (List.getElem?_eq_some_iff.1 hj).1
      rw [hcl] at hjl
      have := hcell j hjl
      rw [Deep.add_add] at this
      rw [this]; exact hj
    obtain ⟨q, hq⟩ := Deep.choose_lt (α := α) key
    have hsp : cap = 0 ∨ (sp = none ∧ b < W.heap.size) := by
      rcases Nat.eq_zero_or_pos cap with h | h
      · exact .inl h
      · have h0 := (hq 0 (by omega)).1 0 ((cl (q 0))[0]'(by rw [hcl]; exact hk0)) (List.getElem?_eq_getElem _)
        rw [Nat.zero_mul, Nat.add_zero] at h0
        exact .inr (cell_spot h0)
    have hll : ((List.range len).map q).length = len := by simp
    refine ⟨(List.range len).map q, ⟨hlen _, ⟨_, cap, by rw [hll], by omega, hm, ?_⟩, ?_⟩, fun a ha => ?_⟩
    · rcases hsp with h | ⟨rfl, h⟩
      · exact .inl h
      · exact .inr ⟨b, off, rfl, h⟩
    · intro b' off' m' c' he j u hu
      injection he with e1 _ _; injection e1 with e1; injection e1 with e1 e2 e3; subst e1 e2 e3
      have hj := (List.getElem?_eq_some_iff.1 hu).1
      rw [hlen, hll] at hj
      have hil : j / k < len := Nat.div_lt_of_lt_mul (by rw [Nat.mul_comm]; exact hj)
      have hjk : j / k * k + j % k = j := Nat.div_add_mod' j k
      have hrg := hcells ((List.range len).map q) (j / k) (j % k) (by rw [hll]; exact hil) (Nat.mod_lt _ hk0)
      rw [hjk, hu] at hrg
      have hqi : ((List.range len).map q)[j / k]'(by rw [hll]; exact hil) = q (j / k) := by simp
      rw [hqi] at hrg
      have := (hq (j / k) (by omega)).1 (j % k) u hrg.symm
      rw [hjk, Addr.add_mid] at this
      exact this
    · obtain ⟨i, hi, rfl⟩ := List.mem_map.1 ha
      exact (hq i (by have := List.mem_range.1 hi; omega)).2
instance : Inhabited Nd := ⟨⟨0, 0, 0, 0, 0, [], [], []⟩⟩
set_option maxRecDepth 100000 in
/-- AN ARGUMENT OF TYPE []Act, OPENED -/
theorem opened_acts {r : Reach} {base : Nat} {v : Value} {d : DataW H} {ps : List MemPlace} (hok : Value.okWide Tryz.prog W r base 22 v) (h0 : DataW.Trod enc Tryz.prog W 0 (fun _ => true) true 22 v d ps) :
    ∃ l : List Av, ActsR W (· < W.heap.size) (· < W.heap.size) v l ∧ ∀ a ∈ l, Kb a.2.1 := by
  obtain ⟨fuel, hf⟩ := h0
  replace hf : DataW.trod enc Tryz.prog W 0 (fun _ => true) true fuel 22 [v] = some (d, ps) := by
    rcases okSlice Tryz.underlying22 hok with rfl | ⟨b, off, len, cap, rfl, -, -, -⟩ <;> exact hf
  obtain ⟨l, h1, h2⟩ := slice_of_trod (α := Av) (k := 10) Tryz.underlying22 (by kernel_rfl) (by decide) acell acell_len (fun y => NdR W (· < W.heap.size) y.2.1.2 y.2.2.1 y.2.2.2 ∧ Kb y.2.1) acells acells_length acells_get (fun n cs y h => act_of_trod h) hf
  exact ⟨l, ⟨h1, fun a ha => (h2 a ha).1⟩, fun a ha => (h2 a ha).2⟩
set_option maxRecDepth 100000 in
/-- AN ARGUMENT OF TYPE []Member, OPENED -/
theorem opened_mbs {r : Reach} {base : Nat} {v : Value} {d : DataW H} {ps : List MemPlace} (hok : Value.okWide Tryz.prog W r base 33 v) (h0 : DataW.Trod enc Tryz.prog W 0 (fun _ => true) true 33 v d ps) :
    ∃ l : List Mv, Mbs W (· < W.heap.size) (· < W.heap.size) v l ∧ ∀ a ∈ l, Kb a.1 := by
  obtain ⟨fuel, hf⟩ := h0
  replace hf : DataW.trod enc Tryz.prog W 0 (fun _ => true) true fuel 33 [v] = some (d, ps) := by
    rcases okSlice Tryz.underlying33 hok with rfl | ⟨b, off, len, cap, rfl, -, -, -⟩ <;> exact hf
  obtain ⟨l, h1, h2⟩ := slice_of_trod (α := Mv) (k := 9) Tryz.underlying33 (by kernel_rfl) (by decide) (fun y => (mcell y).toList) mcell_len (fun y => NdR W (· < W.heap.size) y.1.2 y.2.1 y.2.2 ∧ Kb y.1) mcells mcells_length (fun l j i h hi => by rw [mcells_get l j i h hi]; simp) (fun n cs y h => mb_of_trod h) hf
  exact ⟨l, ⟨h1, fun a ha => (h2 a ha).1⟩, fun a ha => (h2 a ha).2⟩
end
end Go.Proofs.YtphgmkhbhboklaaGreatDoor
/- WHAT THE ROWS' LISTED VARIABLES AND THE WORLD'S SHAPE GIVE; and a world that holds the listed variables. -/
namespace Go.Proofs.YtphgmkhbhboklaaGreatDoor
open Go.ChangeShapes Go.WideShapes Go.ChangeAt Go.RowKit
theorem mx_of_shape {W : World} (h : W.ShapedOpen Tryz.prog) : Mx W.heap.size W := by
  obtain ⟨m, hm⟩ : ∃ m, W.cell? ⟨2, 0, none⟩ = some (.int .i64 m) := Go.Proofs.cell_of_shapedOpen_int (zero := #[.int .i64 0]) (t := 3) h (of_decide_eq_true (by kernel_rfl)) (by kernel_rfl) rfl (by kernel_rfl) (by kernel_rfl) Tryz.underlying3
  exact ⟨World.block_lt_of_cell? W _ hm, m, hm⟩
/-- what the laws of the trees ask of the world -/
theorem tabs_of {W : World} {l : List (String × DataW Unit)} (hL : laidMetH Tryz.prog l W) (hsh : W.ShapedOpen Tryz.prog) (hc : ("portolan/path.classes", Rows.laid_portolan_path_classes) ∈ l) (ht : ("portolan/tar.types", Rows.laid_portolan_tar_types) ∈ l) : Tabs W.heap.size W :=
  ⟨Nat.le_refl _, mx_of_shape hsh, cls_of_laid hL hc, typ_of_laid (laidMetH_iff.1 hL).1 (List.mem_filter.2 ⟨ht, rfl⟩)⟩
/-- A WORLD FOR THE WITNESS -/
def layRow (c : Array Value) : Obj → Obj
  | .cells _ t frozen => .cells c t frozen
  | o => o
def classesMap : Obj := .map #[⟨.int .i64 1, .func (.func 155) #[] #[], 0⟩, ⟨.int .i64 2, .func (.func 156) #[] #[], 1⟩, ⟨.int .i64 3, .func (.func 157) #[] #[], 2⟩] 3
def typesMap : Obj := .map #[⟨.int .i64 1, .int .u8 53, 0⟩, ⟨.int .i64 2, .int .u8 48, 1⟩, ⟨.int .i64 3, .int .u8 50, 2⟩, ⟨.int .i64 4, .int .u8 54, 3⟩] 4
noncomputable def lowM : Nat := (World.holding Tryz.prog default ⟨#[], #[], []⟩).heap.size
noncomputable def laidWorld (os : Os) : World :=
  let w0 := World.holding Tryz.prog os ⟨#[classesMap, typesMap], #[], []⟩
  let h2 := Array.modify w0.heap 4 (layRow ((List.range 16).flatMap fun i => [Value.int .u8 (Lib.accLo i), Value.int .u8 (Lib.accHi i)]).toArray)
  let h3 := Array.modify h2 3 (layRow (Lib.firstTab.map fun z => Value.int .u8 z).toArray)
  let h4 := Array.modify h3 0 (layRow #[.map (some lowM)])
  let h5 := Array.modify h4 1 (layRow #[.map (some (lowM + 1))])
  { w0 with heap := h5 }
end Go.Proofs.YtphgmkhbhboklaaGreatDoor
/- AN ARGUMENT THAT IS A SLICE OF TEXTS, OPENED. -/
namespace Go.Proofs.YtphgmkhbhboklaaGreatDoor
open Go.ChangeShapes Go.WideShapes Go.ChangeAt Go.RowKit
set_option maxRecDepth 100000 in
theorem opened_strs {H : Type} {enc : TypeId × Value → H} {r : Reach} {base : Nat} {W : World} {v : Value} {d : DataW H} {p : List MemPlace}
    (hok : Value.okWide Tryz.prog W r base 54 v) (h0 : DataW.Trod enc Tryz.prog W 0 (fun _ => true) true 54 v d p) :
    ∃ l : List (List UInt8), RdS W (· < W.heap.size) v l ∧ l.length ≤ 9223372036854775807 ∧ ∀ q ∈ l, q.length ≤ 9223372036854775807 := by
  obtain ⟨fuel, hf⟩ := h0
  rcases okSlice Tryz.underlying54 hok with rfl | ⟨b, off, len, cap, rfl, h1, h2, h3⟩
  · exact ⟨[], RdV.ofNil, Nat.zero_le _, fun q hq => by cases hq⟩
  · rcases open_strings Tryz.underlying54 Tryz.underlying9 (by kernel_rfl) hf with ⟨hcs, _⟩ | ⟨a, len', cap', ss, hcs, _, hl, hm, hsl, _, hcell, hsz⟩
    · cases hcs
    · have hcs : [Value.slice (some ⟨b, off, none⟩) len cap] = [Value.slice (some a) len' cap'] := hcs
      injection hcs with hcs _
      injection hcs with hc1 hc2 hc3
      injection hc1 with hc1
      subst hc1 hc2 hc3
      have hlm : len ≤ ss.length := by rw [hsl]; split <;> omega
      have hll : ((ss.take len).map fun s => s.data.toList).length = len := by simp; omega
      refine ⟨(ss.take len).map fun s => s.data.toList, ⟨by simp, ⟨_, cap, by rw [hll], by omega, h2, .inr ⟨b, off, rfl, h3⟩⟩, ?_⟩, ?_, ?_⟩
      · intro b' off' m' c' he j u hu
        injection he with e1 _ _; injection e1 with e1; injection e1 with e1 e2 _; subst e1 e2
        have hj : j < len := by
          have := (List.getElem?_eq_some_iff.1 hu).1
          rwa [List.length_map, hll] at this
        have h5 := hcell j (by omega)
        rw [Addr.add_mid] at h5
        rw [h5, ← hu]
        simp [List.getD_eq_getElem?_getD, hj, strV, show j < ss.length by omega]
      · rw [hll]; unfold maxLen at h2; omega
      · intro q hq
        simp only [List.mem_map] at hq
        obtain ⟨s, hs, rfl⟩ := hq
        have := hsz s (List.mem_of_mem_take hs)
        unfold maxLen at this
        exact this
end Go.Proofs.YtphgmkhbhboklaaGreatDoor
