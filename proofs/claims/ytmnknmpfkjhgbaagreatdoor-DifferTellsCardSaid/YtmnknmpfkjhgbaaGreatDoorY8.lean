/- PARTS OF ONE PROOF, set in one file: Alike, DtSl, DifferTells, Nest, NodeOpen, TreeLaid. Each part tells its own conditions. -/
import Derived.Deep.Slices
import Derived.Deep.SlicePairs
import Derived.Lib.LaidU8
import Derived.LaidHandle
import Derived.LaidSub
import Derived.PinnedBridge
import Derived.Deep.DeepWitnessRowRef
import Derived.Test.YtmnknmpfkjhgbaaGreatDoorY7
/- portolanlaw12.Alike: rows of Members set side by side. -/
namespace Go.Proofs.YtmnknmpfkjhgbaaGreatDoor
open Go.RowKit
theorem SaysB.det {P : Prop} {e : Ending} (h : SaysB P e) {r : Bool} (hr : r = true ↔ P) : e = .returned (.bool r) := by
  obtain ⟨r', rfl, h'⟩ := h
  have : r' = r := by rw [Bool.eq_iff_iff, h', hr]
  rw [this]
theorem bool_of (P : Prop) : ∃ r : Bool, r = true ↔ P := by
  by_cases h : P
  · exact ⟨true, fun _ => h, fun _ => rfl⟩
  · exact ⟨false, fun e => (by cases e), fun e => (h e).elim⟩
set_option maxHeartbeats 2000000 in
set_option maxRecDepth 100000 in
theorem alike_any (v1 v2 : Value) (l1 l2 : List Mv) (w : World) (h1 : Mbs w (· < w.heap.size) (· < w.heap.size) v1 l1) (h2 : Mbs w (· < w.heap.size) (· < w.heap.size) v2 l2) :
    Calls Tryz.prog 32 #[v1, v2] w fun e w' => SaysB (l1.map (·.1) = l2.map (·.1)) e ∧ Below w.heap.size w w' := by
  obtain ⟨a1, c1, rfl, hc1, hm1, g1⟩ := h1.rd.shape
  obtain ⟨a2, c2, rfl, hc2, hm2, g2⟩ := h2.rd.shape
  unfold maxLen at hm1 hm2
  have H1 := Keep.keep h1; have H2 := Keep.keep h2; have G1 := Keep.keep g1; have G2 := Keep.keep g2
  clear h1 h2 g1 g2
  obtain ⟨P, hP⟩ : ∃ P : Prop, (l1.map (·.1) = l2.map (·.1)) = P := ⟨_, rfl⟩
  have HP : Keep (P ↔ l1.map (·.1) = l2.map (·.1)) := ⟨by rw [hP]⟩
  rw [hP]
  clear hP
  by_cases hl : l1.length = l2.length
  · have HL := Keep.keep hl
    have hne : ((l1.length : Int) == (l2.length : Int)) = true := by rw [hl]; exact beq_self_eq_true _
    clear hl
    go_enter Tryz.func32, Tryz.ntmps32
    go_wp2_with fail
    go_loopg [5] l1.length (fun g u5 wx => ∃ (k : Nat), k + g = l1.length ∧ u5 = .int .i64 (k : Int) ∧ (l1.map (·.1)).take k = (l2.map (·.1)).take k ∧ Below w.heap.size w wx)
    case atStart => exact ⟨0, by omega, rfl, rfl, Below.refl _ _⟩
    case round =>
      obtain ⟨k, hkg, rfl, heq, hb⟩ := hrel
      have HEQ := Keep.keep heq; have HB := Keep.keep hb
      clear heq hb
      cases gk with
      | zero =>
        obtain rfl : k = l1.length := by omega
        have HF : Keep P := ⟨HP.out.2 (by
          have h := HEQ.out
          rw [List.take_of_length_le (by rw [List.length_map]; exact Nat.le_refl _), List.take_of_length_le (by rw [List.length_map, ← HL.out]; exact Nat.le_refl _)] at h
          exact h)⟩
        go_wp2_with fail
        go_ret
        exact ⟨⟨true, rfl, ⟨fun _ => HF.out, fun _ => rfl⟩⟩, HB.out⟩
      | succ g =>
        have hk1 : k < l1.length := by omega
        have hk2 : k < l2.length := by have := HL.out; omega
        have hd : decide ((k : Int) < (l1.length : Int)) = true := decide_eq_true (by omega)
        obtain ⟨b1, o1, rfl, hb1⟩ : ∃ b off, a1 = some ⟨b, off, none⟩ ∧ b < w.heap.size := by
          rcases G1.out with h | ⟨b, off, h, hb⟩
          · omega
          · exact ⟨b, off, h, hb⟩
        obtain ⟨b2, o2, rfl, hb2⟩ : ∃ b off, a2 = some ⟨b, off, none⟩ ∧ b < w.heap.size := by
          rcases G2.out with h | ⟨b, off, h, hb⟩
          · omega
          · exact ⟨b, off, h, hb⟩
        obtain ⟨r, hr⟩ := bool_of (l1[k].1 = l2[k].1)
        have HX1 : Keep (∀ wx, Below wr.heap.size wr wx → ∀ (j : Nat) (u : Value), (mcell l1[k]).toList[j]? = some u → wx.cell? ⟨b1, o1 + k * 9 + j, none⟩ = some u) := ⟨fun wx hx j u hj => by
          have hjl := (List.getElem?_eq_some_iff.1 hj).1
          rw [mcell_len] at hjl
          exact (H1.out.below (HB.out.trans (hx.mono HB.out.size)) (fun b hb => hb) (fun b hb => hb)).cell hk1 j hjl (by simpa using hj)⟩
        have HX2 : Keep (∀ wx, Below wr.heap.size wr wx → ∀ (j : Nat) (u : Value), (mcell l2[k]).toList[j]? = some u → wx.cell? ⟨b2, o2 + k * 9 + j, none⟩ = some u) := ⟨fun wx hx j u hj => by
          have hjl := (List.getElem?_eq_some_iff.1 hj).1
          rw [mcell_len] at hjl
          exact (H2.out.below (HB.out.trans (hx.mono HB.out.size)) (fun b hb => hb) (fun b hb => hb)).cell hk2 j hjl (by simpa using hj)⟩
        have HS : Keep (∀ wx, Below wr.heap.size wr wx → Calls Tryz.prog 67 #[.agg (mcell l1[k]).toList.toArray, .agg (mcell l2[k]).toList.toArray] wx fun e w' => e = .returned (.bool r) ∧ Below wx.heap.size wx w') := ⟨fun wx hx => by
          have hbx := HB.out.trans (hx.mono HB.out.size)
          have hsx := hbx.size
          simp only [Array.toArray_toList]
          refine (same_ref _ _ _ _ _ _ wx ((H1.out.nd _ (List.getElem_mem hk1)).below hbx (fun b hb => hb) |>.mono (fun b hb => Nat.lt_of_lt_of_le hb hsx)) ((H2.out.nd _ (List.getElem_mem hk2)).below hbx (fun b hb => hb) |>.mono (fun b hb => Nat.lt_of_lt_of_le hb hsx))).mono ?_
          rintro e w' ⟨he, hb⟩
          exact ⟨he.det hr, hb⟩⟩
        have HST : Keep (r = true → (l1.map (·.1)).take (k + 1) = (l2.map (·.1)).take (k + 1)) := ⟨fun e => by
          rw [List.take_succ_eq_append_getElem (by simpa using hk1), List.take_succ_eq_append_getElem (by simpa using hk2), HEQ.out]
          simp [hr.1 e]⟩
        have HNE : Keep (r = false → ¬ P) := ⟨fun e h => by
          have h := HP.out.1 h
          have : (l1.map (·.1))[k]'(by simpa using hk1) = (l2.map (·.1))[k]'(by simpa using hk2) := by simp only [h]
          simp only [List.getElem_map] at this
          rw [hr.2 this] at e; cases e⟩
        have hs1 : (Tryz.prog.info? 41).map (·.size) = some (mcell l1[k]).toList.length := by rw [mcell_len]; exact aggM.i
        have hs2 : (Tryz.prog.info? 41).map (·.size) = some (mcell l2[k]).toList.length := by rw [mcell_len]; exact aggM.i
        generalize (mcell l1[k]).toList = x1 at *
        generalize (mcell l2[k]).toList = x2 at *
        have HS1 := Keep.keep hs1; have HS2 := Keep.keep hs2
        clear hr hs1 hs2
        go_upto_region 6 with fail
        refine wp_region_cls (fun w' => Below wr.heap.size wr w') (by kernel_rfl) (by kernel_rfl) (Below.refl _ _).drew ?_
        repeat (first
          | ((with_reducible refine cls_call (f := 67) ?_ (Go.Proofs.enters_of Tryz.func67 (by kernel_rfl) rfl) ?_ (fun w1 hw1 => (HS.out w1 hw1).mono (fun e w2 he => ⟨he.1, hw1.trans (he.2.mono hw1.size)⟩)) ?_); (focus rfl); (focus (first | exact Array.map_empty | (simp only [List.map_toArray, List.map_cons, List.map_nil]; rfl))); simp only [Act.put, List.setIfInBounds_toArray, List.set_cons_succ, List.set_cons_zero])
          | ((with_reducible refine cls_agg ?_ HX1.out Tryz.underlying41 rfl HS1.out ?_ ?_); (focus rfl); (focus rfl); simp only [Act.put, List.setIfInBounds_toArray, List.set_cons_succ, List.set_cons_zero])
          | ((with_reducible refine cls_agg ?_ HX2.out Tryz.underlying41 rfl HS2.out ?_ ?_); (focus rfl); (focus rfl); simp only [Act.put, List.setIfInBounds_toArray, List.set_cons_succ, List.set_cons_zero])
          | (first | go_big_quiet_step (fail) | (go_big_quiet_want; go_big_quiet_op; (refine ⟨_, fun _ _ => rfl, ?_⟩); go_big_quiet_on)))
        (refine wpQuiet_nil ?_); intro w6 hw6
        have HB6 := Keep.keep (HB.out.trans (hw6.mono HB.out.size))
        clear hw6
        cases r with
        | true =>
          have HE := Keep.keep (HST.out rfl)
          go_wp2_with fail
          go_roundg g
          case measure => omega
          case rel => exact ⟨k + 1, by omega, by simp, HE.out, HB6.out⟩
        | false =>
          have HE := Keep.keep (HNE.out rfl)
          go_wp2_with fail
          go_ret
          exact ⟨⟨false, rfl, ⟨fun h => (by cases h), fun h => (HE.out h).elim⟩⟩, HB6.out⟩
  · have hne : ((l1.length : Int) == (l2.length : Int)) = false := by simp; omega
    have HL := Keep.keep hl
    clear hl
    go_enter Tryz.func32, Tryz.ntmps32
    go_wp2_with fail
    go_ret
    exact ⟨⟨false, rfl, ⟨fun h => (by cases h), fun h => (HL.out (by have := congrArg List.length (HP.out.1 h); simpa using this)).elim⟩⟩, Below.refl _ _⟩
end Go.Proofs.YtmnknmpfkjhgbaaGreatDoor
/- A text's beginning. -/
namespace Go.Proofs.YtmnknmpfkjhgbaaGreatDoor
open Go.RowKit
theorem run_slice_dt {P : Program} {T : TypeId} (hu : P.underlying T = some .string) (l : List UInt8) (k1 : IntKind) (i : Nat) (h1 : i ≤ l.length) (w : World) :
    (Instr.slice T (.string ⟨l.toArray⟩) none (some (.int k1 (i : Int))) none).run P w = .ok (.string ⟨(l.take i).toArray⟩) w := by
  have hsz : ByteArray.size ⟨l.toArray⟩ = l.length := rfl
  simp [Instr.slice, Instr.sliceBounds, Instr.sliceBound, asIntOf, run_underlying hu, hsz, h1, ByteArray.extract_mk]
end Go.Proofs.YtmnknmpfkjhgbaaGreatDoor
/- portolanlaw20.DifferTells: the law's walk. -/
namespace Go.Proofs.YtmnknmpfkjhgbaaGreatDoor
open Go.RowKit
/-- one of the document's trees, at hand -/
def RfL (w : World) (R : Nat) (L : List Mb) : Prop := ∃ N v l, RefIn w R N v l ∧ l.map (·.1) = L ∧ R < w.heap.size ∧ ∀ b, N b → b < w.heap.size
theorem RfL.on {w w' : World} {R : Nat} {L : List Mb} (h : RfL w R L) (hb : Below w.heap.size w w') : RfL w' R L := by
  obtain ⟨N, v, l, h1, h2, h3, h4⟩ := h
  exact ⟨N, v, l, h1.below hb h3 h4, h2, Nat.lt_of_lt_of_le h3 hb.size, fun b e => Nat.lt_of_lt_of_le (h4 b e) hb.size⟩
theorem rnew_tr {w : World} {a : Option Addr} {n c : Nat} {l : List Mv} {L : List Mb} (hm : MbL w (.slice a n c) l) (hl : l.map (·.1) = L) (hs : ∀ x ∈ L, Sm x) (hL : L.length ≤ 4096) (hw : WellL L) :
    Calls Tryz.prog 25 #[.slice a n c] w fun e w' => ∃ R, e = .returned (.tuple #[.pointer (some ⟨R, 0, none⟩), .int .i64 0]) ∧ RfL w' R L ∧ Below w.heap.size w w' := by
  refine (rnew_any (· < w.heap.size) _ l w (fun _ h => h) hm (fun x hx => hs x.1 (by rw [← hl]; exact List.mem_map.2 ⟨x, hx, rfl⟩)) (by rw [← List.length_map (f := fun x : Mv => x.1), hl]; omega)).mono ?_
  rintro e w' ⟨⟨pv, rfl, hn⟩, hb⟩
  rw [hl, newT_perm hw (List.Perm.refl _) hL] at hn ⊢
  obtain ⟨R, N', v, l', rfl, h1, h2, h3, h4, h5⟩ := hn
  refine ⟨R, rfl, ⟨N', v, l', h1, h2, h4, fun b e => ?_⟩, hb⟩
  rcases h5 b e with h | h
  · exact Nat.lt_of_lt_of_le h hb.size
  · exact h.2
theorem rof_tr {w : World} {Ra Rb : Nat} {A B : List Mb} (hA : WellL A) (hB : WellL B) (hlA : A.length ≤ 4095) (hlB : B.length ≤ 4095) (h1 : RfL w Ra A) (h2 : RfL w Rb B) :
    Calls Tryz.prog 28 #[.pointer (some ⟨Ra, 0, none⟩), .pointer (some ⟨Rb, 0, none⟩)] w fun e w' => ∃ a n c l, e = .returned (.tuple #[.slice a n c, .int .i64 0]) ∧ l.map (·.1) = (toldR A B).foldl insM [] ∧ MbL w' (.slice a n c) l ∧ Below w.heap.size w w' := by
  obtain ⟨Na, va, la, a1, a2, a3, a4⟩ := h1
  obtain ⟨Nb, vb, lb, b1, b2, b3, b4⟩ := h2
  subst a2 b2
  rw [List.length_map] at hlA
  have hlB' := hlB
  rw [List.length_map] at hlB'
  refine (rof_any ⟨Ra, Rb, Na, Nb, va, vb, la, lb⟩ w hA hB hlB ⟨a1, b1, a3, b3, a4, b4, Nat.le_trans hlA (by decide), Nat.le_trans hlB' (by decide)⟩).mono ?_
  rintro e w' ⟨v, l, rfl, hl, hr, hb⟩
  obtain ⟨a, c, hv, -⟩ := (ownsV_reads hr.own).shape
  subst hv
  exact ⟨a, _, c, l, rfl, hl, hr.mbs.mono (fun _ h => h.2) (fun _ h => h.2.1), hb⟩
theorem rtold_tr {w : World} {Ra Rb : Nat} {A B : List Mb} (hA : WellL A) (hB : WellL B) (hlA : A.length ≤ 4095) (hlB : B.length ≤ 4095) (h1 : RfL w Ra A) (h2 : RfL w Rb B) :
    Calls Tryz.prog 33 #[.pointer (some ⟨Ra, 0, none⟩), .pointer (some ⟨Rb, 0, none⟩), .string ⟨#[]⟩] w fun e w' => ∃ a c, e = .returned (.slice a (toldL A B).length c) ∧ Below w.heap.size w w' := by
  obtain ⟨Na, va, la, a1, a2, a3, a4⟩ := h1
  obtain ⟨Nb, vb, lb, b1, b2, b3, b4⟩ := h2
  subst a2 b2
  rw [List.length_map] at hlA
  have hlB' := hlB
  rw [List.length_map] at hlB'
  have hp : ∀ x, x ∈ la.map (·.1) ∨ x ∈ lb.map (·.1) → x.1.length ≤ 400000 := fun x hx => by
    rcases hx with hx | hx
    · obtain ⟨y, hy, rfl⟩ := List.mem_map.1 hx
      exact (a1.sm y hy).p
    · obtain ⟨y, hy, rfl⟩ := List.mem_map.1 hx
      exact (b1.sm y hy).p
  refine (rtold_any ⟨Ra, Rb, Na, Nb, va, vb, la, lb⟩ hA hB hp 500000 [] w ⟨a1, b1, a3, b3, a4, b4, Nat.le_trans hlA (by decide), Nat.le_trans hlB' (by decide)⟩ (by simp) (fun x hx => by have := hp x hx; simp; omega)).mono ?_
  rintro e w' ⟨v, l, rfl, hl, hr, hb⟩
  obtain ⟨a, c, hv, -⟩ := (ownsV_reads hr.own).shape
  have hn : l.length = (toldL (la.map (·.1)) (lb.map (·.1))).length := by
    rw [← List.length_map (f := fun x : Mv => x.1), hl]
    exact (toldR_perm hA hB).length_eq
  rw [hn] at hv
  subst hv
  exact ⟨a, c, rfl, hb⟩
def dtC (q : Tx) (k : Int) : Array Value := #[.string ⟨q.toArray⟩, .int .i64 k, .int .u32 0, .int .u32 0, .int .u32 0, .int .i64 0, .slice none 0 0, .slice none 0 0, .string ⟨#[]⟩]
theorem sign_bareD (q : Tx) : (signM q).2.attrs = [] ∧ (signM q).2.data = [] := by
  unfold signM
  split <;> exact ⟨rfl, rfl⟩
theorem dt_cells {p qw qm : Tx} {kw km : Int} (h1 : mbC (whM p) nilV nilV = dtC qw kw) (h2 : mbC (mkM p) nilV nilV = dtC qm km) : (mcells [(whM p, nilV, nilV), (mkM p, nilV, nilV)]).toArray = dtC qw kw ++ dtC qm km := by
  rw [← h1, ← h2, mcells_cons, mcells_cons]
  simp [mcells, mcell]
section
variable {P : Program} {ρ : Operand → Value} {d : Option Tmp} {x y : Operand} {t : TypeId} {pos : String} {af : Array Edge} {g : Option (Nat × Bool)} {w : World}
theorem run_neI {T T1 : TypeId} {a b : Int} {c : Bool} (hx : ρ x = .int .i64 a) (hy : ρ y = .int .i64 b) (h : (a != b) = c) : (execOp ρ (⟨d, .binOp .neq T x y T1, t, pos, af, g⟩ : Oper)).run P w = .ok (.value (.bool c)) w := by
  rw [← h]
  simp [go_sem, execOp, eqGuard, hx, hy]
theorem run_notT {T : TypeId} (hx : ρ x = .bool true) : (execOp ρ (⟨d, .unOp .not T x, t, pos, af, g⟩ : Oper)).run P w = .ok (.value (.bool false)) w := by
  simp [go_sem, execOp, hx]
theorem run_build2 {q q2 : Tx} {k k2 : Int} (hx : ρ x = .agg (dtC q k)) (hy : ρ y = .agg (dtC q2 k2)) : (execOp ρ (⟨d, .buildSlice 23 2 #[(0, x), (1, y)], t, pos, af, g⟩ : Oper)).run Tryz.prog w = .ok (.value (.slice (some ⟨w.heap.size, 0, none⟩) 2 2)) (w.alloc (.cells (dtC q k ++ dtC q2 k2) 41)) := by
  have h : ∀ (q q2 : Tx) (k k2 : Int) w, (Instr.buildSlice 23 2 #[(0, .agg (dtC q k)), (1, .agg (dtC q2 k2))]).run Tryz.prog w = .ok (.slice (some ⟨w.heap.size, 0, none⟩) 2 2) (w.alloc (.cells (dtC q k ++ dtC q2 k2) 41)) := fun q q2 k k2 w => by kernel_rfl
  have e : (#[(0, x), (1, y)] : Array (Nat × Operand)).map (fun z => (z.1, ρ z.2)) = #[(0, .agg (dtC q k)), (1, .agg (dtC q2 k2))] := by simp [hx, hy]
  unfold execOp
  simp only [hx, hy, List.map_toArray, List.map_cons, List.map_nil, Sem.run_bind, h, Result.andThen_ok, Sem.run_pure]
end
/-- what the operations of the comparing region yield -/
def dtT (n : Nat) (v15 v17 : Value) (Ra Rb : Nat) (p : Tx) (cw cm : Array Value) (L : List Mb) : Nat → Value → World → Prop
  | 0, v, _ => v = .int .i64 0
  | 1, v, _ => v = .int .i64 0
  | 2, v, _ => v = .bool false
  | 3, v, _ => v = .bool false
  | 4, v, _ => v = v15
  | 5, v, _ => v = v17
  | 6, v, _ => v = .bool true
  | 7, v, _ => v = .bool false
  | 8, v, _ => v = .bool false
  | 9, v, _ => v = .bool false
  | 10, v, _ => v = .int .i64 0
  | 11, v, _ => v = .bool false
  | 12, v, _ => v = .bool false
  | 13, v, _ => v = .bool false
  | 14, v, _ => v = .int .i64 (n : Int)
  | 15, v, _ => v = .pointer (some ⟨Ra, 0, none⟩)
  | 16, v, _ => v = .pointer (some ⟨Rb, 0, none⟩)
  | 17, v, _ => ∃ a c, v = .slice a n c
  | 18, v, _ => v = .int .i64 (n : Int)
  | 19, v, _ => v = .bool false
  | 20, v, _ => v = .bool false
  | 21, v, _ => v = .bool false
  | 22, v, _ => v = .string ⟨p.toArray⟩
  | 23, v, _ => v = .agg cw
  | 24, v, _ => v = .string ⟨p.toArray⟩
  | 25, v, _ => v = .agg cm
  | 26, v, w => ∃ l : List Mv, MbL w v l ∧ l.map (·.1) = L
  | 27, v, _ => v = .agg cw
  | 28, v, _ => v = .agg cm
  | 29, v, w => ∃ l : List Mv, MbL w v l ∧ l.map (·.1) = L
  | 30, v, _ => v = .bool true
  | 31, v, _ => v = .bool false
  | 32, v, _ => v = .bool false
  | _, _, _ => True
theorem dtT_stays {n : Nat} {v15 v17 : Value} {Ra Rb : Nat} {p : Tx} {cw cm : Array Value} {L : List Mb} (i : Nat) (v : Value) (w w' : World) (h : dtT n v15 v17 Ra Rb p cw cm L i v w) (hb : Below w.heap.size w w') : dtT n v15 v17 Ra Rb p cw cm L i v w' := by
  unfold dtT at h ⊢
  split at h <;> first
    | exact h
    | (obtain ⟨l, h1, h2⟩ := h; exact ⟨l, h1.on hb, h2⟩)
theorem mb_pair {w : World} {x y : Mb} (hx : x.2.attrs = [] ∧ x.2.data = []) (hy : y.2.attrs = [] ∧ y.2.data = []) :
    MbL (w.alloc (.cells (mcells [(x, nilV, nilV), (y, nilV, nilV)]).toArray 41)) (.slice (some ⟨w.heap.size, 0, none⟩) 2 2) [(x, nilV, nilV), (y, nilV, nilV)] :=
  ⟨RdV.new 41 (mcells [(x, nilV, nilV), (y, nilV, nilV)]) 9 2 _ rfl rfl (by unfold maxLen; omega) (by simp), fun z hz => by
    simp only [List.mem_cons, List.not_mem_nil, or_false] at hz
    rcases hz with rfl | rfl
    · exact ndR_nil hx.1 hx.2
    · exact ndR_nil hy.1 hy.2⟩
set_option maxHeartbeats 8000000 in
set_option maxRecDepth 100000 in
theorem dtl_any (B : Nat) (v0 v1 : Value) (l0 l1 : List Av) (p0 : Tx) (_hp0 : p0.length ≤ 9223372036854775807) (w : World) (hT : Tabs B w) (h0 : ActL w v0 l0) (k0 : ∀ x ∈ l0, Kb x.2.1) (h1 : ActL w v1 l1) (k1 : ∀ x ∈ l1, Kb x.2.1) :
    Calls Tryz.prog 6 #[v0, v1, .string ⟨p0.toArray⟩] w fun e w' => e = .returned (.bool true) ∧ Below w.heap.size w w' := by
  obtain ⟨a0, c0, hv0, -⟩ := h0.rd.shape
  obtain ⟨a1, c1, hv1, -⟩ := h1.rd.shape
  have HT := Keep.keep hT
  have HWA : Keep (WellL (actT l0) ∧ (actT l0).length ≤ 40) := ⟨actT_well _, actT_len _⟩
  have HWB : Keep (WellL (actT l1) ∧ (actT l1).length ≤ 40) := ⟨actT_well _, actT_len _⟩
  have HW0 : Keep (Below w.heap.size w w) := ⟨Below.refl _ _⟩
  subst hv0 hv1
  have HG0 := Keep.keep (grown_tr B hT h0 k0)
  have HG1 : Keep (∀ wx, Below w.heap.size w wx → Calls Tryz.prog 8 #[.slice a1 l1.length c1] wx fun e w' => ∃ T, e = .returned (.pointer (some ⟨T, 0, none⟩)) ∧ TrL w' T (actT l1) ∧ Below wx.heap.size wx w') := ⟨fun wx hb => grown_tr B (hT.on (hb.mono hT.b)) (h1.on hb) k1⟩
  have HT0 : Keep (∀ wx, Below w.heap.size w wx → Tabs B wx) := ⟨fun wx hb => hT.on (hb.mono hT.b)⟩
  generalize actT l0 = A at *
  generalize actT l1 = C at *
  clear hT h0 k0 h1 k1
  go_enter Tryz.func6, Tryz.ntmps6
  go_wp2_with fail
  refine HG0.out.mono ?_
  rintro e w1 ⟨Ta, rfl, ht, hb⟩
  have HW1 := Keep.keep hb
  have HA1 := Keep.keep ht
  clear ht hb HG0
  go_wp2_with fail
  refine (HG1.out w1 HW1.out).mono ?_
  rintro e w2 ⟨Tb, rfl, ht, hb⟩
  have HW2 := Keep.keep (HW1.out.trans (hb.mono HW1.out.size))
  have HA2 := Keep.keep (HA1.out.on hb)
  have HC2 := Keep.keep ht
  have HSA : Keep (∀ x ∈ A, Sm x) := ⟨by obtain ⟨_, _, _, h, _⟩ := HA1.out; exact h.sm⟩
  have HSC : Keep (∀ x ∈ C, Sm x) := ⟨by obtain ⟨_, _, _, h, _⟩ := ht; exact h.sm⟩
  clear ht hb HG1 HA1
  go_wp2_with fail
  refine (all_tr HA2.out (by have := HWA.out.2; omega)).mono ?_
  rintro e w3 ⟨a3, n3, c3, l3, rfl, hl3, hm3, hb⟩
  have HW3 := Keep.keep (HW2.out.trans (hb.mono HW2.out.size))
  have HA3 := Keep.keep (HA2.out.on hb)
  have HC3 := Keep.keep (HC2.out.on hb)
  have HRN := Keep.keep (rnew_tr hm3 hl3 HSA.out (by have := HWA.out.2; omega) HWA.out.1)
  clear hb hl3 hm3 HA2 HC2
  go_wp2_with fail
  refine HRN.out.mono ?_
  rintro e w4 ⟨Ra, rfl, hr, hb⟩
  have HW4 := Keep.keep (HW3.out.trans (hb.mono HW3.out.size))
  have HA4 := Keep.keep (HA3.out.on hb)
  have HC4 := Keep.keep (HC3.out.on hb)
  have HRA4 := Keep.keep hr
  clear hb hr HRN HA3 HC3
  go_wp2_with fail
  refine (all_tr HC4.out (by have := HWB.out.2; omega)).mono ?_
  rintro e w5 ⟨a5, n5, c5, l5, rfl, hl5, hm5, hb⟩
  have HW5 := Keep.keep (HW4.out.trans (hb.mono HW4.out.size))
  have HA5 := Keep.keep (HA4.out.on hb)
  have HC5 := Keep.keep (HC4.out.on hb)
  have HRA5 := Keep.keep (HRA4.out.on hb)
  have HRN := Keep.keep (rnew_tr hm5 hl5 HSC.out (by have := HWB.out.2; omega) HWB.out.1)
  clear hb hl5 hm5 HA4 HC4 HRA4
  go_wp2_with fail
  refine HRN.out.mono ?_
  rintro e w6 ⟨Rb, rfl, hr, hb⟩
  have HW6 := Keep.keep (HW5.out.trans (hb.mono HW5.out.size))
  have HA6 := Keep.keep (HA5.out.on hb)
  have HC6 := Keep.keep (HC5.out.on hb)
  have HRA6 := Keep.keep (HRA5.out.on hb)
  have HRB6 := Keep.keep hr
  clear hb hr HRN HA5 HC5 HRA5
  go_wp2_with fail
  refine (copy_tr HA6.out (by have := HWA.out.2; omega)).mono ?_
  rintro e w7 ⟨Tc, rfl, ht, hb⟩
  have HW7 := Keep.keep (HW6.out.trans (hb.mono HW6.out.size))
  have HA7 := Keep.keep (HA6.out.on hb)
  have HC7 := Keep.keep (HC6.out.on hb)
  have HRA7 := Keep.keep (HRA6.out.on hb)
  have HRB7 := Keep.keep (HRB6.out.on hb)
  have HD7 := Keep.keep ht
  clear hb ht HA6 HC6 HRA6 HRB6
  go_wp2_with fail
  refine (copy_tr HC7.out (by have := HWB.out.2; omega)).mono ?_
  rintro e w8 ⟨Td, rfl, ht, hb⟩
  have HW8 := Keep.keep (HW7.out.trans (hb.mono HW7.out.size))
  have HA8 := Keep.keep (HA7.out.on hb)
  have HC8 := Keep.keep (HC7.out.on hb)
  have HRA8 := Keep.keep (HRA7.out.on hb)
  have HRB8 := Keep.keep (HRB7.out.on hb)
  have HD8 := Keep.keep (HD7.out.on hb)
  have HE8 := Keep.keep ht
  clear hb ht HA7 HC7 HRA7 HRB7 HD7
  go_wp2_with fail
  refine (Of_trO B (HT0.out w8 HW8.out) HWA.out.1 HWB.out.1 (by have := HWA.out.2; omega) (by have := HWB.out.2; omega) HA8.out HC8.out).mono ?_
  rintro e w9 ⟨v9, l9, rfl, ho, hp, hr, hb⟩
  have HB9 := Keep.keep hb
  have HIE := Keep.keep (insR_eq HWA.out.1 HWB.out.1 ho hp)
  have HLN : Keep (l9.length = (toldL A C).length) := ⟨by rw [← List.length_map (f := fun x : Mv => x.1)]; exact hp.length_eq⟩
  have HM9 : Keep (MbL w9 v9 l9) := ⟨MbL.ofRow hr.row⟩
  have HSP9 := Keep.keep (SpB.ofO hr)
  have HOWN : Keep (l9.length = 0 ∨ ∃ g, v9.ownBlock = some g) := ⟨by
    rcases hr.own.2 with ⟨_, h⟩ | ⟨g, cap, cur, h, _⟩
    · exact .inl h
    · exact .inr ⟨g, by rw [h]; rfl⟩⟩
  obtain ⟨a9, c9, hv9, hc9, hm9, -⟩ := (ownsV_reads hr.own).shape
  obtain ⟨n9, hn9⟩ : ∃ n, l9.length = n := ⟨_, rfl⟩
  have HN9 := Keep.keep hn9
  have hn9b : n9 ≤ 41 := by have := ho.le; rw [List.length_map, hn9] at this; have := HWB.out.2; omega
  rw [hn9] at hv9 hc9 HLN HOWN
  unfold maxLen at hm9
  clear ho hp hr hb hn9
  subst hv9
  have HRA9 := Keep.keep (HRA8.out.on HB9.out)
  have HRB9 := Keep.keep (HRB8.out.on HB9.out)
  go_wp2_with fail
  refine (rof_tr HWA.out.1 HWB.out.1 (by have := HWA.out.2; omega) (by have := HWB.out.2; omega) HRA9.out HRB9.out).mono ?_
  rintro e w10 ⟨a10, n10, c10, l10, rfl, hl10, hm10, hb⟩
  have HB10 := Keep.keep (HB9.out.trans (hb.mono HB9.out.size))
  have HB910 := Keep.keep hb
  have HM10 := Keep.keep hm10
  have HL10 : Keep (l10.map (·.1) = l9.map (·.1)) := ⟨by rw [hl10]; exact HIE.out⟩
  clear hb hl10 hm10 HRA9 HRB9
  go_wp2_with fail
  refine (cost_tr B (HT0.out w10 (HW8.out.trans (HB10.out.mono HW8.out.size))) HWA.out.1 HWB.out.1 (by have := HWA.out.2; omega) (by have := HWB.out.2; omega) (HA8.out.on HB10.out) (HC8.out.on HB10.out)).mono ?_
  rintro e w11 ⟨rfl, hb⟩
  rw [← HLN.out]
  have HB11 := Keep.keep (HB10.out.trans (hb.mono HB10.out.size))
  have HB911 := Keep.keep (HB910.out.trans (hb.mono HB910.out.size))
  have HM11 := Keep.keep (HM10.out.on hb)
  clear hb HM10
  obtain ⟨mn, hmn⟩ : ∃ k, min p0.length 300 = k := ⟨_, rfl⟩
  have hmn2 : min (p0.length : Int) 300 = (mn : Int) := by omega
  have hmn3 : mn ≤ 300 := by omega
  have hsl := run_slice_dt (P := Tryz.prog) Tryz.underlying9 p0 .i64 mn (by omega)
  obtain ⟨p, hp⟩ : ∃ p, p0.take mn = p := ⟨_, rfl⟩
  have hpl : p.length ≤ 300 := by rw [← hp, List.length_take]; omega
  rw [hp] at hsl
  have HWH := Keep.keep (fun wx => rwhite_any p (by omega) wx)
  have HOP := Keep.keep (fun wx => ropaq_any p (by omega) wx)
  have HDW : Keep (∀ wx, Below w.heap.size w wx → Calls Tryz.prog 17 #[.string ⟨p.toArray⟩] wx fun e w' => e = .returned (.agg (mbC (whM p) nilV nilV)) ∧ Below wx.heap.size wx w') := ⟨fun wx hb => dwhite_any p (by omega) B wx (Nat.le_trans HT.out.b hb.size) (HT.out.m.on (hb.mono HT.out.b))⟩
  have HDM : Keep (∀ wx, Below w.heap.size w wx → Calls Tryz.prog 16 #[.string ⟨p.toArray⟩] wx fun e w' => e = .returned (.agg (mbC (mkM p) nilV nilV)) ∧ Below wx.heap.size wx w') := ⟨fun wx hb => dmark_any p (by omega) B wx (Nat.le_trans HT.out.b hb.size) (HT.out.m.on (hb.mono HT.out.b))⟩
  have HS1 := Keep.keep (fun wx => rsign_any (whiteoutP p) wx)
  have HS2 := Keep.keep (fun wx => rsign_any (opaqueP p) wx)
  obtain ⟨qw, kw, hqw⟩ := signM_cells (whiteoutP p)
  obtain ⟨qm, km, hqm⟩ := signM_cells (opaqueP p)
  have HQW : Keep (mbC (whM p) nilV nilV = #[.string ⟨qw.toArray⟩, .int .i64 kw, .int .u32 0, .int .u32 0, .int .u32 0, .int .i64 0, .slice none 0 0, .slice none 0 0, .string ⟨#[]⟩]) := ⟨hqw⟩
  have HQM : Keep (mbC (mkM p) nilV nilV = #[.string ⟨qm.toArray⟩, .int .i64 km, .int .u32 0, .int .u32 0, .int .u32 0, .int .i64 0, .slice none 0 0, .slice none 0 0, .string ⟨#[]⟩]) := ⟨hqm⟩
  rw [hqw] at HS1
  rw [hqm] at HS2
  rw [HQW.out] at HDW
  rw [HQM.out] at HDM
  clear hqw hqm hmn hp hpl hmn3
  go_wp2_with fail
  clear hsl hmn2
  refine (HWH.out w11).mono ?_
  rintro e w12 ⟨rfl, hb⟩
  have HB12 := Keep.keep (HB11.out.trans (hb.mono HB11.out.size))
  have HB912 := Keep.keep (HB911.out.trans (hb.mono HB911.out.size))
  have HM12 := Keep.keep (HM11.out.on hb)
  clear hb HM11 HWH
  go_wp2_with fail
  refine (HS1.out w12).mono ?_
  rintro e w13 ⟨rfl, hb⟩
  have HB13 := Keep.keep (HB12.out.trans (hb.mono HB12.out.size))
  have HB913 := Keep.keep (HB912.out.trans (hb.mono HB912.out.size))
  have HM13 := Keep.keep (HM12.out.on hb)
  clear hb HM12 HS1
  go_wp2_with fail
  refine (HOP.out w13).mono ?_
  rintro e w14 ⟨rfl, hb⟩
  have HB14 := Keep.keep (HB13.out.trans (hb.mono HB13.out.size))
  have HB914 := Keep.keep (HB913.out.trans (hb.mono HB913.out.size))
  have HM14 := Keep.keep (HM13.out.on hb)
  clear hb HM13 HOP
  go_wp2_with fail
  refine (HS2.out w14).mono ?_
  rintro e w15 ⟨rfl, hb⟩
  have HB15 := Keep.keep (HB14.out.trans (hb.mono HB14.out.size))
  have HB915 := Keep.keep (HB914.out.trans (hb.mono HB914.out.size))
  have HM15 := Keep.keep (HM14.out.on hb)
  clear hb HM14 HS2 HB10 HB11 HB12 HB13 HB14 HB910 HB911 HB912 HB913 HB914
  have HZ : Keep ((#[.string ⟨#[]⟩, .int .i64 0, .int .u32 0, .int .u32 0, .int .u32 0, .int .i64 0, .slice none 0 0, .slice none 0 0, .string ⟨#[]⟩] : Array Value).size = 9) := ⟨rfl⟩
  go_upto_region 14 with fail
  obtain ⟨b21, hb21⟩ : ∃ b, w15.heap.size = b := ⟨_, rfl⟩
  obtain ⟨b22, hb22⟩ : ∃ b, b21 + 1 = b := ⟨_, rfl⟩
  refine wp_world (R := fun w16 => Hp NoM w15 w16 [rowA b21 41 (dtC qw kw), rowA b22 41 (dtC qm km)]) (by
    have := ((Hp.begin NoM w15).newRow 41 (dtC qw kw)).newRow' 41 (dtC qm km) _ b22 (by rw [← hb22, ← hb21]; simp) rfl
    rw [hb21] at this
    exact this) ?_
  intro w16 H16
  rw [hb21]
  have hb22' : b21 + 1 = b22 := hb22
  rw [hb22']
  have HB16 := Keep.keep H16.out.below
  have HR21 := Keep.keep (H16.out.row 0 rfl)
  have HR22 := Keep.keep (H16.out.row 1 rfl)
  clear H16 hb21 hb22 hb22'
  have HTA : Keep (toldL A C = toldL A C) := ⟨rfl⟩
  generalize hnn : l9.map (·.1) = K9 at *
  refine wp_region_spc [86, 87, 88, 89, 90, 91, 92, 93, 94, 95, 96, 97, 98, 99, 100, 101, 102, 103, 104, 105, 106, 107, 108, 109, 110, 111, 112, 113, 114, 115, 116, 117, 118] (Below w16.heap.size w16) (dtT n9 (.slice a9 n9 c9) (.slice a10 n10 c10) Ra Rb p (dtC qw kw) (dtC qm km) [whM p, mkM p]) (by kernel_rfl) rfl (by decide) (by show ∀ d ∈ _, d < 158; decide) (by kernel_rfl) (Below.refl _ _).drew (fun i v wx wy h _ hb => dtT_stays i v wx wy h hb) ?_ ?_
  · intro q hq a0 w7 hF hC hT
    have t16 : a0.eval (.tmp 16) = .int .i64 0 := (hF.same 16 (by decide)).trans rfl
    have t18 : a0.eval (.tmp 18) = .int .i64 0 := (hF.same 18 (by decide)).trans rfl
    have t15 : a0.eval (.tmp 15) = .slice a9 n9 c9 := (hF.same 15 (by decide)).trans rfl
    have t17 : a0.eval (.tmp 17) = .slice a10 n10 c10 := (hF.same 17 (by decide)).trans rfl
    have t20 : a0.eval (.tmp 20) = .int .i64 0 := (hF.same 20 (by decide)).trans rfl
    have t19 : a0.eval (.tmp 19) = .int .i64 (n9 : Int) := (hF.same 19 (by decide)).trans rfl
    have t9 : a0.eval (.tmp 9) = .pointer (some ⟨Ra, 0, none⟩) := (hF.same 9 (by decide)).trans rfl
    have t11 : a0.eval (.tmp 11) = .pointer (some ⟨Rb, 0, none⟩) := (hF.same 11 (by decide)).trans rfl
    have t2 : a0.eval (.tmp 2) = .string ⟨p.toArray⟩ := (hF.same 2 (by decide)).trans rfl
    have t21 : a0.eval (.tmp 21) = .pointer (some ⟨b21, 0, none⟩) := (hF.same 21 (by decide)).trans rfl
    have t22 : a0.eval (.tmp 22) = .pointer (some ⟨b22, 0, none⟩) := (hF.same 22 (by decide)).trans rfl
    have hkr : Below w7.heap.size w7 w7 := Below.refl _ _
    have h157 : Below w15.heap.size w15 w7 := HB16.out.trans (hC.mono HB16.out.size)
    have h97 := HB915.out.trans (h157.mono HB915.out.size)
    have h87 := HB15.out.trans (h157.mono HB15.out.size)
    have h07 := HW8.out.trans (h87.mono HW8.out.size)
    have hq' : q < 33 := hq
    rcases (by omega : q = 0 ∨ q = 1 ∨ q = 2 ∨ q = 3 ∨ q = 4 ∨ q = 5 ∨ q = 6 ∨ q = 7 ∨ q = 8 ∨ q = 9 ∨ q = 10 ∨ q = 11 ∨ q = 12 ∨ q = 13 ∨ q = 14 ∨ q = 15 ∨ q = 16 ∨ q = 17 ∨ q = 18 ∨ q = 19 ∨ q = 20 ∨ q = 21 ∨ q = 22 ∨ q = 23 ∨ q = 24 ∨ q = 25 ∨ q = 26 ∨ q = 27 ∨ q = 28 ∨ q = 29 ∨ q = 30 ∨ q = 31 ∨ q = 32) with rfl | rfl | rfl | rfl | rfl | rfl | rfl | rfl | rfl | rfl | rfl | rfl | rfl | rfl | rfl | rfl | rfl | rfl | rfl | rfl | rfl | rfl | rfl | rfl | rfl | rfl | rfl | rfl | rfl | rfl | rfl | rfl | rfl
    · exact spc_val (d := 86) rfl (wanted_none rfl) run_move hC hkr t16
    · exact spc_val (d := 87) rfl (wanted_none rfl) run_move hC hkr t18
    · have h0 : a0.eval (.tmp 86) = .int .i64 0 := hT 0 (by kernel_rfl)
      have h1 : a0.eval (.tmp 87) = .int .i64 0 := hT 1 (by kernel_rfl)
      exact spc_val (d := 88) (v := .bool false) rfl (wanted_none rfl) (run_neI h0 h1 (by simp)) hC hkr rfl
    · exact spc_val (d := 89) rfl (wanted_none rfl) run_move hC hkr (hT 2 (by kernel_rfl))
    · exact spc_val (d := 90) rfl (wanted_of (g := 3) (d := 89) rfl rfl (hT 3 (by kernel_rfl))) run_move hC hkr t15
    · exact spc_val (d := 91) rfl (wanted_of (g := 3) (d := 89) rfl rfl (hT 3 (by kernel_rfl))) run_move hC hkr t17
    · have hx : a0.eval (.tmp 90) = .slice a9 n9 c9 := hT 4 (by kernel_rfl)
      have hy : a0.eval (.tmp 91) = .slice a10 n10 c10 := hT 5 (by kernel_rfl)
      refine spc_call (d := 92) (vs := #[.slice a9 n9 c9, .slice a10 n10 c10]) rfl (wanted_of (g := 3) (d := 89) rfl rfl (hT 3 (by kernel_rfl))) (Go.Proofs.enters_of Tryz.func32 (by kernel_rfl) rfl) (by simp [hx, hy]) ?_
      refine (alike_any _ _ l9 l10 w7 (HM9.out.on h97) (HM15.out.on h157)).mono ?_
      rintro e wz ⟨⟨r, rfl, hr⟩, hb⟩
      obtain rfl : r = true := hr.2 (by rw [HL10.out, hnn])
      exact ⟨_, rfl, hC.trans (hb.mono hC.size), hb, rfl⟩
    · have h0 : a0.eval (.tmp 92) = .bool true := hT 6 (by kernel_rfl)
      exact spc_val (d := 93) (v := .bool false) rfl (wanted_of (g := 3) (d := 89) rfl rfl (hT 3 (by kernel_rfl))) (run_notT h0) hC hkr rfl
    · exact spc_val (d := 94) rfl (wanted_none rfl) (run_pickF (hT 3 (by kernel_rfl))) hC hkr (show slot a0 93 = _ from (hT 7 (by kernel_rfl)))
    · exact spc_val (d := 95) rfl (wanted_none rfl) run_move hC hkr (hT 8 (by kernel_rfl))
    · exact spc_val (d := 96) rfl (wanted_of (g := 9) (d := 95) rfl rfl (hT 9 (by kernel_rfl))) run_move hC hkr t20
    · have h0 : a0.eval (.tmp 96) = .int .i64 0 := hT 10 (by kernel_rfl)
      exact spc_val (d := 97) (v := .bool false) rfl (wanted_of (g := 9) (d := 95) rfl rfl (hT 9 (by kernel_rfl))) (run_neI h0 (show _ = Value.int .i64 0 from rfl) (by simp)) hC hkr rfl
    · exact spc_val (d := 98) rfl (wanted_none rfl) (run_pickF (hT 9 (by kernel_rfl))) hC hkr (show slot a0 97 = _ from (hT 11 (by kernel_rfl)))
    · exact spc_val (d := 99) rfl (wanted_none rfl) run_move hC hkr (hT 12 (by kernel_rfl))
    · exact spc_val (d := 100) rfl (wanted_of (g := 13) (d := 99) rfl rfl (hT 13 (by kernel_rfl))) run_move hC hkr t19
    · exact spc_val (d := 101) rfl (wanted_of (g := 13) (d := 99) rfl rfl (hT 13 (by kernel_rfl))) run_move hC hkr t9
    · exact spc_val (d := 102) rfl (wanted_of (g := 13) (d := 99) rfl rfl (hT 13 (by kernel_rfl))) run_move hC hkr t11
    · have hx : a0.eval (.tmp 101) = .pointer (some ⟨Ra, 0, none⟩) := hT 15 (by kernel_rfl)
      have hy : a0.eval (.tmp 102) = .pointer (some ⟨Rb, 0, none⟩) := hT 16 (by kernel_rfl)
      refine spc_call (d := 103) (vs := #[.pointer (some ⟨Ra, 0, none⟩), .pointer (some ⟨Rb, 0, none⟩), .string ⟨#[]⟩]) rfl (wanted_of (g := 13) (d := 99) rfl rfl (hT 13 (by kernel_rfl))) (Go.Proofs.enters_of Tryz.func33 (by kernel_rfl) rfl) (by simp [hx, hy]; rfl) ?_
      refine (rtold_tr HWA.out.1 HWB.out.1 (by have := HWA.out.2; omega) (by have := HWB.out.2; omega) (HRA8.out.on h87) (HRB8.out.on h87)).mono ?_
      rintro e wz ⟨a, c, rfl, hb⟩
      exact ⟨_, rfl, hC.trans (hb.mono hC.size), hb, a, c, by rw [← HLN.out]⟩
    · obtain ⟨a, c, hx⟩ : ∃ a c, a0.eval (.tmp 103) = .slice a n9 c := hT 17 (by kernel_rfl)
      exact spc_val (d := 104) rfl (wanted_of (g := 13) (d := 99) rfl rfl (hT 13 (by kernel_rfl))) (run_lenSl Tryz.underlying23 hx) hC hkr rfl
    · have h0 : a0.eval (.tmp 100) = .int .i64 (n9 : Int) := hT 14 (by kernel_rfl)
      have h1 : a0.eval (.tmp 104) = .int .i64 (n9 : Int) := hT 18 (by kernel_rfl)
      exact spc_val (d := 105) (v := .bool false) rfl (wanted_of (g := 13) (d := 99) rfl rfl (hT 13 (by kernel_rfl))) (run_neI h0 h1 (by simp)) hC hkr rfl
    · exact spc_val (d := 106) rfl (wanted_none rfl) (run_pickF (hT 13 (by kernel_rfl))) hC hkr (show slot a0 105 = _ from (hT 19 (by kernel_rfl)))
    · exact spc_val (d := 107) rfl (wanted_none rfl) run_move hC hkr (hT 20 (by kernel_rfl))
    · exact spc_val (d := 108) rfl (wanted_of (g := 21) (d := 107) rfl rfl (hT 21 (by kernel_rfl))) run_move hC hkr t2
    · have hx : a0.eval (.tmp 108) = .string ⟨p.toArray⟩ := hT 22 (by kernel_rfl)
      refine spc_call (d := 109) (vs := #[.string ⟨p.toArray⟩]) rfl (wanted_of (g := 21) (d := 107) rfl rfl (hT 21 (by kernel_rfl))) (Go.Proofs.enters_of Tryz.func17 (by kernel_rfl) rfl) (by simp [hx]) ?_
      refine (HDW.out w7 h07).mono ?_
      rintro e wz ⟨rfl, hb⟩
      exact ⟨_, rfl, hC.trans (hb.mono hC.size), hb, rfl⟩
    · exact spc_val (d := 110) rfl (wanted_of (g := 21) (d := 107) rfl rfl (hT 21 (by kernel_rfl))) run_move hC hkr t2
    · have hx : a0.eval (.tmp 110) = .string ⟨p.toArray⟩ := hT 24 (by kernel_rfl)
      refine spc_call (d := 111) (vs := #[.string ⟨p.toArray⟩]) rfl (wanted_of (g := 21) (d := 107) rfl rfl (hT 21 (by kernel_rfl))) (Go.Proofs.enters_of Tryz.func16 (by kernel_rfl) rfl) (by simp [hx]) ?_
      refine (HDM.out w7 h07).mono ?_
      rintro e wz ⟨rfl, hb⟩
      exact ⟨_, rfl, hC.trans (hb.mono hC.size), hb, rfl⟩
    · have hx : a0.eval (.tmp 109) = .agg (dtC qw kw) := hT 23 (by kernel_rfl)
      have hy : a0.eval (.tmp 111) = .agg (dtC qm km) := hT 25 (by kernel_rfl)
      have hal : Below w7.heap.size w7 (w7.alloc (.cells (dtC qw kw ++ dtC qm km) 41)) := (Below.refl _ _).alloc (Nat.le_refl _) _
      have hmp := mb_pair (w := w7) (x := whM p) (y := mkM p) (sign_bareD _) (sign_bareD _)
      rw [dt_cells HQW.out HQM.out] at hmp
      exact spc_val (d := 112) rfl (wanted_of (g := 21) (d := 107) rfl rfl (hT 21 (by kernel_rfl))) (run_build2 hx hy) (hC.trans (hal.mono hC.size)) hal ⟨_, hmp, rfl⟩
    · exact spc_val (d := 113) rfl (wanted_of (g := 21) (d := 107) rfl rfl (hT 21 (by kernel_rfl))) (run_loadRowG (HR21.out.below hC HR21.out.lt) aggM rfl t21) hC hkr rfl
    · exact spc_val (d := 114) rfl (wanted_of (g := 21) (d := 107) rfl rfl (hT 21 (by kernel_rfl))) (run_loadRowG (HR22.out.below hC HR22.out.lt) aggM rfl t22) hC hkr rfl
    · have hx : a0.eval (.tmp 113) = .agg (dtC qw kw) := hT 27 (by kernel_rfl)
      have hy : a0.eval (.tmp 114) = .agg (dtC qm km) := hT 28 (by kernel_rfl)
      have hal : Below w7.heap.size w7 (w7.alloc (.cells (dtC qw kw ++ dtC qm km) 41)) := (Below.refl _ _).alloc (Nat.le_refl _) _
      have hmp := mb_pair (w := w7) (x := whM p) (y := mkM p) (sign_bareD _) (sign_bareD _)
      rw [dt_cells HQW.out HQM.out] at hmp
      exact spc_val (d := 115) rfl (wanted_of (g := 21) (d := 107) rfl rfl (hT 21 (by kernel_rfl))) (run_build2 hx hy) (hC.trans (hal.mono hC.size)) hal ⟨_, hmp, rfl⟩
    · obtain ⟨k1, hm1, hk1⟩ : ∃ l : List Mv, MbL w7 (a0.eval (.tmp 112)) l ∧ l.map (·.1) = [whM p, mkM p] := hT 26 (by kernel_rfl)
      obtain ⟨k2, hm2, hk2⟩ : ∃ l : List Mv, MbL w7 (a0.eval (.tmp 115)) l ∧ l.map (·.1) = [whM p, mkM p] := hT 29 (by kernel_rfl)
      refine spc_call (d := 116) (vs := #[a0.eval (.tmp 112), a0.eval (.tmp 115)]) rfl (wanted_of (g := 21) (d := 107) rfl rfl (hT 21 (by kernel_rfl))) (Go.Proofs.enters_of Tryz.func32 (by kernel_rfl) rfl) (by simp) ?_
      refine (alike_any _ _ k1 k2 w7 hm1 hm2).mono ?_
      rintro e wz ⟨⟨r, rfl, hr⟩, hb⟩
      obtain rfl : r = true := hr.2 (by rw [hk1, hk2])
      exact ⟨_, rfl, hC.trans (hb.mono hC.size), hb, rfl⟩
    · have h0 : a0.eval (.tmp 116) = .bool true := hT 30 (by kernel_rfl)
      exact spc_val (d := 117) (v := .bool false) rfl (wanted_of (g := 21) (d := 107) rfl rfl (hT 21 (by kernel_rfl))) (run_notT h0) hC hkr rfl
    · exact spc_val (d := 118) rfl (wanted_none rfl) (run_pickF (hT 21 (by kernel_rfl))) hC hkr (show slot a0 117 = _ from (hT 31 (by kernel_rfl)))
  · intro a0 w17 ha hC hT
    have t118 : slot a0 118 = .bool false := hT 32 (by show 32 < 33; decide)
    simp only [List.foldl_cons, List.foldl_nil, t118] at ha
    have HB17 := Keep.keep (HB915.out.trans ((HB16.out.trans (hC.mono HB16.out.size)).mono HB915.out.size))
    clear hT t118 hC HB16 HR21 HR22 HQW HQM HDW HDM
    generalize slot a0 86 = y86 at *
    generalize slot a0 87 = y87 at *
    generalize slot a0 88 = y88 at *
    generalize slot a0 89 = y89 at *
    generalize slot a0 90 = y90 at *
    generalize slot a0 91 = y91 at *
    generalize slot a0 92 = y92 at *
    generalize slot a0 93 = y93 at *
    generalize slot a0 94 = y94 at *
    generalize slot a0 95 = y95 at *
    generalize slot a0 96 = y96 at *
    generalize slot a0 97 = y97 at *
    generalize slot a0 98 = y98 at *
    generalize slot a0 99 = y99 at *
    generalize slot a0 100 = y100 at *
    generalize slot a0 101 = y101 at *
    generalize slot a0 102 = y102 at *
    generalize slot a0 103 = y103 at *
    generalize slot a0 104 = y104 at *
    generalize slot a0 105 = y105 at *
    generalize slot a0 106 = y106 at *
    generalize slot a0 107 = y107 at *
    generalize slot a0 108 = y108 at *
    generalize slot a0 109 = y109 at *
    generalize slot a0 110 = y110 at *
    generalize slot a0 111 = y111 at *
    generalize slot a0 112 = y112 at *
    generalize slot a0 113 = y113 at *
    generalize slot a0 114 = y114 at *
    generalize slot a0 115 = y115 at *
    generalize slot a0 116 = y116 at *
    generalize slot a0 117 = y117 at *
    subst ha
    simp only [Act.put, List.setIfInBounds_toArray, List.set_cons_succ, List.set_cons_zero]
    have HS0 := Keep.keep (HSP9.out.below HB17.out)
    have HBX0 : Keep (Below w8.heap.size w8 w17) := ⟨HB9.out.trans (HB17.out.mono HB9.out.size)⟩
    have HSH : Keep (∀ x ∈ l9, ∃ ad cd, x.2.2 = .slice ad x.1.2.data.length cd ∧ x.1.2.data.length ≤ cd ∧ cd ≤ maxLen ∧ (cd = 0 ∨ ∃ b off, ad = some ⟨b, off, none⟩)) := ⟨fun x hx => by
      obtain ⟨ad, cd, e, h1, h2, h3⟩ := (HM9.out.nd x hx).dt.shape
      exact ⟨ad, cd, e, h1, h2, h3.imp id (fun ⟨b, off, h, _⟩ => ⟨b, off, h⟩)⟩⟩
    clear HSP9 HB17 HM9 HM15 HB15 HB915 HIE HL10 HLN
    go_wp2_with fail
    go_loopg [23, 24] n9 (fun g u23 _ wx => ∃ i : Nat, i + g = n9 ∧ u23 = .int .i64 (i : Int) ∧ SpB w8.heap.size wx (.slice a9 n9 c9) l9 ∧ Below w8.heap.size w8 wx)
    case atStart => exact ⟨0, by omega, rfl, HS0.out, HBX0.out⟩
    case round =>
      obtain ⟨i, hig, rfl, hsp, hbx⟩ := hrel
      have HSP := Keep.keep hsp; have HBX := Keep.keep hbx
      clear hsp hbx HS0 HBX0
      cases gk with
      | zero =>
        obtain rfl : i = n9 := by omega
        have hd : decide ((i : Int) < (i : Int)) = false := decide_eq_false (by omega)
        clear HSH HOWN
        go_wp2_with fail
        refine (same_tr (HA8.out.on HBX.out) (HD8.out.on HBX.out) (by have := HWA.out.2; omega) rfl).mono ?_
        rintro e w18 ⟨rfl, hb⟩
        have HB18 := Keep.keep (HBX.out.trans (hb.mono HBX.out.size))
        clear hb
        go_wp2_with fail
        refine (same_tr (HC8.out.on HB18.out) (HE8.out.on HB18.out) (by have := HWB.out.2; omega) rfl).mono ?_
        rintro e w19 ⟨rfl, hb⟩
        have HB19 := Keep.keep (HB18.out.trans (hb.mono HB18.out.size))
        clear hb
        go_wp2_with fail
        refine (dtells_any B _ (HT0.out w19 (HW8.out.trans (HB19.out.mono HW8.out.size)))).mono ?_
        rintro e w20 ⟨rfl, hb⟩
        have HB20 := Keep.keep (HB19.out.trans (hb.mono HB19.out.size))
        clear hb
        go_wp2_with fail
        go_ret
        exact ⟨rfl, HW8.out.trans (HB20.out.mono HW8.out.size)⟩
      | succ gn =>
        have hi : i < n9 := by omega
        have hil : i < l9.length := by rw [HN9.out]; exact hi
        have hd : decide ((i : Int) < (n9 : Int)) = true := decide_eq_true (by omega)
        have hgo : ∃ g, a9 = some ⟨g, 0, none⟩ := by
          rcases HSP.out.own.2 with ⟨_, h0⟩ | ⟨g, cap', cur, h, _⟩
          · rw [HN9.out] at h0; omega
          · injection h with h; exact ⟨g, h⟩
        obtain ⟨g, rfl⟩ := hgo
        obtain ⟨ad, cd, e2, k1, m2, k3⟩ := HSH.out _ (List.getElem_mem hil)
        have HC : Keep (∀ wx, SpB w8.heap.size wx (.slice (some ⟨g, 0, none⟩) n9 c9) l9 → wx.cell? ⟨g, i * 9 + 7, none⟩ = some l9[i].2.2) := ⟨fun wx h => by
          have hr := ownsV_reads h.own
          rw [HN9.out] at hr
          have h7 := hr.cell g 0 _ _ rfl (i * 9 + 7) l9[i].2.2 (by rw [mcells_get l9 i 7 hil (by omega)]; rfl)
          rw [Nat.zero_add] at h7
          exact h7⟩
        have HTB : Keep (∀ wx, SpB w8.heap.size wx (.slice (some ⟨g, 0, none⟩) n9 c9) l9 → DtB wx w8.heap.size (.slice (some ⟨g, 0, none⟩) n9 c9) l9[i].2.2 l9[i].1.2.data.length) := ⟨fun wx h => h.b _ (List.getElem_mem hil)⟩
        rw [e2] at HC HTB
        clear e2
        unfold maxLen at m2
        generalize l9[i].1.2.data.length = dl at *
        have K3 := Keep.keep k3
        clear k3 hil
        go_wp2_with fail
        go_loopg [24] dl (fun g2 u24 wx => ∃ k : Nat, k + g2 = dl ∧ u24 = .int .i64 (k : Int) ∧ SpB w8.heap.size wx (.slice (some ⟨g, 0, none⟩) n9 c9) l9 ∧ Below w8.heap.size w8 wx)
        case atStart => exact ⟨0, by omega, rfl, HSP.out, HBX.out⟩
        case round =>
          obtain ⟨k, hkg, rfl, hsp, hbx⟩ := hrel
          have HSP2 := Keep.keep hsp; have HBX2 := Keep.keep hbx
          have c7 := HC.out _ hsp
          clear hsp hbx HSP HBX
          cases gk with
          | zero =>
            obtain rfl : k = dl := by omega
            have hdk : decide ((k : Int) < (k : Int)) = false := decide_eq_false (by omega)
            clear HTB
            go_wp2_with fail
            go_roundg gn
            case measure => omega
            case rel => exact ⟨i + 1, by omega, by simp, HSP2.out, HBX2.out⟩
          | succ gm =>
            have hk : k < dl := by omega
            have hdk : decide ((k : Int) < (dl : Int)) = true := decide_eq_true (by omega)
            obtain ⟨b, off, rfl⟩ : ∃ b off, ad = some ⟨b, off, none⟩ := by
              rcases K3.out with h | h
              · omega
              · exact h
            obtain ⟨hB, hne, cs, hrow, hck⟩ := HTB.out _ HSP2.out b off _ _ rfl
            obtain ⟨z, hz⟩ := hck k hk
            have cz := hrow.cell hz
            have fz := hrow.frozen (off + k)
            have HROW := Keep.keep hrow
            have HNE := Keep.keep hne
            clear hrow hck hz hne
            go_wp2_with fail
            go_roundg gm
            case measure => omega
            case rel => exact ⟨k + 1, by omega, by simp, HSP2.out.set HROW.out HNE.out, ((Chg.of_below (M := NoM) HBX2.out).setCell (p := ⟨b, off + k, none⟩) (.inl hB) _).below (fun _ _ h => h)⟩
end Go.Proofs.YtmnknmpfkjhgbaaGreatDoor
/- ARGUMENTS WITH SLICES WITHIN SLICES, OPENED: what lies deeper has no word of its own on its blocks; its cells tell them. -/
namespace Go.Proofs.YtmnknmpfkjhgbaaGreatDoor
open Go.ChangeShapes Go.WideShapes Go.ChangeAt Go.RowKit
theorem cell_spot {w : World} {a : Addr} {v : Value} (h : w.cell? a = some v) : a.spot = none ∧ a.block < w.heap.size := by
  unfold World.cell? at h
  split at h
  · rename_i c e fr hb
    split at h
    · cases h
    · rename_i hs
      exact ⟨by simpa using hs, (Array.getElem?_eq_some_iff.1 hb).1⟩
  · cases h
/-- a []byte that lies anywhere within an argument -/
theorem reads_of_trod {P : Program} {H : Type} {enc : TypeId × Value → H} {t e : TypeId} {held : Bool} {fuel : Nat} (ht : P.underlying t = some (.slice e)) (he : P.underlying e = some (.int .u8)) (hc : P.cellsOf e = 1) {W : World} {v : Value} {x : DataW H × List MemPlace}
    (hf : DataW.trod enc P W 0 (fun _ => true) held fuel t [v] = some x) : ∃ l, Reads W (fun b => b < W.heap.size) v l := by
  rcases open_ints ht he hc hf with ⟨hcs, hx⟩ | ⟨⟨b, off, sp⟩, len, cap, zs, hcs, _, hl, hm, hz, hx, hcell, hwz⟩
  · injection hcs with hcs _
    subst hcs
    exact ⟨[], Reads.ofNil⟩
  · injection hcs with hcs _
    subst hcs
    simp only [if_true] at hz
    have hsp : cap = 0 ∨ (sp = none ∧ b < W.heap.size) := by
      rcases Nat.eq_zero_or_pos cap with h | h
      · exact .inl h
      · have := cell_spot (hcell 0 (by omega))
        exact .inr this
    refine ⟨(zs.take len).map fun x => UInt8.ofNat x.toNat, ⟨some ⟨b, off, sp⟩, cap, ?_, ?_, hm, ?_⟩, fun b' off' n' c' he' j hj => ?_⟩
    · congr 1; simp; omega
    · simp; omega
    · rcases hsp with h | ⟨rfl, h⟩
      · exact .inl h
      · exact .inr ⟨b, off, rfl, h⟩
    · injection he' with e1 _ _; injection e1 with e1; injection e1 with e1 e2 e3; subst e1 e2 e3
      have hj' : j < len := by simp at hj; omega
      have hjz : j < zs.length := by omega
      have hc := hcell j hjz
      rw [Addr.add_mid] at hc
      rw [hc]
      have hw := hwz _ (List.getElem_mem hjz)
      have hm1 : IntKind.u8.min = 0 := rfl
      have hm2 : IntKind.u8.max = 255 := rfl
      simp only [Lit.wf, Bool.and_eq_true, decide_eq_true_eq, hm1, hm2] at hw
      simp only [List.getElem_map, List.getElem_take, List.getD_eq_getElem?_getD, List.getElem?_eq_getElem hjz, Option.getD_some, UInt8.toNat_ofNat']
      congr 2
      omega
end Go.Proofs.YtmnknmpfkjhgbaaGreatDoor
/- ARGUMENTS THAT ARE SLICES OF MEMBERS, OR OF ACTS, OPENED. -/
namespace Go.Proofs.YtmnknmpfkjhgbaaGreatDoor
open Go.ChangeShapes Go.WideShapes Go.ChangeAt Go.RowKit
section
variable {H : Type} {enc : TypeId × Value → H} {W : World} {fuel : Nat} {x : DataW H × List MemPlace}
theorem str_of_trod {v : Value} (h : DataW.trod enc Tryz.prog W 0 (fun _ => true) true fuel 9 [v] = some x) : ∃ l : Tx, v = strV l ∧ l.length ≤ maxLen := by
  obtain ⟨⟨⟨l⟩⟩, e, _, hm⟩ := DataW.trod_string Tryz.underlying9 h
  injection e with e _
  exact ⟨l, e, hm⟩
theorem attrs_of_trod {v : Value} (hf : DataW.trod enc Tryz.prog W 0 (fun _ => true) true fuel 36 [v] = some x) : ∃ l : List R2, RdV W (· < W.heap.size) 2 v l.length (rcells l) := by
  rcases Deep.open_slice_pairs Tryz.underlying36 Tryz.underlying92 (by kernel_rfl) rfl rfl (by kernel_rfl) (by kernel_rfl) hf with ⟨hcs, _⟩ | ⟨⟨b, off, sp⟩, len, cap, m, n, V0, V1, D0, D1, P0, P1, hcs, _, hl, hm, hmm, _, hx⟩
  · injection hcs with hcs _
    subst hcs
    exact ⟨[], RdV.ofNil⟩
  · injection hcs with hcs _
    subst hcs
    simp only [if_true] at hmm
    have hsp : cap = 0 ∨ (sp = none ∧ b < W.heap.size) := by
      rcases Nat.eq_zero_or_pos cap with h | h
      · exact .inl h
      · exact .inr (cell_spot (hx 0 (by omega)).1)
    have key : ∀ i, i < m → ∃ q : R2, V0 i = strV q.1 ∧ V1 i = strV q.2 := fun i hi => by
      obtain ⟨_, _, t0, t1⟩ := hx i hi
      obtain ⟨l0, e0, _⟩ := str_of_trod t0
      obtain ⟨l1, e1, _⟩ := str_of_trod t1
      exact ⟨(l0, l1), e0, e1⟩
    obtain ⟨q, hq⟩ := Deep.choose_lt (α := R2) key
    have hll : ((List.range len).map q).length = len := by simp
    refine ⟨(List.range len).map q, rcells_length _, ⟨_, cap, by rw [hll], by omega, hm, ?_⟩, ?_⟩
    · rcases hsp with h | ⟨rfl, h⟩
      · exact .inl h
      · exact .inr ⟨b, off, rfl, h⟩
    · intro b' off' m' c' he j u hu
      injection he with e1 _ _; injection e1 with e1; injection e1 with e1 e2 e3; subst e1 e2 e3
      have hj := (List.getElem?_eq_some_iff.1 hu).1
      rw [rcells_length, hll] at hj
      obtain ⟨i, hi⟩ : ∃ i, i = j / 2 := ⟨_, rfl⟩
      have hil : i < len := by omega
      have hrg := rcells_get ((List.range len).map q) i (by rw [hll]; exact hil)
      have hqi : ((List.range len).map q)[i]'(by rw [hll]; exact hil) = q i := by simp
      rw [hqi] at hrg
      obtain ⟨k0, k1, _, _⟩ := hx i (by omega)
      obtain ⟨s0, s1⟩ := hq i (by omega)
      rw [Addr.add_mid] at k0 k1
      rcases (by omega : j = i * 2 ∨ j = i * 2 + 1) with rfl | rfl
      · rw [hrg.1] at hu; injection hu with hu
        rw [k0, s0, hu]
      · rw [hrg.2] at hu; injection hu with hu
        rw [← Nat.add_assoc, ← hu, ← s1]
        rw [← Nat.add_assoc] at k1
        exact k1
theorem cOne : Tryz.prog.cellsOf 3 = 1 ∧ Tryz.prog.cellsOf 35 = 1 ∧ Tryz.prog.cellsOf 2 = 1 ∧ Tryz.prog.cellsOf 36 = 1 ∧ Tryz.prog.cellsOf 37 = 1 ∧ Tryz.prog.cellsOf 9 = 1 ∧ Tryz.prog.cellsOf 4 = 1 ∧ Tryz.prog.cellsOf 39 = 8 ∧ Tryz.prog.cellsOf 41 = 9 ∧ Tryz.prog.cellsOf 70 = 10 := ⟨by kernel_rfl, by kernel_rfl, by kernel_rfl, by kernel_rfl, by kernel_rfl, by kernel_rfl, by kernel_rfl, by kernel_rfl, by kernel_rfl, by kernel_rfl⟩
set_option maxRecDepth 100000 in
theorem node_of_trod {cs : List Value} (hf : DataW.trod enc Tryz.prog W 0 (fun _ => true) true fuel 39 cs = some x) :
    ∃ n av dv, cs = (ndC n av dv).toList ∧ NdR W (· < W.heap.size) n av dv ∧ -9223372036854775808 ≤ n.kind ∧ n.kind ≤ 9223372036854775807 := by
  obtain ⟨xs, k, -, -, hlen, hxs, hg⟩ := DataW.trod_struct Tryz.underlying39 hf
  obtain ⟨c1, c2, c3, c4, c5, c6, c7, c8, -, -⟩ := cOne
  rw [c8] at hlen
  obtain ⟨v0, v1, v2, v3, v4, v5, v6, v7, rfl⟩ : ∃ v0 v1 v2 v3 v4 v5 v6 v7, cs = [v0, v1, v2, v3, v4, v5, v6, v7] := by
    match cs, hlen with
    | [v0, v1, v2, v3, v4, v5, v6, v7], _ => exact ⟨v0, v1, v2, v3, v4, v5, v6, v7, rfl⟩
  obtain ⟨y0, y1, y2, y3, y4, y5, y6, y7, rfl⟩ : ∃ y0 y1 y2 y3 y4 y5 y6 y7, xs = [y0, y1, y2, y3, y4, y5, y6, y7] := by
    match xs, hxs with
    | [v0, v1, v2, v3, v4, v5, v6, v7], _ => exact ⟨v0, v1, v2, v3, v4, v5, v6, v7, rfl⟩
  have g0 := hg 0 _ rfl
  have g1 := hg 1 _ rfl
  have g2 := hg 2 _ rfl
  have g3 := hg 3 _ rfl
  have g4 := hg 4 _ rfl
  have g5 := hg 5 _ rfl
  have g6 := hg 6 _ rfl
  have g7 := hg 7 _ rfl
  simp only [List.getElem?_cons_zero, List.getElem?_cons_succ] at g0 g1 g2 g3 g4 g5 g6 g7
  obtain ⟨n0, h0, _, w0⟩ := DataW.trod_int Tryz.underlying3 g0
  obtain ⟨n1, h1, _, _⟩ := DataW.trod_int Tryz.underlying35 g1
  obtain ⟨n2, h2, _, _⟩ := DataW.trod_int Tryz.underlying35 g2
  obtain ⟨n3, h3, _, _⟩ := DataW.trod_int Tryz.underlying35 g3
  obtain ⟨n4, h4, _, _⟩ := DataW.trod_int Tryz.underlying2 g4
  obtain ⟨l5, h5⟩ := attrs_of_trod g5
  obtain ⟨l6, h6⟩ := reads_of_trod Tryz.underlying37 Tryz.underlying5 (by kernel_rfl) g6
  obtain ⟨l7, h7, _⟩ := str_of_trod g7
  injection h0 with h0 _; injection h1 with h1 _; injection h2 with h2 _; injection h3 with h3 _; injection h4 with h4 _
  subst h0 h1 h2 h3 h4 h7
  have hm1 : IntKind.i64.min = -9223372036854775808 := rfl
  have hm2 : IntKind.i64.max = 9223372036854775807 := rfl
  simp only [Lit.wf, Bool.and_eq_true, decide_eq_true_eq, hm1, hm2] at w0
  exact ⟨⟨n0, n1, n2, n3, n4, l5, l6, l7⟩, v5, v6, rfl, ⟨h5, h6⟩, by exact w0⟩
set_option maxRecDepth 100000 in
theorem mb_of_trod {cs : List Value} (hf : DataW.trod enc Tryz.prog W 0 (fun _ => true) true fuel 41 cs = some x) :
    ∃ y : Mv, cs = (mcell y).toList ∧ NdR W (· < W.heap.size) y.1.2 y.2.1 y.2.2 ∧ Kb y.1 := by
  obtain ⟨xs, k, -, -, hlen, hxs, hg⟩ := DataW.trod_struct Tryz.underlying41 hf
  obtain ⟨c1, c2, c3, c4, c5, c6, c7, c8, c9, -⟩ := cOne
  rw [c9] at hlen
  obtain ⟨v0, v1, v2, v3, v4, v5, v6, v7, v8, rfl⟩ : ∃ v0 v1 v2 v3 v4 v5 v6 v7 v8, cs = [v0, v1, v2, v3, v4, v5, v6, v7, v8] := by
    match cs, hlen with
    | [v0, v1, v2, v3, v4, v5, v6, v7, v8], _ => exact ⟨v0, v1, v2, v3, v4, v5, v6, v7, v8, rfl⟩
  obtain ⟨y0, y1, rfl⟩ : ∃ y0 y1, xs = [y0, y1] := by
    match xs, hxs with
    | [v0, v1], _ => exact ⟨v0, v1, rfl⟩
  have g0 := hg 0 _ rfl
  have g1 := hg 1 _ rfl
  simp only [List.getElem_toArray, List.getElem_cons_succ, List.getElem_cons_zero, c6, c8, List.drop_succ_cons, List.drop_zero, List.take_succ_cons, List.take_zero, List.getElem?_cons_zero, List.getElem?_cons_succ] at g0 g1
  obtain ⟨l0, h0, _⟩ := str_of_trod g0
  obtain ⟨n, av, dv, h1, h2, h3⟩ := node_of_trod g1
  subst h0
  refine ⟨((l0, n), av, dv), ?_, h2, h3⟩
  rw [h1]; rfl
set_option maxRecDepth 100000 in
theorem act_of_trod {cs : List Value} (hf : DataW.trod enc Tryz.prog W 0 (fun _ => true) true fuel 70 cs = some x) :
    ∃ y : Av, cs = acell y ∧ NdR W (· < W.heap.size) y.2.1.2 y.2.2.1 y.2.2.2 ∧ Kb y.2.1 := by
  obtain ⟨xs, k, -, -, hlen, hxs, hg⟩ := DataW.trod_struct Tryz.underlying70 hf
  obtain ⟨c1, c2, c3, c4, c5, c6, c7, c8, c9, c10⟩ := cOne
  rw [c10] at hlen
  obtain ⟨v0, v1, v2, v3, v4, v5, v6, v7, v8, v9, rfl⟩ : ∃ v0 v1 v2 v3 v4 v5 v6 v7 v8 v9, cs = [v0, v1, v2, v3, v4, v5, v6, v7, v8, v9] := by
    match cs, hlen with
    | [v0, v1, v2, v3, v4, v5, v6, v7, v8, v9], _ => exact ⟨v0, v1, v2, v3, v4, v5, v6, v7, v8, v9, rfl⟩
  obtain ⟨y0, y1, rfl⟩ : ∃ y0 y1, xs = [y0, y1] := by
    match xs, hxs with
    | [v0, v1], _ => exact ⟨v0, v1, rfl⟩
  have g0 := hg 0 _ rfl
  have g1 := hg 1 _ rfl
  simp only [List.getElem_toArray, List.getElem_cons_succ, List.getElem_cons_zero, c7, c9, List.drop_succ_cons, List.drop_zero, List.take_succ_cons, List.take_zero, List.getElem?_cons_zero, List.getElem?_cons_succ] at g0 g1
  obtain ⟨b0, h0, _⟩ := DataW.trod_bool Tryz.underlying4 g0
  obtain ⟨y, h1, h2, h3⟩ := mb_of_trod g1
  injection h0 with h0 _
  subst h0
  refine ⟨(b0, y), ?_, h2, h3⟩
  rw [h1]; rfl
set_option maxRecDepth 100000 in
/-- a slice of rows of k cells -/
theorem slice_of_trod {α : Type} [Inhabited α] {t e : TypeId} {k : Nat} (ht : Tryz.prog.underlying t = some (.slice e)) (hk : Tryz.prog.cellsOf e = k) (hk0 : 0 < k) (cl : α → List Value) (hcl : ∀ a, (cl a).length = k) (p : α → Prop) (cells : List α → List Value) (hlen : ∀ l, (cells l).length = l.length * k)
    (hcells : ∀ (l : List α) (j i : Nat) (h : j < l.length), i < k → (cells l)[j * k + i]? = (cl l[j])[i]?)
    (hel : ∀ (n : Nat) (cs : List Value) (y : DataW H × List MemPlace), DataW.trod enc Tryz.prog W 0 (fun _ => true) true n e cs = some y → ∃ a, cs = cl a ∧ p a)
    {v : Value} (hf : DataW.trod enc Tryz.prog W 0 (fun _ => true) true fuel t [v] = some x) : ∃ l : List α, RdV W (· < W.heap.size) k v l.length (cells l) ∧ ∀ a ∈ l, p a := by
  rcases Deep.open_slice ht hf with ⟨hcs, _⟩ | ⟨⟨b, off, sp⟩, len, cap, m, n, D, Pl, hcs, _, hl, hm, hmm, _, hx⟩
  · injection hcs with hcs _
    subst hcs
    refine ⟨[], ⟨by simp [hlen], ⟨_, _, rfl, Nat.zero_le _, Nat.zero_le _, .inl rfl⟩, fun _ _ _ _ e j u hu => by cases e⟩, fun a ha => (List.not_mem_nil ha).elim⟩
  · injection hcs with hcs _
    subst hcs
    simp only [if_true] at hmm
    rw [hk] at hx
    have key : ∀ i, i < m → ∃ a, (∀ j u, (cl a)[j]? = some u → W.cell? ((⟨b, off, sp⟩ : Addr).add (i * k + j)) = some u) ∧ p a := fun i hi => by
      obtain ⟨cs', h1, h2⟩ := hx i hi
      obtain ⟨_, hl', hcell⟩ := World.cells?_some h1
      obtain ⟨a, rfl, hp⟩ := hel _ _ _ h2
      refine ⟨a, fun j u hj => ?_, hp⟩
      have hjl := (List.getElem?_eq_some_iff.1 hj).1
      rw [hcl] at hjl
      have := hcell j hjl
      rw [Deep.add_add] at this
      rw [this]; exact hj
    obtain ⟨q, hq⟩ := Deep.choose_lt (α := α) key
    have hsp : cap = 0 ∨ (sp = none ∧ b < W.heap.size) := by
      rcases Nat.eq_zero_or_pos cap with h | h
      · exact .inl h
      · have h0 := (hq 0 (by omega)).1 0 ((cl (q 0))[0]'(by rw [hcl]; exact hk0)) (List.getElem?_eq_getElem _)
        rw [Nat.zero_mul, Nat.add_zero] at h0
        exact .inr (cell_spot h0)
    have hll : ((List.range len).map q).length = len := by simp
    refine ⟨(List.range len).map q, ⟨hlen _, ⟨_, cap, by rw [hll], by omega, hm, ?_⟩, ?_⟩, fun a ha => ?_⟩
    · rcases hsp with h | ⟨rfl, h⟩
      · exact .inl h
      · exact .inr ⟨b, off, rfl, h⟩
    · intro b' off' m' c' he j u hu
      injection he with e1 _ _; injection e1 with e1; injection e1 with e1 e2 e3; subst e1 e2 e3
      have hj := (List.getElem?_eq_some_iff.1 hu).1
      rw [hlen, hll] at hj
      have hil : j / k < len := Nat.div_lt_of_lt_mul (by rw [Nat.mul_comm]; exact hj)
      have hjk : j / k * k + j % k = j := Nat.div_add_mod' j k
      have hrg := hcells ((List.range len).map q) (j / k) (j % k) (by rw [hll]; exact hil) (Nat.mod_lt _ hk0)
      rw [hjk, hu] at hrg
      have hqi : ((List.range len).map q)[j / k]'(by rw [hll]; exact hil) = q (j / k) := by simp
      rw [hqi] at hrg
      have := (hq (j / k) (by omega)).1 (j % k) u hrg.symm
      rw [hjk, Addr.add_mid] at this
      exact this
    · obtain ⟨i, hi, rfl⟩ := List.mem_map.1 ha
      exact (hq i (by have := List.mem_range.1 hi; omega)).2
instance : Inhabited Nd := ⟨⟨0, 0, 0, 0, 0, [], [], []⟩⟩
set_option maxRecDepth 100000 in
/-- AN ARGUMENT OF TYPE []Act, OPENED -/
theorem opened_acts {r : Reach} {base : Nat} {v : Value} {d : DataW H} {ps : List MemPlace} (hok : Value.okWide Tryz.prog W r base 22 v) (h0 : DataW.Trod enc Tryz.prog W 0 (fun _ => true) true 22 v d ps) :
    ∃ l : List Av, ActsR W (· < W.heap.size) (· < W.heap.size) v l ∧ ∀ a ∈ l, Kb a.2.1 := by
  obtain ⟨fuel, hf⟩ := h0
  replace hf : DataW.trod enc Tryz.prog W 0 (fun _ => true) true fuel 22 [v] = some (d, ps) := by
    rcases okSlice Tryz.underlying22 hok with rfl | ⟨b, off, len, cap, rfl, -, -, -⟩ <;> exact hf
  obtain ⟨l, h1, h2⟩ := slice_of_trod (α := Av) (k := 10) Tryz.underlying22 (by kernel_rfl) (by decide) acell acell_len (fun y => NdR W (· < W.heap.size) y.2.1.2 y.2.2.1 y.2.2.2 ∧ Kb y.2.1) acells acells_length acells_get (fun n cs y h => act_of_trod h) hf
  exact ⟨l, ⟨h1, fun a ha => (h2 a ha).1⟩, fun a ha => (h2 a ha).2⟩
end
end Go.Proofs.YtmnknmpfkjhgbaaGreatDoor
/- WHAT THE ROWS' LISTED VARIABLES AND THE WORLD'S SHAPE GIVE; and a world that holds the listed variables. -/
namespace Go.Proofs.YtmnknmpfkjhgbaaGreatDoor
open Go.ChangeShapes Go.WideShapes Go.ChangeAt Go.RowKit
theorem mx_of_shape {W : World} (h : W.ShapedOpen Tryz.prog) : Mx W.heap.size W := by
  obtain ⟨m, hm⟩ : ∃ m, W.cell? ⟨2, 0, none⟩ = some (.int .i64 m) := Go.Proofs.cell_of_shapedOpen_int (zero := #[.int .i64 0]) (t := 3) h (of_decide_eq_true (by kernel_rfl)) (by kernel_rfl) rfl (by kernel_rfl) (by kernel_rfl) Tryz.underlying3
  exact ⟨World.block_lt_of_cell? W _ hm, m, hm⟩
/-- what the laws of the trees ask of the world -/
theorem tabs_of {W : World} {l : List (String × DataW Unit)} (hL : laidMetH Tryz.prog l W) (hsh : W.ShapedOpen Tryz.prog) (hc : ("portolan/path.classes", Rows.laid_portolan_path_classes) ∈ l) (ht : ("portolan/tar.types", Rows.laid_portolan_tar_types) ∈ l) : Tabs W.heap.size W :=
  ⟨Nat.le_refl _, mx_of_shape hsh, cls_of_laid hL hc, typ_of_laid (laidMetH_iff.1 hL).1 (List.mem_filter.2 ⟨ht, rfl⟩)⟩
/-- A WORLD FOR THE WITNESS -/
def layRow (c : Array Value) : Obj → Obj
  | .cells _ t frozen => .cells c t frozen
  | o => o
def classesMap : Obj := .map #[⟨.int .i64 1, .func (.func 223) #[] #[], 0⟩, ⟨.int .i64 2, .func (.func 224) #[] #[], 1⟩, ⟨.int .i64 3, .func (.func 225) #[] #[], 2⟩] 3
def typesMap : Obj := .map #[⟨.int .i64 1, .int .u8 53, 0⟩, ⟨.int .i64 2, .int .u8 48, 1⟩, ⟨.int .i64 3, .int .u8 50, 2⟩, ⟨.int .i64 4, .int .u8 54, 3⟩] 4
noncomputable def lowM : Nat := (World.holding Tryz.prog default ⟨#[], #[], []⟩).heap.size
noncomputable def laidWorld (os : Os) : World :=
  let w0 := World.holding Tryz.prog os ⟨#[classesMap, typesMap], #[], []⟩
  let h2 := Array.modify w0.heap 4 (layRow ((List.range 16).flatMap fun i => [Value.int .u8 (Lib.accLo i), Value.int .u8 (Lib.accHi i)]).toArray)
  let h3 := Array.modify h2 3 (layRow (Lib.firstTab.map fun z => Value.int .u8 z).toArray)
  let h4 := Array.modify h3 0 (layRow #[.map (some lowM)])
  let h5 := Array.modify h4 1 (layRow #[.map (some (lowM + 1))])
  { w0 with heap := h5 }
end Go.Proofs.YtmnknmpfkjhgbaaGreatDoor
