/- PARTS OF ONE PROOF, set in one file: FewB, FewC, Acts, TreeNew, SomeA, TreeNewB. Each part tells its own conditions. -/
import Derived.Test.YtmnknmpfkjhgbaaGreatDoorP1
import Derived.Test.YtmnknmpfkjhgbaaGreatDoorP4
import Derived.Test.YtmnknmpfkjhgbaaGreatDoorP5
import Derived.Test.YtmnknmpfkjhgbaaGreatDoorP6
/- portolanlaw12.Few. -/
namespace Go.Proofs.YtmnknmpfkjhgbaaGreatDoor
open Go.RowKit
/-- region 6: the row of t5 while it is under way -/
def fwR (kind mode uid gid time : Int) (av dv : Value) (q k : Tx) : Array Value := #[.string ⟨q.toArray⟩, .int .i64 kind, .int .u32 mode, .int .u32 uid, .int .u32 gid, .int .i64 time, av, dv, .string ⟨k.toArray⟩]
def Was (s q : Tx) : Prop := q = s ∨ q = s.take 4100
theorem Was.take {s q : Tx} (h : Was s q) : q.take 4100 = s.take 4100 := by rcases h with rfl | rfl <;> simp [List.take_take]
theorem Was.mn {s q : Tx} (h : Was s q) : min (q.length : Int) 4100 = min (s.length : Int) 4100 := by
  rcases h with rfl | rfl
  · rfl
  · rw [List.length_take]; omega
theorem Was.le {s q : Tx} (h : Was s q) : min s.length 4100 ≤ q.length := by
  rcases h with rfl | rfl
  · omega
  · rw [List.length_take]; omega
theorem Was.cut {s q : Tx} (h : Was s q) : q.take (min s.length 4100) = s.take 4100 := by
  rcases h with rfl | rfl
  · rw [List.take_eq_take_iff]; omega
  · rw [List.take_take, List.take_eq_take_iff]; omega
def fwT (B : Nat) (p k : Tx) : Nat → Value → World → Prop
  | 1, v, _ => ∃ q, v = .string ⟨q.toArray⟩ ∧ Was p q
  | 3, v, _ => ∃ q, v = .string ⟨q.toArray⟩ ∧ Was p q
  | 4, v, _ => ∃ q, v = .int .i64 (q.length : Int) ∧ Was p q
  | 5, v, _ => v = .int .i64 ((min p.length 4100 : Nat) : Int)
  | 6, v, _ => v = .string ⟨(p.take 4100).toArray⟩
  | 9, v, _ => ∃ q, v = .string ⟨q.toArray⟩ ∧ Was k q
  | 12, v, _ => ∃ q, v = .string ⟨q.toArray⟩ ∧ Was k q
  | 13, v, _ => ∃ q, v = .int .i64 (q.length : Int) ∧ Was k q
  | 14, v, _ => v = .int .i64 ((min k.length 4100 : Nat) : Int)
  | 15, v, _ => v = .string ⟨(k.take 4100).toArray⟩
  | 17, _, w => w.cell? ⟨B, 0, none⟩ = some (.string ⟨(p.take 4100).toArray⟩)
  | 20, _, w => w.cell? ⟨B, 8, none⟩ = some (.string ⟨(k.take 4100).toArray⟩)
  | 0, v, _ => v = .pointer (some ⟨B, 0, none⟩)
  | 2, v, _ => v = .pointer (some ⟨B, 0, none⟩)
  | 16, v, _ => v = .pointer (some ⟨B, 0, none⟩)
  | 7, v, _ => v = .pointer (some ⟨B, 1, none⟩)
  | 10, v, _ => v = .pointer (some ⟨B, 1, none⟩)
  | 18, v, _ => v = .pointer (some ⟨B, 1, none⟩)
  | _, v, _ => v = .pointer (some ⟨B, 8, none⟩)
def fwS (B : Nat) (p k : Tx) (w w' : World) : Prop := (w.cell? ⟨B, 0, none⟩ = some (.string ⟨(p.take 4100).toArray⟩) → w'.cell? ⟨B, 0, none⟩ = some (.string ⟨(p.take 4100).toArray⟩)) ∧ (w.cell? ⟨B, 8, none⟩ = some (.string ⟨(k.take 4100).toArray⟩) → w'.cell? ⟨B, 8, none⟩ = some (.string ⟨(k.take 4100).toArray⟩))
theorem fwS.refl (B : Nat) (p k : Tx) (w : World) : fwS B p k w w := ⟨fun h => h, fun h => h⟩
theorem fwT_stays {B : Nat} {p k : Tx} (i : Nat) (v : Value) (w w' : World) (h : fwT B p k i v w) (hs : fwS B p k w w') : fwT B p k i v w' := by
  by_cases e : i = 17
  · subst e; exact hs.1 h
  · by_cases e2 : i = 20
    · subst e2; exact hs.2 h
    · unfold fwT at h ⊢
      split at h <;> first | exact h | omega
/-- the class of worlds of region 6 -/
def fwC (W : World) (B : Nat) (kind mode uid gid time : Int) (av dv : Value) (p k : Tx) (w : World) : Prop :=
  Chg (fun b => b = B) W.heap.size W w ∧ ∃ q j, Was p q ∧ Was k j ∧ Row w B 41 (fwR kind mode uid gid time av dv q j)
theorem slAt2 : SlK Tryz.prog 36 92 (.agg #[.string ⟨#[]⟩, .string ⟨#[]⟩]) 2 32 := SlK.mk' Tryz.underlying36 (by kernel_rfl) rfl (by decide)
theorem buildA (p q : Tx) (w : World) : (Instr.build 92 #[(0, .string ⟨p.toArray⟩), (1, .string ⟨q.toArray⟩)]).run Tryz.prog w = .ok (.agg #[.string ⟨p.toArray⟩, .string ⟨q.toArray⟩]) w := by kernel_rfl
theorem run_buildA {ρ : Operand → Value} {d : Option Tmp} {x y : Operand} {t : TypeId} {pos : String} {af : Array Edge} {g : Option (Nat × Bool)} {w : World} {p q : Tx} (h1 : ρ x = .string ⟨p.toArray⟩) (h2 : ρ y = .string ⟨q.toArray⟩) :
    (execOp ρ (⟨d, .build 92 #[(0, x), (1, y)], t, pos, af, g⟩ : Oper)).run Tryz.prog w = .ok (.value (.agg #[.string ⟨p.toArray⟩, .string ⟨q.toArray⟩])) w := by
  simp [execOp, h1, h2, buildA]
/-- region 13 -/
def afT (Br : Nat) (u : Value) (p q : Tx) : Nat → Value → World → Prop
  | 0, v, _ => v = u
  | 1, v, _ => v = .pointer (some ⟨Br, 0, none⟩)
  | 2, v, _ => v = .string ⟨p.toArray⟩
  | 3, v, _ => v = .pointer (some ⟨Br, 0, none⟩)
  | 4, v, _ => v = .string ⟨p.toArray⟩
  | 5, v, _ => v = .int .i64 (p.length : Int)
  | 6, v, _ => v = .int .i64 ((min p.length 250 : Nat) : Int)
  | 7, v, _ => v = .string ⟨(p.take 250).toArray⟩
  | 8, v, _ => v = .pointer (some ⟨Br, 1, none⟩)
  | 9, v, _ => v = .string ⟨q.toArray⟩
  | 10, v, _ => v = .pointer (some ⟨Br, 1, none⟩)
  | 11, v, _ => v = .string ⟨q.toArray⟩
  | 12, v, _ => v = .int .i64 (q.length : Int)
  | 13, v, _ => v = .int .i64 ((min q.length 700 : Nat) : Int)
  | 14, v, _ => v = .string ⟨(q.take 700).toArray⟩
  | 15, v, _ => v = .agg #[.string ⟨(p.take 250).toArray⟩, .string ⟨(q.take 700).toArray⟩]
  | _, v, w => ∃ bl, v = .slice (some ⟨bl, 0, none⟩) 1 1 ∧ RdV w (fun b => b = bl) 2 v 1 [.string ⟨(p.take 250).toArray⟩, .string ⟨(q.take 700).toArray⟩] ∧ bl < w.heap.size
theorem afT_stays {Br : Nat} {u : Value} {p q : Tx} (i : Nat) (v : Value) (w w' : World) (h : afT Br u p q i v w) (hb : Below w.heap.size w w') : afT Br u p q i v w' := by
  unfold afT at h ⊢
  split at h <;> first | exact h | (obtain ⟨bl, e, h1, h2⟩ := h; exact ⟨bl, e, h1.below hb (fun b e => e ▸ h2), Nat.lt_of_lt_of_le h2 hb.size⟩)
theorem take_min (l : Tx) (k : Nat) : l.take (min l.length k) = l.take k := by rw [List.take_eq_take_iff]; omega
theorem Hp.init {M : Nat → Prop} {w wr : World} {ls : List As} {A : As} (h : Hp M w wr (ls ++ [A])) : Hp M w wr ls :=
  ⟨h.c, fun B hB => h.p B (List.mem_append_left _ hB), fun i j B C hi hj b h1 h2 => h.d i j B C (by rw [List.getElem?_append_left (List.getElem?_eq_some_iff.1 hi).1]; exact hi) (by rw [List.getElem?_append_left (List.getElem?_eq_some_iff.1 hj).1]; exact hj) b h1 h2⟩
/-- a slice of Members of the call's own -/
structure FewIs (w w' : World) (v : Value) (L : List Mb) : Prop where
  is : ∃ l : List Mv, l.map (·.1) = L ∧ w'.ownsRow w.heap.size 41 9 v l.length (mcells l) ∧ ∀ x ∈ l, NdR w' (fun b => Fresh w.heap.size w' b ∧ v.ownBlock ≠ some b) x.1.2 x.2.1 x.2.2
theorem slMbF : SlK Tryz.prog 23 41 (.agg (mbC ([], ⟨0, 0, 0, 0, 0, [], [], []⟩) (.slice none 0 0) (.slice none 0 0))) 9 112 := SlK.mk' Tryz.underlying23 (by kernel_rfl) rfl (by decide)
theorem Hp.first {M : Nat → Prop} {w wr : World} {ls : List As} {A : As} (h : Hp M w wr (A :: ls)) : Hp M w wr [A] :=
  ⟨h.c, fun B hB => h.p B (by have := List.mem_singleton.1 hB; subst this; exact List.mem_cons_self), fun i j B C hi hj b h1 h2 => by
    have e1 : i = 0 := by have := (List.getElem?_eq_some_iff.1 hi).1; simp at this; exact this
    have e2 : j = 0 := by have := (List.getElem?_eq_some_iff.1 hj).1; simp at this; exact this
    omega⟩
/-- one round of Few, done -/
theorem few_step {w w' : World} {B6 B8 B5 k i : Nat} {v13 v6 v7 : Value} {acc : List Mv} {c5 : Array Value} {xp link : Tx} {kind mode uid gid time : Int} {attrs : List R2} {data : Tx} {L : List Mb}
    (h : Hp NoM w w' [slA w.heap.size 41 9 v13 (k + 1) (mcells acc ++ [.string ⟨(xp.take 4100).toArray⟩, .int .i64 kind, .int .u32 mode, .int .u32 uid, .int .u32 gid, .int .i64 time, v6, v7, .string ⟨(link.take 4100).toArray⟩]), rowA B5 41 c5, byA B6 5 v7 (data.take 1500), slA B8 92 2 v6 i (rcells ((attrs.take i).map cutA))])
    (hm : acc.map (·.1) = ((L.take k).map cutM)) (ht : ((L.take (k + 1)).map cutM) = ((L.take k).map cutM) ++ [cutM (xp, ⟨kind, mode, uid, gid, time, attrs, data, link⟩)]) (hal : acc.length = k)
    (ha : (attrs.take i).map cutA = (attrs.take 20).map cutA) (hi : i ≤ attrs.length)
    (hn : ∀ x ∈ acc, NdR w' (fun b => Fresh w.heap.size w' b ∧ v13.ownBlock ≠ some b) x.1.2 x.2.1 x.2.2) :
    (acc ++ [(cutM (xp, ⟨kind, mode, uid, gid, time, attrs, data, link⟩), v6, v7)]).map (·.1) = ((L.take (k + 1)).map cutM) ∧ (acc ++ [(cutM (xp, ⟨kind, mode, uid, gid, time, attrs, data, link⟩), v6, v7)]).length = k + 1 ∧
    Hp NoM w w' [slA w.heap.size 41 9 v13 (k + 1) (mcells (acc ++ [(cutM (xp, ⟨kind, mode, uid, gid, time, attrs, data, link⟩), v6, v7)]))] ∧ ∀ x ∈ acc ++ [(cutM (xp, ⟨kind, mode, uid, gid, time, attrs, data, link⟩), v6, v7)], NdR w' (fun b => Fresh w.heap.size w' b ∧ v13.ownBlock ≠ some b) x.1.2 x.2.1 x.2.2 := by
  refine ⟨by rw [List.map_append, hm, ht]; rfl, by simp [hal], ?_, fun x hx => ?_⟩
  · rw [mcells_append, mcells_cons]
    exact h.first
  · rcases List.mem_append.1 hx with hx | hx
    · exact hn x hx
    · obtain rfl : x = (cutM (xp, ⟨kind, mode, uid, gid, time, attrs, data, link⟩), v6, v7) := by simpa using hx
      have hil : ((attrs.take i).map cutA).length = i := by rw [List.length_map, List.length_take]; omega
      have h3 := h.sl 3 rfl
      have h2 := h.bs 2 rfl
      refine ⟨?_, ?_⟩
      · have hr := ownsV_reads h3
        have e : i = ((attrs.take 20).map cutA).length := by rw [← ha, hil]
        rw [ha] at hr
        rw [e] at hr
        refine RdV.mono hr (fun b hb => ⟨?_, fun e2 => ?_⟩)
        · exact h.new 3 rfl (b := b) hb.2.2
        · have := h.d 0 3 _ _ rfl rfl b e2 hb.2.2
          omega
      · refine Reads.mono h2.reads (fun b hb => ⟨?_, fun e2 => ?_⟩)
        · exact h.new 2 rfl (b := b) hb.2.2
        · have := h.d 0 2 _ _ rfl rfl b e2 hb.2.2
          omega
set_option maxHeartbeats 4000000 in
set_option maxRecDepth 100000 in
theorem few12_any (v : Value) (l : List Mv) (w : World) (hr : Mbs w (· < w.heap.size) (· < w.heap.size) v l) :
    Calls Tryz.prog 15 #[v] w fun e w' => ∃ v', e = .returned v' ∧ FewIs w w' v' (few12 (l.map (·.1))) ∧ Below w.heap.size w w' := by
  obtain ⟨a, cap, hv, hcap, hmx, h3⟩ := hr.rd.shape
  have HR := Keep.keep hr; have H3 := Keep.keep h3
  unfold maxLen at hmx
  clear hr h3
  subst hv
  go_enter Tryz.func15, Tryz.ntmps15
  go_wp2_with fail
  go_loopg [3, 4] (min l.length 12) (fun g u3 u4 wx => ∃ (k : Nat) (acc : List Mv), k + g = min l.length 12 ∧ u4 = .int .i64 (k : Int) ∧ acc.map (·.1) = (((l.map (·.1)).take k).map cutM) ∧ acc.length = k ∧ Hp NoM w wx [slA w.heap.size 41 9 u3 k (mcells acc)] ∧ ∀ x ∈ acc, NdR wx (fun b => Fresh w.heap.size wx b ∧ u3.ownBlock ≠ some b) x.1.2 x.2.1 x.2.2)
  case atStart => exact ⟨0, [], by omega, rfl, rfl, rfl, (Hp.begin NoM w).nilS _ _ _, fun x hx => by simp at hx⟩
  case round =>
    obtain ⟨k, acc, hkg, rfl, hmap, hal, HP, hnd⟩ := hrel
    have HM := Keep.keep hmap; have HH := Keep.keep HP; have HN := Keep.keep hnd
    obtain ⟨a3, c3, rfl, -⟩ := (ownsV_reads (HP.sl 0 rfl)).shape
    clear hmap HP hnd
    cases gk with
    | zero =>
      have HF : Keep (acc.map (·.1) = few12 (l.map (·.1))) := ⟨by
        rw [HM.out]; unfold few12
        congr 1
        rw [List.take_eq_take_iff, List.length_map]; omega⟩
      by_cases hk : k < l.length
      · have hd1 : decide ((k : Int) < (l.length : Int)) = true := decide_eq_true (by omega)
        have hd2 : decide ((k : Int) < 12) = false := decide_eq_false (by omega)
        go_wp2_with fail
        go_ret
        exact ⟨.slice a3 k c3, rfl, ⟨acc, HF.out, by rw [hal]; exact HH.out.sl 0 rfl, HN.out⟩, HH.out.below⟩
      · have hd1 : decide ((k : Int) < (l.length : Int)) = false := decide_eq_false (by omega)
        go_wp2_with fail
        go_ret
        exact ⟨.slice a3 k c3, rfl, ⟨acc, HF.out, by rw [hal]; exact HH.out.sl 0 rfl, HN.out⟩, HH.out.below⟩
    | succ g =>
      have hk : k < l.length := by omega
      have hd1 : decide ((k : Int) < (l.length : Int)) = true := decide_eq_true (by omega)
      have hd2 : decide ((k : Int) < 12) = true := decide_eq_true (by omega)
      obtain ⟨b, off, rfl, hbl⟩ : ∃ b off, a = some ⟨b, off, none⟩ ∧ b < w.heap.size := by
        rcases H3.out with h | ⟨b, off, h, hb⟩
        · omega
        · exact ⟨b, off, h, hb⟩
      have hrx := HR.out.below HH.out.below (fun b hb => hb) (fun b hb => hb)
      have hld := hrx.load hk
      have hndx := HR.out.nd _ (List.getElem_mem hk)
      have HTK : Keep ((((l.map (·.1)).take (k + 1)).map cutM) = (((l.map (·.1)).take k).map cutM) ++ [cutM l[k].1]) := ⟨by
        rw [List.take_succ_eq_append_getElem (by simpa using hk), List.map_append]; simp⟩
      clear hrx
      generalize l[k] = x at *
      obtain ⟨⟨xp, ⟨kind, mode, uid, gid, time, attrs, data, link⟩⟩, av, dv⟩ := x
      obtain ⟨aa, la, ca, ad, ld, cd, e1, e2⟩ := hndx.shape
      dsimp only at hndx e1 e2
      subst e1 e2
      have HX := Keep.keep hndx
      unfold mcell mbC strV at hld
      dsimp only at hld
      clear hndx
      go_upto_region 6 with ((with_reducible refine arm_loadM hld ?_ ?_); (focus rfl); simp only [Act.put, List.setIfInBounds_toArray, List.set_cons_succ, List.set_cons_zero])
      refine wp_world (R := fun w5 => Hp NoM w w5 [slA w.heap.size 41 9 (.slice a3 k c3) k (mcells acc), rowA wr.heap.size 41 (fwR kind mode uid gid time (.slice aa la ca) (.slice ad ld cd) xp link)] ∧ Below wr.heap.size wr w5) ⟨HH.out.newRow _ _, (Below.refl _ _).alloc (Nat.le_refl _) _⟩ ?_
      intro w5 H5
      obtain ⟨B5, hB5⟩ : ∃ B5, wr.heap.size = B5 := ⟨_, rfl⟩
      rw [hB5] at H5 ⊢
      have hlt5 := (H5.out.1.row 1 rfl).lt
      clear hld
      refine wp_region_spcO [some 23, some 24, some 25, some 26, some 27, some 28, some 29, some 30, some 31, some 32, some 33, some 34, some 35, some 36, some 37, some 38, some 39, none, some 40, some 41, none] (fwC w5 B5 kind mode uid gid time (.slice aa la ca) (.slice ad ld cd) xp link) (fwT B5 xp link) (fwS B5 xp link) (by kernel_rfl) rfl (by decide) (by intro d hd; simp at hd; show d < 98; omega) (by kernel_rfl) ⟨(Chg.refl _ _ _).drew, xp, link, .inl rfl, .inl rfl, H5.out.1.row 1 rfl⟩ (fun i v w w' h _ hb => fwT_stays i v w w' h hb) ?_ ?_
      · intro i hi a1 w6 hF hC hT
        have hi : i < 21 := hi
        obtain ⟨hCh, q, j, hq, hj, hrow⟩ := id hC
        have b5 : a1.eval (.tmp 5) = .pointer (some ⟨B5, 0, none⟩) := (hF.same 5 (by decide)).trans rfl
        have hkr : fwS B5 xp link w6 w6 := fwS.refl _ _ _ _
        rcases (by omega : i = 0 ∨ i = 1 ∨ i = 2 ∨ i = 3 ∨ i = 4 ∨ i = 5 ∨ i = 6 ∨ i = 7 ∨ i = 8 ∨ i = 9 ∨ i = 10 ∨ i = 11 ∨ i = 12 ∨ i = 13 ∨ i = 14 ∨ i = 15 ∨ i = 16 ∨ i = 17 ∨ i = 18 ∨ i = 19 ∨ i = 20) with rfl | rfl | rfl | rfl | rfl | rfl | rfl | rfl | rfl | rfl | rfl | rfl | rfl | rfl | rfl | rfl | rfl | rfl | rfl | rfl | rfl
        · exact spcO_val (d := 23) rfl (wanted_none rfl) (run_fieldAddr (m := 0) Tryz.underlying41 rfl (by kernel_rfl) b5) hC hkr rfl
        · have hx : a1.eval (.tmp 23) = .pointer (some ⟨B5, 0, none⟩) := hT 0 (by kernel_rfl)
          exact spcO_val (d := 24) rfl (wanted_none rfl) (run_loadCell (run_isAgg_plain Tryz.underlying9 rfl) (hrow.cell (i := 0) rfl) hx) hC hkr ⟨q, rfl, hq⟩
        · exact spcO_val (d := 25) rfl (wanted_none rfl) (run_fieldAddr (m := 0) Tryz.underlying41 rfl (by kernel_rfl) b5) hC hkr rfl
        · have hx : a1.eval (.tmp 25) = .pointer (some ⟨B5, 0, none⟩) := hT 2 (by kernel_rfl)
          exact spcO_val (d := 26) rfl (wanted_none rfl) (run_loadCell (run_isAgg_plain Tryz.underlying9 rfl) (hrow.cell (i := 0) rfl) hx) hC hkr ⟨q, rfl, hq⟩
        · obtain ⟨q', hx, hq'⟩ := hT 3 (by kernel_rfl)
          exact spcO_val (d := 27) rfl (wanted_none rfl) (run_lenS hx) hC hkr ⟨q', rfl, hq'⟩
        · obtain ⟨q', hx, hq'⟩ := hT 4 (by kernel_rfl)
          refine spcO_val (d := 28) rfl (wanted_none rfl) (run_minC hx rfl) hC hkr ?_
          show Value.int .i64 _ = Value.int .i64 _
          have := hq'.mn
          congr 1
          omega
        · obtain ⟨q', hx, hq'⟩ := hT 1 (by kernel_rfl)
          have hy : a1.eval (.tmp 28) = .int .i64 ((min xp.length 4100 : Nat) : Int) := hT 5 (by kernel_rfl)
          refine spcO_val (d := 29) rfl (wanted_none rfl) (run_sliceS hq'.le hx hy) hC hkr ?_
          show Value.string _ = Value.string _
          rw [hq'.cut]
        · exact spcO_val (d := 30) rfl (wanted_none rfl) (run_fieldAddr (m := 7) Tryz.underlying41 rfl (by kernel_rfl) b5) hC hkr rfl
        · have hx : a1.eval (.tmp 30) = .pointer (some ⟨B5, 1, none⟩) := hT 7 (by kernel_rfl)
          exact spcO_val (d := 31) rfl (wanted_none rfl) (run_fieldAddr (m := 0) Tryz.underlying39 rfl (by kernel_rfl) hx) hC hkr rfl
        · have hx : a1.eval (.tmp 31) = .pointer (some ⟨B5, 8, none⟩) := hT 8 (by kernel_rfl)
          exact spcO_val (d := 32) rfl (wanted_none rfl) (run_loadCell (run_isAgg_plain Tryz.underlying9 rfl) (hrow.cell (i := 8) rfl) hx) hC hkr ⟨j, rfl, hj⟩
        · exact spcO_val (d := 33) rfl (wanted_none rfl) (run_fieldAddr (m := 7) Tryz.underlying41 rfl (by kernel_rfl) b5) hC hkr rfl
        · have hx : a1.eval (.tmp 33) = .pointer (some ⟨B5, 1, none⟩) := hT 10 (by kernel_rfl)
          exact spcO_val (d := 34) rfl (wanted_none rfl) (run_fieldAddr (m := 0) Tryz.underlying39 rfl (by kernel_rfl) hx) hC hkr rfl
        · have hx : a1.eval (.tmp 34) = .pointer (some ⟨B5, 8, none⟩) := hT 11 (by kernel_rfl)
          exact spcO_val (d := 35) rfl (wanted_none rfl) (run_loadCell (run_isAgg_plain Tryz.underlying9 rfl) (hrow.cell (i := 8) rfl) hx) hC hkr ⟨j, rfl, hj⟩
        · obtain ⟨q', hx, hq'⟩ := hT 12 (by kernel_rfl)
          exact spcO_val (d := 36) rfl (wanted_none rfl) (run_lenS hx) hC hkr ⟨q', rfl, hq'⟩
        · obtain ⟨q', hx, hq'⟩ := hT 13 (by kernel_rfl)
          refine spcO_val (d := 37) rfl (wanted_none rfl) (run_minC hx rfl) hC hkr ?_
          show Value.int .i64 _ = Value.int .i64 _
          have := hq'.mn
          congr 1
          omega
        · obtain ⟨q', hx, hq'⟩ := hT 9 (by kernel_rfl)
          have hy : a1.eval (.tmp 37) = .int .i64 ((min link.length 4100 : Nat) : Int) := hT 14 (by kernel_rfl)
          refine spcO_val (d := 38) rfl (wanted_none rfl) (run_sliceS hq'.le hx hy) hC hkr ?_
          show Value.string _ = Value.string _
          rw [hq'.cut]
        · exact spcO_val (d := 39) rfl (wanted_none rfl) (run_fieldAddr (m := 0) Tryz.underlying41 rfl (by kernel_rfl) b5) hC hkr rfl
        · have hx : a1.eval (.tmp 39) = .pointer (some ⟨B5, 0, none⟩) := hT 16 (by kernel_rfl)
          have hy : a1.eval (.tmp 29) = .string ⟨(xp.take 4100).toArray⟩ := hT 6 (by kernel_rfl)
          have hrow' : Row (w6.setCell ⟨B5, 0, none⟩ (.string ⟨(xp.take 4100).toArray⟩)) B5 41 (fwR kind mode uid gid time (.slice aa la ca) (.slice ad ld cd) (xp.take 4100) j) := hrow.set' 0 _ rfl
          refine spcO_skip rfl (wanted_none rfl) (run_storeS ⟨_, hrow.cell (i := 0) rfl⟩ (hrow.frozen 0) hx hy) ⟨Chg.setCell (M := fun b => b = B5) hCh (p := ⟨B5, 0, none⟩) (.inr rfl) _, xp.take 4100, j, .inr rfl, hj, hrow'⟩ ⟨fun _ => hrow'.cell (i := 0) rfl, fun h => by rw [hrow'.cell (i := 8) (v := .string ⟨j.toArray⟩) rfl, ← hrow.cell (i := 8) (v := .string ⟨j.toArray⟩) rfl]; exact h⟩ (hrow'.cell (i := 0) rfl)
        · exact spcO_val (d := 40) rfl (wanted_none rfl) (run_fieldAddr (m := 7) Tryz.underlying41 rfl (by kernel_rfl) b5) hC hkr rfl
        · have hx : a1.eval (.tmp 40) = .pointer (some ⟨B5, 1, none⟩) := hT 18 (by kernel_rfl)
          exact spcO_val (d := 41) rfl (wanted_none rfl) (run_fieldAddr (m := 0) Tryz.underlying39 rfl (by kernel_rfl) hx) hC hkr rfl
        · have hx : a1.eval (.tmp 41) = .pointer (some ⟨B5, 8, none⟩) := hT 19 (by kernel_rfl)
          have hy : a1.eval (.tmp 38) = .string ⟨(link.take 4100).toArray⟩ := hT 15 (by kernel_rfl)
          have hrow' : Row (w6.setCell ⟨B5, 8, none⟩ (.string ⟨(link.take 4100).toArray⟩)) B5 41 (fwR kind mode uid gid time (.slice aa la ca) (.slice ad ld cd) q (link.take 4100)) := hrow.set' 8 _ rfl
          refine spcO_skip rfl (wanted_none rfl) (run_storeS ⟨_, hrow.cell (i := 8) rfl⟩ (hrow.frozen 8) hx hy) ⟨Chg.setCell (M := fun b => b = B5) hCh (p := ⟨B5, 8, none⟩) (.inr rfl) _, q, link.take 4100, hq, .inr rfl, hrow'⟩ ⟨fun h => by rw [hrow'.cell (i := 0) (v := .string ⟨q.toArray⟩) rfl, ← hrow.cell (i := 0) (v := .string ⟨q.toArray⟩) rfl]; exact h, fun _ => hrow'.cell (i := 8) rfl⟩ (hrow'.cell (i := 8) rfl)
      · intro a1 w6 ha hC hT
        obtain ⟨hCh, q, j, hq, hj, hrow⟩ := hC
        have h17 : w6.cell? ⟨B5, 0, none⟩ = some (.string ⟨(xp.take 4100).toArray⟩) := hT 17 (by decide)
        have h20 : w6.cell? ⟨B5, 8, none⟩ = some (.string ⟨(link.take 4100).toArray⟩) := hT 20 (by decide)
        have e1 := (hrow.cell (i := 0) (v := .string ⟨q.toArray⟩) rfl).symm.trans h17
        have e2 := (hrow.cell (i := 8) (v := .string ⟨j.toArray⟩) rfl).symm.trans h20
        injection e1 with e1
        injection e2 with e2
        have hrow6 : Row w6 B5 41 (fwR kind mode uid gid time (.slice aa la ca) (.slice ad ld cd) (xp.take 4100) (link.take 4100)) := by
          unfold fwR at hrow ⊢
          rw [e1, e2] at hrow
          exact hrow
        have H6 := Keep.keep (H5.out.1.upd 1 rfl (rowA B5 41 (fwR kind mode uid gid time (.slice aa la ca) (.slice ad ld cd) (xp.take 4100) (link.take 4100))) (hCh.mono (Nat.le_refl _) (fun _ h => h)) hrow6 (fun b hb => .inl hb))
        have HB6 : Keep (Below B5 wr w6) := ⟨H5.out.2.trans ((hCh.lower (by omega)).below (fun k hk e => by omega))⟩
        simp only [List.filterMap_cons, List.filterMap_nil, List.foldl_cons, List.foldl_nil] at ha
        clear hT hCh hq hj hrow h17 h20 e1 e2 hrow6 H5
        generalize slot a1 23 = x23 at *
        generalize slot a1 24 = x24 at *
        generalize slot a1 25 = x25 at *
        generalize slot a1 26 = x26 at *
        generalize slot a1 27 = x27 at *
        generalize slot a1 28 = x28 at *
        generalize slot a1 29 = x29 at *
        generalize slot a1 30 = x30 at *
        generalize slot a1 31 = x31 at *
        generalize slot a1 32 = x32 at *
        generalize slot a1 33 = x33 at *
        generalize slot a1 34 = x34 at *
        generalize slot a1 35 = x35 at *
        generalize slot a1 36 = x36 at *
        generalize slot a1 37 = x37 at *
        generalize slot a1 38 = x38 at *
        generalize slot a1 39 = x39 at *
        generalize slot a1 40 = x40 at *
        generalize slot a1 41 = x41 at *
        subst ha
        simp only [Act.put, List.setIfInBounds_toArray, List.set_cons_succ, List.set_cons_zero]
        have hfr := H6.out.row 1 rfl
        unfold fwR at hfr
        have k7 := hfr.cell (i := 7) rfl
        have f7 := hfr.frozen 7
        have hdc : ld ≤ cd := by have := HX.out.dt.len; dsimp only at this; omega
        have HDL : Keep (ld = data.length) := ⟨HX.out.dt.len.1⟩
        have hmn : min (ld : Int) 1500 = ((min ld 1500 : Nat) : Int) := by omega
        have hsl := fun wx => slice_to (P := Tryz.prog) slBy ad ld cd (min ld 1500) .i64 (by omega) wx
        clear hdc hfr
        go_wp2_with (with_reducible refine arm_stop ?_)
        refine Stopped.out ?_
        have hrd : Reads w6 (· < w6.heap.size) (.slice ad (min ld 1500) cd) (data.take 1500) := by
          have h1 := reads_to (HX.out.dt.below H6.out.below (fun b hb => hb)) (min ld 1500) (by rw [← HDL.out]; omega)
          have e : data.take (min ld 1500) = data.take 1500 := by rw [List.take_eq_take_iff, ← HDL.out]; omega
          rw [e] at h1
          exact h1.mono (fun b hb => Nat.lt_of_lt_of_le hb H6.out.size)
        refine arm_append slBy (Owns.nil w6 w6.heap.size 5) hrd (by rw [List.length_take]; simp; omega) (Nat.le_refl _) rfl rfl ?_
        intro v7 w7 ho hg hov
        rw [List.nil_append] at ho
        have hch7 : Chg NoM w6.heap.size w6 w7 := (chg_grown hg).mono (Nat.le_refl _) (fun k h => by cases h)
        have H7 := Keep.keep (H6.out.push (byA w6.heap.size 5 v7 (data.take 1500)) hch7 ho (fun b hb => World.ownsRow.lt ho b hb))
        have HB7 : Keep (Below B5 wr w7) := ⟨HB6.out.trans ((hch7.lower (by have := HB6.out.size; omega)).below (fun _ _ h => h))⟩
        obtain ⟨a7, c7, hv7, -⟩ := ho.reads.shape
        clear ho hg hov hch7 hrd H6 HB6 k7 f7
        subst hv7
        have hr7 := H7.out.row 1 rfl
        unfold fwR at hr7
        have k7 := hr7.cell (i := 7) rfl
        have f7 := hr7.frozen 7
        have k6 := hr7.cell (i := 6) rfl
        clear hr7
        simp only [Act.put, List.setIfInBounds_toArray, List.set_cons_succ, List.set_cons_zero]
        go_wp2_with fail
        obtain ⟨n7, hn7⟩ : ∃ n7, (data.take 1500).length = n7 := ⟨_, rfl⟩
        rw [hn7] at H7
        try simp only [List.length_take] at hn7
        try rw [hn7]
        refine wp_world (R := fun w8 => Hp NoM w w8 [slA w.heap.size 41 9 (.slice a3 k c3) k (mcells acc), rowA B5 41 (fwR kind mode uid gid time (.slice aa la ca) (.slice a7 n7 c7) (xp.take 4100) (link.take 4100)), byA w6.heap.size 5 (.slice a7 n7 c7) (data.take 1500)] ∧ Below B5 wr w8) ⟨H7.out.setCell 1 rfl 7 _ rfl, HB7.out.trans ((Chg.setCell (M := fun _ => False) (.refl _ _ _) (p := ⟨B5, 7, none⟩) (.inl (Nat.le_refl _)) _).below (fun _ _ h => h))⟩ ?_
        intro w8 H8
        clear H7 HB7 k7 f7 k6 hn7 hsl hmn
        have HLA : Keep (la = attrs.length) := ⟨HX.out.at_.lens.1⟩
        go_loopg [6, 7] (min la 20) (fun g u6 u7 wx => ∃ i : Nat, i + g = min la 20 ∧ u7 = .int .i64 (i : Int) ∧ Hp NoM w wx [slA w.heap.size 41 9 (.slice a3 k c3) k (mcells acc), rowA B5 41 (fwR kind mode uid gid time (.slice aa la ca) (.slice a7 n7 c7) (xp.take 4100) (link.take 4100)), byA w6.heap.size 5 (.slice a7 n7 c7) (data.take 1500), slA w8.heap.size 92 2 u6 i (rcells ((attrs.take i).map cutA))] ∧ Below B5 wr wx ∧ w8.heap.size ≤ wx.heap.size)
        case atStart => exact ⟨0, by omega, rfl, H8.out.1.nilS _ _ _, H8.out.2, Nat.le_refl _⟩
        case round =>
          obtain ⟨i, hig, rfl, hHi, hBi, hs8⟩ := hrel
          have HI := Keep.keep hHi; have HBI := Keep.keep hBi
          obtain ⟨a6, c6, rfl, -⟩ := (ownsV_reads (hHi.sl 3 rfl)).shape
          have hB58 := (H8.out.1.row 1 rfl).lt
          clear hHi hBi H8
          have hri := HI.out.row 1 rfl
          unfold fwR at hri
          have k6 := hri.cell (i := 6) rfl
          cases gk with
          | zero =>
            have HTF : Keep ((attrs.take i).map cutA = (attrs.take 20).map cutA) := ⟨by
              congr 1
              rw [List.take_eq_take_iff, ← HLA.out]; omega⟩
            have f6 := hri.frozen 6
            clear hri
            by_cases hil : i < la
            focus
              have hd3 : decide ((i : Int) < (la : Int)) = true := decide_eq_true (by omega)
              have hd4 : decide ((i : Int) < 20) = false := decide_eq_false (by omega)
              go_upto_region 15 with fail
            rotate_left
            focus
              have hd3 : decide ((i : Int) < (la : Int)) = false := decide_eq_false (by omega)
              go_upto_region 15 with fail
            all_goals
              refine wp_world (R := fun w12 => Hp NoM w w12 [slA w.heap.size 41 9 (.slice a3 k c3) k (mcells acc), rowA B5 41 (fwR kind mode uid gid time (.slice a6 i c6) (.slice a7 n7 c7) (xp.take 4100) (link.take 4100)), byA w6.heap.size 5 (.slice a7 n7 c7) (data.take 1500), slA w8.heap.size 92 2 (.slice a6 i c6) i (rcells ((attrs.take i).map cutA))] ∧ Below B5 _ w12) ⟨HI.out.setCell 1 rfl 6 _ rfl, HBI.out.trans ((Chg.setCell (M := fun _ => False) (.refl _ _ _) (p := ⟨B5, 6, none⟩) (.inl (Nat.le_refl _)) _).below (fun _ _ h => h))⟩ ?_
              intro w12 H12
              have HRW := Keep.keep (H12.out.1.row 1 rfl)
              unfold fwR at HRW
              have HSZ : Keep ((#[.string ⟨(xp.take 4100).toArray⟩, .int .i64 kind, .int .u32 mode, .int .u32 uid, .int .u32 gid, .int .i64 time, .slice a6 i c6, .slice a7 n7 c7, .string ⟨(link.take 4100).toArray⟩] : Array Value).size = 9) := ⟨rfl⟩
              clear k6 f6 HI HBI
              go_wp2_with (first
                | ((with_reducible refine arm_loadRow HRW.out aggM HSZ.out ?_ ?_); (focus rfl); simp only [Act.put, List.setIfInBounds_toArray, List.set_cons_succ, List.set_cons_zero])
                | (with_reducible refine arm_stop ?_))
              refine Stopped.out ?_
              refine arm_appendV slMbF ((H12.out.1.alloc _).sl 0 rfl) (RdV.new (N := fun _ => True) 41 [.string ⟨(xp.take 4100).toArray⟩, .int .i64 kind, .int .u32 mode, .int .u32 uid, .int .u32 gid, .int .i64 time, .slice a6 i c6, .slice a7 n7 c7, .string ⟨(link.take 4100).toArray⟩] 9 1 _ rfl rfl (by unfold maxLen; omega) trivial) (by simp [Value.oneCell']) (by unfold maxLen; omega) (by omega) (by simp; have := H12.out.1.size; omega) rfl rfl ?_
              intro v13 w13 ho hg hov _
              have hgr := (H12.out.1.alloc _).grow 0 rfl hg ho hov
              have hob := World.ownsRow.lt (H12.out.1.sl 0 rfl)
              have hia2 : i ≤ attrs.length := by have := HLA.out; omega
              have HST := Keep.keep (few_step hgr (HM.out) HTK.out hal HTF.out hia2 (fun x hx => (HN.out x hx).loc (fun b hb => by
                rw [hg.block b (by simp; have := hb.1.2; have := H12.out.2.size; omega) (fun e => hb.2 e.symm), Below.heap_alloc w12 _ b (by have := hb.1.2; have := H12.out.2.size; omega), H12.out.2.block b (by have := hb.1.2; omega)]) |>.mono (fun b hb => ⟨⟨hb.1.1, by have := hb.1.2; have := hg.size; have := H12.out.2.size; simp at *; omega⟩, by
                  rcases hov with e | e
                  · rw [e]; exact hb.2
                  · rw [e]; intro e2; injection e2 with e2; simp at e2; have := hb.1.2; have := H12.out.2.size; omega⟩)))
              obtain ⟨a13, c13, rfl, -⟩ := (ownsV_reads ho).shape
              clear ho hg hov hob hgr H12 HRW
              simp only [Act.put, List.setIfInBounds_toArray, List.set_cons_succ, List.set_cons_zero]
              go_wp2_with fail
              go_roundg g
              case measure => omega
              case rel => exact ⟨k + 1, _, by omega, by simp, HST.out.1, HST.out.2.1, HST.out.2.2.1, HST.out.2.2.2⟩
          | succ gi =>
            have hia : i < la := by omega
            have hd3 : decide ((i : Int) < (la : Int)) = true := decide_eq_true (by omega)
            have hd4 : decide ((i : Int) < 20) = true := decide_eq_true (by omega)
            clear hri
            have hiA : i < attrs.length := by have := HLA.out; omega
            have HXi := HX.out.at_.below HI.out.below (fun b hb => hb)
            obtain ⟨ba, oa, rfl⟩ : ∃ ba oa, aa = some ⟨ba, oa, none⟩ := by
              obtain ⟨b, off, cap, h, -⟩ := HXi.has (Nat.lt_of_le_of_lt (Nat.zero_le _) hiA)
              injection h with h
              exact ⟨b, off, h⟩
            have hga := rcells_get attrs i hiA
            have ca0 := HXi.cell ba oa _ _ rfl _ _ hga.1
            have ca1 := HXi.cell ba oa _ _ rfl _ _ hga.2
            clear hga HXi
            have HTA : Keep ((attrs.take (i + 1)).map cutA = (attrs.take i).map cutA ++ [cutA attrs[i]]) := ⟨by
              rw [List.take_succ_eq_append_getElem hiA, List.map_append]; rfl⟩
            generalize attrs[i] = xa at *
            obtain ⟨an, aw⟩ := xa
            unfold strV at ca0 ca1
            dsimp only at ca0 ca1
            rw [← Nat.add_assoc] at ca1
            go_upto_region 13 with fail
            refine wp_world (R := fun w9 => Hp NoM w w9 ([slA w.heap.size 41 9 (.slice a3 k c3) k (mcells acc), rowA B5 41 (fwR kind mode uid gid time (.slice (some ⟨ba, oa, none⟩) la ca) (.slice a7 n7 c7) (xp.take 4100) (link.take 4100)), byA w6.heap.size 5 (.slice a7 n7 c7) (data.take 1500), slA w8.heap.size 92 2 (.slice a6 i c6) i (rcells ((attrs.take i).map cutA))] ++ [rowA wr.heap.size 92 #[.string ⟨an.toArray⟩, .string ⟨aw.toArray⟩]]) ∧ Below B5 _ w9 ∧ w8.heap.size ≤ w9.heap.size) ⟨HI.out.newRow _ _, HBI.out.alloc (by have := (HI.out.row 1 rfl).lt; omega) _, by simp; omega⟩ ?_
            intro w9 H9
            obtain ⟨Br, hBr⟩ : ∃ Br, wr.heap.size = Br := ⟨_, rfl⟩
            rw [hBr] at H9 ⊢
            have hBr9 := (H9.out.1.row 4 rfl).lt
            clear ca0 ca1 k6 HI HBI hBr
            refine wp_region_spcT 17 [72, 73, 74, 75, 76, 77, 78, 79, 80, 81, 82, 83, 84, 85, 86, 87, 88] (Below w9.heap.size w9) (afT Br (.slice a6 i c6) an aw) (fun w w' => Below w.heap.size w w') (by kernel_rfl) rfl (by decide) (by show ∀ d ∈ _, d < 98; decide) (by kernel_rfl) (by decide) (by kernel_rfl) (by kernel_rfl) (by kernel_rfl) (Below.refl _ _).drew (fun i v w w' h _ hb => afT_stays i v w w' h hb) ?_ ?_
            · intro j hj a1 w10 hF hC hT
              have b8 : a1.eval (.tmp 8) = .pointer (some ⟨Br, 0, none⟩) := (hF.same 8 (by decide)).trans rfl
              have hkr : Below w10.heap.size w10 w10 := Below.refl _ _
              have RX : Row w10 Br 92 #[.string ⟨an.toArray⟩, .string ⟨aw.toArray⟩] := (H9.out.1.row 4 rfl).below hC hBr9
              rcases (by omega : j = 0 ∨ j = 1 ∨ j = 2 ∨ j = 3 ∨ j = 4 ∨ j = 5 ∨ j = 6 ∨ j = 7 ∨ j = 8 ∨ j = 9 ∨ j = 10 ∨ j = 11 ∨ j = 12 ∨ j = 13 ∨ j = 14 ∨ j = 15 ∨ j = 16) with rfl | rfl | rfl | rfl | rfl | rfl | rfl | rfl | rfl | rfl | rfl | rfl | rfl | rfl | rfl | rfl | rfl
              · exact spcS_val (d := 72) rfl (wanted_none rfl) run_move hC hkr ((hF.same 6 (by decide)).trans rfl)
              · exact spcS_val (d := 73) rfl (wanted_none rfl) (run_fieldAddr (m := 0) Tryz.underlying92 rfl (by kernel_rfl) b8) hC hkr rfl
              · have hx : a1.eval (.tmp 73) = .pointer (some ⟨Br, 0, none⟩) := hT 1 (by decide) (by kernel_rfl)
                exact spcS_val (d := 74) rfl (wanted_none rfl) (run_loadCell (run_isAgg_plain Tryz.underlying9 rfl) (RX.cell (i := 0) rfl) hx) hC hkr rfl
              · exact spcS_val (d := 75) rfl (wanted_none rfl) (run_fieldAddr (m := 0) Tryz.underlying92 rfl (by kernel_rfl) b8) hC hkr rfl
              · have hx : a1.eval (.tmp 75) = .pointer (some ⟨Br, 0, none⟩) := hT 3 (by decide) (by kernel_rfl)
                exact spcS_val (d := 76) rfl (wanted_none rfl) (run_loadCell (run_isAgg_plain Tryz.underlying9 rfl) (RX.cell (i := 0) rfl) hx) hC hkr rfl
              · have hx : a1.eval (.tmp 76) = .string ⟨an.toArray⟩ := hT 4 (by decide) (by kernel_rfl)
                exact spcS_val (d := 77) rfl (wanted_none rfl) (run_lenS hx) hC hkr rfl
              · have hx : a1.eval (.tmp 77) = .int .i64 (an.length : Int) := hT 5 (by decide) (by kernel_rfl)
                refine spcS_val (d := 78) rfl (wanted_none rfl) (run_minC hx rfl) hC hkr ?_
                show Value.int .i64 _ = Value.int .i64 _
                congr 1
                omega
              · have hx : a1.eval (.tmp 74) = .string ⟨an.toArray⟩ := hT 2 (by decide) (by kernel_rfl)
                have hy : a1.eval (.tmp 78) = .int .i64 ((min an.length 250 : Nat) : Int) := hT 6 (by decide) (by kernel_rfl)
                refine spcS_val (d := 79) rfl (wanted_none rfl) (run_sliceS (Nat.min_le_left _ _) hx hy) hC hkr ?_
                show Value.string _ = Value.string _
                rw [take_min]
              · exact spcS_val (d := 80) rfl (wanted_none rfl) (run_fieldAddr (m := 0) Tryz.underlying92 rfl (by kernel_rfl) b8) hC hkr rfl
              · have hx : a1.eval (.tmp 80) = .pointer (some ⟨Br, 1, none⟩) := hT 8 (by decide) (by kernel_rfl)
                exact spcS_val (d := 81) rfl (wanted_none rfl) (run_loadCell (run_isAgg_plain Tryz.underlying9 rfl) (RX.cell (i := 1) rfl) hx) hC hkr rfl
              · exact spcS_val (d := 82) rfl (wanted_none rfl) (run_fieldAddr (m := 0) Tryz.underlying92 rfl (by kernel_rfl) b8) hC hkr rfl
              · have hx : a1.eval (.tmp 82) = .pointer (some ⟨Br, 1, none⟩) := hT 10 (by decide) (by kernel_rfl)
                exact spcS_val (d := 83) rfl (wanted_none rfl) (run_loadCell (run_isAgg_plain Tryz.underlying9 rfl) (RX.cell (i := 1) rfl) hx) hC hkr rfl
              · have hx : a1.eval (.tmp 83) = .string ⟨aw.toArray⟩ := hT 11 (by decide) (by kernel_rfl)
                exact spcS_val (d := 84) rfl (wanted_none rfl) (run_lenS hx) hC hkr rfl
              · have hx : a1.eval (.tmp 84) = .int .i64 (aw.length : Int) := hT 12 (by decide) (by kernel_rfl)
                refine spcS_val (d := 85) rfl (wanted_none rfl) (run_minC hx rfl) hC hkr ?_
                show Value.int .i64 _ = Value.int .i64 _
                congr 1
                omega
              · have hx : a1.eval (.tmp 81) = .string ⟨aw.toArray⟩ := hT 9 (by decide) (by kernel_rfl)
                have hy : a1.eval (.tmp 85) = .int .i64 ((min aw.length 700 : Nat) : Int) := hT 13 (by decide) (by kernel_rfl)
                refine spcS_val (d := 86) rfl (wanted_none rfl) (run_sliceS (Nat.min_le_left _ _) hx hy) hC hkr ?_
                show Value.string _ = Value.string _
                rw [take_min]
              · have hx : a1.eval (.tmp 79) = .string ⟨(an.take 250).toArray⟩ := hT 7 (by decide) (by kernel_rfl)
                have hy : a1.eval (.tmp 86) = .string ⟨(aw.take 700).toArray⟩ := hT 14 (by decide) (by kernel_rfl)
                exact spcS_val (d := 87) rfl (wanted_none rfl) (run_buildA hx hy) hC hkr rfl
              · have hx : a1.eval (.tmp 87) = .agg #[.string ⟨(an.take 250).toArray⟩, .string ⟨(aw.take 700).toArray⟩] := hT 15 (by decide) (by kernel_rfl)
                have hal2 : Below w10.heap.size w10 (w10.alloc (.cells (a1.eval (.tmp 87)).cells 92)) := (Below.refl _ _).alloc (Nat.le_refl _) _
                refine spcS_val (d := 88) rfl (wanted_none rfl) (run_build1 slAt2 (by decide) (by rw [hx]; rfl)) (hC.trans (hal2.mono hC.size)) hal2 ?_
                rw [hx]
                exact ⟨w10.heap.size, rfl, RdV.new 92 [.string ⟨(an.take 250).toArray⟩, .string ⟨(aw.take 700).toArray⟩] 2 1 w10.heap.size rfl rfl (by unfold maxLen; omega) rfl, by simp⟩
            · intro a1 w10 ha hC hT
              have t0 : slot a1 72 = .slice a6 i c6 := hT 0 (by decide)
              obtain ⟨bl, t16, hrd, hbl⟩ : ∃ bl, slot a1 88 = .slice (some ⟨bl, 0, none⟩) 1 1 ∧ RdV w10 (fun b => b = bl) 2 (slot a1 88) 1 [.string ⟨(an.take 250).toArray⟩, .string ⟨(aw.take 700).toArray⟩] ∧ bl < w10.heap.size := hT 16 (by decide)
              rw [t16] at hrd
              simp only [List.foldl_cons, List.foldl_nil, t0, t16] at ha
              have H10 := Keep.keep (H9.out.1.call hC)
              have hs10 : w8.heap.size ≤ w10.heap.size := Nat.le_trans H9.out.2.2 hC.size
              have HB10 := Keep.keep (H9.out.2.1.trans (hC.mono (by have := H9.out.2.2; omega)))
              clear hT t0 t16 hC H9
              generalize slot a1 73 = y73 at *
              generalize slot a1 74 = y74 at *
              generalize slot a1 75 = y75 at *
              generalize slot a1 76 = y76 at *
              generalize slot a1 77 = y77 at *
              generalize slot a1 78 = y78 at *
              generalize slot a1 79 = y79 at *
              generalize slot a1 80 = y80 at *
              generalize slot a1 81 = y81 at *
              generalize slot a1 82 = y82 at *
              generalize slot a1 83 = y83 at *
              generalize slot a1 84 = y84 at *
              generalize slot a1 85 = y85 at *
              generalize slot a1 86 = y86 at *
              generalize slot a1 87 = y87 at *
              subst ha
              simp only [List.drop_succ_cons, List.drop_zero]
              simp only [Act.put, List.setIfInBounds_toArray, List.set_cons_succ, List.set_cons_zero]
              have hob := World.ownsRow.lt (H10.out.sl 3 rfl)
              refine arm_appendV slAt2 (H10.out.sl 3 rfl) hrd (by simp [Value.oneCell']) (by unfold maxLen; omega) (by omega) hs10 rfl rfl ?_
              intro v11 w11 ho hg hov _
              have HG := Keep.keep (H10.out.grow 3 rfl hg ho hov)
              have HB11 := Keep.keep (HB10.out.trans ((Chg.grown (M := fun _ => False) (.refl _ _ _) hg (by omega) (fun k e => .inl (by have := (hob k e).1; omega))).below (fun _ _ h => h)))
              have hs11 : w8.heap.size ≤ w11.heap.size := Nat.le_trans hs10 hg.size
              obtain ⟨a11, c11, rfl, -⟩ := (ownsV_reads ho).shape
              clear ho hg hov hob hrd H10 HB10
              simp only [Act.put, List.setIfInBounds_toArray, List.set_cons_succ, List.set_cons_zero]
              go_wp2_with fail
              go_roundg gi
              case measure => omega
              case rel => exact ⟨i + 1, by omega, by simp, by rw [HTA.out, rcells_append]; exact HG.out.init, HB11.out, hs11⟩
end Go.Proofs.YtmnknmpfkjhgbaaGreatDoor
/- l[i:i+1] OF A SLICE OF MEMBERS; portolanlaw18.Few. -/
namespace Go.Proofs.YtmnknmpfkjhgbaaGreatDoor
open Go.RowKit
theorem slice_win (b off n cap i : Nat) (k1 k2 : IntKind) (hi : i < cap) (w : World) :
    (Instr.slice 23 (.slice (some ⟨b, off, none⟩) n cap) (some (.int k1 (i : Int))) (some (.int k2 ((i : Int) + 1))) none).run Tryz.prog w = .ok (.slice (some ⟨b, off + i * 9, none⟩) 1 (cap - i)) w := by
  have he : Tryz.prog.elem 23 = 41 := by simp [Program.elem, Tryz.underlying23]
  have hs : ∀ w, (sizeOf 41).run Tryz.prog w = .ok 9 w := fun w => by kernel_rfl
  rw [run_slice_lh w 23 (some ⟨b, off, none⟩) n cap (by rw [he]; exact Tryz.underlying23) k1 k2 (i : Int) ((i : Int) + 1) (by omega) (by omega) (by omega), he, hs]
  have e1 : ((i : Int) + 1).toNat - (i : Int).toNat = 1 := by omega
  simp [Result.andThen, sliced, Addr.add_mid]
  omega
theorem mcells_win (l : List Mv) (k : Nat) (hk : k < l.length) : mcells [l[k]] = ((mcells l).drop (k * 9)).take (1 * 9) := by
  apply List.ext_getElem?
  intro i
  by_cases h : i < 9
  · rw [List.getElem?_take, if_pos (by omega), List.getElem?_drop, mcells_get l k i hk h]
    have := mcells_get [l[k]] 0 i (by simp) h
    rw [Nat.zero_mul, Nat.zero_add] at this
    exact this
  · rw [List.getElem?_take, if_neg (by omega), List.getElem?_eq_none (by rw [mcells_length]; simp; omega)]
theorem Mbs.win {w : World} {N N' : Nat → Prop} {l : List Mv} {b off n cap : Nat} (h : Mbs w N N' (.slice (some ⟨b, off, none⟩) n cap) l) {k : Nat} (hk : k < l.length) (hc : k < cap) : Mbs w N N' (.slice (some ⟨b, off + k * 9, none⟩) 1 (cap - k)) [l[k]] :=
  ⟨h.rd.sub k 1 (cap - k) (off + k * 9) (mcells [l[k]]) (mcells_win l k hk) (by rw [mcells_length]; rfl) rfl (by omega) (by omega), fun x hx => by
    obtain rfl : x = l[k] := by simpa using hx
    exact h.nd _ (List.getElem_mem hk)⟩
theorem one_of_map {m : Mb} : ∀ {l : List Mv}, l.map (·.1) = [m] → ∃ y, l = [y] ∧ y.1 = m
  | [], h => by simp at h
  | [y], h => ⟨y, rfl, by simpa using h⟩
  | _ :: _ :: _, h => by simp at h
def few18 (l : List Mb) : List Mb := (l.take 40).map cutM
set_option maxHeartbeats 2000000 in
set_option maxRecDepth 100000 in
theorem few18_any (v : Value) (l : List Mv) (w : World) (hr : Mbs w (· < w.heap.size) (· < w.heap.size) v l) :
    Calls Tryz.prog 36 #[v] w fun e w' => ∃ v', e = .returned v' ∧ FewIs w w' v' (few18 (l.map (·.1))) ∧ Below w.heap.size w w' := by
  obtain ⟨a, cap, hv, hcap, hmx, h3⟩ := hr.rd.shape
  have HR := Keep.keep hr; have H3 := Keep.keep h3
  unfold maxLen at hmx
  clear hr h3
  subst hv
  go_enter Tryz.func36, Tryz.ntmps36
  go_wp2_with fail
  go_loopg [3, 4] (min l.length 40) (fun g u3 u4 wx => ∃ (k : Nat) (acc : List Mv), k + g = min l.length 40 ∧ u4 = .int .i64 (k : Int) ∧ acc.map (·.1) = (((l.map (·.1)).take k).map cutM) ∧ acc.length = k ∧ Hp NoM w wx [slA w.heap.size 41 9 u3 k (mcells acc)] ∧ ∀ x ∈ acc, NdR wx (fun b => Fresh w.heap.size wx b ∧ u3.ownBlock ≠ some b) x.1.2 x.2.1 x.2.2)
  case atStart => exact ⟨0, [], by omega, rfl, rfl, rfl, (Hp.begin NoM w).nilS _ _ _, fun x hx => by simp at hx⟩
  case round =>
    obtain ⟨k, acc, hkg, rfl, hmap, hal, HP, hnd⟩ := hrel
    have HM := Keep.keep hmap; have HH := Keep.keep HP; have HN := Keep.keep hnd
    obtain ⟨a3, c3, rfl, -⟩ := (ownsV_reads (HP.sl 0 rfl)).shape
    clear hmap HP hnd
    cases gk with
    | zero =>
      have HF : Keep (acc.map (·.1) = few18 (l.map (·.1))) := ⟨by
        rw [HM.out]; unfold few18
        congr 1
        rw [List.take_eq_take_iff, List.length_map]; omega⟩
      by_cases hk : k < l.length
      · have hd1 : decide ((k : Int) < (l.length : Int)) = true := decide_eq_true (by omega)
        have hd2 : decide ((k : Int) < 40) = false := decide_eq_false (by omega)
        go_wp2_with fail
        go_ret
        exact ⟨.slice a3 k c3, rfl, ⟨acc, HF.out, by rw [hal]; exact HH.out.sl 0 rfl, HN.out⟩, HH.out.below⟩
      · have hd1 : decide ((k : Int) < (l.length : Int)) = false := decide_eq_false (by omega)
        go_wp2_with fail
        go_ret
        exact ⟨.slice a3 k c3, rfl, ⟨acc, HF.out, by rw [hal]; exact HH.out.sl 0 rfl, HN.out⟩, HH.out.below⟩
    | succ g =>
      have hk : k < l.length := by omega
      have hd1 : decide ((k : Int) < (l.length : Int)) = true := decide_eq_true (by omega)
      have hd2 : decide ((k : Int) < 40) = true := decide_eq_true (by omega)
      obtain ⟨b, off, rfl, hbl⟩ : ∃ b off, a = some ⟨b, off, none⟩ ∧ b < w.heap.size := by
        rcases H3.out with h | ⟨b, off, h, hb⟩
        · omega
        · exact ⟨b, off, h, hb⟩
      have hrx := (HR.out.below HH.out.below (fun b hb => hb) (fun b hb => hb)).mono (K := (· < wr.heap.size)) (K' := (· < wr.heap.size)) (fun b hb => Nat.lt_of_lt_of_le hb HH.out.size) (fun b hb => Nat.lt_of_lt_of_le hb HH.out.size)
      have HFW := Keep.keep (few12_any _ _ wr (hrx.win hk (by omega)))
      have HTK : Keep ((((l.map (·.1)).take (k + 1)).map cutM) = (((l.map (·.1)).take k).map cutM) ++ [cutM l[k].1]) := ⟨by
        rw [List.take_succ_eq_append_getElem (by simpa using hk), List.map_append]; simp⟩
      have hsl := fun wx => slice_win b off l.length cap k .i64 .i64 (by omega) wx
      clear hrx
      go_wp2_with fail
      refine HFW.out.mono ?_
      rintro e w2 ⟨v2, rfl, ⟨l2, e2, ho2, hn2⟩, hb2⟩
      have e3 : l2.map (·.1) = [cutM l[k].1] := e2
      obtain ⟨y, rfl, hy⟩ : ∃ y, l2 = [y] ∧ y.1 = cutM l[k].1 := one_of_map e3
      rw [← hy] at HTK
      have hny := hn2 y (by simp)
      have hone : ∀ u ∈ mcells [y], u.oneCell' = true := by
        obtain ⟨⟨yp, yn⟩, yv, yd⟩ := y
        obtain ⟨aa, la, ca, ad, ld, cd, h1, h2⟩ := hny.shape
        dsimp only at h1 h2
        subst h1 h2
        simp [mcells, mcell, mbC, strV, Value.oneCell']
      have HH2 := Keep.keep (HH.out.call hb2)
      obtain ⟨a2, c2, rfl, -⟩ := (ownsV_reads ho2).shape
      have HO2 := Keep.keep ho2; have HB2 := Keep.keep hb2; have HNY := Keep.keep hny
      have HONE := Keep.keep hone
      clear ho2 hb2 hny hn2 hone e2 e3 hsl hy HFW
      go_wp2_with (with_reducible refine arm_stop ?_)
      refine Stopped.out ?_
      refine arm_appendV slMbF (m := 1) (HH2.out.sl 0 rfl) (ownsV_reads HO2.out) HONE.out (by unfold maxLen; omega) (by omega) HH2.out.size rfl rfl ?_
      intro v3 w3 ho hg hov _
      have hob := World.ownsRow.lt (HH.out.sl 0 rfl)
      have HG := Keep.keep (HH2.out.grow 0 rfl hg ho hov)
      have hs2 := HB2.out.size
      have hs3 := hg.size
      have HND : Keep (∀ x ∈ acc ++ [y], NdR w3 (fun b => Fresh w.heap.size w3 b ∧ v3.ownBlock ≠ some b) x.1.2 x.2.1 x.2.2) := ⟨fun x hx => by
        have hs1 := HH.out.size
        rcases List.mem_append.1 hx with hx | hx
        · refine ((HN.out x hx).loc (fun b hb => ?_)).mono (fun b hb => ⟨⟨hb.1.1, by have := hb.1.2; omega⟩, ?_⟩)
          · have := hb.1.2
            rw [hg.block b (by omega) (fun e => hb.2 e.symm), HB2.out.block b this]
          · have := hb.1.2
            rcases hov with e | e
            · rw [e]; exact hb.2
            · rw [e]; intro e2; injection e2 with e2; omega
        · obtain rfl : x = y := by simpa using hx
          refine (HNY.out.loc (fun b hb => ?_)).mono (fun b hb => ⟨⟨by have := hb.1.1; omega, by have := hb.1.2; omega⟩, ?_⟩)
          · have h1 := hb.1.1
            have h2 := hb.1.2
            rw [hg.block b h2 (fun e => by have := (hob b e.symm).2; omega)]
          · have h1 := hb.1.1
            have h2 := hb.1.2
            rcases hov with e | e
            · rw [e]; intro e2; have := (hob b e2).2; omega
            · rw [e]; intro e2; injection e2 with e2; omega⟩
      obtain ⟨a4, c4, rfl, -⟩ := (ownsV_reads ho).shape
      clear ho hg hov hob HH2 hs2 hs3
      simp only [Act.put, List.setIfInBounds_toArray, List.set_cons_succ, List.set_cons_zero]
      go_wp2_with fail
      go_roundg g
      case measure => omega
      case rel => exact ⟨k + 1, acc ++ [y], by omega, by simp, by rw [List.map_append, HM.out, HTK.out]; rfl, by simp [hal], by rw [mcells_append]; exact HG.out, HND.out⟩
end Go.Proofs.YtmnknmpfkjhgbaaGreatDoor
/- A SLICE OF ACTS in memory: a bool and a Member each. -/
namespace Go.Proofs.YtmnknmpfkjhgbaaGreatDoor
open Go.RowKit
abbrev Av := Bool × Mv
def acell (x : Av) : List Value := .bool x.1 :: (mcell x.2).toList
def acells (l : List Av) : List Value := l.flatMap acell
theorem acells_cons (x : Av) (l : List Av) : acells (x :: l) = acell x ++ acells l := rfl
theorem acell_len (x : Av) : (acell x).length = 10 := rfl
theorem acells_length : ∀ l : List Av, (acells l).length = l.length * 10
  | [] => rfl
  | x :: l => by rw [acells_cons, List.length_append, acells_length l, acell_len, List.length_cons]; omega
theorem acells_get : ∀ (l : List Av) (k i : Nat) (hk : k < l.length), i < 10 → (acells l)[k * 10 + i]? = (acell l[k])[i]?
  | x :: l, 0, i, _, hi => by
    rw [acells_cons, Nat.zero_mul, Nat.zero_add, List.getElem?_append_left (by rw [acell_len]; exact hi)]
    rfl
  | x :: l, k + 1, i, h, hi => by
    have := acells_get l k i (by simpa using h) hi
    rw [acells_cons, List.getElem?_append_right (by rw [acell_len]; omega), acell_len]
    have e : (k + 1) * 10 + i - 10 = k * 10 + i := by omega
    rw [e, this]; rfl
/-- v, a []Act, reads as l -/
structure ActsR (w : World) (N N' : Nat → Prop) (v : Value) (l : List Av) : Prop where
  rd : RdV w N 10 v l.length (acells l)
  nd : ∀ x ∈ l, NdR w N' x.2.1.2 x.2.2.1 x.2.2.2
theorem ActsR.below {w w' : World} {B : Nat} {N N' : Nat → Prop} {v : Value} {l : List Av} (h : ActsR w N N' v l) (hb : Below B w w') (h1 : ∀ b, N b → b < B) (h2 : ∀ b, N' b → b < B) : ActsR w' N N' v l := ⟨h.rd.below hb h1, fun x hx => (h.nd x hx).below hb h2⟩
theorem ActsR.puts {w : World} {N N' : Nat → Prop} {l : List Av} {b off n cap : Nat} (h : ActsR w N N' (.slice (some ⟨b, off, none⟩) n cap) l) {k : Nat} (hk : k < l.length) : w.cell? ⟨b, off + k * 10, none⟩ = some (.bool l[k].1) :=
  h.rd.cell b off _ _ rfl _ _ (by have := acells_get l k 0 hk (by decide); rw [Nat.add_zero] at this; rw [this]; rfl)
/-- the Member of an act is read -/
theorem ActsR.load {w : World} {N N' : Nat → Prop} {l : List Av} {b off n cap : Nat} (h : ActsR w N N' (.slice (some ⟨b, off, none⟩) n cap) l) {k : Nat} (hk : k < l.length) : (Instr.loadAt 41 (.pointer (some ⟨b, off + k * 10 + 1, none⟩))).run Tryz.prog w = .ok (.agg (mcell l[k].2)) w := by
  have := run_loadAt_mid (P := Tryz.prog) w b (off + k * 10 + 1) 41 (mcell l[k].2).toList _ (fun j z hj => by
    have hlt := (List.getElem?_eq_some_iff.1 hj).1
    rw [mcell_len] at hlt
    have hg := acells_get l k (j + 1) hk (by omega)
    have e : (acell l[k])[j + 1]? = some z := by
      show (mcell l[k].2).toList[j]? = some z
      simpa using hj
    rw [e] at hg
    have hc := h.rd.cell b off _ _ rfl _ _ hg
    rw [show off + k * 10 + 1 + j = off + (k * 10 + (j + 1)) by omega]
    exact hc) Tryz.underlying41 rfl (by rw [mcell_len]; exact aggM.i)
  simpa using this
end Go.Proofs.YtmnknmpfkjhgbaaGreatDoor
/- tree.New. -/
namespace Go.Proofs.YtmnknmpfkjhgbaaGreatDoor
open Go.RowKit
def growT (l : List Mb) : List Mb := l.foldl SM.put []
def newT (l : List Mb) : Int × Option (List Mb) :=
  if l.any (fun m => !mayM m) then (1, none) else if (growT l).length < l.length then (9, none) else if l.any (fun m => !dirT (growT l) (parentP m.1)) then (33, none) else if 4096 < l.length then (42, none) else (0, some (growT l))
theorem ent_n1 : ∀ args w, (callFunc 72 args).run Tryz.prog w = .ok (.enter 72 args) w := enters_of Tryz.func72 (by kernel_rfl) rfl
theorem ent_n2 : ∀ args w, (callFunc 74 args).run Tryz.prog w = .ok (.enter 74 args) w := enters_of Tryz.func74 (by kernel_rfl) rfl
set_option maxHeartbeats 1000000 in
set_option maxRecDepth 100000 in
theorem n1_any (m : Mb) (av dv : Value) (hsm : Sm m) (B : Nat) (w : World) (hT : Tabs B w) (hr : NdR w (· < w.heap.size) m.2 av dv) :
    Calls Tryz.prog 72 #[.agg (mbC m av dv)] w fun e w' => e = .returned (.bool (!mayM m)) ∧ Below w.heap.size w w' := by
  have HMY : Keep (∀ wx, Below w.heap.size w wx → Calls Tryz.prog 73 #[.agg (mbC m av dv)] wx fun e w' => e = .returned (.bool (mayM m)) ∧ Below wx.heap.size wx w') := ⟨fun wx hb => by
    have ht := hT.on (hb.mono hT.b)
    exact tmay_any m av dv hsm B wx ht.b ht.m ht.c ht.t ((hr.below hb (fun b hb => hb)).mono (fun b hb' => Nat.lt_of_lt_of_le hb' hb.size))⟩
  obtain ⟨aa, la, ca, ad, ld, cd, rfl, rfl⟩ := hr.shape
  have HMC : Keep (mbC m (.slice aa la ca) (.slice ad ld cd) = #[.string ⟨m.1.toArray⟩, .int .i64 m.2.kind, .int .u32 m.2.mode, .int .u32 m.2.uid, .int .u32 m.2.gid, .int .i64 m.2.time, .slice aa la ca, .slice ad ld cd, .string ⟨m.2.link.toArray⟩]) := ⟨rfl⟩
  rw [HMC.out] at HMY ⊢
  generalize mayM m = my at *
  clear hr hT hsm
  go_enter Tryz.func72, Tryz.ntmps72
  go_upto_region 1 with fail
  refine wp_world (R := fun w1 => Hp NoM w w1 [rowA w.heap.size 41 #[.string ⟨m.1.toArray⟩, .int .i64 m.2.kind, .int .u32 m.2.mode, .int .u32 m.2.uid, .int .u32 m.2.gid, .int .i64 m.2.time, .slice aa la ca, .slice ad ld cd, .string ⟨m.2.link.toArray⟩]]) ((Hp.begin NoM w).newRow _ _) ?_
  intro w1 H1
  have HRW := Keep.keep (H1.out.row 0 rfl)
  have HSZ : Keep ((#[.string ⟨m.1.toArray⟩, .int .i64 m.2.kind, .int .u32 m.2.mode, .int .u32 m.2.uid, .int .u32 m.2.gid, .int .i64 m.2.time, .slice aa la ca, .slice ad ld cd, .string ⟨m.2.link.toArray⟩] : Array Value).size = 9) := ⟨rfl⟩
  go_wp2_with ((with_reducible refine arm_loadRow HRW.out aggM HSZ.out ?_ ?_); (focus rfl); simp only [Act.put, List.setIfInBounds_toArray, List.set_cons_succ, List.set_cons_zero])
  refine (HMY.out w1 H1.out.below).mono ?_
  rintro e w2 ⟨rfl, hb2⟩
  have H2 := Keep.keep (H1.out.call hb2).below
  clear hb2
  go_wp2_with fail
  go_ret
  exact ⟨rfl, H2.out⟩
set_option maxHeartbeats 1000000 in
set_option maxRecDepth 100000 in
theorem n2_any (m : Mb) (av dv : Value) (hsm : Sm m) (hs : NdS (m, av, dv)) (P4 T mb : Nat) (Bk : Nat → Prop) (f : Tx → Value × Value) (L : List Mb) (w : World) (hT : TreeIn w T mb Bk f L) (hBk : ∀ b, Bk b → b < w.heap.size) (hc : w.cell? ⟨P4, 0, none⟩ = some (.pointer (some ⟨T, 0, none⟩))) :
    Calls Tryz.prog 74 #[.agg (mbC m av dv), .pointer (some ⟨P4, 0, none⟩)] w fun e w' => e = .returned (.bool (!dirT L (parentP m.1))) ∧ Below w.heap.size w w' := by
  have hP4 : P4 < w.heap.size := World.block_lt_of_cell? w _ hc
  have hpp := hsm.p
  have HON : Keep (∀ wx, Below w.heap.size w wx → TreeIn wx T mb Bk f L) := ⟨fun wx hb => hT.loc (fun b hb' => hb.block b (by rcases hb' with rfl | rfl | h; exact hT.row.lt; exact hT.map.lt; exact hBk b h))⟩
  have HC4 : Keep (∀ wx, Below w.heap.size w wx → wx.cell? ⟨P4, 0, none⟩ = some (.pointer (some ⟨T, 0, none⟩))) := ⟨fun wx hb => by rw [hb.cell (p := ⟨P4, 0, none⟩) hP4]; exact hc⟩
  have HDR : Keep (∀ wx, Below w.heap.size w wx → Calls Tryz.prog 75 #[.pointer (some ⟨T, 0, none⟩), .string ⟨(parentP m.1).toArray⟩] wx fun e w' => e = .returned (.bool (dirT L (parentP m.1))) ∧ Below wx.heap.size wx w') := ⟨fun wx hb => (dir_tree T mb Bk f L wx (HON.out wx hb) _ (by have := parent_len m.1; omega)).mono (by rintro e w' ⟨rfl, rfl⟩; exact ⟨rfl, Below.refl _ _⟩)⟩
  have HPA : Keep (∀ wx : World, Calls Tryz.prog 76 #[.string ⟨m.1.toArray⟩] wx fun e w' => e = .returned (.string ⟨(parentP m.1).toArray⟩) ∧ Below wx.heap.size wx w') := ⟨fun wx => (parent_any m.1 (by omega) wx).mono (by rintro e w' ⟨rfl, rfl⟩; exact ⟨rfl, Below.refl _ _⟩)⟩
  obtain ⟨aa, la, ca, ad, ld, cd, e1, e2⟩ := hs
  simp only at e1 e2
  subst e1 e2
  have HMC : Keep (mbC m (.slice aa la ca) (.slice ad ld cd) = #[.string ⟨m.1.toArray⟩, .int .i64 m.2.kind, .int .u32 m.2.mode, .int .u32 m.2.uid, .int .u32 m.2.gid, .int .i64 m.2.time, .slice aa la ca, .slice ad ld cd, .string ⟨m.2.link.toArray⟩]) := ⟨rfl⟩
  rw [HMC.out]
  generalize dirT L (parentP m.1) = dr at *
  generalize parentP m.1 = pp at *
  clear hT hBk hc
  go_enter Tryz.func74, Tryz.ntmps74
  go_upto_region 1 with fail
  refine wp_world (R := fun w1 => Hp NoM w w1 [rowA w.heap.size 41 #[.string ⟨m.1.toArray⟩, .int .i64 m.2.kind, .int .u32 m.2.mode, .int .u32 m.2.uid, .int .u32 m.2.gid, .int .i64 m.2.time, .slice aa la ca, .slice ad ld cd, .string ⟨m.2.link.toArray⟩]]) ((Hp.begin NoM w).newRow _ _) ?_
  intro w1 H1
  have HK1 : Keep (∀ wx, Below w1.heap.size w1 wx → wx.cell? ⟨w.heap.size, 0, none⟩ = some (.string ⟨m.1.toArray⟩)) := ⟨fun wx hb => ((H1.out.call hb).row 0 rfl).cell (i := 0) rfl⟩
  have HK2 : Keep (∀ wx, Below w1.heap.size w1 wx → wx.cell? ⟨P4, 0, none⟩ = some (.pointer (some ⟨T, 0, none⟩))) := ⟨fun wx hb => HC4.out wx (H1.out.call hb).below⟩
  have HDR' : Keep (∀ wx, Below w1.heap.size w1 wx → Calls Tryz.prog 75 #[.pointer (some ⟨T, 0, none⟩), .string ⟨pp.toArray⟩] wx fun e w' => e = .returned (.bool dr) ∧ Below wx.heap.size wx w') := ⟨fun wx hb => HDR.out wx (H1.out.call hb).below⟩
  have HPA' : Keep (∀ wx, Below w1.heap.size w1 wx → Calls Tryz.prog 76 #[.string ⟨m.1.toArray⟩] wx fun e w' => e = .returned (.string ⟨pp.toArray⟩) ∧ Below wx.heap.size wx w') := ⟨fun wx _ => HPA.out wx⟩
  refine wp_region_cls (fun w' => Below w1.heap.size w1 w') (by kernel_rfl) (by kernel_rfl) (Below.refl _ _).drew ?_
  repeat (first
    | ((with_reducible refine cls_cell ?_ HK1.out (run_isAgg_plain Tryz.underlying9 rfl) ?_ ?_); (focus rfl); (focus rfl); simp only [Act.put, List.setIfInBounds_toArray, List.set_cons_succ, List.set_cons_zero])
    | ((with_reducible refine cls_cell ?_ HK2.out (run_isAgg_plain Tryz.underlying24 rfl) ?_ ?_); (focus rfl); (focus rfl); simp only [Act.put, List.setIfInBounds_toArray, List.set_cons_succ, List.set_cons_zero])
    | ((with_reducible refine cls_call (f := 75) ?_ (Go.Proofs.enters_of Tryz.func75 (by kernel_rfl) rfl) ?_ (fun w1 hw1 => (HDR'.out w1 hw1).mono (fun e w2 he => ⟨he.1, hw1.trans (he.2.mono hw1.size)⟩)) ?_); (focus rfl); (focus (first | exact Array.map_empty | (simp only [List.map_toArray, List.map_cons, List.map_nil]; rfl))); simp only [Act.put, List.setIfInBounds_toArray, List.set_cons_succ, List.set_cons_zero])
    | ((with_reducible refine cls_call (f := 76) ?_ (Go.Proofs.enters_of Tryz.func76 (by kernel_rfl) rfl) ?_ (fun w1 hw1 => (HPA'.out w1 hw1).mono (fun e w2 he => ⟨he.1, hw1.trans (he.2.mono hw1.size)⟩)) ?_); (focus rfl); (focus (first | exact Array.map_empty | (simp only [List.map_toArray, List.map_cons, List.map_nil]; rfl))); simp only [Act.put, List.setIfInBounds_toArray, List.set_cons_succ, List.set_cons_zero])
    | (first | go_big_quiet_step (fail) | (go_big_quiet_want; go_big_quiet_op; (refine ⟨_, fun _ _ => rfl, ?_⟩); go_big_quiet_on)))
  (refine wpQuiet_nil ?_); intro w2 hw2
  have H2 := Keep.keep (H1.out.call hw2).below
  clear hw2
  go_wp2_with fail
  go_ret
  exact ⟨rfl, H2.out⟩
end Go.Proofs.YtmnknmpfkjhgbaaGreatDoor
/- A SLICE OF BYTES OF THE CALL's OWN, its bytes whichever. -/
namespace Go.Proofs.YtmnknmpfkjhgbaaGreatDoor
open Go.RowKit
/-- the first items alone -/
theorem Hp.take {M : Nat → Prop} {w wr : World} {ls : List As} (h : Hp M w wr ls) (n : Nat) : Hp M w wr (ls.take n) := by
  refine ⟨h.c, fun A hA => h.p A (List.mem_of_mem_take hA), fun i j A B hi hj => ?_⟩
  rw [List.getElem?_take] at hi hj
  split at hi
  · split at hj
    · exact h.d i j A B hi hj
    · cases hj
  · cases hi
/-- v's own block: its first n cells are bytes, whichever -/
def someA (v : Value) (n : Nat) : As := ⟨fun b => v.ownBlock = some b, fun w => ∀ b, v.ownBlock = some b → ∃ c, Row w b 5 c ∧ ∀ j, j < n → ∃ x : UInt8, c[j]? = some (.int .u8 (x.toNat : Int)), fun w w' h hp b hb => by
  obtain ⟨c, h1, h2⟩ := hp b hb
  exact ⟨c, by unfold Row; rw [h b hb]; exact h1, h2⟩⟩
theorem someA_of {w : World} {base : Nat} {v : Value} {l : List UInt8} (h : Owns w base 5 v l) : (someA v l.length).P w := by
  obtain ⟨_, h⟩ := h
  rcases h with ⟨rfl, h0⟩ | ⟨g, cap, cur, rfl, hb, hh, hn, hm, hs, ht⟩
  · intro b hb; cases hb
  · intro b hb
    obtain rfl : g = b := by injection hb
    refine ⟨cur, hh, fun j hj => ⟨l[j], ?_⟩⟩
    have := bcells_get l j hj
    rw [← ht, List.getElem?_take, if_pos (by omega)] at this
    simpa using this
theorem owns_blk {w : World} {base : Nat} {v : Value} {l : List UInt8} (h : Owns w base 5 v l) (hl : 0 < l.length) : ∃ b cap, v = .slice (some ⟨b, 0, none⟩) l.length cap ∧ l.length ≤ cap := by
  obtain ⟨_, h⟩ := h
  rcases h with ⟨rfl, h0⟩ | ⟨g, cap, cur, rfl, hb, hh, hn, hm, hs, ht⟩
  · omega
  · exact ⟨g, cap, rfl, hn⟩
theorem someA_set {M : Nat → Prop} {w wr : World} {ls : List As} (h : Hp M w wr ls) (i : Nat) {b cap n k : Nat} (hi : ls[i]? = some (someA (.slice (some ⟨b, 0, none⟩) n cap) n)) (y : UInt8) : Hp M w (wr.setCell ⟨b, k, none⟩ (.int .u8 (y.toNat : Int))) (ls.set i (someA (.slice (some ⟨b, 0, none⟩) n cap) n)) := by
  refine h.upd i hi _ (Chg.setCell (M := fun k => (someA (.slice (some ⟨b, 0, none⟩) n cap) n).blk k) (p := ⟨b, k, none⟩) (.refl _ _ _) (.inr rfl) _) ?_ (fun _ hb => .inl hb)
  intro b' hb'
  obtain rfl : b = b' := by injection hb'
  obtain ⟨c, h1, h2⟩ := h.get i hi b rfl
  refine ⟨_, h1.set k _, fun j hj => ?_⟩
  obtain ⟨x, hx⟩ := h2 j hj
  by_cases hjk : k = j
  · subst hjk
    have hlt := (Array.getElem?_eq_some_iff.1 hx).1
    exact ⟨y, by rw [Array.getElem?_setIfInBounds_self_of_lt hlt]⟩
  · exact ⟨x, by rw [Array.getElem?_setIfInBounds_ne hjk]; exact hx⟩
end Go.Proofs.YtmnknmpfkjhgbaaGreatDoor
/- tree.New. -/
namespace Go.Proofs.YtmnknmpfkjhgbaaGreatDoor
open Go.RowKit
theorem growT_snoc (l : List Mb) (m : Mb) : growT (l ++ [m]) = SM.put (growT l) m := by unfold growT; rw [List.foldl_append]; rfl
theorem srt_fold (l : List Mb) : ∀ t : List Mb, SM.Srt t → SM.Srt (l.foldl SM.put t) := by
  induction l with
  | nil => exact fun t h => h
  | cons m l ih => exact fun t h => ih _ (h.put m)
theorem growT_srt (l : List Mb) : SM.Srt (growT l) := srt_fold l [] SM.Srt.nil
theorem fold_len (l : List Mb) : ∀ t : List Mb, SM.Srt t → (l.foldl SM.put t).length ≤ t.length + l.length := by
  induction l with
  | nil => intro t _; simp
  | cons m l ih =>
    intro t h
    have h1 := ih _ (h.put m)
    have h2 := h.length_put m
    rw [List.foldl_cons, List.length_cons]
    split at h2 <;> omega
theorem growT_len (l : List Mb) : (growT l).length ≤ l.length := by have := fold_len l [] SM.Srt.nil; simpa [growT] using this
def NewIs (w w' : World) (pv : Value) : Option (List Mb) → Prop
  | none => pv = .pointer none
  | some t => ∃ T mb Bk f, pv = .pointer (some ⟨T, 0, none⟩) ∧ TreeIn w' T mb Bk f t ∧ w.heap.size ≤ T ∧ w.heap.size ≤ mb ∧ ∀ b, Bk b → Fresh w.heap.size w' b
set_option maxHeartbeats 4000000 in
set_option maxRecDepth 100000 in
theorem new_tree (v : Value) (l : List Mv) (B : Nat) (w : World) (hT : Tabs B w) (hr : Mbs w (· < w.heap.size) (· < w.heap.size) v l) (hs : ∀ x ∈ l, Sm x.1) (hl : l.length ≤ 1000000) :
    Calls Tryz.prog 35 #[v] w fun e w' => (∃ pv, e = .returned (.tuple #[pv, .int .i64 (newT (l.map (·.1))).1]) ∧ NewIs w w' pv (newT (l.map (·.1))).2) ∧ Below w.heap.size w w' := by
  have HR := Keep.keep hr; have HS := Keep.keep hs; have HTB := Keep.keep hT
  have HC1 := Keep.keep (cfuncM 72 #[] (fun m => !mayM m) v l w ent_n1 (fun wx hb x hx => by
    have := n1_any x.1 x.2.1 x.2.2 (hs x hx) B wx (hT.on (hb.mono hT.b)) (((hr.nd x hx).below hb (fun b hb => hb)).mono (fun b hb' => Nat.lt_of_lt_of_le hb' hb.size))
    simpa [mcell] using this) hr)
  have HNT : Keep (newT (l.map (·.1)) = if (l.any fun x => !mayM x.1) then (1, none) else if (growT (l.map (·.1))).length < l.length then (9, none) else if (l.any fun x => !dirT (growT (l.map (·.1))) (parentP x.1.1)) then (33, none) else if 4096 < l.length then (42, none) else (0, some (growT (l.map (·.1))))) := ⟨by
    unfold newT; rw [List.any_map, List.length_map, List.any_map]; rfl⟩
  generalize newT (l.map (·.1)) = res at *
  obtain ⟨a, cap, hv, hcap, hmx, hsh⟩ := hr.rd.shape
  have HSH := Keep.keep hsh
  obtain ⟨an, han⟩ : ∃ an, (l.any fun x => !mayM x.1) = an := ⟨_, rfl⟩
  rw [han] at HC1 HNT
  clear hr hs hT hsh han
  unfold maxLen at hmx
  subst hv
  obtain ⟨n, hn⟩ : ∃ n, l.length = n := ⟨_, rfl⟩
  have HN := Keep.keep hn
  rw [hn] at hl hcap HNT HC1 ⊢
  clear hn
  go_enter Tryz.func35, Tryz.ntmps35
  go_wp2_with fail
  refine HC1.out.mono ?_
  rintro e w1 ⟨rfl, hb1⟩
  have HB1 := Keep.keep hb1
  clear hb1 HC1
  cases an with
  | true =>
    have HRE : Keep (res = (1, none)) := ⟨HNT.out⟩
    go_wp2_with fail
    go_ret2
    rw [HRE.out]
    exact ⟨⟨_, rfl, rfl⟩, HB1.out⟩
  | false =>
    have HNT2 : Keep (res = if (growT (l.map (·.1))).length < n then (9, none) else if (l.any fun x => !dirT (growT (l.map (·.1))) (parentP x.1.1)) then (33, none) else if 4096 < n then (42, none) else (0, some (growT (l.map (·.1))))) := ⟨HNT.out⟩
    clear HNT
    have hmm := @run_makeMap Tryz.prog
    go_upto_region 4 with fail
    refine wp_world (R := fun w2 => Hp NoM w w2 [trA (w1.heap.size + 1) w1.heap.size (fun _ => False) (fun _ => (nilV, nilV)) [], rowA (w1.heap.size + 1 + 1) 24 #[.pointer (some ⟨w1.heap.size + 1, 0, none⟩)]]) ?_ ?_
    · have h1 := (Hp.begin NoM w).call HB1.out
      have hb2 : Below w1.heap.size w1 ((w1.alloc (Obj.map #[] 0)).alloc (Obj.cells #[Value.map (some w1.heap.size)] 88)) := ((Below.refl _ _).alloc (Nat.le_refl _) _).alloc (by simp) _
      have hm1 := MapS.made (k := 9) w1
      have h2 := h1.push (trA (w1.heap.size + 1) w1.heap.size (fun _ => False) (fun _ => (nilV, nilV)) []) (.of_below hb2)
        ⟨Row.new' (by simp) rfl, hm1.loc (Below.heap_alloc _ _ _ hm1.lt), (fun m hm => (List.not_mem_nil hm).elim), (fun m hm => (List.not_mem_nil hm).elim), ⟨by omega, fun h => h, fun h => h⟩⟩
        (fun b hb => by rcases hb with rfl | rfl | h
                        · simp
                        · simp; omega
                        · exact h.elim)
      exact h2.newRow' _ _ _ _ (by simp) rfl
    intro w2 H2
    obtain ⟨mb, hmb⟩ : ∃ mb, w1.heap.size = mb := ⟨_, rfl⟩
    have HMB : Keep (w.heap.size ≤ mb) := ⟨by rw [← hmb]; exact HB1.out.size⟩
    rw [hmb] at H2 ⊢
    clear hmb
    obtain ⟨T, hTe⟩ : ∃ T, mb + 1 = T := ⟨_, rfl⟩
    rw [hTe] at H2 ⊢
    obtain ⟨P4, hP4⟩ : ∃ P, T + 1 = P := ⟨_, rfl⟩
    rw [hP4] at H2 ⊢
    go_wp2_with fail
    go_loopg [6, 15] n (fun g _ u15 wx => ∃ (k : Nat) (Bk : Nat → Prop) (f : Tx → Value × Value), k + g = n ∧ u15 = .int .i64 (k : Int) ∧ Hp NoM w wx [trA T mb Bk f (growT ((l.take k).map (·.1))), rowA P4 24 #[.pointer (some ⟨T, 0, none⟩)]])
    case atStart => exact ⟨0, _, _, by omega, rfl, H2.out⟩
    case round =>
      obtain ⟨k, Bk, f, hkg, rfl, hH⟩ := hrel
      have HH := Keep.keep hH
      clear hH H2
      by_cases hk : k < n
      · have hd : decide ((k : Int) < (n : Int)) = true := decide_eq_true (by omega)
        have hkl : k < l.length := by rw [HN.out]; exact hk
        obtain ⟨b, off, rfl, hbl⟩ : ∃ b off, a = some ⟨b, off, none⟩ ∧ b < w.heap.size := by
          rcases HSH.out with h | ⟨b, off, h, hb⟩
          · omega
          · exact ⟨b, off, h, hb⟩
        obtain ⟨gn, hgn⟩ : ∃ gn, gk = gn + 1 := ⟨gk - 1, by omega⟩
        subst hgn
        have hrx := HR.out.below HH.out.below (fun b hb => hb) (fun b hb => hb)
        have hld := hrx.load hkl
        have hGS : Keep ((l.take (k + 1)).map (·.1) = (l.take k).map (·.1) ++ [l[k].1]) := ⟨by rw [List.take_succ_eq_append_getElem hkl, List.map_append]; rfl⟩
        have HSX := Keep.keep (HS.out _ (List.getElem_mem hkl))
        have HNX := Keep.keep (HR.out.nd _ (List.getElem_mem hkl))
        generalize l[k] = x at *
        obtain ⟨aa, la, ca, ad, ld, cd, e1, e2⟩ := HNX.out.shape
        have HMC : Keep (mcell x = #[.string ⟨x.1.1.toArray⟩, .int .i64 x.1.2.kind, .int .u32 x.1.2.mode, .int .u32 x.1.2.uid, .int .u32 x.1.2.gid, .int .i64 x.1.2.time, .slice aa la ca, .slice ad ld cd, .string ⟨x.1.2.link.toArray⟩]) := ⟨by unfold mcell; rw [e1, e2]; rfl⟩
        rw [HMC.out] at hld
        rw [e1, e2] at HNX
        clear hrx e1 e2 hkl HMC
        go_upto_region 7 with ((with_reducible refine arm_loadM hld ?_ ?_); (focus rfl); simp only [Act.put, List.setIfInBounds_toArray, List.set_cons_succ, List.set_cons_zero])
        refine wp_world (R := fun w3 => Hp NoM w w3 [trA T mb Bk f (growT ((l.take k).map (·.1))), rowA P4 24 #[.pointer (some ⟨T, 0, none⟩)], rowA wr.heap.size 41 #[.string ⟨x.1.1.toArray⟩, .int .i64 x.1.2.kind, .int .u32 x.1.2.mode, .int .u32 x.1.2.uid, .int .u32 x.1.2.gid, .int .i64 x.1.2.time, .slice aa la ca, .slice ad ld cd, .string ⟨x.1.2.link.toArray⟩]]) (HH.out.newRow _ _) ?_
        intro wc HC
        generalize wr.heap.size = b6 at *
        clear hld HH
        refine wp_region_spcT 9 [19, 20, 21, 22, 23, 24, 25, 26, 27] (Below wc.heap.size wc) (p12T wc T mb b6 x.1.1 x.1.2 (.slice aa la ca) (.slice ad ld cd)) (fun w w' => Below w.heap.size w w') (by kernel_rfl) rfl (by decide) (by show ∀ d ∈ _, d < 48; decide) (by kernel_rfl) (by decide) (by kernel_rfl) (by kernel_rfl) (by kernel_rfl) (Below.refl _ _).drew (fun i v w w' h _ hb => p12T_stays i v w w' h hb) ?_ ?_
        · intro q hq a1 w6 hF hC hT
          have b4 : a1.eval (.tmp 4) = .pointer (some ⟨P4, 0, none⟩) := (hF.same 4 (by decide)).trans rfl
          have b6e : a1.eval (.tmp 6) = .pointer (some ⟨b6, 0, none⟩) := (hF.same 6 (by decide)).trans rfl
          have hkr : Below w6.heap.size w6 w6 := Below.refl _ _
          have HP := HC.out.call hC
          have hRC := HP.row 2 rfl
          have hTW := (HP.get 0 rfl).row
          rcases (by omega : q = 0 ∨ q = 1 ∨ q = 2 ∨ q = 3 ∨ q = 4 ∨ q = 5 ∨ q = 6 ∨ q = 7 ∨ q = 8) with rfl | rfl | rfl | rfl | rfl | rfl | rfl | rfl | rfl
          · exact spcS_val (d := 19) rfl (wanted_none rfl) (run_loadCell (run_isAgg_plain Tryz.underlying24 rfl) ((HP.row 1 rfl).cell (i := 0) rfl) b4) hC hkr rfl
          · have hx : a1.eval (.tmp 19) = .pointer (some ⟨T, 0, none⟩) := hT 0 (by decide) (by kernel_rfl)
            exact spcS_val (d := 20) rfl (wanted_none rfl) (by simp [execOp, hx]) hC hkr rfl
          · have hx : a1.eval (.tmp 20) = .pointer (some ⟨T, 0, none⟩) := hT 1 (by decide) (by kernel_rfl)
            exact spcS_val (d := 21) rfl (wanted_none rfl) (run_fieldAddr (m := 0) Tryz.underlying88 rfl (by kernel_rfl) hx) hC hkr rfl
          · have hx : a1.eval (.tmp 21) = .pointer (some ⟨T, 0, none⟩) := hT 2 (by decide) (by kernel_rfl)
            exact spcS_val (d := 22) rfl (wanted_none rfl) (run_loadCell (run_isAgg_plain Tryz.underlying86 rfl) (hTW.cell (i := 0) rfl) hx) hC hkr rfl
          · exact spcS_val (d := 23) rfl (wanted_none rfl) (run_fieldAddr (m := 0) Tryz.underlying41 rfl (by kernel_rfl) b6e) hC hkr rfl
          · have hx : a1.eval (.tmp 23) = .pointer (some ⟨b6, 0, none⟩) := hT 4 (by decide) (by kernel_rfl)
            exact spcS_val (d := 24) rfl (wanted_none rfl) (run_loadCell (run_isAgg_plain Tryz.underlying9 rfl) (hRC.cell (i := 0) rfl) hx) hC hkr rfl
          · exact spcS_val (d := 25) rfl (wanted_none rfl) (run_fieldAddr (m := 7) Tryz.underlying41 rfl (by kernel_rfl) b6e) hC hkr rfl
          · have hx : a1.eval (.tmp 25) = .pointer (some ⟨b6, 1, none⟩) := hT 6 (by decide) (by kernel_rfl)
            exact spcS_val (d := 26) rfl (wanted_none rfl) (run_loadNd (m := x.1) hRC hx) hC hkr rfl
          · have hx : a1.eval (.tmp 26) = .agg (ndC x.1.2 (.slice aa la ca) (.slice ad ld cd)) := hT 7 (by decide) (by kernel_rfl)
            refine spcS_call (d := 27) (vs := #[.agg (ndC x.1.2 (.slice aa la ca) (.slice ad ld cd))]) rfl (wanted_none rfl) (Go.Proofs.enters_of Tryz.func57 (by kernel_rfl) rfl) (by simp [hx]) ?_
            have hsz6 := HP.size
            refine (clone_node x.1.2 _ _ w6 ((HNX.out.below HP.below (fun b hb => hb)).mono (fun b hb => by omega)) HSX.out.a (Nat.le_trans HSX.out.d (by decide))).mono ?_
            rintro e wz ⟨a', d', rfl, hn', hb⟩
            exact ⟨_, rfl, hC.trans (hb.mono hC.size), hb, a', d', rfl, hn'.mono (fun b hb' => hb'.mono hC.size (Nat.le_refl _))⟩
        · intro a2 w6 ha hC hT
          have t3 : slot a2 22 = .map (some mb) := hT 3 (by decide)
          have t5 : slot a2 24 = .string ⟨x.1.1.toArray⟩ := hT 5 (by decide)
          obtain ⟨av', dv', t8, hn'⟩ : ∃ av' dv', slot a2 27 = .agg (ndC x.1.2 av' dv') ∧ NdR w6 (Fresh wc.heap.size w6) x.1.2 av' dv' := hT 8 (by decide)
          simp only [List.foldl_cons, List.foldl_nil, t3, t5, t8] at ha
          clear hT t3 t5 t8
          generalize slot a2 19 = y19 at *
          generalize slot a2 20 = y20 at *
          generalize slot a2 21 = y21 at *
          generalize slot a2 23 = y23 at *
          generalize slot a2 25 = y25 at *
          generalize slot a2 26 = y26 at *
          have HN' := Keep.keep hn'
          have H6 := Keep.keep (HC.out.call hC)
          have HS6 := Keep.keep hC.size
          have HC6 := Keep.keep hC
          clear hn' hC
          subst ha
          simp only [List.drop_succ_cons, List.drop_zero]
          simp only [Act.put, List.setIfInBounds_toArray, List.set_cons_succ, List.set_cons_zero]
          have hT6 : TreeIn w6 T mb Bk f (growT ((l.take k).map (·.1))) := H6.out.get 0 rfl
          have hbk6 : ∀ b, Bk b → b < wc.heap.size := fun b hb => ((HC.out.p _ (List.mem_of_getElem? (i := 0) rfl)).2 b (.inr (.inr hb))).2
          have hT6lt : T < wc.heap.size ∧ mb < wc.heap.size := ⟨((HC.out.p _ (List.mem_of_getElem? (i := 0) rfl)).2 T (.inl rfl)).2, ((HC.out.p _ (List.mem_of_getElem? (i := 0) rfl)).2 mb (.inr (.inl rfl))).2⟩
          have HT6 := Keep.keep hT6; have HBK6 := Keep.keep hbk6; have HLT6 := Keep.keep hT6lt
          have hel : (entries f (growT ((l.take k).map (·.1)))).length < maxLen := by
            have := growT_len ((l.take k).map (·.1))
            simp [entries] at this ⊢
            unfold maxLen; omega
          clear hT6 hbk6 hT6lt
          go_wp2_with (first | (with_reducible refine arm_sRange ?_) | (with_reducible refine arm_sNext ?_) | (with_reducible refine arm_sDel ?_) | (with_reducible refine arm_sPut ?_) | (with_reducible refine arm_sIns ?_))
          refine StM.out ?_
          refine arm_putS Tryz.underlying9 Tryz.underlying86 HT6.out.map (p := x.1.1) (by have := HSX.out.p; unfold maxLen; omega) hel rfl rfl rfl ?_
          intro w7 hm7 hc7
          have hs6 := HS6.out
          have hs7 := hc7.size
          have hfin := HT6.out.put (Bk' := fun b => Bk b ∨ Fresh wc.heap.size w6 b) (fun b hb => by have := HBK6.out b hb; omega) x.1 av' dv' HSX.out hm7 hc7 (HN'.out.mono (fun b hb => .inr hb)) (fun b hb => .inl hb) (fun b hb => by
            rcases hb with hb | hb
            · have h1 := HBK6.out b hb
              exact ⟨by omega, fun e => HT6.out.ne.2.1 (e ▸ hb), fun e => HT6.out.ne.2.2 (e ▸ hb)⟩
            · have h1 := hb.1
              have h2 := HLT6.out
              exact ⟨hb.2, by omega, by omega⟩)
          rw [← growT_snoc, ← hGS.out] at hfin
          have hch : Chg (fun j => (trA T mb Bk f (growT ((l.take k).map (·.1)))).blk j) wc.heap.size wc w7 := ((Chg.of_below (M := fun j => (trA T mb Bk f (growT ((l.take k).map (·.1)))).blk j) HC6.out)).trans ((hc7.lower HS6.out).mono (Nat.le_refl _) (fun j hj => .inr (.inl hj)))
          have H7 := Keep.keep (HC.out.upd 0 rfl (trA T mb (fun b => Bk b ∨ Fresh wc.heap.size w6 b) (fun q => if q = x.1.1 then (av', dv') else f q) (growT ((l.take (k + 1)).map (fun y : Mv => y.1)))) hch hfin (fun b hb => by
            rcases hb with h | h | h | h
            · exact .inl (.inl h)
            · exact .inl (.inr (.inl h))
            · exact .inl (.inr (.inr h))
            · exact .inr ⟨h.1, by have := h.2; omega⟩))
          clear hfin hm7 hc7 hch
          simp only [Act.put]
          go_wp2_with fail
          go_roundg gn
          case measure => omega
          case rel => exact ⟨k + 1, (fun b => Bk b ∨ Fresh wc.heap.size w6 b), (fun q => if q = x.1.1 then (av', dv') else f q), by omega, by simp, H7.out.take 2⟩
      · have hd : decide ((k : Int) < (n : Int)) = false := decide_eq_false (by omega)
        have hkn : k = n := by omega
        subst hkn
        have etk : l.take k = l := List.take_of_length_le (by rw [HN.out]; exact Nat.le_refl _)
        rw [etk] at HH
        obtain ⟨t, ht⟩ : ∃ t, growT (l.map (·.1)) = t := ⟨_, rfl⟩
        rw [ht] at HH HNT2
        have htl : t.length ≤ k := by rw [← ht]; have := growT_len (l.map (·.1)); rw [List.length_map, HN.out] at this; exact this
        have hTI : TreeIn wr T mb Bk f t := HH.out.get 0 rfl
        have hbk : ∀ b, Bk b → w.heap.size ≤ b ∧ b < wr.heap.size := fun b hb => by
          have := (HH.out.p _ (List.mem_of_getElem? (i := 0) rfl)).2 b (.inr (.inr hb))
          exact ⟨this.1.elim id (fun h => h.elim), this.2⟩
        have hlt0 : w.heap.size ≤ T ∧ w.heap.size ≤ mb := ⟨((HH.out.p _ (List.mem_of_getElem? (i := 0) rfl)).2 T (.inl rfl)).1.elim id (fun h => h.elim), HMB.out⟩
        have c4 := (HH.out.row 1 rfl).cell (i := 0) rfl
        have cT := hTI.row.cell (i := 0) rfl
        have hlen := fun ty => hTI.map.len Tryz.underlying86 ty
        have e1 : (entries f t).length = t.length := by simp [entries]
        rw [e1] at hlen
        have HTI := Keep.keep hTI; have HBKK := Keep.keep hbk; have HL0 := Keep.keep hlt0
        have HC2 : Keep (Calls Tryz.prog 71 #[.slice a k cap, .func (.func 74) #[] #[.pointer (some ⟨P4, 0, none⟩)]] wr fun e w' => e = .returned (.bool (l.any fun x => !dirT t (parentP x.1.1))) ∧ Below wr.heap.size wr w') := ⟨cfuncM 74 #[.pointer (some ⟨P4, 0, none⟩)] (fun m => !dirT t (parentP m.1)) _ l wr ent_n2 (fun wx hb x hx => by
          have hP := HH.out.call hb
          have := n2_any x.1 x.2.1 x.2.2 (HS.out x hx) (HR.out.nd x hx).shape P4 T mb Bk f t wx (hP.get 0 rfl) (fun b hb' => Nat.lt_of_lt_of_le (hbk b hb').2 hb.size) ((hP.row 1 rfl).cell (i := 0) rfl)
          simpa [mcell] using this) (by
          have hq := (HR.out.below HH.out.below (fun b hb => hb) (fun b hb => hb)).mono (K := (· < wr.heap.size)) (K' := (· < wr.heap.size)) (fun b hb => Nat.lt_of_lt_of_le hb HH.out.size) (fun b hb => Nat.lt_of_lt_of_le hb HH.out.size)
          rwa [HN.out] at hq)⟩
        obtain ⟨an, han⟩ : ∃ an, (l.any fun x => !dirT t (parentP x.1.1)) = an := ⟨_, rfl⟩
        rw [han] at HC2 HNT2
        clear hTI hbk hlt0 e1 han ht etk hmm
        by_cases hl9 : t.length < k
        · have hd9 : decide ((t.length : Int) < (k : Int)) = true := decide_eq_true (by omega)
          have hd9n : decide (t.length < k) = true := decide_eq_true hl9
          have HRE : Keep (res = (9, none)) := ⟨by rw [HNT2.out, if_pos hl9]⟩
          clear HC2
          go_wp2_with fail
          go_ret2
          rw [HRE.out]
          exact ⟨⟨_, rfl, rfl⟩, HH.out.below⟩
        · have hd9 : decide ((t.length : Int) < (k : Int)) = false := decide_eq_false (by omega)
          have hd9n : decide (t.length < k) = false := decide_eq_false hl9
          have HNT3 : Keep (res = if an then (33, none) else if 4096 < k then (42, none) else (0, some t)) := ⟨by rw [HNT2.out, if_neg hl9]⟩
          clear HNT2 hl9
          go_wp2_with fail
          refine HC2.out.mono ?_
          rintro e w3 ⟨rfl, hb3⟩
          have H3 := Keep.keep (HH.out.call hb3)
          clear hb3
          cases an with
          | true =>
            have HRE : Keep (res = (33, none)) := ⟨HNT3.out⟩
            go_wp2_with fail
            go_ret2
            rw [HRE.out]
            exact ⟨⟨_, rfl, rfl⟩, H3.out.below⟩
          | false =>
            by_cases h42 : 4096 < k
            · have hd42 : decide ((4096 : Int) < (k : Int)) = true := decide_eq_true (by omega)
              have hd42n : decide (4096 < k) = true := decide_eq_true h42
              have HRE : Keep (res = (42, none)) := ⟨by rw [HNT3.out, if_pos h42]; rfl⟩
              go_wp2_with fail
              go_ret2
              rw [HRE.out]
              exact ⟨⟨_, rfl, rfl⟩, H3.out.below⟩
            · have hd42 : decide ((4096 : Int) < (k : Int)) = false := decide_eq_false (by omega)
              have hd42n : decide (4096 < k) = false := decide_eq_false h42
              have HRE : Keep (res = (0, some t)) := ⟨by rw [HNT3.out, if_neg h42]; rfl⟩
              clear h42 c4
              have c4 := (H3.out.row 1 rfl).cell (i := 0) rfl
              go_wp2_with fail
              go_ret2
              rw [HRE.out]
              refine ⟨⟨_, rfl, T, mb, Bk, f, rfl, H3.out.get 0 rfl, HL0.out.1, HL0.out.2, fun b hb => ?_⟩, H3.out.below⟩
              have := (H3.out.p _ (List.mem_of_getElem? (i := 0) rfl)).2 b (.inr (.inr hb))
              exact ⟨this.1.elim id (fun h => h.elim), this.2⟩
end Go.Proofs.YtmnknmpfkjhgbaaGreatDoor
