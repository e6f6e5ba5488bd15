/- PARTS OF ONE PROOF, set in one file: NodeSame, DfOne, DfBoth. Each part tells its own conditions. -/
import Derived.Lib.AppendZeros
import Derived.Test.YtmnknmpfkjhgbaaGreatDoorP6
import Derived.Test.YtmnknmpfkjhgbaaGreatDoorP8
import Derived.Test.YtmnknmpfkjhgbaaGreatDoorP9
import Derived.Test.YtmnknmpfkjhgbaaGreatDoorP11
import Derived.Test.YtmnknmpfkjhgbaaGreatDoorP12
import Derived.Test.YtmnknmpfkjhgbaaGreatDoorP13
/- tar.Same: two Members are the same. -/
namespace Go.Proofs.YtmnknmpfkjhgbaaGreatDoor
open Go.RowKit
/-- the box at slot d: a new row -/
def Bx (n d : Nat) (c : Array Value) (s : Nat → Value) (w : World) : Prop := ∃ b, s d = .pointer (some ⟨b, 0, none⟩) ∧ n ≤ b ∧ Row w b 39 c
def Bx8 (n d : Nat) (s : Nat → Value) (w : World) : Prop := ∃ c, Bx n d c s w ∧ c.size = 8
def twT (n b2 b3 : Nat) (A B : Array Value) : Nat → (Nat → Value) → World → Prop
  | 0, s, _ => s 7 = .pointer (some ⟨b2, 1, none⟩)
  | 1, s, _ => s 8 = .agg A
  | 2, s, _ => s 9 = .pointer (some ⟨b3, 1, none⟩)
  | 3, s, _ => s 10 = .agg B
  | 4, s, w => Bx8 n 5 s w
  | 5, s, w => Bx8 n 6 s w
  | 6, s, w => Bx n 5 A s w
  | 7, s, w => Bx n 6 B s w
  | _, _, _ => True
theorem Bx.keep {n d : Nat} {c : Array Value} {s s' : Nat → Value} {w w' : World} (h : Bx n d c s w) (hs : s' d = s d) (hb : ∀ b, s d = .pointer (some ⟨b, 0, none⟩) → w'.heap[b]? = w.heap[b]?) : Bx n d c s' w' := by
  obtain ⟨b, h1, h2, h3⟩ := h
  exact ⟨b, hs.trans h1, h2, (hb b h1).trans h3⟩
theorem Bx8.keep {n d : Nat} {s s' : Nat → Value} {w w' : World} (h : Bx8 n d s w) (hs : s' d = s d) (hb : ∀ b, s d = .pointer (some ⟨b, 0, none⟩) → w'.heap[b]? = w.heap[b]?) : Bx8 n d s' w' := by
  obtain ⟨c, h1, h2⟩ := h
  exact ⟨c, h1.keep hs hb, h2⟩
theorem Bx.lt {n d : Nat} {c : Array Value} {s : Nat → Value} {w : World} (h : Bx n d c s w) {b : Nat} (hb : s d = .pointer (some ⟨b, 0, none⟩)) : b < w.heap.size := by
  obtain ⟨b', h1, _, h3⟩ := h
  rw [h1] at hb; cases hb
  exact Row.lt h3
theorem Bx8.lt {n d : Nat} {s : Nat → Value} {w : World} (h : Bx8 n d s w) {b : Nat} (hb : s d = .pointer (some ⟨b, 0, none⟩)) : b < w.heap.size := by
  obtain ⟨c, h1, _⟩ := h
  exact h1.lt hb
/-- what holds throughout: two boxes lie apart -/
structure twC (n : Nat) (w : World) (s : Nat → Value) (wx : World) : Prop where
  b : Below w.heap.size w wx
  p : ∀ b, s 5 = .pointer (some ⟨b, 0, none⟩) → n ≤ b ∧ b < wx.heap.size
  q : ∀ b, s 6 = .pointer (some ⟨b, 0, none⟩) → n ≤ b ∧ b < wx.heap.size
  a : ∀ b b', s 5 = .pointer (some ⟨b, 0, none⟩) → s 6 = .pointer (some ⟨b', 0, none⟩) → b ≠ b'
/-- a quiet operation of slot d, or one that makes a new row -/
theorem twT_keep {n b2 b3 : Nat} {A B : Array Value} {s s' : Nat → Value} {w w' : World} (d : Nat) (hs : ∀ j, j ≠ d → s' j = s j) (hw : ∀ b, b < w.heap.size → w'.heap[b]? = w.heap[b]?) (j : Nat) (hj : (j = 0 → d ≠ 7) ∧ (j = 1 → d ≠ 8) ∧ (j = 2 → d ≠ 9) ∧ (j = 3 → d ≠ 10) ∧ (j = 4 ∨ j = 6 → d ≠ 5) ∧ (j = 5 ∨ j = 7 → d ≠ 6)) (h : twT n b2 b3 A B j s w) : twT n b2 b3 A B j s' w' := by
  obtain ⟨j0, j1, j2, j3, j4, j5⟩ := hj
  rcases (by omega : j = 0 ∨ j = 1 ∨ j = 2 ∨ j = 3 ∨ j = 4 ∨ j = 5 ∨ j = 6 ∨ j = 7 ∨ 8 ≤ j) with rfl | rfl | rfl | rfl | rfl | rfl | rfl | rfl | h8
  · exact (hs 7 (Ne.symm (j0 rfl))).trans h
  · exact (hs 8 (Ne.symm (j1 rfl))).trans h
  · exact (hs 9 (Ne.symm (j2 rfl))).trans h
  · exact (hs 10 (Ne.symm (j3 rfl))).trans h
  · have h : Bx8 n 5 s w := h
    exact h.keep (hs 5 (Ne.symm (j4 (.inl rfl)))) (fun b hb => hw b (h.lt hb))
  · have h : Bx8 n 6 s w := h
    exact h.keep (hs 6 (Ne.symm (j5 (.inl rfl)))) (fun b hb => hw b (h.lt hb))
  · have h : Bx n 5 A s w := h
    exact h.keep (hs 5 (Ne.symm (j4 (.inr rfl)))) (fun b hb => hw b (h.lt hb))
  · have h : Bx n 6 B s w := h
    exact h.keep (hs 6 (Ne.symm (j5 (.inr rfl)))) (fun b hb => hw b (h.lt hb))
  · obtain ⟨i, rfl⟩ : ∃ i, j = i + 8 := ⟨j - 8, by omega⟩
    trivial
/-- the first box is written -/
theorem twT_store5 {n b2 b3 b : Nat} {A B c : Array Value} {w0 : World} {s : Nat → Value} {w : World} (hC : twC n w0 s w) (h5 : s 5 = .pointer (some ⟨b, 0, none⟩)) (hrow : Row w b 39 c) (hA : A.size = 8) (j : Nat) (h : twT n b2 b3 A B j s w) : twT n b2 b3 A B j s (w.setRow b A) := by
  have hoth : ∀ k, k ≠ b → (w.setRow b A).heap[k]? = w.heap[k]? := fun k hk => Go.setRow_other w b k A hk
  have h6 : ∀ b', s 6 = .pointer (some ⟨b', 0, none⟩) → (w.setRow b A).heap[b']? = w.heap[b']? := fun b' h' => hoth b' (Ne.symm (hC.a b b' h5 h'))
  rcases (by omega : j = 0 ∨ j = 1 ∨ j = 2 ∨ j = 3 ∨ j = 4 ∨ j = 5 ∨ j = 6 ∨ j = 7 ∨ 8 ≤ j) with rfl | rfl | rfl | rfl | rfl | rfl | rfl | rfl | h8
  · exact h
  · exact h
  · exact h
  · exact h
  · exact ⟨A, ⟨b, h5, (hC.p b h5).1, hrow.setRow A⟩, hA⟩
  · have h : Bx8 n 6 s w := h
    exact h.keep rfl h6
  · exact ⟨b, h5, (hC.p b h5).1, hrow.setRow A⟩
  · have h : Bx n 6 B s w := h
    exact h.keep rfl h6
  · obtain ⟨i, rfl⟩ : ∃ i, j = i + 8 := ⟨j - 8, by omega⟩
    trivial
/-- the second box is written -/
theorem twT_store6 {n b2 b3 b : Nat} {A B c : Array Value} {w0 : World} {s : Nat → Value} {w : World} (hC : twC n w0 s w) (h5 : s 6 = .pointer (some ⟨b, 0, none⟩)) (hrow : Row w b 39 c) (hB : B.size = 8) (j : Nat) (h : twT n b2 b3 A B j s w) : twT n b2 b3 A B j s (w.setRow b B) := by
  have hoth : ∀ k, k ≠ b → (w.setRow b B).heap[k]? = w.heap[k]? := fun k hk => Go.setRow_other w b k B hk
  have h6 : ∀ b', s 5 = .pointer (some ⟨b', 0, none⟩) → (w.setRow b B).heap[b']? = w.heap[b']? := fun b' h' => hoth b' (hC.a b' b h' h5)
  rcases (by omega : j = 0 ∨ j = 1 ∨ j = 2 ∨ j = 3 ∨ j = 4 ∨ j = 5 ∨ j = 6 ∨ j = 7 ∨ 8 ≤ j) with rfl | rfl | rfl | rfl | rfl | rfl | rfl | rfl | h8
  · exact h
  · exact h
  · exact h
  · exact h
  · have h : Bx8 n 5 s w := h
    exact h.keep rfl h6
  · exact ⟨B, ⟨b, h5, (hC.q b h5).1, hrow.setRow B⟩, hB⟩
  · have h : Bx n 5 A s w := h
    exact h.keep rfl h6
  · exact ⟨b, h5, (hC.q b h5).1, hrow.setRow B⟩
  · obtain ⟨i, rfl⟩ : ∃ i, j = i + 8 := ⟨j - 8, by omega⟩
    trivial
/-- a bool is handed back, which tells whether P -/
def SaysB (P : Prop) (e : Ending) : Prop := ∃ r : Bool, e = .returned (.bool r) ∧ (r = true ↔ P)
theorem mb_eq {a b : Mb} : a = b ↔ a.1 = b.1 ∧ a.2.kind = b.2.kind ∧ a.2.mode = b.2.mode ∧ a.2.uid = b.2.uid ∧ a.2.gid = b.2.gid ∧ a.2.time = b.2.time ∧ a.2.link = b.2.link ∧ a.2.data = b.2.data ∧ a.2.attrs = b.2.attrs := by
  obtain ⟨p, ⟨k, m, u, g, t, at_, d, l⟩⟩ := a
  obtain ⟨p', ⟨k', m', u', g', t', at', d', l'⟩⟩ := b
  simp only [Prod.mk.injEq, Nd.mk.injEq]
  constructor
  · rintro ⟨h1, h2, h3, h4, h5, h6, h7, h8, h9⟩; exact ⟨h1, h2, h3, h4, h5, h6, h9, h8, h7⟩
  · rintro ⟨h1, h2, h3, h4, h5, h6, h7, h8, h9⟩; exact ⟨h1, h2, h3, h4, h5, h6, h9, h8, h7⟩
set_option maxHeartbeats 4000000 in
set_option maxRecDepth 100000 in
theorem same_tar (a b : Mb) (av dv bv ev : Value) (w : World) (ha : NdR w (· < w.heap.size) a.2 av dv) (hb : NdR w (· < w.heap.size) b.2 bv ev) :
    Calls Tryz.prog 51 #[.agg (mbC a av dv), .agg (mbC b bv ev)] w fun e w' => SaysB (a = b) e ∧ Below w.heap.size w w' := by
  obtain ⟨aa, la, ca, ad, ld, cd, e1, e2⟩ := ha.shape
  obtain ⟨ba, lb, cb, bd, le, ce, e3, e4⟩ := hb.shape
  subst e1 e2 e3 e4
  have HA := Keep.keep ha; have HB := Keep.keep hb
  have HEQ := Keep.keep (mb_eq (a := a) (b := b))
  clear ha hb
  obtain ⟨ap, ⟨kind, mode, uid, gid, time, attrs, data, link⟩⟩ := a
  obtain ⟨bp, ⟨kind2, mode2, uid2, gid2, time2, attrs2, data2, link2⟩⟩ := b
  unfold mbC strV
  dsimp only at HEQ HA HB ⊢
  obtain ⟨PEQ, hP⟩ : ∃ P : Prop, (((ap, ⟨kind, mode, uid, gid, time, attrs, data, link⟩) : Mb) = (bp, ⟨kind2, mode2, uid2, gid2, time2, attrs2, data2, link2⟩)) = P := ⟨_, rfl⟩
  rw [hP] at HEQ ⊢
  clear hP
  go_enter Tryz.func51, Tryz.ntmps51
  go_upto_region 1 with fail
  refine wp_world (R := fun w1 => Hp NoM w w1 [rowA w.heap.size 41 #[.string ⟨ap.toArray⟩, .int .i64 kind, .int .u32 mode, .int .u32 uid, .int .u32 gid, .int .i64 time, .slice aa la ca, .slice ad ld cd, .string ⟨link.toArray⟩], rowA (w.heap.size + 1) 41 #[.string ⟨bp.toArray⟩, .int .i64 kind2, .int .u32 mode2, .int .u32 uid2, .int .u32 gid2, .int .i64 time2, .slice ba lb cb, .slice bd le ce, .string ⟨link2.toArray⟩]]) ?_ ?_
  · exact ((Hp.begin NoM w).newRow _ _).newRow' _ _ _ _ (by simp) rfl
  intro w1 H1
  obtain ⟨b2, hb2⟩ : ∃ b2, w.heap.size = b2 := ⟨_, rfl⟩
  have HB2 := Keep.keep hb2
  have hsz1 := (H1.out.row 1 rfl).lt
  rw [hb2] at H1 hsz1 ⊢
  clear hb2
  obtain ⟨A, hA⟩ : ∃ A : Array Value, #[.int .i64 kind, .int .u32 mode, .int .u32 uid, .int .u32 gid, .int .i64 time, .slice aa la ca, .slice ad ld cd, .string ⟨link.toArray⟩] = A := ⟨_, rfl⟩
  obtain ⟨C, hC⟩ : ∃ C : Array Value, #[.int .i64 kind2, .int .u32 mode2, .int .u32 uid2, .int .u32 gid2, .int .i64 time2, .slice ba lb cb, .slice bd le ce, .string ⟨link2.toArray⟩] = C := ⟨_, rfl⟩
  refine wp_region_spcF [some 7, some 8, some 9, some 10, some 5, some 6, none, none] (twC w1.heap.size w1) (twT w1.heap.size b2 (b2 + 1) A C) (by kernel_rfl) rfl (by kernel_rfl) ?_ ?_ ?_
  · exact ⟨(Below.refl _ _).drew, fun b h => (by cases h), fun b h => (by cases h), fun b b' h => (by cases h)⟩
  · intro k hk a1 w2 hF hCC hT
    have s2 : a1.eval (.tmp 2) = .pointer (some ⟨b2, 0, none⟩) := (hF.same 2 (by decide)).trans rfl
    have s3 : a1.eval (.tmp 3) = .pointer (some ⟨b2 + 1, 0, none⟩) := (hF.same 3 (by decide)).trans rfl
    have hsz : a1.tmps.size = 72 := hF.size
    have HP := H1.out.call hCC.b
    have hb12 := HP.size
    have hk : k < 8 := hk
    have hoC : C.all (·.oneCell') = true := by rw [← hC]; simp [Value.oneCell']
    have hoA : A.all (·.oneCell') = true := by rw [← hA]; simp [Value.oneCell']
    have hzA : A.size = 8 := by rw [← hA]; rfl
    have hzC : C.size = 8 := by rw [← hC]; rfl
    have hcq : ∀ d, d ≠ 5 → d ≠ 6 → ∀ s : Nat → Value, (∀ j, j ≠ d → s j = slot a1 j) → twC w1.heap.size w1 s w2 := fun d h5 h6 s hs => ⟨hCC.b, fun b h => hCC.p b (by rw [← hs 5 (Ne.symm h5)]; exact h), fun b h => hCC.q b (by rw [← hs 6 (Ne.symm h6)]; exact h), fun b b' h h' => hCC.a b b' (by rw [← hs 5 (Ne.symm h5)]; exact h) (by rw [← hs 6 (Ne.symm h6)]; exact h')⟩
    rcases (by omega : k = 0 ∨ k = 1 ∨ k = 2 ∨ k = 3 ∨ k = 4 ∨ k = 5 ∨ k = 6 ∨ k = 7) with rfl | rfl | rfl | rfl | rfl | rfl | rfl | rfl
    · refine spcF_val (d := 7) rfl (wanted_none rfl) (run_fieldAddr (m := 7) Tryz.underlying41 rfl (by kernel_rfl) s2) (by omega) (fun s hd hs => ⟨hcq 7 (by decide) (by decide) s hs, hd, fun j hj _ h => twT_keep 7 hs (fun _ _ => rfl) j (by omega) h⟩)
    · have hx : a1.eval (.tmp 7) = .pointer (some ⟨b2, 1, none⟩) := hT 0 (by kernel_rfl)
      have HL := Keep.keep (HP)
      exact spcF_val (d := 8) rfl (wanted_none rfl) (run_loadNd (m := (ap, ⟨kind, mode, uid, gid, time, attrs, data, link⟩)) (HL.out.row 0 rfl) hx) (by omega) (fun s hd hs => ⟨hcq 8 (by decide) (by decide) s hs, hd.trans (by rw [← hA]; rfl), fun j hj _ h => twT_keep 8 hs (fun _ _ => rfl) j (by omega) h⟩)
    · exact spcF_val (d := 9) rfl (wanted_none rfl) (run_fieldAddr (m := 7) Tryz.underlying41 rfl (by kernel_rfl) s3) (by omega) (fun s hd hs => ⟨hcq 9 (by decide) (by decide) s hs, hd, fun j hj _ h => twT_keep 9 hs (fun _ _ => rfl) j (by omega) h⟩)
    · have hx : a1.eval (.tmp 9) = .pointer (some ⟨b2 + 1, 1, none⟩) := hT 2 (by kernel_rfl)
      have HL := Keep.keep (HP)
      exact spcF_val (d := 10) rfl (wanted_none rfl) (run_loadNd (m := (bp, ⟨kind2, mode2, uid2, gid2, time2, attrs2, data2, link2⟩)) (HL.out.row 1 rfl) hx) (by omega) (fun s hd hs => ⟨hcq 10 (by decide) (by decide) s hs, hd.trans (by rw [← hC]; rfl), fun j hj _ h => twT_keep 10 hs (fun _ _ => rfl) j (by omega) h⟩)
    · have hws := hCC.b.size
      refine spcF_val (d := 5) (v := .pointer (some ⟨w2.heap.size, 0, none⟩)) (w2 := w2.alloc (.cells zeroNd 39)) rfl (wanted_none rfl) (by simp [execOp, run_newN]) (by omega) (fun s hd hs => ⟨⟨hCC.b.alloc hCC.b.size _, fun b h => ?_, fun b h => ?_, fun b b' h h' => ?_⟩, ⟨zeroNd, ⟨w2.heap.size, hd, hws, Row.new _ _ _⟩, rfl⟩, fun j hj hw h => twT_keep 5 hs (fun b hb => Below.heap_alloc w2 _ b hb) j ?_ h⟩)
      · rw [hd] at h; cases h; simp; omega
      · rw [hs 6 (by decide)] at h
        have := hCC.q b h
        simp; omega
      · rw [hd] at h; cases h
        rw [hs 6 (by decide)] at h'
        have := (hCC.q b' h').2
        omega
      · have h6 : j ≠ 6 := by rintro rfl; exact Bool.false_ne_true (hw.symm.trans (by kernel_rfl))
        omega
    · have hws := hCC.b.size
      refine spcF_val (d := 6) (v := .pointer (some ⟨w2.heap.size, 0, none⟩)) (w2 := w2.alloc (.cells zeroNd 39)) rfl (wanted_none rfl) (by simp [execOp, run_newN]) (by omega) (fun s hd hs => ⟨⟨hCC.b.alloc hCC.b.size _, fun b h => ?_, fun b h => ?_, fun b b' h h' => ?_⟩, ⟨zeroNd, ⟨w2.heap.size, hd, hws, Row.new _ _ _⟩, rfl⟩, fun j hj hw h => ?_⟩)
      · rw [hs 5 (by decide)] at h
        have := hCC.p b h
        simp; omega
      · rw [hd] at h; cases h; simp; omega
      · rw [hd] at h'; cases h'
        rw [hs 5 (by decide)] at h
        have := (hCC.p b h).2
        omega
      · have h7 : j ≠ 7 := by rintro rfl; exact Bool.false_ne_true (hw.symm.trans (by kernel_rfl))
        exact twT_keep 6 hs (fun b hb => Below.heap_alloc w2 _ b hb) j (by omega) h
    · obtain ⟨c, ⟨b, h5, hnb, hrow⟩, hc8⟩ : Bx8 w1.heap.size 5 (slot a1) w2 := hT 4 (by kernel_rfl)
      have h8 : a1.eval (.tmp 8) = .agg A := hT 1 (by kernel_rfl)
      have hx : a1.eval (.tmp 5) = .pointer (some ⟨b, 0, none⟩) := h5
      have hst := hrow.storeAt (P := Tryz.prog) 39 A (by rw [hzA]; exact aggN.i) (by rw [hzA, hc8]) hoA
      refine spcF_skip (w2 := w2.setRow b A) rfl (wanted_none rfl) (by unfold execOp; simp only [hx, h8, Sem.run_bind, Sem.run_pure, Result.andThen_ok, hst]) ⟨⟨(Chg.setRow (M := NoM) (.of_below hCC.b) (.inl hnb) A).below (fun _ _ h => h), fun b' h => ?_, fun b' h => ?_, hCC.a⟩, ⟨b, h5, hnb, hrow.setRow A⟩, fun j hj hw h => twT_store5 hCC h5 hrow hzA j h⟩
      · have := hCC.p b' h; exact ⟨this.1, by have := (Chg.setRow (M := fun x => x = b) (.refl _ 0 w2) (.inr rfl) A).size; omega⟩
      · have := hCC.q b' h; exact ⟨this.1, by have := (Chg.setRow (M := fun x => x = b) (.refl _ 0 w2) (.inr rfl) A).size; omega⟩
    · obtain ⟨c, ⟨b, h5, hnb, hrow⟩, hc8⟩ : Bx8 w1.heap.size 6 (slot a1) w2 := hT 5 (by kernel_rfl)
      have h8 : a1.eval (.tmp 10) = .agg C := hT 3 (by kernel_rfl)
      have hx : a1.eval (.tmp 6) = .pointer (some ⟨b, 0, none⟩) := h5
      have hst := hrow.storeAt (P := Tryz.prog) 39 C (by rw [hzC]; exact aggN.i) (by rw [hzC, hc8]) hoC
      refine spcF_skip (w2 := w2.setRow b C) rfl (wanted_none rfl) (by unfold execOp; simp only [hx, h8, Sem.run_bind, Sem.run_pure, Result.andThen_ok, hst]) ⟨⟨(Chg.setRow (M := NoM) (.of_below hCC.b) (.inl hnb) C).below (fun _ _ h => h), fun b' h => ?_, fun b' h => ?_, hCC.a⟩, ⟨b, h5, hnb, hrow.setRow C⟩, fun j hj hw h => twT_store6 hCC h5 hrow hzC j h⟩
      · have := hCC.p b' h; exact ⟨this.1, by have := (Chg.setRow (M := fun x => x = b) (.refl _ 0 w2) (.inr rfl) C).size; omega⟩
      · have := hCC.q b' h; exact ⟨this.1, by have := (Chg.setRow (M := fun x => x = b) (.refl _ 0 w2) (.inr rfl) C).size; omega⟩
  · intro a1 w2 ha hCC hT
    have t7 : slot a1 7 = .pointer (some ⟨b2, 1, none⟩) := hT 0 (by decide)
    have t8 : slot a1 8 = .agg A := hT 1 (by decide)
    have t9 : slot a1 9 = .pointer (some ⟨b2 + 1, 1, none⟩) := hT 2 (by decide)
    have t10 : slot a1 10 = .agg C := hT 3 (by decide)
    obtain ⟨b5, t5, _, r5⟩ : Bx w1.heap.size 5 A (slot a1) w2 := hT 6 (by decide)
    obtain ⟨b6, t6, _, r6⟩ : Bx w1.heap.size 6 C (slot a1) w2 := hT 7 (by decide)
    have H2 := H1.out.call hCC.b
    have m20 := (H2.row 0 rfl).cell (i := 0) rfl
    have m30 := (H2.row 1 rfl).cell (i := 0) rfl
    have HA2 := Keep.keep (HA.out.below H2.below (fun b hb => hb))
    have HB3 := Keep.keep (HB.out.below H2.below (fun b hb => hb))
    have HBL := Keep.keep H2.below
    rw [← hA] at r5
    rw [← hC] at r6
    have x0 := r5.cell (i := 0) rfl
    have x1 := r5.cell (i := 1) rfl
    have x2 := r5.cell (i := 2) rfl
    have x3 := r5.cell (i := 3) rfl
    have x4 := r5.cell (i := 4) rfl
    have x5 := r5.cell (i := 5) rfl
    have x6 := r5.cell (i := 6) rfl
    have x7 := r5.cell (i := 7) rfl
    have y0 := r6.cell (i := 0) rfl
    have y1 := r6.cell (i := 1) rfl
    have y2 := r6.cell (i := 2) rfl
    have y3 := r6.cell (i := 3) rfl
    have y4 := r6.cell (i := 4) rfl
    have y5 := r6.cell (i := 5) rfl
    have y6 := r6.cell (i := 6) rfl
    have y7 := r6.cell (i := 7) rfl
    simp only [List.filterMap_cons, List.filterMap_nil, List.foldl_cons, List.foldl_nil, t5, t6, t7, t8, t9, t10] at ha
    clear hT t5 t6 t7 t8 t9 t10 r5 r6 hCC H2 hA hC
    subst ha
    simp only [Act.put, List.setIfInBounds_toArray, List.set_cons_succ, List.set_cons_zero]
    go_wp2_with fail
    rotate_left
    all_goals try (
      go_ret
      refine ⟨⟨false, rfl, ⟨fun h => (by cases h), fun h => ?_⟩⟩, HBL.out⟩
      obtain ⟨e1, e2, e3, e4, e5, e6, e7, e8, e9⟩ := HEQ.out.1 h
      contradiction)
    have HE : Keep (ap = bp ∧ kind = kind2 ∧ mode = mode2 ∧ uid = uid2 ∧ gid = gid2 ∧ time = time2 ∧ link = link2) := ⟨⟨by assumption, by assumption, by assumption, by assumption, by assumption, by assumption, by assumption⟩⟩
    have hle := HBL.out.size
    refine (equal_any _ _ _ _ _ _ w2 HA2.out.dt HB3.out.dt).mono ?_
    rintro e w3 ⟨rfl, rfl⟩
    by_cases hdt : data = data2
    · have HD := Keep.keep hdt
      have hbd : (data == data2) = true := by simpa using hdt
      rw [hbd]
      clear hdt hbd
      go_wp2_with fail
      refine (aequal_any _ _ _ _ w2 (HA2.out.at_.mono (fun b hb => Nat.lt_of_lt_of_le hb hle)) (HB3.out.at_.mono (fun b hb => Nat.lt_of_lt_of_le hb hle))).mono ?_
      rintro e w4 ⟨rfl, hb4⟩
      have HB4 := Keep.keep (HBL.out.trans (hb4.mono hle))
      have HR : Keep (decide (attrs = attrs2) = true ↔ PEQ) := ⟨by
        rw [decide_eq_true_eq, HEQ.out]
        exact ⟨fun h => ⟨HE.out.1, HE.out.2.1, HE.out.2.2.1, HE.out.2.2.2.1, HE.out.2.2.2.2.1, HE.out.2.2.2.2.2.1, HE.out.2.2.2.2.2.2, HD.out, h⟩, fun h => h.2.2.2.2.2.2.2.2⟩⟩
      clear hb4
      generalize decide (attrs = attrs2) = rb at *
      go_wp2_with fail
      go_ret
      exact ⟨⟨rb, rfl, HR.out⟩, HB4.out⟩
    · have hbd : (data == data2) = false := by simpa using hdt
      have HD := Keep.keep hdt
      rw [hbd]
      clear hdt hbd
      go_wp2_with fail
      go_ret
      exact ⟨⟨false, rfl, ⟨fun h => (by cases h), fun h => (HD.out (HEQ.out.1 h).2.2.2.2.2.2.2.1).elim⟩⟩, HBL.out⟩
end Go.Proofs.YtmnknmpfkjhgbaaGreatDoor
/- differ.told's closure 'one': what is told of a path. -/
namespace Go.Proofs.YtmnknmpfkjhgbaaGreatDoor
open Go.RowKit
/-- told's memory -/
structure TD where
  ba : Nat
  bb : Nat
  bw : Nat
  bo : Nat
  na : Nat
  ma : Nat
  ya : Nat
  Ta : Nat
  nb : Nat
  mb : Nat
  yb : Nat
  Tb : Nat
  tb : Nat
  Na : Nat → Prop
  Nb : Nat → Prop
  Bk : Nat → Prop
  f : Tx → Value × Value
  A : List Mb
  B : List Mb
structure TIn (W : World) (d : TD) : Prop where
  ra : Row W d.ba 110 #[.map (some d.na), .map (some d.ma), .map (some d.ya), .func (.func 18) #[.pointer (some ⟨d.Ta, 0, none⟩)] #[]]
  rb : Row W d.bb 110 #[.map (some d.nb), .map (some d.mb), .map (some d.yb), .func (.func 18) #[.pointer (some ⟨d.Tb, 0, none⟩)] #[]]
  rw : Row W d.bw 44 #[.func (.func 120) #[] #[.pointer (some ⟨d.ba, 0, none⟩), .pointer (some ⟨d.bb, 0, none⟩), .pointer (some ⟨d.bo, 0, none⟩)]]
  ro : Row W d.bo 44 #[.func (.func 119) #[] #[.pointer (some ⟨d.ba, 0, none⟩), .pointer (some ⟨d.bb, 0, none⟩), .pointer (some ⟨d.bw, 0, none⟩)]]
  sa : SideIn W d.Na d.na d.ma d.ya d.A
  sb : SideIn W d.Nb d.nb d.mb d.yb d.B
  tr : TreeIn W d.Tb d.tb d.Bk d.f d.B
  lt : ∀ b, d.Na b ∨ d.Nb b ∨ d.Bk b → b < W.heap.size
theorem TIn.below {W w' : World} {d : TD} (h : TIn W d) (hb : Below W.heap.size W w') : TIn w' d := by
  have l1 := h.sa.lt
  have l2 := h.sb.lt
  refine ⟨h.ra.below hb h.ra.lt, h.rb.below hb h.rb.lt, h.rw.below hb h.rw.lt, h.ro.below hb h.ro.lt, h.sa.loc (fun b hb' => hb.block b ?_), h.sb.loc (fun b hb' => hb.block b ?_), h.tr.loc (fun b hb' => hb.block b ?_), fun b hb' => Nat.lt_of_lt_of_le (h.lt b hb') hb.size⟩
  · rcases hb' with rfl | rfl | rfl | h'
    · omega
    · omega
    · omega
    · exact h.lt b (.inl h')
  · rcases hb' with rfl | rfl | rfl | h'
    · omega
    · omega
    · omega
    · exact h.lt b (.inr (.inl h'))
  · rcases hb' with rfl | rfl | h'
    · exact h.tr.row.lt
    · exact h.tr.map.lt
    · exact h.lt b (.inr (.inr h'))
/-- a node looked up -/
theorem SideIn.look {w : World} {N : Nat → Prop} {nb mb yb : Nat} {L : List Mb} (h : SideIn w N nb mb yb L) {p : Tx} (hp : p.length ≤ 1000000) : ∃ av dv, (Instr.lookup 86 (.map (some nb)) (.string ⟨p.toArray⟩) true).run Tryz.prog w = .ok (.tuple #[.agg (ndC ((SM.look L p).getD nd0) av dv), .bool (SM.look L p).isSome]) w ∧ NdR w N ((SM.look L p).getD nd0) av dv := by
  obtain ⟨M, h1, h2⟩ := h.nodes
  have hl := h1.lookOk Tryz.underlying9 Tryz.underlying86 (zeroN w) (p := p) (by unfold maxLen; omega)
  obtain ⟨av, dv, e, hn⟩ := h2 p
  rw [e] at hl
  cases ho : SM.look L p with
  | none => rw [ho] at hl; exact ⟨nilV, nilV, hl, ndR_nil rfl rfl⟩
  | some n => rw [ho] at hl; exact ⟨av, dv, hl, hn n ho⟩
/-- the answer of 'below' -/
def BelAns (d : TD) (bl : List Mb) (wx : World) (e : Ending) (w' : World) : Prop := ∃ v l, e = .returned v ∧ l.map (·.1) = bl ∧ RowM wx.heap.size d.Nb w' v l ∧ Below wx.heap.size wx w'
theorem ownsOneM {w : World} {x : Mv} (b : Nat) (hb : b = w.heap.size) : (w.alloc (.cells (mcell x) 41)).ownsRow b 41 9 (.slice (some ⟨b, 0, none⟩) 1 1) 1 (mcells [x]) := by
  subst hb
  have hm : mcells [x] = (mcell x).toList := by rw [mcells_cons]; exact List.append_nil _
  refine ⟨by rw [mcells_length]; rfl, .inr ⟨_, 1, mcell x, rfl, Nat.le_refl _, Row.new w _ _, Nat.le_refl _, by unfold maxLen; omega, rfl, ?_⟩⟩
  rw [hm]
  rfl
theorem RowM.one {w : World} {K : Nat → Prop} {x : Mv} (B : Nat) (hB : B ≤ w.heap.size) (hn : NdR w (fun b => (K b ∨ B ≤ b) ∧ b < w.heap.size) x.1.2 x.2.1 x.2.2) : RowM B K (w.alloc (.cells (mcell x) 41)) (.slice (some ⟨w.heap.size, 0, none⟩) 1 1) [x] :=
  ⟨ownsRow_base (ownsOneM _ rfl) hB, fun y hy => by
    obtain rfl : y = x := by simpa using hy
    refine (hn.loc (fun b hb => Below.heap_alloc w _ b hb.2)).mono (fun b hb => ⟨hb.1, by simp; omega, fun e => ?_⟩)
    simp [Value.ownBlock] at e
    omega⟩
theorem buildM1 (n : Nd) (av dv : Value) (w : World) : (Instr.build 41 #[(1, .agg (ndC n av dv))]).run Tryz.prog w = .ok (.agg (mbC ([], n) av dv)) w := by kernel_rfl
theorem ent_undf : ∀ args w, (callFunc 18 args).run Tryz.prog w = .ok (.enter 18 args) w := enters_of Tryz.func18 (by kernel_rfl) rfl
theorem ent_below : ∀ args w, (callFunc 120 args).run Tryz.prog w = .ok (.enter 120 args) w := enters_of Tryz.func120 (by kernel_rfl) rfl
theorem ent_one : ∀ args w, (callFunc 119 args).run Tryz.prog w = .ok (.enter 119 args) w := enters_of Tryz.func119 (by kernel_rfl) rfl
set_option maxHeartbeats 8000000 in
set_option maxRecDepth 100000 in
theorem one_any (d : TD) (c : Tx) (bl : List Mb) (T : Nat) (w : World) (hT : Tabs T w) (hc : c.length ≤ 400000) (hL : d.B.length ≤ 100000) (hbl : bl.length ≤ 1000000) (h : TIn w d)
    (hbel : (∃ y, SM.look d.B c = some y ∧ y.kind = 1) → ∀ wx, Below w.heap.size w wx → Calls Tryz.prog 120 #[.string ⟨c.toArray⟩, .pointer (some ⟨d.ba, 0, none⟩), .pointer (some ⟨d.bb, 0, none⟩), .pointer (some ⟨d.bo, 0, none⟩)] wx (BelAns d bl wx)) :
    Calls Tryz.prog 119 #[.string ⟨c.toArray⟩, .pointer (some ⟨d.ba, 0, none⟩), .pointer (some ⟨d.bb, 0, none⟩), .pointer (some ⟨d.bw, 0, none⟩)] w (BelAns d (oneF d.A d.B bl c) w) := by
  have HON : Keep (∀ wx, Below w.heap.size w wx → TIn wx d) := ⟨fun wx hb => h.below hb⟩
  have HLT : Keep (∀ b, d.Na b ∨ d.Nb b ∨ d.Bk b → b < w.heap.size) := ⟨h.lt⟩
  obtain ⟨av, dv, hla, hna⟩ := h.sa.look (p := c) (by omega)
  obtain ⟨bv, ev, hlb, hnb⟩ := h.sb.look (p := c) (by omega)
  have HNA := Keep.keep hna; have HNB := Keep.keep hnb
  have HLB : Keep (∀ wx, Below w.heap.size w wx → (Instr.lookup 86 (.map (some d.nb)) (.string ⟨c.toArray⟩) true).run Tryz.prog wx = .ok (.tuple #[.agg (ndC ((SM.look d.B c).getD nd0) bv ev), .bool (SM.look d.B c).isSome]) wx) := ⟨fun wx hb => by
    obtain ⟨M, h1, h2⟩ := h.sb.nodes
    have e1 := h1.lookOk Tryz.underlying9 Tryz.underlying86 (zeroN w) (p := c) (by unfold maxLen; omega)
    have e2 := (h1.loc (hb.block _ h1.lt)).lookOk Tryz.underlying9 Tryz.underlying86 (zeroN wx) (p := c) (by unfold maxLen; omega)
    rw [e1] at hlb
    injection hlb with hlb _
    rw [e2, hlb]⟩
  have HWH : Keep (∀ wx, Below w.heap.size w wx → Calls Tryz.prog 17 #[.string ⟨c.toArray⟩] wx fun e w' => e = .returned (.agg (mbC (whM c) nilV nilV)) ∧ Below wx.heap.size wx w') := ⟨fun wx hb => dwhite_any c (by omega) T wx (Nat.le_trans hT.b hb.size) (hT.m.on (hb.mono hT.b))⟩
  have HUN : Keep (∀ wx, Below w.heap.size w wx → Calls Tryz.prog 18 #[.pointer (some ⟨d.Tb, 0, none⟩), .string ⟨c.toArray⟩] wx (BelAns d (underL c d.B) wx)) := ⟨fun wx hb => by
    have ht := h.below hb
    refine (under_own d.Tb d.tb d.Bk d.f d.B c wx hL (by omega) ht.tr ⟨ht.tr.row.lt, ht.tr.map.lt, fun b hb => ht.lt b (.inr (.inr hb))⟩).mono ?_
    rintro e w' ⟨v, l, rfl, hl, ho, hb'⟩
    exact ⟨v, l, rfl, hl, RowM.ofOwn ho _, hb'⟩⟩
  have HBE := Keep.keep hbel
  obtain ⟨qw, kw, hqw⟩ := signM_cells (whiteoutP c)
  have HQW : Keep (mbC (whM c) nilV nilV = #[.string ⟨qw.toArray⟩, .int .i64 kw, .int .u32 0, .int .u32 0, .int .u32 0, .int .i64 0, .slice none 0 0, .slice none 0 0, .string ⟨#[]⟩]) := ⟨hqw⟩
  rw [HQW.out] at HWH
  clear hqw
  have HOF : Keep (oneF d.A d.B bl c = (match SM.look d.B c with | none => [whM c] | some y => if y.kind = 1 ∧ dirB d.A c = false then underL c d.B else if y.kind = 1 then (if bl ≠ [] ∨ SM.look d.A c ≠ some y then bl ++ [(c, y)] else bl) else if SM.look d.A c ≠ some y then [(c, y)] else [])) := ⟨rfl⟩
  have HDA : Keep (dirB d.A c = (((SM.look d.A c).getD nd0).kind == 1)) := ⟨by
    unfold dirB
    cases SM.look d.A c with
    | none => rfl
    | some n => rfl⟩
  obtain ⟨isA, hisA⟩ : ∃ b, (SM.look d.A c).isSome = b := ⟨_, rfl⟩
  obtain ⟨isB, hisB⟩ : ∃ b, (SM.look d.B c).isSome = b := ⟨_, rfl⟩
  rw [hisA] at hla
  rw [hisB] at HLB
  obtain ⟨nA, hnA⟩ : ∃ n, (SM.look d.A c).getD nd0 = n := ⟨_, rfl⟩
  obtain ⟨nB, hnB⟩ : ∃ n, (SM.look d.B c).getD nd0 = n := ⟨_, rfl⟩
  rw [hnA] at hla HNA HDA
  rw [hnB] at HLB HNB
  have HA : Keep (SM.look d.A c = if isA = true then some nA else none) := ⟨by
    rw [← hisA, ← hnA]; cases SM.look d.A c <;> rfl⟩
  have HB : Keep (SM.look d.B c = if isB = true then some nB else none) := ⟨by
    rw [← hisB, ← hnB]; cases SM.look d.B c <;> rfl⟩
  obtain ⟨sm, hsm⟩ : ∃ b, decide (SM.look d.A c = some nB) = b := ⟨_, rfl⟩
  have HSM : Keep (sm = true ↔ SM.look d.A c = some nB) := ⟨by rw [← hsm]; exact decide_eq_true_iff⟩
  have HOF2 : Keep (oneF d.A d.B bl c = if isB = true then (if (nB.kind == 1 && !(nA.kind == 1)) = true then underL c d.B else if (nB.kind == 1) = true then (if (bl.isEmpty && sm) = true then bl else bl ++ [(c, nB)]) else (if sm = true then [] else [(c, nB)])) else [whM c]) := ⟨by
    rw [HOF.out, HB.out]
    cases isB with
    | false => rfl
    | true =>
      simp only [if_true, HDA.out]
      by_cases h1 : nB.kind = 1 <;> by_cases h2 : nA.kind = 1 <;> by_cases h3 : SM.look d.A c = some nB <;> (have h4 : sm = decide (SM.look d.A c = some nB) := hsm.symm) <;> cases bl <;> simp [h1, h2, h3, h4]⟩
  have hent1 := ent_undf
  have hent2 := ent_below
  have HBX : Keep (isB = true → nB.kind = 1 → ∀ wx, Below w.heap.size w wx → Calls Tryz.prog 120 #[.string ⟨c.toArray⟩, .pointer (some ⟨d.ba, 0, none⟩), .pointer (some ⟨d.bb, 0, none⟩), .pointer (some ⟨d.bo, 0, none⟩)] wx (BelAns d bl wx)) := ⟨fun h1 h2 => HBE.out ⟨nB, by rw [HB.out, if_pos h1], h2⟩⟩
  generalize oneF d.A d.B bl c = out at *
  have ca0 := h.ra.cell (i := 0) rfl
  have HRB := Keep.keep h.rb; have HRW := Keep.keep h.rw
  obtain ⟨aa, la, ca, ad, ld, cd, e1, e2⟩ := HNA.out.shape
  obtain ⟨ba, lb, cb, bd, le, ce, e3, e4⟩ := HNB.out.shape
  subst e1 e2 e3 e4
  obtain ⟨k6, m6, u6, g6, t6, at6, da6, l6⟩ := nA
  obtain ⟨k8, m8, u8, g8, t8, at8, da8, l8⟩ := nB
  have HNCA : Keep (ndC ⟨k6, m6, u6, g6, t6, at6, da6, l6⟩ (.slice aa la ca) (.slice ad ld cd) = #[.int .i64 k6, .int .u32 m6, .int .u32 u6, .int .u32 g6, .int .i64 t6, .slice aa la ca, .slice ad ld cd, .string ⟨l6.toArray⟩]) := ⟨rfl⟩
  have HNCB : Keep (ndC ⟨k8, m8, u8, g8, t8, at8, da8, l8⟩ (.slice ba lb cb) (.slice bd le ce) = #[.int .i64 k8, .int .u32 m8, .int .u32 u8, .int .u32 g8, .int .i64 t8, .slice ba lb cb, .slice bd le ce, .string ⟨l8.toArray⟩]) := ⟨rfl⟩
  rw [HNCA.out] at hla
  rw [HNCB.out] at HLB
  dsimp only at HOF2 HBX
  have hbmA : ∀ w, (Instr.build 41 #[(1, .agg #[.int .i64 k6, .int .u32 m6, .int .u32 u6, .int .u32 g6, .int .i64 t6, .slice aa la ca, .slice ad ld cd, .string ⟨l6.toArray⟩])]).run Tryz.prog w = .ok (.agg (mbC ([], ⟨k6, m6, u6, g6, t6, at6, da6, l6⟩) (.slice aa la ca) (.slice ad ld cd))) w := fun w => buildM1 ⟨k6, m6, u6, g6, t6, at6, da6, l6⟩ _ _ w
  have hbmB : ∀ w, (Instr.build 41 #[(1, .agg #[.int .i64 k8, .int .u32 m8, .int .u32 u8, .int .u32 g8, .int .i64 t8, .slice ba lb cb, .slice bd le ce, .string ⟨l8.toArray⟩])]).run Tryz.prog w = .ok (.agg (mbC ([], ⟨k8, m8, u8, g8, t8, at8, da8, l8⟩) (.slice ba lb cb) (.slice bd le ce))) w := fun w => buildM1 ⟨k8, m8, u8, g8, t8, at8, da8, l8⟩ _ _ w
  have hbmC : ∀ w, (Instr.build 41 #[(0, .string ⟨c.toArray⟩), (1, .agg #[.int .i64 k8, .int .u32 m8, .int .u32 u8, .int .u32 g8, .int .i64 t8, .slice ba lb cb, .slice bd le ce, .string ⟨l8.toArray⟩])]).run Tryz.prog w = .ok (.agg #[.string ⟨c.toArray⟩, .int .i64 k8, .int .u32 m8, .int .u32 u8, .int .u32 g8, .int .i64 t8, .slice ba lb cb, .slice bd le ce, .string ⟨l8.toArray⟩]) w := fun w => buildM (c, ⟨k8, m8, u8, g8, t8, at8, da8, l8⟩) (.slice ba lb cb) (.slice bd le ce) w
  have HSA : Keep (∀ wx, Below w.heap.size w wx → Calls Tryz.prog 51 #[.agg (mbC ([], ⟨k6, m6, u6, g6, t6, at6, da6, l6⟩) (.slice aa la ca) (.slice ad ld cd)), .agg (mbC ([], ⟨k8, m8, u8, g8, t8, at8, da8, l8⟩) (.slice ba lb cb) (.slice bd le ce))] wx fun e w' => SaysB ((([], ⟨k6, m6, u6, g6, t6, at6, da6, l6⟩) : Mb) = ([], ⟨k8, m8, u8, g8, t8, at8, da8, l8⟩)) e ∧ Below wx.heap.size wx w') :=
    ⟨fun wx hb => same_tar ([], ⟨k6, m6, u6, g6, t6, at6, da6, l6⟩) ([], ⟨k8, m8, u8, g8, t8, at8, da8, l8⟩) _ _ _ _ wx ((HNA.out.below hb (fun b hb => HLT.out b (.inl hb))).mono (fun b hb' => Nat.lt_of_lt_of_le (HLT.out b (.inl hb')) hb.size)) ((HNB.out.below hb (fun b hb => HLT.out b (.inr (.inl hb)))).mono (fun b hb' => Nat.lt_of_lt_of_le (HLT.out b (.inr (.inl hb'))) hb.size))⟩
  clear hna hnb hlb hisA hisB hnA hnB hsm h hbel HOF HDA
  go_enter Tryz.func119, Tryz.ntmps119
  go_upto_region 2 with fail
  refine wp_world (R := fun w1 => Hp NoM w w1 [rowA w.heap.size 39 #[.int .i64 k6, .int .u32 m6, .int .u32 u6, .int .u32 g6, .int .i64 t6, .slice aa la ca, .slice ad ld cd, .string ⟨l6.toArray⟩]]) ((Hp.begin NoM w).newRow _ _) ?_
  intro w1 H1
  have hlb := HLB.out w1 H1.out.below
  have cb0 : w1.cell? ⟨d.bb, 0, none⟩ = some (.map (some d.nb)) := (HRB.out.below H1.out.below HRB.out.lt).cell rfl
  clear hla ca0
  go_upto_region 3 with fail
  obtain ⟨b8, hb8⟩ : ∃ b, w1.heap.size = b := ⟨_, rfl⟩
  refine wp_world (R := fun w2 => Hp NoM w w2 [rowA w.heap.size 39 #[.int .i64 k6, .int .u32 m6, .int .u32 u6, .int .u32 g6, .int .i64 t6, .slice aa la ca, .slice ad ld cd, .string ⟨l6.toArray⟩], rowA b8 39 #[.int .i64 k8, .int .u32 m8, .int .u32 u8, .int .u32 g8, .int .i64 t8, .slice ba lb cb, .slice bd le ce, .string ⟨l8.toArray⟩]]) (by have := H1.out.newRow 39 #[.int .i64 k8, .int .u32 m8, .int .u32 u8, .int .u32 g8, .int .i64 t8, .slice ba lb cb, .slice bd le ce, .string ⟨l8.toArray⟩]; rw [hb8] at this; exact this) ?_
  intro w2 H2
  rw [hb8]
  have HW2 := Keep.keep H2.out.below
  have HR6 := Keep.keep (H2.out.row 0 rfl)
  have HR8 := Keep.keep (H2.out.row 1 rfl)
  have HS6 : Keep ((#[.int .i64 k6, .int .u32 m6, .int .u32 u6, .int .u32 g6, .int .i64 t6, .slice aa la ca, .slice ad ld cd, .string ⟨l6.toArray⟩] : Array Value).size = 8) := ⟨rfl⟩
  have HS8 : Keep ((#[.int .i64 k8, .int .u32 m8, .int .u32 u8, .int .u32 g8, .int .i64 t8, .slice ba lb cb, .slice bd le ce, .string ⟨l8.toArray⟩] : Array Value).size = 8) := ⟨rfl⟩
  clear hlb cb0 H1 hb8 HLB
  cases isA
  case false =>
    have hs0 : sm = false := by
      cases hx : sm with
      | false => rfl
      | true => have := HSM.out.1 hx; rw [HA.out] at this; cases this
    subst hs0
    go_upto_region 4 with fail
    refine wp_world (R := fun w3 => Below w.heap.size w w3 ∧ Row w3 w.heap.size 39 #[.int .i64 k6, .int .u32 m6, .int .u32 u6, .int .u32 g6, .int .i64 t6, .slice aa la ca, .slice ad ld cd, .string ⟨l6.toArray⟩] ∧ Row w3 b8 39 #[.int .i64 k8, .int .u32 m8, .int .u32 u8, .int .u32 g8, .int .i64 t8, .slice ba lb cb, .slice bd le ce, .string ⟨l8.toArray⟩]) ⟨HW2.out, HR6.out, HR8.out⟩ ?_
    intro w3 H3
    clear HW2 HR6 HR8 H2
    have HB3 := Keep.keep H3.out.1
    have HR6 := Keep.keep H3.out.2.1
    have HR8 := Keep.keep H3.out.2.2
    clear H3
    cases isB
    case false =>
      go_wp2_with fail
      refine (HWH.out w3 HB3.out).mono ?_
      rintro e w4 ⟨rfl, hb4⟩
      have HB4 := Keep.keep (HB3.out.trans (hb4.mono HB3.out.size))
      clear hb4
      go_wp2_with fail
      go_ret
      have hone := RowM.one (K := d.Nb) (x := ((whM c, nilV, nilV) : Mv)) w.heap.size HB4.out.size (ndR_nil (by unfold whM signM; split <;> rfl) (by unfold whM signM; split <;> rfl))
      have hmc : mcell ((whM c, nilV, nilV) : Mv) = #[.string ⟨qw.toArray⟩, .int .i64 kw, .int .u32 0, .int .u32 0, .int .u32 0, .int .i64 0, .slice none 0 0, .slice none 0 0, .string ⟨#[]⟩] := HQW.out
      rw [hmc] at hone
      exact ⟨_, [((whM c, nilV, nilV) : Mv)], rfl, by rw [HOF2.out]; rfl, hone, HB4.out.alloc HB4.out.size _⟩
    have k80 := HR8.out.cell (i := 0) rfl
    have k60 := HR6.out.cell (i := 0) rfl
    cases h8 : (k8 == 1)
    case false =>
      have HR4 : Keep (RowM w.heap.size d.Nb w3 (.slice none 0 0) []) := ⟨RowM.nil _ _ _⟩
      obtain ⟨w4, hw4⟩ : ∃ w4, w3 = w4 := ⟨_, rfl⟩
      subst hw4
      have HB4 := HB3
      go_wp2_with (first | ((with_reducible refine arm_loadRow HR8.out aggN HS8.out ?_ ?_); (focus rfl); simp only [Act.put, List.setIfInBounds_toArray, List.set_cons_succ, List.set_cons_zero]) | (with_reducible refine arm_stop ?_))
      refine Stopped.out ?_
      have hal : Below w3.heap.size w3 (w3.alloc (.cells #[.string ⟨c.toArray⟩, .int .i64 k8, .int .u32 m8, .int .u32 u8, .int .u32 g8, .int .i64 t8, .slice ba lb cb, .slice bd le ce, .string ⟨l8.toArray⟩] 41)) := (Below.refl _ _).alloc (Nat.le_refl _) _
      have hrA := HR4.out.below hal
      have hs4 := HB4.out.size
      have hmN : Mbs (w3.alloc (.cells #[.string ⟨c.toArray⟩, .int .i64 k8, .int .u32 m8, .int .u32 u8, .int .u32 g8, .int .i64 t8, .slice ba lb cb, .slice bd le ce, .string ⟨l8.toArray⟩] 41)) (fun _ => True) d.Nb (.slice (some ⟨w3.heap.size, 0, none⟩) 1 1) [((c, ⟨k8, m8, u8, g8, t8, at8, da8, l8⟩), .slice ba lb cb, .slice bd le ce)] :=
        ⟨RdV.new (N := fun _ => True) 41 [.string ⟨c.toArray⟩, .int .i64 k8, .int .u32 m8, .int .u32 u8, .int .u32 g8, .int .i64 t8, .slice ba lb cb, .slice bd le ce, .string ⟨l8.toArray⟩] 9 1 _ rfl rfl (by unfold maxLen; omega) trivial, fun y hy => by
          obtain rfl : y = ((c, ⟨k8, m8, u8, g8, t8, at8, da8, l8⟩), .slice ba lb cb, .slice bd le ce) := by simpa using hy
          exact ((HNB.out.below HB4.out (fun b hb => HLT.out b (.inr (.inl hb)))).below (hal.mono HB4.out.size) (fun b hb => HLT.out b (.inr (.inl hb))))⟩
      refine arm_appM (B := w.heap.size) hrA (Nat.le_trans hs4 hal.size) hmN (fun b hb => ⟨.inl hb, by have := HLT.out b (.inr (.inl hb)); have := hal.size; omega, fun e => by have := (hrA.lt e).1; have := HLT.out b (.inr (.inl hb)); omega⟩) (by simp) rfl rfl ?_
      intro v5 w5 hr5 hg5 hov5 hsh5
      obtain ⟨a5, c5, rfl⟩ := hsh5
      have HR5 := Keep.keep hr5
      have HB5 : Keep (Below w.heap.size w w5) := ⟨(HB4.out.trans (hal.mono HB4.out.size)).trans (hrA.chg (Nat.le_trans hs4 hal.size) hg5)⟩
      clear hr5 hg5 hov5 hmN hrA hal
      simp only [Act.put, List.setIfInBounds_toArray, List.set_cons_succ, List.set_cons_zero]
      go_wp2_with fail
      go_ret
      exact ⟨_, _, rfl, by rw [HOF2.out, h8]; rfl, HR5.out, HB5.out⟩
    have HK8 : Keep (k8 = 1) := ⟨by simpa using h8⟩
    cases h6 : (k6 == 1)
    case false =>
      have h6' : (k6 != 1) = true := by rw [bne, h6]; rfl
      have cb3 := (HRB.out.below HB3.out HRB.out.lt).cell (i := 3) rfl
      go_wp2_with fail
      refine (HUN.out w3 HB3.out).mono ?_
      rintro e w4 ⟨v4, l4, rfl, hl4, hr4, hb4⟩
      have HL4 := Keep.keep hl4
      have HR4 := Keep.keep (hr4.lower HB3.out.size (fun b hb => hb))
      have HB4 := Keep.keep (HB3.out.trans (hb4.mono HB3.out.size))
      obtain ⟨a4, c4, hv4, -⟩ := (ownsV_reads hr4.own).shape
      generalize l4.length = n4 at hv4
      clear hl4 hr4 hb4
      subst hv4
      go_wp2_with fail
      go_ret
      exact ⟨_, l4, rfl, by rw [HL4.out, HOF2.out, h8, h6]; rfl, HR4.out, HB4.out⟩
    have h6' : (k6 != 1) = false := by rw [bne, h6]; rfl
    have cw0 := (HRW.out.below HB3.out HRW.out.lt).cell (i := 0) rfl
    go_wp2_with fail
    refine (HBX.out (by first | trivial | rfl) HK8.out w3 HB3.out).mono ?_
    rintro e w4 ⟨v4, l4, rfl, hl4, hr4, hb4⟩
    have HL4 := Keep.keep hl4
    have HR4 := Keep.keep (hr4.lower HB3.out.size (fun b hb => hb))
    have HB4 := Keep.keep (HB3.out.trans (hb4.mono HB3.out.size))
    obtain ⟨a4, c4, hv4, -⟩ := (ownsV_reads hr4.own).shape
    have HN4 : Keep (l4.length = bl.length) := ⟨by rw [← hl4, List.length_map]⟩
    rw [HN4.out] at hv4
    have HR84 := Keep.keep (HR8.out.below hb4 HR8.out.lt)
    clear hl4 hr4 hb4 HR8 HR6 k80 k60 cw0
    have HR8 := HR84
    subst hv4
    obtain ⟨nbl, hnbl⟩ : ∃ n, bl.length = n := ⟨_, rfl⟩
    have HNBL := Keep.keep hnbl
    rw [hnbl] at HN4 hbl HR4
    rw [hnbl]
    clear hnbl
    by_cases hz : nbl = 0
    · have hbe : bl.isEmpty = true := by
        have := HNBL.out
        cases bl with
        | nil => rfl
        | cons a r => rw [hz] at this; cases this
      have hd0 : decide (0 < (nbl : Int)) = false := decide_eq_false (by omega)
      have hd1 : decide (0 < nbl) = false := decide_eq_false (by omega)
      clear hz
      go_wp2_with (first | ((with_reducible refine arm_loadRow HR8.out aggN HS8.out ?_ ?_); (focus rfl); simp only [Act.put, List.setIfInBounds_toArray, List.set_cons_succ, List.set_cons_zero]) | (with_reducible refine arm_stop ?_))
      refine Stopped.out ?_
      have hal : Below w4.heap.size w4 (w4.alloc (.cells #[.string ⟨c.toArray⟩, .int .i64 k8, .int .u32 m8, .int .u32 u8, .int .u32 g8, .int .i64 t8, .slice ba lb cb, .slice bd le ce, .string ⟨l8.toArray⟩] 41)) := (Below.refl _ _).alloc (Nat.le_refl _) _
      have hrA := HR4.out.below hal
      have hs4 := HB4.out.size
      have hmN : Mbs (w4.alloc (.cells #[.string ⟨c.toArray⟩, .int .i64 k8, .int .u32 m8, .int .u32 u8, .int .u32 g8, .int .i64 t8, .slice ba lb cb, .slice bd le ce, .string ⟨l8.toArray⟩] 41)) (fun _ => True) d.Nb (.slice (some ⟨w4.heap.size, 0, none⟩) 1 1) [((c, ⟨k8, m8, u8, g8, t8, at8, da8, l8⟩), .slice ba lb cb, .slice bd le ce)] :=
        ⟨RdV.new (N := fun _ => True) 41 [.string ⟨c.toArray⟩, .int .i64 k8, .int .u32 m8, .int .u32 u8, .int .u32 g8, .int .i64 t8, .slice ba lb cb, .slice bd le ce, .string ⟨l8.toArray⟩] 9 1 _ rfl rfl (by unfold maxLen; omega) trivial, fun y hy => by
          obtain rfl : y = ((c, ⟨k8, m8, u8, g8, t8, at8, da8, l8⟩), .slice ba lb cb, .slice bd le ce) := by simpa using hy
          exact ((HNB.out.below HB4.out (fun b hb => HLT.out b (.inr (.inl hb)))).below (hal.mono HB4.out.size) (fun b hb => HLT.out b (.inr (.inl hb))))⟩
      refine arm_appM (B := w.heap.size) hrA (Nat.le_trans hs4 hal.size) hmN (fun b hb => ⟨.inl hb, by have := HLT.out b (.inr (.inl hb)); have := hal.size; omega, fun e => by have := (hrA.lt e).1; have := HLT.out b (.inr (.inl hb)); omega⟩) (by rw [HN4.out]; simp; omega) rfl rfl ?_
      intro v5 w5 hr5 hg5 hov5 hsh5
      obtain ⟨a5, c5, rfl⟩ := hsh5
      have HR5 := Keep.keep hr5
      have HB5 : Keep (Below w.heap.size w w5) := ⟨(HB4.out.trans (hal.mono HB4.out.size)).trans (hrA.chg (Nat.le_trans hs4 hal.size) hg5)⟩
      clear hr5 hg5 hov5 hmN hrA hal
      simp only [Act.put, List.setIfInBounds_toArray, List.set_cons_succ, List.set_cons_zero]
      go_wp2_with fail
      go_ret
      exact ⟨_, _, rfl, by rw [List.map_append, HL4.out, HOF2.out, h8, h6, hbe]; rfl, HR5.out, HB5.out⟩
    · have hbe : bl.isEmpty = false := by
        have := HNBL.out
        cases bl with
        | nil => exact (hz this.symm).elim
        | cons a r => rfl
      have hd0 : decide (0 < (nbl : Int)) = true := decide_eq_true (by omega)
      have hd1 : decide (0 < nbl) = true := decide_eq_true (by omega)
      clear hz
      go_wp2_with (first | ((with_reducible refine arm_loadRow HR8.out aggN HS8.out ?_ ?_); (focus rfl); simp only [Act.put, List.setIfInBounds_toArray, List.set_cons_succ, List.set_cons_zero]) | (with_reducible refine arm_stop ?_))
      refine Stopped.out ?_
      have hal : Below w4.heap.size w4 (w4.alloc (.cells #[.string ⟨c.toArray⟩, .int .i64 k8, .int .u32 m8, .int .u32 u8, .int .u32 g8, .int .i64 t8, .slice ba lb cb, .slice bd le ce, .string ⟨l8.toArray⟩] 41)) := (Below.refl _ _).alloc (Nat.le_refl _) _
      have hrA := HR4.out.below hal
      have hs4 := HB4.out.size
      have hmN : Mbs (w4.alloc (.cells #[.string ⟨c.toArray⟩, .int .i64 k8, .int .u32 m8, .int .u32 u8, .int .u32 g8, .int .i64 t8, .slice ba lb cb, .slice bd le ce, .string ⟨l8.toArray⟩] 41)) (fun _ => True) d.Nb (.slice (some ⟨w4.heap.size, 0, none⟩) 1 1) [((c, ⟨k8, m8, u8, g8, t8, at8, da8, l8⟩), .slice ba lb cb, .slice bd le ce)] :=
        ⟨RdV.new (N := fun _ => True) 41 [.string ⟨c.toArray⟩, .int .i64 k8, .int .u32 m8, .int .u32 u8, .int .u32 g8, .int .i64 t8, .slice ba lb cb, .slice bd le ce, .string ⟨l8.toArray⟩] 9 1 _ rfl rfl (by unfold maxLen; omega) trivial, fun y hy => by
          obtain rfl : y = ((c, ⟨k8, m8, u8, g8, t8, at8, da8, l8⟩), .slice ba lb cb, .slice bd le ce) := by simpa using hy
          exact ((HNB.out.below HB4.out (fun b hb => HLT.out b (.inr (.inl hb)))).below (hal.mono HB4.out.size) (fun b hb => HLT.out b (.inr (.inl hb))))⟩
      refine arm_appM (B := w.heap.size) hrA (Nat.le_trans hs4 hal.size) hmN (fun b hb => ⟨.inl hb, by have := HLT.out b (.inr (.inl hb)); have := hal.size; omega, fun e => by have := (hrA.lt e).1; have := HLT.out b (.inr (.inl hb)); omega⟩) (by rw [HN4.out]; simp; omega) rfl rfl ?_
      intro v5 w5 hr5 hg5 hov5 hsh5
      obtain ⟨a5, c5, rfl⟩ := hsh5
      have HR5 := Keep.keep hr5
      have HB5 : Keep (Below w.heap.size w w5) := ⟨(HB4.out.trans (hal.mono HB4.out.size)).trans (hrA.chg (Nat.le_trans hs4 hal.size) hg5)⟩
      clear hr5 hg5 hov5 hmN hrA hal
      simp only [Act.put, List.setIfInBounds_toArray, List.set_cons_succ, List.set_cons_zero]
      go_wp2_with fail
      go_ret
      exact ⟨_, _, rfl, by rw [List.map_append, HL4.out, HOF2.out, h8, h6, hbe]; rfl, HR5.out, HB5.out⟩
  case true =>
    go_wp2_with (first | ((with_reducible refine arm_loadRowG ?_ HR6.out aggN HS6.out ?_ ?_); (focus rfl); (focus rfl); simp only [Act.put, List.setIfInBounds_toArray, List.set_cons_succ, List.set_cons_zero]) | ((with_reducible refine arm_loadRowG ?_ HR8.out aggN HS8.out ?_ ?_); (focus rfl); (focus rfl); simp only [Act.put, List.setIfInBounds_toArray, List.set_cons_succ, List.set_cons_zero]))
    refine (HSA.out w2 HW2.out).mono ?_
    rintro e w2' ⟨⟨r, rfl, hr⟩, hb2⟩
    have hrs : r = sm := by
      have h1 := HSM.out
      rw [HA.out] at h1
      rw [Bool.eq_iff_iff, hr, h1]
      simp
    subst hrs
    have HW2' := Keep.keep (HW2.out.trans (hb2.mono HW2.out.size))
    have HR6' := Keep.keep (HR6.out.below hb2 HR6.out.lt)
    have HR8' := Keep.keep (HR8.out.below hb2 HR8.out.lt)
    clear hb2 hr HW2 HR6 HR8 H2
    have HW2 := HW2'
    have HR6 := HR6'
    have HR8 := HR8'
    have H2 := HW2
    clear HW2' HR6' HR8'
    cases r
    case false =>
      go_upto_region 4 with fail
      refine wp_world (R := fun w3 => Below w.heap.size w w3 ∧ Row w3 w.heap.size 39 #[.int .i64 k6, .int .u32 m6, .int .u32 u6, .int .u32 g6, .int .i64 t6, .slice aa la ca, .slice ad ld cd, .string ⟨l6.toArray⟩] ∧ Row w3 b8 39 #[.int .i64 k8, .int .u32 m8, .int .u32 u8, .int .u32 g8, .int .i64 t8, .slice ba lb cb, .slice bd le ce, .string ⟨l8.toArray⟩]) ⟨HW2.out, HR6.out, HR8.out⟩ ?_
      intro w3 H3
      clear HW2 HR6 HR8 H2
      have HB3 := Keep.keep H3.out.1
      have HR6 := Keep.keep H3.out.2.1
      have HR8 := Keep.keep H3.out.2.2
      clear H3
      cases isB
      case false =>
        go_wp2_with fail
        refine (HWH.out w3 HB3.out).mono ?_
        rintro e w4 ⟨rfl, hb4⟩
        have HB4 := Keep.keep (HB3.out.trans (hb4.mono HB3.out.size))
        clear hb4
        go_wp2_with fail
        go_ret
        have hone := RowM.one (K := d.Nb) (x := ((whM c, nilV, nilV) : Mv)) w.heap.size HB4.out.size (ndR_nil (by unfold whM signM; split <;> rfl) (by unfold whM signM; split <;> rfl))
        have hmc : mcell ((whM c, nilV, nilV) : Mv) = #[.string ⟨qw.toArray⟩, .int .i64 kw, .int .u32 0, .int .u32 0, .int .u32 0, .int .i64 0, .slice none 0 0, .slice none 0 0, .string ⟨#[]⟩] := HQW.out
        rw [hmc] at hone
        exact ⟨_, [((whM c, nilV, nilV) : Mv)], rfl, by rw [HOF2.out]; rfl, hone, HB4.out.alloc HB4.out.size _⟩
      have k80 := HR8.out.cell (i := 0) rfl
      have k60 := HR6.out.cell (i := 0) rfl
      cases h8 : (k8 == 1)
      case false =>
        have HR4 : Keep (RowM w.heap.size d.Nb w3 (.slice none 0 0) []) := ⟨RowM.nil _ _ _⟩
        obtain ⟨w4, hw4⟩ : ∃ w4, w3 = w4 := ⟨_, rfl⟩
        subst hw4
        have HB4 := HB3
        go_wp2_with (first | ((with_reducible refine arm_loadRow HR8.out aggN HS8.out ?_ ?_); (focus rfl); simp only [Act.put, List.setIfInBounds_toArray, List.set_cons_succ, List.set_cons_zero]) | (with_reducible refine arm_stop ?_))
        refine Stopped.out ?_
        have hal : Below w3.heap.size w3 (w3.alloc (.cells #[.string ⟨c.toArray⟩, .int .i64 k8, .int .u32 m8, .int .u32 u8, .int .u32 g8, .int .i64 t8, .slice ba lb cb, .slice bd le ce, .string ⟨l8.toArray⟩] 41)) := (Below.refl _ _).alloc (Nat.le_refl _) _
        have hrA := HR4.out.below hal
        have hs4 := HB4.out.size
        have hmN : Mbs (w3.alloc (.cells #[.string ⟨c.toArray⟩, .int .i64 k8, .int .u32 m8, .int .u32 u8, .int .u32 g8, .int .i64 t8, .slice ba lb cb, .slice bd le ce, .string ⟨l8.toArray⟩] 41)) (fun _ => True) d.Nb (.slice (some ⟨w3.heap.size, 0, none⟩) 1 1) [((c, ⟨k8, m8, u8, g8, t8, at8, da8, l8⟩), .slice ba lb cb, .slice bd le ce)] :=
          ⟨RdV.new (N := fun _ => True) 41 [.string ⟨c.toArray⟩, .int .i64 k8, .int .u32 m8, .int .u32 u8, .int .u32 g8, .int .i64 t8, .slice ba lb cb, .slice bd le ce, .string ⟨l8.toArray⟩] 9 1 _ rfl rfl (by unfold maxLen; omega) trivial, fun y hy => by
            obtain rfl : y = ((c, ⟨k8, m8, u8, g8, t8, at8, da8, l8⟩), .slice ba lb cb, .slice bd le ce) := by simpa using hy
            exact ((HNB.out.below HB4.out (fun b hb => HLT.out b (.inr (.inl hb)))).below (hal.mono HB4.out.size) (fun b hb => HLT.out b (.inr (.inl hb))))⟩
        refine arm_appM (B := w.heap.size) hrA (Nat.le_trans hs4 hal.size) hmN (fun b hb => ⟨.inl hb, by have := HLT.out b (.inr (.inl hb)); have := hal.size; omega, fun e => by have := (hrA.lt e).1; have := HLT.out b (.inr (.inl hb)); omega⟩) (by simp) rfl rfl ?_
        intro v5 w5 hr5 hg5 hov5 hsh5
        obtain ⟨a5, c5, rfl⟩ := hsh5
        have HR5 := Keep.keep hr5
        have HB5 : Keep (Below w.heap.size w w5) := ⟨(HB4.out.trans (hal.mono HB4.out.size)).trans (hrA.chg (Nat.le_trans hs4 hal.size) hg5)⟩
        clear hr5 hg5 hov5 hmN hrA hal
        simp only [Act.put, List.setIfInBounds_toArray, List.set_cons_succ, List.set_cons_zero]
        go_wp2_with fail
        go_ret
        exact ⟨_, _, rfl, by rw [HOF2.out, h8]; rfl, HR5.out, HB5.out⟩
      have HK8 : Keep (k8 = 1) := ⟨by simpa using h8⟩
      cases h6 : (k6 == 1)
      case false =>
        have h6' : (k6 != 1) = true := by rw [bne, h6]; rfl
        have cb3 := (HRB.out.below HB3.out HRB.out.lt).cell (i := 3) rfl
        go_wp2_with fail
        refine (HUN.out w3 HB3.out).mono ?_
        rintro e w4 ⟨v4, l4, rfl, hl4, hr4, hb4⟩
        have HL4 := Keep.keep hl4
        have HR4 := Keep.keep (hr4.lower HB3.out.size (fun b hb => hb))
        have HB4 := Keep.keep (HB3.out.trans (hb4.mono HB3.out.size))
        obtain ⟨a4, c4, hv4, -⟩ := (ownsV_reads hr4.own).shape
        generalize l4.length = n4 at hv4
        clear hl4 hr4 hb4
        subst hv4
        go_wp2_with fail
        go_ret
        exact ⟨_, l4, rfl, by rw [HL4.out, HOF2.out, h8, h6]; rfl, HR4.out, HB4.out⟩
      have h6' : (k6 != 1) = false := by rw [bne, h6]; rfl
      have cw0 := (HRW.out.below HB3.out HRW.out.lt).cell (i := 0) rfl
      go_wp2_with fail
      refine (HBX.out (by first | trivial | rfl) HK8.out w3 HB3.out).mono ?_
      rintro e w4 ⟨v4, l4, rfl, hl4, hr4, hb4⟩
      have HL4 := Keep.keep hl4
      have HR4 := Keep.keep (hr4.lower HB3.out.size (fun b hb => hb))
      have HB4 := Keep.keep (HB3.out.trans (hb4.mono HB3.out.size))
      obtain ⟨a4, c4, hv4, -⟩ := (ownsV_reads hr4.own).shape
      have HN4 : Keep (l4.length = bl.length) := ⟨by rw [← hl4, List.length_map]⟩
      rw [HN4.out] at hv4
      have HR84 := Keep.keep (HR8.out.below hb4 HR8.out.lt)
      clear hl4 hr4 hb4 HR8 HR6 k80 k60 cw0
      have HR8 := HR84
      subst hv4
      obtain ⟨nbl, hnbl⟩ : ∃ n, bl.length = n := ⟨_, rfl⟩
      have HNBL := Keep.keep hnbl
      rw [hnbl] at HN4 hbl HR4
      rw [hnbl]
      clear hnbl
      by_cases hz : nbl = 0
      · have hbe : bl.isEmpty = true := by
          have := HNBL.out
          cases bl with
          | nil => rfl
          | cons a r => rw [hz] at this; cases this
        have hd0 : decide (0 < (nbl : Int)) = false := decide_eq_false (by omega)
        have hd1 : decide (0 < nbl) = false := decide_eq_false (by omega)
        clear hz
        go_wp2_with (first | ((with_reducible refine arm_loadRow HR8.out aggN HS8.out ?_ ?_); (focus rfl); simp only [Act.put, List.setIfInBounds_toArray, List.set_cons_succ, List.set_cons_zero]) | (with_reducible refine arm_stop ?_))
        refine Stopped.out ?_
        have hal : Below w4.heap.size w4 (w4.alloc (.cells #[.string ⟨c.toArray⟩, .int .i64 k8, .int .u32 m8, .int .u32 u8, .int .u32 g8, .int .i64 t8, .slice ba lb cb, .slice bd le ce, .string ⟨l8.toArray⟩] 41)) := (Below.refl _ _).alloc (Nat.le_refl _) _
        have hrA := HR4.out.below hal
        have hs4 := HB4.out.size
        have hmN : Mbs (w4.alloc (.cells #[.string ⟨c.toArray⟩, .int .i64 k8, .int .u32 m8, .int .u32 u8, .int .u32 g8, .int .i64 t8, .slice ba lb cb, .slice bd le ce, .string ⟨l8.toArray⟩] 41)) (fun _ => True) d.Nb (.slice (some ⟨w4.heap.size, 0, none⟩) 1 1) [((c, ⟨k8, m8, u8, g8, t8, at8, da8, l8⟩), .slice ba lb cb, .slice bd le ce)] :=
          ⟨RdV.new (N := fun _ => True) 41 [.string ⟨c.toArray⟩, .int .i64 k8, .int .u32 m8, .int .u32 u8, .int .u32 g8, .int .i64 t8, .slice ba lb cb, .slice bd le ce, .string ⟨l8.toArray⟩] 9 1 _ rfl rfl (by unfold maxLen; omega) trivial, fun y hy => by
            obtain rfl : y = ((c, ⟨k8, m8, u8, g8, t8, at8, da8, l8⟩), .slice ba lb cb, .slice bd le ce) := by simpa using hy
            exact ((HNB.out.below HB4.out (fun b hb => HLT.out b (.inr (.inl hb)))).below (hal.mono HB4.out.size) (fun b hb => HLT.out b (.inr (.inl hb))))⟩
        refine arm_appM (B := w.heap.size) hrA (Nat.le_trans hs4 hal.size) hmN (fun b hb => ⟨.inl hb, by have := HLT.out b (.inr (.inl hb)); have := hal.size; omega, fun e => by have := (hrA.lt e).1; have := HLT.out b (.inr (.inl hb)); omega⟩) (by rw [HN4.out]; simp; omega) rfl rfl ?_
        intro v5 w5 hr5 hg5 hov5 hsh5
        obtain ⟨a5, c5, rfl⟩ := hsh5
        have HR5 := Keep.keep hr5
        have HB5 : Keep (Below w.heap.size w w5) := ⟨(HB4.out.trans (hal.mono HB4.out.size)).trans (hrA.chg (Nat.le_trans hs4 hal.size) hg5)⟩
        clear hr5 hg5 hov5 hmN hrA hal
        simp only [Act.put, List.setIfInBounds_toArray, List.set_cons_succ, List.set_cons_zero]
        go_wp2_with fail
        go_ret
        exact ⟨_, _, rfl, by rw [List.map_append, HL4.out, HOF2.out, h8, h6, hbe]; rfl, HR5.out, HB5.out⟩
      · have hbe : bl.isEmpty = false := by
          have := HNBL.out
          cases bl with
          | nil => exact (hz this.symm).elim
          | cons a r => rfl
        have hd0 : decide (0 < (nbl : Int)) = true := decide_eq_true (by omega)
        have hd1 : decide (0 < nbl) = true := decide_eq_true (by omega)
        clear hz
        go_wp2_with (first | ((with_reducible refine arm_loadRow HR8.out aggN HS8.out ?_ ?_); (focus rfl); simp only [Act.put, List.setIfInBounds_toArray, List.set_cons_succ, List.set_cons_zero]) | (with_reducible refine arm_stop ?_))
        refine Stopped.out ?_
        have hal : Below w4.heap.size w4 (w4.alloc (.cells #[.string ⟨c.toArray⟩, .int .i64 k8, .int .u32 m8, .int .u32 u8, .int .u32 g8, .int .i64 t8, .slice ba lb cb, .slice bd le ce, .string ⟨l8.toArray⟩] 41)) := (Below.refl _ _).alloc (Nat.le_refl _) _
        have hrA := HR4.out.below hal
        have hs4 := HB4.out.size
        have hmN : Mbs (w4.alloc (.cells #[.string ⟨c.toArray⟩, .int .i64 k8, .int .u32 m8, .int .u32 u8, .int .u32 g8, .int .i64 t8, .slice ba lb cb, .slice bd le ce, .string ⟨l8.toArray⟩] 41)) (fun _ => True) d.Nb (.slice (some ⟨w4.heap.size, 0, none⟩) 1 1) [((c, ⟨k8, m8, u8, g8, t8, at8, da8, l8⟩), .slice ba lb cb, .slice bd le ce)] :=
          ⟨RdV.new (N := fun _ => True) 41 [.string ⟨c.toArray⟩, .int .i64 k8, .int .u32 m8, .int .u32 u8, .int .u32 g8, .int .i64 t8, .slice ba lb cb, .slice bd le ce, .string ⟨l8.toArray⟩] 9 1 _ rfl rfl (by unfold maxLen; omega) trivial, fun y hy => by
            obtain rfl : y = ((c, ⟨k8, m8, u8, g8, t8, at8, da8, l8⟩), .slice ba lb cb, .slice bd le ce) := by simpa using hy
            exact ((HNB.out.below HB4.out (fun b hb => HLT.out b (.inr (.inl hb)))).below (hal.mono HB4.out.size) (fun b hb => HLT.out b (.inr (.inl hb))))⟩
        refine arm_appM (B := w.heap.size) hrA (Nat.le_trans hs4 hal.size) hmN (fun b hb => ⟨.inl hb, by have := HLT.out b (.inr (.inl hb)); have := hal.size; omega, fun e => by have := (hrA.lt e).1; have := HLT.out b (.inr (.inl hb)); omega⟩) (by rw [HN4.out]; simp; omega) rfl rfl ?_
        intro v5 w5 hr5 hg5 hov5 hsh5
        obtain ⟨a5, c5, rfl⟩ := hsh5
        have HR5 := Keep.keep hr5
        have HB5 : Keep (Below w.heap.size w w5) := ⟨(HB4.out.trans (hal.mono HB4.out.size)).trans (hrA.chg (Nat.le_trans hs4 hal.size) hg5)⟩
        clear hr5 hg5 hov5 hmN hrA hal
        simp only [Act.put, List.setIfInBounds_toArray, List.set_cons_succ, List.set_cons_zero]
        go_wp2_with fail
        go_ret
        exact ⟨_, _, rfl, by rw [List.map_append, HL4.out, HOF2.out, h8, h6, hbe]; rfl, HR5.out, HB5.out⟩
    case true =>
      go_upto_region 4 with fail
      refine wp_world (R := fun w3 => Below w.heap.size w w3 ∧ Row w3 w.heap.size 39 #[.int .i64 k6, .int .u32 m6, .int .u32 u6, .int .u32 g6, .int .i64 t6, .slice aa la ca, .slice ad ld cd, .string ⟨l6.toArray⟩] ∧ Row w3 b8 39 #[.int .i64 k8, .int .u32 m8, .int .u32 u8, .int .u32 g8, .int .i64 t8, .slice ba lb cb, .slice bd le ce, .string ⟨l8.toArray⟩]) ⟨HW2.out, HR6.out, HR8.out⟩ ?_
      intro w3 H3
      clear HW2 HR6 HR8 H2
      have HB3 := Keep.keep H3.out.1
      have HR6 := Keep.keep H3.out.2.1
      have HR8 := Keep.keep H3.out.2.2
      clear H3
      cases isB
      case false =>
        go_wp2_with fail
        refine (HWH.out w3 HB3.out).mono ?_
        rintro e w4 ⟨rfl, hb4⟩
        have HB4 := Keep.keep (HB3.out.trans (hb4.mono HB3.out.size))
        clear hb4
        go_wp2_with fail
        go_ret
        have hone := RowM.one (K := d.Nb) (x := ((whM c, nilV, nilV) : Mv)) w.heap.size HB4.out.size (ndR_nil (by unfold whM signM; split <;> rfl) (by unfold whM signM; split <;> rfl))
        have hmc : mcell ((whM c, nilV, nilV) : Mv) = #[.string ⟨qw.toArray⟩, .int .i64 kw, .int .u32 0, .int .u32 0, .int .u32 0, .int .i64 0, .slice none 0 0, .slice none 0 0, .string ⟨#[]⟩] := HQW.out
        rw [hmc] at hone
        exact ⟨_, [((whM c, nilV, nilV) : Mv)], rfl, by rw [HOF2.out]; rfl, hone, HB4.out.alloc HB4.out.size _⟩
      have k80 := HR8.out.cell (i := 0) rfl
      have k60 := HR6.out.cell (i := 0) rfl
      cases h8 : (k8 == 1)
      case false =>
        go_wp2_with fail
        go_ret
        exact ⟨_, [], rfl, by rw [HOF2.out, h8]; rfl, RowM.nil _ _ _, HB3.out⟩
      have HK8 : Keep (k8 = 1) := ⟨by simpa using h8⟩
      cases h6 : (k6 == 1)
      case false =>
        have h6' : (k6 != 1) = true := by rw [bne, h6]; rfl
        have cb3 := (HRB.out.below HB3.out HRB.out.lt).cell (i := 3) rfl
        go_wp2_with fail
        refine (HUN.out w3 HB3.out).mono ?_
        rintro e w4 ⟨v4, l4, rfl, hl4, hr4, hb4⟩
        have HL4 := Keep.keep hl4
        have HR4 := Keep.keep (hr4.lower HB3.out.size (fun b hb => hb))
        have HB4 := Keep.keep (HB3.out.trans (hb4.mono HB3.out.size))
        obtain ⟨a4, c4, hv4, -⟩ := (ownsV_reads hr4.own).shape
        generalize l4.length = n4 at hv4
        clear hl4 hr4 hb4
        subst hv4
        go_wp2_with fail
        go_ret
        exact ⟨_, l4, rfl, by rw [HL4.out, HOF2.out, h8, h6]; rfl, HR4.out, HB4.out⟩
      have h6' : (k6 != 1) = false := by rw [bne, h6]; rfl
      have cw0 := (HRW.out.below HB3.out HRW.out.lt).cell (i := 0) rfl
      go_wp2_with fail
      refine (HBX.out (by first | trivial | rfl) HK8.out w3 HB3.out).mono ?_
      rintro e w4 ⟨v4, l4, rfl, hl4, hr4, hb4⟩
      have HL4 := Keep.keep hl4
      have HR4 := Keep.keep (hr4.lower HB3.out.size (fun b hb => hb))
      have HB4 := Keep.keep (HB3.out.trans (hb4.mono HB3.out.size))
      obtain ⟨a4, c4, hv4, -⟩ := (ownsV_reads hr4.own).shape
      have HN4 : Keep (l4.length = bl.length) := ⟨by rw [← hl4, List.length_map]⟩
      rw [HN4.out] at hv4
      have HR84 := Keep.keep (HR8.out.below hb4 HR8.out.lt)
      clear hl4 hr4 hb4 HR8 HR6 k80 k60 cw0
      have HR8 := HR84
      subst hv4
      obtain ⟨nbl, hnbl⟩ : ∃ n, bl.length = n := ⟨_, rfl⟩
      have HNBL := Keep.keep hnbl
      rw [hnbl] at HN4 hbl HR4
      rw [hnbl]
      clear hnbl
      by_cases hz : nbl = 0
      · have hbe : bl.isEmpty = true := by
          have := HNBL.out
          cases bl with
          | nil => rfl
          | cons a r => rw [hz] at this; cases this
        have hd0 : decide (0 < (nbl : Int)) = false := decide_eq_false (by omega)
        have hd1 : decide (0 < nbl) = false := decide_eq_false (by omega)
        clear hz
        go_wp2_with fail
        go_ret
        exact ⟨_, l4, rfl, by rw [HL4.out, HOF2.out, h8, h6, hbe]; rfl, HR4.out, HB4.out⟩
      · have hbe : bl.isEmpty = false := by
          have := HNBL.out
          cases bl with
          | nil => exact (hz this.symm).elim
          | cons a r => rfl
        have hd0 : decide (0 < (nbl : Int)) = true := decide_eq_true (by omega)
        have hd1 : decide (0 < nbl) = true := decide_eq_true (by omega)
        clear hz
        go_wp2_with (first | ((with_reducible refine arm_loadRow HR8.out aggN HS8.out ?_ ?_); (focus rfl); simp only [Act.put, List.setIfInBounds_toArray, List.set_cons_succ, List.set_cons_zero]) | (with_reducible refine arm_stop ?_))
        refine Stopped.out ?_
        have hal : Below w4.heap.size w4 (w4.alloc (.cells #[.string ⟨c.toArray⟩, .int .i64 k8, .int .u32 m8, .int .u32 u8, .int .u32 g8, .int .i64 t8, .slice ba lb cb, .slice bd le ce, .string ⟨l8.toArray⟩] 41)) := (Below.refl _ _).alloc (Nat.le_refl _) _
        have hrA := HR4.out.below hal
        have hs4 := HB4.out.size
        have hmN : Mbs (w4.alloc (.cells #[.string ⟨c.toArray⟩, .int .i64 k8, .int .u32 m8, .int .u32 u8, .int .u32 g8, .int .i64 t8, .slice ba lb cb, .slice bd le ce, .string ⟨l8.toArray⟩] 41)) (fun _ => True) d.Nb (.slice (some ⟨w4.heap.size, 0, none⟩) 1 1) [((c, ⟨k8, m8, u8, g8, t8, at8, da8, l8⟩), .slice ba lb cb, .slice bd le ce)] :=
          ⟨RdV.new (N := fun _ => True) 41 [.string ⟨c.toArray⟩, .int .i64 k8, .int .u32 m8, .int .u32 u8, .int .u32 g8, .int .i64 t8, .slice ba lb cb, .slice bd le ce, .string ⟨l8.toArray⟩] 9 1 _ rfl rfl (by unfold maxLen; omega) trivial, fun y hy => by
            obtain rfl : y = ((c, ⟨k8, m8, u8, g8, t8, at8, da8, l8⟩), .slice ba lb cb, .slice bd le ce) := by simpa using hy
            exact ((HNB.out.below HB4.out (fun b hb => HLT.out b (.inr (.inl hb)))).below (hal.mono HB4.out.size) (fun b hb => HLT.out b (.inr (.inl hb))))⟩
        refine arm_appM (B := w.heap.size) hrA (Nat.le_trans hs4 hal.size) hmN (fun b hb => ⟨.inl hb, by have := HLT.out b (.inr (.inl hb)); have := hal.size; omega, fun e => by have := (hrA.lt e).1; have := HLT.out b (.inr (.inl hb)); omega⟩) (by rw [HN4.out]; simp; omega) rfl rfl ?_
        intro v5 w5 hr5 hg5 hov5 hsh5
        obtain ⟨a5, c5, rfl⟩ := hsh5
        have HR5 := Keep.keep hr5
        have HB5 : Keep (Below w.heap.size w w5) := ⟨(HB4.out.trans (hal.mono HB4.out.size)).trans (hrA.chg (Nat.le_trans hs4 hal.size) hg5)⟩
        clear hr5 hg5 hov5 hmN hrA hal
        simp only [Act.put, List.setIfInBounds_toArray, List.set_cons_succ, List.set_cons_zero]
        go_wp2_with fail
        go_ret
        exact ⟨_, _, rfl, by rw [List.map_append, HL4.out, HOF2.out, h8, h6, hbe]; rfl, HR5.out, HB5.out⟩
end Go.Proofs.YtmnknmpfkjhgbaaGreatDoor
/- slices.Grow, Concat, Compact of texts; differ.both. -/
namespace Go.Proofs.YtmnknmpfkjhgbaaGreatDoor
open Go.RowKit Go.Sort
theorem slice_sto (a : Option Addr) (n cap i : Nat) (hi : i ≤ cap) (w : World) : (Instr.slice 42 (.slice a n cap) none (some (.int .i64 (i : Int))) none).run Tryz.prog w = .ok (.slice a i cap) w := by
  have he : Tryz.prog.elem 42 = 9 := by simp [Program.elem, Tryz.underlying42]
  have hs : ∀ w, (sizeOf 9).run Tryz.prog w = .ok 1 w := fun w => by kernel_rfl
  rw [run_slice_h w 42 a n cap (by rw [he]; exact Tryz.underlying42) .i64 (i : Int) (by omega) (by omega), he, hs]
  have ha : a.map (·.add 0) = a := by
    cases a <;> simp [Addr.add]
  simp [Result.andThen, sliced, ha]
set_option maxHeartbeats 1000000 in
set_option maxRecDepth 100000 in
theorem grow_own (n : Nat) (hn : n ≤ 1000000000) (w : World) :
    Calls Tryz.prog 162 #[.slice none 0 0, .int .i64 (n : Int)] w fun e w' => ∃ v, e = .returned v ∧ OwnS w' w.heap.size v [] ∧ Below w.heap.size w w' := by
  have hneg : decide ((n : Int) < 0) = false := decide_eq_false (by omega)
  by_cases h0 : n = 0
  · subst h0
    go_enter Tryz.func162, Tryz.ntmps162
    go_wp2_with fail
    go_ret
    exact ⟨_, rfl, World.ownsRow_nil _ _ _ _, Below.refl _ _⟩
  · have hpos : decide (0 < (n : Int)) = true := decide_eq_true (by omega)
    have hpos2 : decide (0 < n) = true := decide_eq_true (by omega)
    have hsl := fun wx => slice_sto none 0 0 0 (Nat.le_refl _) wx
    obtain ⟨i, hi, hz, hsize, hby⟩ := slS.i
    have hrun := Lib.run_append_nil_zeros (P := Tryz.prog) w 42 3 42 9 i (strV []) .i64 .i64 Tryz.underlying42 Tryz.underlying3 hi hz n (by omega) (by rw [hsize]; decide) (by omega) (by rw [hby]; omega)
    have hge := grownCap_ge w n 0 9
    have hle := grownCap_le_maxLen w n 0 9 (by unfold maxLen; omega)
    generalize hc : grownCap w n 0 9 = cap at *
    have HSZ : Keep ((Builtin.zeroCells (strV []).cells n ++ Builtin.zeroCells (strV []).cells (cap - n)).size = cap) := ⟨by
      have hz1 : ∀ m, (Builtin.zeroCells (strV []).cells m).size = m := fun m => by simp [Builtin.zeroCells, strV, Value.cells]
      rw [Array.size_append, hz1, hz1]; omega⟩
    generalize Builtin.zeroCells (strV []).cells n ++ Builtin.zeroCells (strV []).cells (cap - n) = cs at *
    have hst := fun wx => slice_sto (some ⟨w.heap.size, 0, none⟩) n cap 0 (Nat.zero_le _) wx
    have HLE := Keep.keep hle; have HGE := Keep.keep hge; have HRUN := Keep.keep hrun
    clear hc hle hge hrun hi hz hsize hby
    go_enter Tryz.func162, Tryz.ntmps162
    go_wp2_with (at_builtin; refine Lib.wpList_append_run _ rfl _ _ _ _ rfl _ _ rfl rfl _ _ HRUN.out ?_)
    go_ret
    refine ⟨_, rfl, ⟨rfl, .inr ⟨w.heap.size, cap, cs, rfl, Nat.le_refl _, Row.new w.drew 9 cs, Nat.zero_le _, HLE.out, by rw [HSZ.out, Nat.mul_one], by simp⟩⟩, ?_⟩
    exact (Below.refl _ _).drew.alloc (Nat.le_refl _) _
set_option maxHeartbeats 4000000 in
set_option maxRecDepth 100000 in
theorem concat_two (b0 : Nat) (v1 v2 : Value) (l1 l2 : List Tx) (w : World) (hrow : Row w b0 42 #[v1, v2]) (h1 : RdS w (· < w.heap.size) v1 l1) (h2 : RdS w (· < w.heap.size) v2 l2) (hl1 : l1.length ≤ 1000000) (hl2 : l2.length ≤ 1000000) :
    Calls Tryz.prog 141 #[.slice (some ⟨b0, 0, none⟩) 2 2] w fun e w' => ∃ v, e = .returned v ∧ OwnS w' w.heap.size v (l1 ++ l2) ∧ Below w.heap.size w w' := by
  obtain ⟨a1, c1, hv1, -⟩ := h1.shape
  obtain ⟨a2, c2, hv2, -⟩ := h2.shape
  have HRW := Keep.keep hrow; have H1 := Keep.keep h1; have H2 := Keep.keep h2
  have HG := Keep.keep (fun w => grow_own (l1.length + l2.length) (by omega) w)
  clear hrow h1 h2
  subst hv1 hv2
  go_enter Tryz.func141, Tryz.ntmps141
  go_wp2_with fail
  go_loopg [3, 11] 2 (fun g u3 u11 wx => w = wx ∧ ((g = 2 ∧ u11 = .int .i64 0 ∧ u3 = .int .i64 0) ∨ (g = 1 ∧ u11 = .int .i64 1 ∧ u3 = .int .i64 (l1.length : Int)) ∨ (g = 0 ∧ u11 = .int .i64 2 ∧ u3 = .int .i64 ((l1.length + l2.length : Nat) : Int))))
  case atStart => exact ⟨rfl, .inl ⟨rfl, rfl, rfl⟩⟩
  case round =>
    obtain ⟨rfl, hrel⟩ := hrel
    have k0 := HRW.out.cell (i := 0) rfl
    have k1 := HRW.out.cell (i := 1) rfl
    have d1 : decide ((l1.length : Int) < 0) = false := decide_eq_false (by omega)
    have d2 : decide ((l1.length : Int) + (l2.length : Int) < 0) = false := decide_eq_false (by omega)
    rcases hrel with ⟨rfl, rfl, rfl⟩ | ⟨rfl, rfl, rfl⟩ | ⟨rfl, rfl, rfl⟩
    · go_wp2_with fail
      go_roundg 1
      case measure => omega
      case rel => exact ⟨rfl, .inr (.inl ⟨rfl, rfl, by simp⟩)⟩
    · go_wp2_with fail
      go_roundg 0
      case measure => omega
      case rel => exact ⟨rfl, .inr (.inr ⟨rfl, rfl, by simp⟩)⟩
    · clear k0 k1
      go_wp2_with fail
      refine (HG.out w).mono ?_
      rintro e w2 ⟨v6, rfl, ho6, hb2⟩
      have HO6 := Keep.keep ho6; have HB2 := Keep.keep hb2
      obtain ⟨a6, c6, hv6, -⟩ := (ownsV_reads ho6).shape
      rw [List.length_nil] at hv6
      clear ho6 hb2 HG
      subst hv6
      go_wp2_with fail
      go_loopg [6, 27] 2 (fun g u6 u27 wx => Below w.heap.size w wx ∧ ((g = 2 ∧ u27 = .int .i64 0 ∧ OwnS wx w.heap.size u6 []) ∨ (g = 1 ∧ u27 = .int .i64 1 ∧ OwnS wx w.heap.size u6 l1) ∨ (g = 0 ∧ u27 = .int .i64 2 ∧ OwnS wx w.heap.size u6 (l1 ++ l2))))
      case atStart => exact ⟨HB2.out, .inl ⟨rfl, rfl, HO6.out⟩⟩
      case round =>
        obtain ⟨hbx, hrel⟩ := hrel
        have HBX := Keep.keep hbx
        have hsx := hbx.size
        have HRX := Keep.keep (HRW.out.below hbx HRW.out.lt)
        have k0 := HRX.out.cell (i := 0) rfl
        have k1 := HRX.out.cell (i := 1) rfl
        clear hbx
        rcases hrel with ⟨rfl, rfl, ho⟩ | ⟨rfl, rfl, ho⟩ | ⟨rfl, rfl, ho⟩
        · have HO := Keep.keep ho
          obtain ⟨a7, c7, hv7, -⟩ := (ownsV_reads ho).shape
          clear ho
          rw [List.length_nil] at hv7
          subst hv7
          go_wp2_with (with_reducible refine arm_stop ?_)
          refine Stopped.out ?_
          refine arm_appendV slS (m := l1.length) HO.out (H1.out.below HBX.out (fun b hb => hb)) (fun u hu => by obtain ⟨x, _, rfl⟩ := List.mem_map.1 hu; rfl) (by unfold maxLen; simp; omega) (by simp; omega) hsx rfl rfl ?_
          intro v8 w8 ho8 hg8 hov8 _
          have HO8 : Keep (OwnS w8 w.heap.size v8 (l1)) := ⟨by simpa using ho8⟩
          have HB8 : Keep (Below w.heap.size w w8) := ⟨HBX.out.trans ((Chg.grown (M := NoM) (.refl _ _ _) hg8 hsx (fun k e => .inl (World.ownsRow.lt HO.out k e).1)).below (fun _ _ h => h))⟩
          obtain ⟨a8, c8, hv8, -⟩ := (ownsV_reads HO8.out).shape
          clear ho8 hg8 hov8 HO k0 k1 HRX
          subst hv8
          simp only [Act.put, List.setIfInBounds_toArray, List.set_cons_succ, List.set_cons_zero]
          go_wp2_with fail
          go_roundg 1
          case measure => omega
          case rel => exact ⟨HB8.out, .inr (.inl ⟨rfl, rfl, HO8.out⟩)⟩
        · have HO := Keep.keep ho
          obtain ⟨a7, c7, hv7, -⟩ := (ownsV_reads ho).shape
          clear ho
          skip
          subst hv7
          go_wp2_with (with_reducible refine arm_stop ?_)
          refine Stopped.out ?_
          refine arm_appendV slS (m := l2.length) HO.out (H2.out.below HBX.out (fun b hb => hb)) (fun u hu => by obtain ⟨x, _, rfl⟩ := List.mem_map.1 hu; rfl) (by unfold maxLen; omega) (by omega) hsx rfl rfl ?_
          intro v8 w8 ho8 hg8 hov8 _
          have HO8 : Keep (OwnS w8 w.heap.size v8 (l1 ++ l2)) := ⟨by
            show w8.ownsRow w.heap.size 9 1 v8 (l1 ++ l2).length ((l1 ++ l2).map strV)
            rw [List.length_append, List.map_append]
            exact ho8⟩
          have HB8 : Keep (Below w.heap.size w w8) := ⟨HBX.out.trans ((Chg.grown (M := NoM) (.refl _ _ _) hg8 hsx (fun k e => .inl (World.ownsRow.lt HO.out k e).1)).below (fun _ _ h => h))⟩
          obtain ⟨a8, c8, hv8, -⟩ := (ownsV_reads HO8.out).shape
          rw [List.length_append] at hv8
          clear ho8 hg8 hov8 HO k0 k1 HRX
          subst hv8
          simp only [Act.put, List.setIfInBounds_toArray, List.set_cons_succ, List.set_cons_zero]
          go_wp2_with fail
          go_roundg 0
          case measure => omega
          case rel => exact ⟨HB8.out, .inr (.inr ⟨rfl, rfl, HO8.out⟩)⟩
        · have HO := Keep.keep ho
          obtain ⟨a7, c7, hv7, -⟩ := (ownsV_reads ho).shape
          rw [List.length_append] at hv7
          clear ho k0 k1 HRX
          subst hv7
          go_wp2_with fail
          go_ret
          exact ⟨_, rfl, HO.out, HBX.out⟩
theorem compact_len (zs : List Tx) : (Lib.compact zs).length ≤ zs.length := by
  unfold Lib.compact Lib.compactUpTo
  rw [List.length_map]
  exact Nat.le_trans (List.length_filter_le _ _) (by simp)
theorem owns_take1 {w : World} {base g n cap k : Nat} {e : TypeId} {xs ys : List Value} (h : w.ownsRow base e 1 (.slice (some ⟨g, 0, none⟩) n cap) n xs) (hk : k ≤ n) (hy : xs.take k = ys) : w.ownsRow base e 1 (.slice (some ⟨g, 0, none⟩) k cap) k ys := by
  obtain ⟨h0, h⟩ := h
  rcases h with ⟨h1, _⟩ | ⟨g', cap', cur, h1, h2, h3, h4, h5, h6, h7⟩
  · cases h1
  · injection h1 with e1 e2 e3; injection e1 with e1; injection e1 with e1 _ _; subst e1 e3
    refine ⟨by rw [← hy, List.length_take]; omega, .inr ⟨g, cap, cur, rfl, h2, h3, by omega, h5, h6, ?_⟩⟩
    rw [← hy, ← h7, List.take_take, Nat.min_eq_left (by omega), Nat.mul_one]
theorem compact_own (base : Nat) (v : Value) (zs : List Tx) (w : World) (hl : zs.length ≤ 10000000) (h : OwnS w base v zs) :
    Calls Tryz.prog 142 #[v] w fun e w' => ∃ v', e = .returned v' ∧ OwnS w' base v' (Lib.compact zs) ∧ w.grownBy w' v.ownBlock := by
  have h0 := h
  rcases h.2 with ⟨rfl, hz⟩ | ⟨g, cap, cur, rfl, hb, hh, hn, hm, hs, ht⟩
  · obtain rfl : zs = [] := List.eq_nil_of_length_eq_zero hz
    refine (Tryz.slices_Compact_string_empty none 0 w).mono ?_
    rintro e w' ⟨rfl, rfl⟩
    exact ⟨_, rfl, h0, ⟨rfl, rfl, rfl, Nat.le_refl _, fun _ _ _ => rfl⟩⟩
  · rw [Nat.mul_one] at ht
    have hcl := compact_len zs
    refine (Tryz.slices_Compact_string g 0 cap zs w (holds_of_block hh ht) (by omega) hn).mono ?_
    rintro e w' ⟨rfl, q, rfl⟩
    have hts : (Lib.compact zs ++ List.replicate (zs.length - (Lib.compact zs).length) []).length = zs.length := by simp; omega
    have hg : (putRow encStr (Sort.ahead w q) g 0 (Lib.compact zs ++ List.replicate (zs.length - (Lib.compact zs).length) []).toArray) = Go.Sort.grow (putRow encStr (Sort.ahead w q) g 0 (Lib.compact zs ++ List.replicate (zs.length - (Lib.compact zs).length) []).toArray) #[] := (Go.Sort.grow_empty _).symm
    rw [hg]
    have ho := ownsRow_sorted (w := w) (n := q) (os := #[]) hts hb hh hn hm hs
    refine ⟨_, rfl, owns_take1 ho hcl ?_, grownBy_sorted _⟩
    rw [List.map_append, List.take_append_of_le_length (by simp), List.take_of_length_le (by simp)]
    rfl
set_option maxHeartbeats 1000000 in
set_option maxRecDepth 100000 in
/-- differ.both: sorted, each once -/
theorem both_any (v1 v2 : Value) (l1 l2 : List Tx) (w : World) (h1 : RdS w (· < w.heap.size) v1 l1) (h2 : RdS w (· < w.heap.size) v2 l2) (hl1 : l1.length ≤ 400000) (hl2 : l2.length ≤ 400000) :
    Calls Tryz.prog 121 #[v1, v2] w fun e w' => ∃ v, e = .returned v ∧ OwnS w' w.heap.size v (Lib.compact ((l1 ++ l2).mergeSort fun x y => decide (x ≤ y))) ∧ Below w.heap.size w w' := by
  have HC : Keep (∀ wx b0, Below w.heap.size w wx → Row wx b0 42 #[v1, v2] → Calls Tryz.prog 141 #[.slice (some ⟨b0, 0, none⟩) 2 2] wx fun e w' => ∃ v, e = .returned v ∧ OwnS w' wx.heap.size v (l1 ++ l2) ∧ Below wx.heap.size wx w') :=
    ⟨fun wx b0 hb hr => concat_two b0 v1 v2 l1 l2 wx hr ((h1.below hb (fun b hb => hb)).mono (fun b hb' => Nat.lt_of_lt_of_le hb' hb.size)) ((h2.below hb (fun b hb => hb)).mono (fun b hb' => Nat.lt_of_lt_of_le hb' hb.size)) (by omega) (by omega)⟩
  obtain ⟨a1, c1, hv1, -⟩ := h1.shape
  obtain ⟨a2, c2, hv2, -⟩ := h2.shape
  obtain ⟨zs, hzs⟩ : ∃ zs, ((l1 ++ l2).mergeSort fun x y => decide (x ≤ y)) = zs := ⟨_, rfl⟩
  have HZ : Keep (((l1 ++ l2).mergeSort fun x y => decide (x ≤ y)) = zs ∧ zs.length = (l1 ++ l2).length ∧ (l1 ++ l2).length ≤ 1000000) := ⟨hzs, by rw [← hzs]; simp, by simp; omega⟩
  rw [hzs]
  clear h1 h2 hzs
  subst hv1 hv2
  generalize l1.length = n1 at *
  generalize l2.length = n2 at *
  go_enter Tryz.func121, Tryz.ntmps121
  go_wp2_with fail
  refine calls_at (R := fun wq => Below w.heap.size w wq ∧ Row wq w.heap.size 42 #[.slice a1 n1 c1, .slice a2 n2 c2]) ⟨(Below.refl _ _).alloc (Nat.le_refl _) _, Row.new w _ _⟩ ?_
  intro w1 H1
  refine (HC.out w1 _ H1.out.1 H1.out.2).mono ?_
  rintro e w2 ⟨v5, rfl, ho5, hb2⟩
  have HO5 := Keep.keep (ownsRow_base ho5 H1.out.1.size)
  have HB2 := Keep.keep (H1.out.1.trans (hb2.mono H1.out.1.size))
  obtain ⟨a5, c5, hv5, -⟩ := (ownsV_reads ho5).shape
  generalize hn5 : (l1 ++ l2).length = n5 at *
  have HN5 := Keep.keep hn5
  clear ho5 hb2 HC hn5
  subst hv5
  have HS := Keep.keep (sort_own w.heap.size _ (l1 ++ l2) w2 (by rw [HN5.out]; exact HZ.out.2.2) (by rw [HN5.out]; exact HO5.out))
  rw [HN5.out, HZ.out.1] at HS
  go_wp2_with fail
  refine HS.out.mono ?_
  rintro e w3 ⟨rfl, ho6, hg6⟩
  have HO6 : Keep (OwnS w3 w.heap.size (.slice a5 n5 c5) zs) := ⟨by
    have := ho6
    show w3.ownsRow w.heap.size 9 1 (.slice a5 n5 c5) zs.length (zs.map strV)
    rw [HZ.out.2.1]; exact this⟩
  have HB3 : Keep (Below w.heap.size w w3) := ⟨HB2.out.trans ((Chg.grown (M := NoM) (.refl _ _ _) hg6 HB2.out.size (fun k e => .inl (World.ownsRow.lt HO5.out k e).1)).below (fun _ _ h => h))⟩
  have HK := Keep.keep (compact_own w.heap.size _ zs w3 (by rw [HZ.out.2.1]; have := HZ.out.2.2; omega) HO6.out)
  clear ho6 hg6 HS
  go_wp2_with fail
  refine HK.out.mono ?_
  rintro e w4 ⟨v7, rfl, ho7, hg7⟩
  have HO7 := Keep.keep ho7
  have HB4 : Keep (Below w.heap.size w w4) := ⟨HB3.out.trans ((Chg.grown (M := NoM) (.refl _ _ _) hg7 HB3.out.size (fun k e => .inl (World.ownsRow.lt HO6.out k e).1)).below (fun _ _ h => h))⟩
  obtain ⟨a7, c7, hv7, -⟩ := (ownsV_reads ho7).shape
  generalize (Lib.compact zs).length = n7 at hv7
  clear ho7 hg7 HK
  subst hv7
  go_wp2_with fail
  go_ret
  exact ⟨_, rfl, HO7.out, HB4.out⟩
end Go.Proofs.YtmnknmpfkjhgbaaGreatDoor

