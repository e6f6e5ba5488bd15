/- PARTS OF ONE PROOF, set in one file: NodeSame, TreeSame, RefSame, Alike, EqF, ChLoc2, RTreeL, PathRef. Each part tells its own conditions. -/
import Derived.Test.YtplafpokgpolkaaGreatDoorW6
/- tar.Same: two Members are the same. -/
namespace Go.Proofs.YtplafpokgpolkaaGreatDoor
open Go.RowKit
/-- the box at slot d: a new row -/
def Bx (n d : Nat) (c : Array Value) (s : Nat → Value) (w : World) : Prop := ∃ b, s d = .pointer (some ⟨b, 0, none⟩) ∧ n ≤ b ∧ Row w b 30 c
def Bx8 (n d : Nat) (s : Nat → Value) (w : World) : Prop := ∃ c, Bx n d c s w ∧ c.size = 8
def twT (n b2 b3 : Nat) (A B : Array Value) : Nat → (Nat → Value) → World → Prop
  | 0, s, _ => s 7 = .pointer (some ⟨b2, 1, none⟩)
  | 1, s, _ => s 8 = .agg A
  | 2, s, _ => s 9 = .pointer (some ⟨b3, 1, none⟩)
  | 3, s, _ => s 10 = .agg B
  | 4, s, w => Bx8 n 5 s w
  | 5, s, w => Bx8 n 6 s w
  | 6, s, w => Bx n 5 A s w
  | 7, s, w => Bx n 6 B s w
  | _, _, _ => True
theorem Bx.keep {n d : Nat} {c : Array Value} {s s' : Nat → Value} {w w' : World} (h : Bx n d c s w) (hs : s' d = s d) (hb : ∀ b, s d = .pointer (some ⟨b, 0, none⟩) → w'.heap[b]? = w.heap[b]?) : Bx n d c s' w' := by
  obtain ⟨b, h1, h2, h3⟩ := h
  exact ⟨b, hs.trans h1, h2, (hb b h1).trans h3⟩
theorem Bx8.keep {n d : Nat} {s s' : Nat → Value} {w w' : World} (h : Bx8 n d s w) (hs : s' d = s d) (hb : ∀ b, s d = .pointer (some ⟨b, 0, none⟩) → w'.heap[b]? = w.heap[b]?) : Bx8 n d s' w' := by
  obtain ⟨c, h1, h2⟩ := h
  exact ⟨c, h1.keep hs hb, h2⟩
theorem Bx.lt {n d : Nat} {c : Array Value} {s : Nat → Value} {w : World} (h : Bx n d c s w) {b : Nat} (hb : s d = .pointer (some ⟨b, 0, none⟩)) : b < w.heap.size := by
  obtain ⟨b', h1, _, h3⟩ := h
  rw [h1] at hb; cases hb
  exact Row.lt h3
theorem Bx8.lt {n d : Nat} {s : Nat → Value} {w : World} (h : Bx8 n d s w) {b : Nat} (hb : s d = .pointer (some ⟨b, 0, none⟩)) : b < w.heap.size := by
  obtain ⟨c, h1, _⟩ := h
  exact h1.lt hb
/-- what holds throughout: two boxes lie apart -/
structure twC (n : Nat) (w : World) (s : Nat → Value) (wx : World) : Prop where
  b : Below w.heap.size w wx
  p : ∀ b, s 5 = .pointer (some ⟨b, 0, none⟩) → n ≤ b ∧ b < wx.heap.size
  q : ∀ b, s 6 = .pointer (some ⟨b, 0, none⟩) → n ≤ b ∧ b < wx.heap.size
  a : ∀ b b', s 5 = .pointer (some ⟨b, 0, none⟩) → s 6 = .pointer (some ⟨b', 0, none⟩) → b ≠ b'
/-- a quiet operation of slot d, or one that makes a new row -/
theorem twT_keep {n b2 b3 : Nat} {A B : Array Value} {s s' : Nat → Value} {w w' : World} (d : Nat) (hs : ∀ j, j ≠ d → s' j = s j) (hw : ∀ b, b < w.heap.size → w'.heap[b]? = w.heap[b]?) (j : Nat) (hj : (j = 0 → d ≠ 7) ∧ (j = 1 → d ≠ 8) ∧ (j = 2 → d ≠ 9) ∧ (j = 3 → d ≠ 10) ∧ (j = 4 ∨ j = 6 → d ≠ 5) ∧ (j = 5 ∨ j = 7 → d ≠ 6)) (h : twT n b2 b3 A B j s w) : twT n b2 b3 A B j s' w' := by
  obtain ⟨j0, j1, j2, j3, j4, j5⟩ := hj
  rcases (by omega : j = 0 ∨ j = 1 ∨ j = 2 ∨ j = 3 ∨ j = 4 ∨ j = 5 ∨ j = 6 ∨ j = 7 ∨ 8 ≤ j) with rfl | rfl | rfl | rfl | rfl | rfl | rfl | rfl | h8
  · exact (hs 7 (Ne.symm (j0 rfl))).trans h
  · exact (hs 8 (Ne.symm (j1 rfl))).trans h
  · exact (hs 9 (Ne.symm (j2 rfl))).trans h
  · exact (hs 10 (Ne.symm (j3 rfl))).trans h
  · have h : Bx8 n 5 s w := h
    exact h.keep (hs 5 (Ne.symm (j4 (.inl rfl)))) (fun b hb => hw b (h.lt hb))
  · have h : Bx8 n 6 s w := h
    exact h.keep (hs 6 (Ne.symm (j5 (.inl rfl)))) (fun b hb => hw b (h.lt hb))
  · have h : Bx n 5 A s w := h
    exact h.keep (hs 5 (Ne.symm (j4 (.inr rfl)))) (fun b hb => hw b (h.lt hb))
  · have h : Bx n 6 B s w := h
    exact h.keep (hs 6 (Ne.symm (j5 (.inr rfl)))) (fun b hb => hw b (h.lt hb))
  · obtain ⟨i, rfl⟩ : ∃ i, j = i + 8 := ⟨j - 8, by omega⟩
    trivial
/-- the first box is written -/
theorem twT_store5 {n b2 b3 b : Nat} {A B c : Array Value} {w0 : World} {s : Nat → Value} {w : World} (hC : twC n w0 s w) (h5 : s 5 = .pointer (some ⟨b, 0, none⟩)) (hrow : Row w b 30 c) (hA : A.size = 8) (j : Nat) (h : twT n b2 b3 A B j s w) : twT n b2 b3 A B j s (w.setRow b A) := by
  have hoth : ∀ k, k ≠ b → (w.setRow b A).heap[k]? = w.heap[k]? := fun k hk => Go.setRow_other w b k A hk
  have h6 : ∀ b', s 6 = .pointer (some ⟨b', 0, none⟩) → (w.setRow b A).heap[b']? = w.heap[b']? := fun b' h' => hoth b' (Ne.symm (hC.a b b' h5 h'))
  rcases (by omega : j = 0 ∨ j = 1 ∨ j = 2 ∨ j = 3 ∨ j = 4 ∨ j = 5 ∨ j = 6 ∨ j = 7 ∨ 8 ≤ j) with rfl | rfl | rfl | rfl | rfl | rfl | rfl | rfl | h8
  · exact h
  · exact h
  · exact h
  · exact h
  · exact ⟨A, ⟨b, h5, (hC.p b h5).1, hrow.setRow A⟩, hA⟩
  · have h : Bx8 n 6 s w := h
    exact h.keep rfl h6
  · exact ⟨b, h5, (hC.p b h5).1, hrow.setRow A⟩
  · have h : Bx n 6 B s w := h
    exact h.keep rfl h6
  · obtain ⟨i, rfl⟩ : ∃ i, j = i + 8 := ⟨j - 8, by omega⟩
    trivial
/-- the second box is written -/
theorem twT_store6 {n b2 b3 b : Nat} {A B c : Array Value} {w0 : World} {s : Nat → Value} {w : World} (hC : twC n w0 s w) (h5 : s 6 = .pointer (some ⟨b, 0, none⟩)) (hrow : Row w b 30 c) (hB : B.size = 8) (j : Nat) (h : twT n b2 b3 A B j s w) : twT n b2 b3 A B j s (w.setRow b B) := by
  have hoth : ∀ k, k ≠ b → (w.setRow b B).heap[k]? = w.heap[k]? := fun k hk => Go.setRow_other w b k B hk
  have h6 : ∀ b', s 5 = .pointer (some ⟨b', 0, none⟩) → (w.setRow b B).heap[b']? = w.heap[b']? := fun b' h' => hoth b' (hC.a b' b h' h5)
  rcases (by omega : j = 0 ∨ j = 1 ∨ j = 2 ∨ j = 3 ∨ j = 4 ∨ j = 5 ∨ j = 6 ∨ j = 7 ∨ 8 ≤ j) with rfl | rfl | rfl | rfl | rfl | rfl | rfl | rfl | h8
  · exact h
  · exact h
  · exact h
  · exact h
  · have h : Bx8 n 5 s w := h
    exact h.keep rfl h6
  · exact ⟨B, ⟨b, h5, (hC.q b h5).1, hrow.setRow B⟩, hB⟩
  · have h : Bx n 5 A s w := h
    exact h.keep rfl h6
  · exact ⟨b, h5, (hC.q b h5).1, hrow.setRow B⟩
  · obtain ⟨i, rfl⟩ : ∃ i, j = i + 8 := ⟨j - 8, by omega⟩
    trivial
/-- a bool is handed back, which tells whether P -/
def SaysB (P : Prop) (e : Ending) : Prop := ∃ r : Bool, e = .returned (.bool r) ∧ (r = true ↔ P)
theorem mb_eq {a b : Mb} : a = b ↔ a.1 = b.1 ∧ a.2.kind = b.2.kind ∧ a.2.mode = b.2.mode ∧ a.2.uid = b.2.uid ∧ a.2.gid = b.2.gid ∧ a.2.time = b.2.time ∧ a.2.link = b.2.link ∧ a.2.data = b.2.data ∧ a.2.attrs = b.2.attrs := by
  obtain ⟨p, ⟨k, m, u, g, t, at_, d, l⟩⟩ := a
  obtain ⟨p', ⟨k', m', u', g', t', at', d', l'⟩⟩ := b
  simp only [Prod.mk.injEq, Nd.mk.injEq]
  constructor
  · rintro ⟨h1, h2, h3, h4, h5, h6, h7, h8, h9⟩; exact ⟨h1, h2, h3, h4, h5, h6, h9, h8, h7⟩
  · rintro ⟨h1, h2, h3, h4, h5, h6, h7, h8, h9⟩; exact ⟨h1, h2, h3, h4, h5, h6, h9, h8, h7⟩
set_option maxHeartbeats 4000000 in
set_option maxRecDepth 100000 in
theorem same_tar (a b : Mb) (av dv bv ev : Value) (w : World) (ha : NdR w (· < w.heap.size) a.2 av dv) (hb : NdR w (· < w.heap.size) b.2 bv ev) :
    Calls Tryz.prog 49 #[.agg (mbC a av dv), .agg (mbC b bv ev)] w fun e w' => SaysB (a = b) e ∧ Below w.heap.size w w' := by
  obtain ⟨aa, la, ca, ad, ld, cd, e1, e2⟩ := ha.shape
  obtain ⟨ba, lb, cb, bd, le, ce, e3, e4⟩ := hb.shape
  subst e1 e2 e3 e4
  have HA := Keep.keep ha; have HB := Keep.keep hb
  have HEQ := Keep.keep (mb_eq (a := a) (b := b))
  clear ha hb
  obtain ⟨ap, ⟨kind, mode, uid, gid, time, attrs, data, link⟩⟩ := a
  obtain ⟨bp, ⟨kind2, mode2, uid2, gid2, time2, attrs2, data2, link2⟩⟩ := b
  unfold mbC strV
  dsimp only at HEQ HA HB ⊢
  obtain ⟨PEQ, hP⟩ : ∃ P : Prop, (((ap, ⟨kind, mode, uid, gid, time, attrs, data, link⟩) : Mb) = (bp, ⟨kind2, mode2, uid2, gid2, time2, attrs2, data2, link2⟩)) = P := ⟨_, rfl⟩
  rw [hP] at HEQ ⊢
  clear hP
  go_enter Tryz.func49, Tryz.ntmps49
  go_upto_region 1 with fail
  refine wp_world (R := fun w1 => Hp NoM w w1 [rowA w.heap.size 32 #[.string ⟨ap.toArray⟩, .int .i64 kind, .int .u32 mode, .int .u32 uid, .int .u32 gid, .int .i64 time, .slice aa la ca, .slice ad ld cd, .string ⟨link.toArray⟩], rowA (w.heap.size + 1) 32 #[.string ⟨bp.toArray⟩, .int .i64 kind2, .int .u32 mode2, .int .u32 uid2, .int .u32 gid2, .int .i64 time2, .slice ba lb cb, .slice bd le ce, .string ⟨link2.toArray⟩]]) ?_ ?_
  · exact ((Hp.begin NoM w).newRow _ _).newRow' _ _ _ _ (by simp) rfl
  intro w1 H1
  obtain ⟨b2, hb2⟩ : ∃ b2, w.heap.size = b2 := ⟨_, rfl⟩
  have HB2 := Keep.keep hb2
  have hsz1 := (H1.out.row 1 rfl).lt
  rw [hb2] at H1 hsz1 ⊢
  clear hb2
  obtain ⟨A, hA⟩ : ∃ A : Array Value, #[.int .i64 kind, .int .u32 mode, .int .u32 uid, .int .u32 gid, .int .i64 time, .slice aa la ca, .slice ad ld cd, .string ⟨link.toArray⟩] = A := ⟨_, rfl⟩
  obtain ⟨C, hC⟩ : ∃ C : Array Value, #[.int .i64 kind2, .int .u32 mode2, .int .u32 uid2, .int .u32 gid2, .int .i64 time2, .slice ba lb cb, .slice bd le ce, .string ⟨link2.toArray⟩] = C := ⟨_, rfl⟩
  refine wp_region_spcF [some 7, some 8, some 9, some 10, some 5, some 6, none, none] (twC w1.heap.size w1) (twT w1.heap.size b2 (b2 + 1) A C) (by kernel_rfl) rfl (by kernel_rfl) ?_ ?_ ?_
  · exact ⟨(Below.refl _ _).drew, fun b h => (by cases h), fun b h => (by cases h), fun b b' h => (by cases h)⟩
  · intro k hk a1 w2 hF hCC hT
    have s2 : a1.eval (.tmp 2) = .pointer (some ⟨b2, 0, none⟩) := (hF.same 2 (by decide)).trans rfl
    have s3 : a1.eval (.tmp 3) = .pointer (some ⟨b2 + 1, 0, none⟩) := (hF.same 3 (by decide)).trans rfl
    have hsz : a1.tmps.size = 72 := hF.size
    have HP := H1.out.call hCC.b
    have hb12 := HP.size
    have hk : k < 8 := hk
    have hoC : C.all (·.oneCell') = true := by rw [← hC]; simp [Value.oneCell']
    have hoA : A.all (·.oneCell') = true := by rw [← hA]; simp [Value.oneCell']
    have hzA : A.size = 8 := by rw [← hA]; rfl
    have hzC : C.size = 8 := by rw [← hC]; rfl
    have hcq : ∀ d, d ≠ 5 → d ≠ 6 → ∀ s : Nat → Value, (∀ j, j ≠ d → s j = slot a1 j) → twC w1.heap.size w1 s w2 := fun d h5 h6 s hs => ⟨hCC.b, fun b h => hCC.p b (by rw [← hs 5 (Ne.symm h5)]; exact h), fun b h => hCC.q b (by rw [← hs 6 (Ne.symm h6)]; exact h), fun b b' h h' => hCC.a b b' (by rw [← hs 5 (Ne.symm h5)]; exact h) (by rw [← hs 6 (Ne.symm h6)]; exact h')⟩
    rcases (by omega : k = 0 ∨ k = 1 ∨ k = 2 ∨ k = 3 ∨ k = 4 ∨ k = 5 ∨ k = 6 ∨ k = 7) with rfl | rfl | rfl | rfl | rfl | rfl | rfl | rfl
    · refine spcF_val (d := 7) rfl (wanted_none rfl) (run_fieldAddr (m := 7) Tryz.underlying32 rfl (by kernel_rfl) s2) (by omega) (fun s hd hs => ⟨hcq 7 (by decide) (by decide) s hs, hd, fun j hj _ h => twT_keep 7 hs (fun _ _ => rfl) j (by omega) h⟩)
    · have hx : a1.eval (.tmp 7) = .pointer (some ⟨b2, 1, none⟩) := hT 0 (by kernel_rfl)
      have HL := Keep.keep (HP)
      exact spcF_val (d := 8) rfl (wanted_none rfl) (run_loadNd (m := (ap, ⟨kind, mode, uid, gid, time, attrs, data, link⟩)) (HL.out.row 0 rfl) hx) (by omega) (fun s hd hs => ⟨hcq 8 (by decide) (by decide) s hs, hd.trans (by rw [← hA]; rfl), fun j hj _ h => twT_keep 8 hs (fun _ _ => rfl) j (by omega) h⟩)
    · exact spcF_val (d := 9) rfl (wanted_none rfl) (run_fieldAddr (m := 7) Tryz.underlying32 rfl (by kernel_rfl) s3) (by omega) (fun s hd hs => ⟨hcq 9 (by decide) (by decide) s hs, hd, fun j hj _ h => twT_keep 9 hs (fun _ _ => rfl) j (by omega) h⟩)
    · have hx : a1.eval (.tmp 9) = .pointer (some ⟨b2 + 1, 1, none⟩) := hT 2 (by kernel_rfl)
      have HL := Keep.keep (HP)
      exact spcF_val (d := 10) rfl (wanted_none rfl) (run_loadNd (m := (bp, ⟨kind2, mode2, uid2, gid2, time2, attrs2, data2, link2⟩)) (HL.out.row 1 rfl) hx) (by omega) (fun s hd hs => ⟨hcq 10 (by decide) (by decide) s hs, hd.trans (by rw [← hC]; rfl), fun j hj _ h => twT_keep 10 hs (fun _ _ => rfl) j (by omega) h⟩)
    · have hws := hCC.b.size
      refine spcF_val (d := 5) (v := .pointer (some ⟨w2.heap.size, 0, none⟩)) (w2 := w2.alloc (.cells zeroNd 30)) rfl (wanted_none rfl) (by simp [execOp, run_newN]) (by omega) (fun s hd hs => ⟨⟨hCC.b.alloc hCC.b.size _, fun b h => ?_, fun b h => ?_, fun b b' h h' => ?_⟩, ⟨zeroNd, ⟨w2.heap.size, hd, hws, Row.new _ _ _⟩, rfl⟩, fun j hj hw h => twT_keep 5 hs (fun b hb => Below.heap_alloc w2 _ b hb) j ?_ h⟩)
      · rw [hd] at h; cases h; simp; omega
      · rw [hs 6 (by decide)] at h
        have := hCC.q b h
        simp; omega
      · rw [hd] at h; cases h
        rw [hs 6 (by decide)] at h'
        have := (hCC.q b' h').2
        omega
      · have h6 : j ≠ 6 := by rintro rfl; exact Bool.false_ne_true (hw.symm.trans (by kernel_rfl))
        omega
    · have hws := hCC.b.size
      refine spcF_val (d := 6) (v := .pointer (some ⟨w2.heap.size, 0, none⟩)) (w2 := w2.alloc (.cells zeroNd 30)) rfl (wanted_none rfl) (by simp [execOp, run_newN]) (by omega) (fun s hd hs => ⟨⟨hCC.b.alloc hCC.b.size _, fun b h => ?_, fun b h => ?_, fun b b' h h' => ?_⟩, ⟨zeroNd, ⟨w2.heap.size, hd, hws, Row.new _ _ _⟩, rfl⟩, fun j hj hw h => ?_⟩)
      · rw [hs 5 (by decide)] at h
        have := hCC.p b h
        simp; omega
      · rw [hd] at h; cases h; simp; omega
      · rw [hd] at h'; cases h'
        rw [hs 5 (by decide)] at h
        have := (hCC.p b h).2
        omega
      · have h7 : j ≠ 7 := by rintro rfl; exact Bool.false_ne_true (hw.symm.trans (by kernel_rfl))
        exact twT_keep 6 hs (fun b hb => Below.heap_alloc w2 _ b hb) j (by omega) h
    · obtain ⟨c, ⟨b, h5, hnb, hrow⟩, hc8⟩ : Bx8 w1.heap.size 5 (slot a1) w2 := hT 4 (by kernel_rfl)
      have h8 : a1.eval (.tmp 8) = .agg A := hT 1 (by kernel_rfl)
      have hx : a1.eval (.tmp 5) = .pointer (some ⟨b, 0, none⟩) := h5
      have hst := hrow.storeAt (P := Tryz.prog) 30 A (by rw [hzA]; exact aggN.i) (by rw [hzA, hc8]) hoA
      refine spcF_skip (w2 := w2.setRow b A) rfl (wanted_none rfl) (by unfold execOp; simp only [hx, h8, Sem.run_bind, Sem.run_pure, Result.andThen_ok, hst]) ⟨⟨(Chg.setRow (M := NoM) (.of_below hCC.b) (.inl hnb) A).below (fun _ _ h => h), fun b' h => ?_, fun b' h => ?_, hCC.a⟩, ⟨b, h5, hnb, hrow.setRow A⟩, fun j hj hw h => twT_store5 hCC h5 hrow hzA j h⟩
      · have := hCC.p b' h; exact ⟨this.1, by have := (Chg.setRow (M := fun x => x = b) (.refl _ 0 w2) (.inr rfl) A).size; omega⟩
      · have := hCC.q b' h; exact ⟨this.1, by have := (Chg.setRow (M := fun x => x = b) (.refl _ 0 w2) (.inr rfl) A).size; omega⟩
    · obtain ⟨c, ⟨b, h5, hnb, hrow⟩, hc8⟩ : Bx8 w1.heap.size 6 (slot a1) w2 := hT 5 (by kernel_rfl)
      have h8 : a1.eval (.tmp 10) = .agg C := hT 3 (by kernel_rfl)
      have hx : a1.eval (.tmp 6) = .pointer (some ⟨b, 0, none⟩) := h5
      have hst := hrow.storeAt (P := Tryz.prog) 30 C (by rw [hzC]; exact aggN.i) (by rw [hzC, hc8]) hoC
      refine spcF_skip (w2 := w2.setRow b C) rfl (wanted_none rfl) (by unfold execOp; simp only [hx, h8, Sem.run_bind, Sem.run_pure, Result.andThen_ok, hst]) ⟨⟨(Chg.setRow (M := NoM) (.of_below hCC.b) (.inl hnb) C).below (fun _ _ h => h), fun b' h => ?_, fun b' h => ?_, hCC.a⟩, ⟨b, h5, hnb, hrow.setRow C⟩, fun j hj hw h => twT_store6 hCC h5 hrow hzC j h⟩
      · have := hCC.p b' h; exact ⟨this.1, by have := (Chg.setRow (M := fun x => x = b) (.refl _ 0 w2) (.inr rfl) C).size; omega⟩
      · have := hCC.q b' h; exact ⟨this.1, by have := (Chg.setRow (M := fun x => x = b) (.refl _ 0 w2) (.inr rfl) C).size; omega⟩
  · intro a1 w2 ha hCC hT
    have t7 : slot a1 7 = .pointer (some ⟨b2, 1, none⟩) := hT 0 (by decide)
    have t8 : slot a1 8 = .agg A := hT 1 (by decide)
    have t9 : slot a1 9 = .pointer (some ⟨b2 + 1, 1, none⟩) := hT 2 (by decide)
    have t10 : slot a1 10 = .agg C := hT 3 (by decide)
    obtain ⟨b5, t5, _, r5⟩ : Bx w1.heap.size 5 A (slot a1) w2 := hT 6 (by decide)
    obtain ⟨b6, t6, _, r6⟩ : Bx w1.heap.size 6 C (slot a1) w2 := hT 7 (by decide)
    have H2 := H1.out.call hCC.b
    have m20 := (H2.row 0 rfl).cell (i := 0) rfl
    have m30 := (H2.row 1 rfl).cell (i := 0) rfl
    have HA2 := Keep.keep (HA.out.below H2.below (fun b hb => hb))
    have HB3 := Keep.keep (HB.out.below H2.below (fun b hb => hb))
    have HBL := Keep.keep H2.below
    rw [← hA] at r5
    rw [← hC] at r6
    have x0 := r5.cell (i := 0) rfl
    have x1 := r5.cell (i := 1) rfl
    have x2 := r5.cell (i := 2) rfl
    have x3 := r5.cell (i := 3) rfl
    have x4 := r5.cell (i := 4) rfl
    have x5 := r5.cell (i := 5) rfl
    have x6 := r5.cell (i := 6) rfl
    have x7 := r5.cell (i := 7) rfl
    have y0 := r6.cell (i := 0) rfl
    have y1 := r6.cell (i := 1) rfl
    have y2 := r6.cell (i := 2) rfl
    have y3 := r6.cell (i := 3) rfl
    have y4 := r6.cell (i := 4) rfl
    have y5 := r6.cell (i := 5) rfl
    have y6 := r6.cell (i := 6) rfl
    have y7 := r6.cell (i := 7) rfl
    simp only [List.filterMap_cons, List.filterMap_nil, List.foldl_cons, List.foldl_nil, t5, t6, t7, t8, t9, t10] at ha
    clear hT t5 t6 t7 t8 t9 t10 r5 r6 hCC H2 hA hC
    subst ha
    simp only [Act.put, List.setIfInBounds_toArray, List.set_cons_succ, List.set_cons_zero]
    go_wp2_with fail
    rotate_left
    all_goals try (
      go_ret
      refine ⟨⟨false, rfl, ⟨fun h => (by cases h), fun h => ?_⟩⟩, HBL.out⟩
      obtain ⟨e1, e2, e3, e4, e5, e6, e7, e8, e9⟩ := HEQ.out.1 h
      contradiction)
    have HE : Keep (ap = bp ∧ kind = kind2 ∧ mode = mode2 ∧ uid = uid2 ∧ gid = gid2 ∧ time = time2 ∧ link = link2) := ⟨⟨by assumption, by assumption, by assumption, by assumption, by assumption, by assumption, by assumption⟩⟩
    have hle := HBL.out.size
    refine (equal_any _ _ _ _ _ _ w2 HA2.out.dt HB3.out.dt).mono ?_
    rintro e w3 ⟨rfl, rfl⟩
    by_cases hdt : data = data2
    · have HD := Keep.keep hdt
      have hbd : (data == data2) = true := by simpa using hdt
      rw [hbd]
      clear hdt hbd
      go_wp2_with fail
      refine (aequal_any _ _ _ _ w2 (HA2.out.at_.mono (fun b hb => Nat.lt_of_lt_of_le hb hle)) (HB3.out.at_.mono (fun b hb => Nat.lt_of_lt_of_le hb hle))).mono ?_
      rintro e w4 ⟨rfl, hb4⟩
      have HB4 := Keep.keep (HBL.out.trans (hb4.mono hle))
      have HR : Keep (decide (attrs = attrs2) = true ↔ PEQ) := ⟨by
        rw [decide_eq_true_eq, HEQ.out]
        exact ⟨fun h => ⟨HE.out.1, HE.out.2.1, HE.out.2.2.1, HE.out.2.2.2.1, HE.out.2.2.2.2.1, HE.out.2.2.2.2.2.1, HE.out.2.2.2.2.2.2, HD.out, h⟩, fun h => h.2.2.2.2.2.2.2.2⟩⟩
      clear hb4
      generalize decide (attrs = attrs2) = rb at *
      go_wp2_with fail
      go_ret
      exact ⟨⟨rb, rfl, HR.out⟩, HB4.out⟩
    · have hbd : (data == data2) = false := by simpa using hdt
      have HD := Keep.keep hdt
      rw [hbd]
      clear hdt hbd
      go_wp2_with fail
      go_ret
      exact ⟨⟨false, rfl, ⟨fun h => (by cases h), fun h => (HD.out (HEQ.out.1 h).2.2.2.2.2.2.2.1).elim⟩⟩, HBL.out⟩
end Go.Proofs.YtplafpokgpolkaaGreatDoor
/- tree.Same: two trees are the same. -/
namespace Go.Proofs.YtplafpokgpolkaaGreatDoor
open Go.RowKit
theorem srt_sub {L K : List Mb} (h : SM.Srt L) (k : SM.Srt K) (hs : ∀ p n, SM.look L p = some n → SM.look K p = some n) (hl : L.length = K.length) : L = K := by
  have e : K.filter (fun x => (SM.look L x.1).isSome) = L := by
    refine SM.Srt.ext (k.filter _) h (fun p => ?_)
    rw [k.look_filter (fun p => (SM.look L p).isSome)]
    cases hp : SM.look L p with
    | none => simp
    | some n => simp [hs p n hp]
  have e2 : K.filter (fun x => (SM.look L x.1).isSome) = K := by
    refine List.filter_eq_self.2 ?_
    refine List.length_filter_eq_length_iff.1 ?_
    rw [e, hl]
  rw [← e, e2]
set_option maxHeartbeats 4000000 in
set_option maxRecDepth 100000 in
theorem same_tree (T mb : Nat) (Bk : Nat → Prop) (f : Tx → Value × Value) (L : List Mb) (T2 m2 : Nat) (Bk2 : Nat → Prop) (f2 : Tx → Value × Value) (L2 : List Mb) (w : World) (h : TreeIn w T mb Bk f L) (hBk : ∀ b, Bk b → b < w.heap.size) (h2 : TreeIn w T2 m2 Bk2 f2 L2) (hBk2 : ∀ b, Bk2 b → b < w.heap.size) (_hL : L.length ≤ 100000) :
    Calls Tryz.prog 18 #[.pointer (some ⟨T, 0, none⟩), .pointer (some ⟨T2, 0, none⟩)] w fun e w' => SaysB (L = L2) e ∧ Below w.heap.size w w' := by
  have HT := Keep.keep h; have HBK := Keep.keep hBk
  have HT2 := Keep.keep h2; have HBK2 := Keep.keep hBk2
  have HN := Keep.keep (none_ok T mb w h.row)
  have HN2 := Keep.keep (none_ok T2 m2 w h2.row)
  have hmbw := h.map.lt
  have hTw := h.row.lt
  have hm2w := h2.map.lt
  have hT2w := h2.row.lt
  have HEQ : Keep (∀ p n, SM.look L p = some n → SM.look L2 p ≠ some n → L ≠ L2) := ⟨fun p n h1 h2 e => h2 (by rw [← e]; exact h1)⟩
  have HLE : Keep (L.length ≠ L2.length → L ≠ L2) := ⟨fun h e => h (by rw [e])⟩
  have HSB : Keep (L.length = L2.length → (∀ p n, SM.look L p = some n → SM.look L2 p = some n) → L = L2) := ⟨fun hl hs => srt_sub h.srt h2.srt hs hl⟩
  clear h hBk h2 hBk2
  obtain ⟨P, hP⟩ : ∃ P : Prop, (L = L2) = P := ⟨_, rfl⟩
  rw [hP] at HSB ⊢
  have HP : Keep (P ↔ L = L2) := ⟨by rw [hP]⟩
  clear hP
  go_enter Tryz.func18, Tryz.ntmps18
  go_wp2_with fail
  refine HN.out.mono ?_
  rintro e w' ⟨rfl, rfl⟩
  go_wp2_with fail
  refine HN2.out.mono ?_
  rintro e w' ⟨rfl, rfl⟩
  have cT := HT.out.row.cell (i := 0) rfl
  have cT2 := HT2.out.row.cell (i := 0) rfl
  have e1 : (entries f L).length = L.length := by simp [entries]
  have e2 : (entries f2 L2).length = L2.length := by simp [entries]
  have hlen := fun n => (HT.out.map.loc (w' := w.drewN n) rfl).len Tryz.underlying84 3
  have hlen2 := fun n => (HT2.out.map.loc (w' := w.drewN n) rfl).len Tryz.underlying84 3
  rw [e1] at hlen
  rw [e2] at hlen2
  have HE1 := Keep.keep e1
  clear e1 e2 HN HN2
  go_upto_region 3 with fail
  (refine wp_region_quiet_lit (by kernel_rfl) (by kernel_rfl) ?_); (repeat (first | (fail) | go_big_quiet_step (fail))); (refine wpQuiet_nil ?_); (intro _ hwq); (obtain ⟨nq, hwq⟩ := hwq); (subst hwq)
  by_cases hl : L.length = L2.length
  · have hne : ((L.length : Int) != (L2.length : Int)) = false := by simp [hl]
    have HL := Keep.keep hl
    simp only [hne]
    clear hl hlen hlen2 cT cT2 hne
    have hb1 := below_drewN' (Below.refl w.heap.size w) nq
    generalize w.drewN nq = w1 at *
    have HB1 := Keep.keep hb1
    have hs1 := hb1.size
    have HTX : Keep (∀ wx, Below w.heap.size w wx → TreeIn wx T mb Bk f L) := ⟨fun wx hb => HT.out.loc (fun b hb' => hb.block b (by
      rcases hb' with rfl | rfl | h
      · exact hTw
      · exact hmbw
      · exact HBK.out b h))⟩
    have HTY : Keep (∀ wx, Below w.heap.size w wx → TreeIn wx T2 m2 Bk2 f2 L2) := ⟨fun wx hb => HT2.out.loc (fun b hb' => hb.block b (by
      rcases hb' with rfl | rfl | h
      · exact hT2w
      · exact hm2w
      · exact HBK2.out b h))⟩
    have cT := (HTX.out w1 hb1).row.cell (i := 0) rfl
    have HM := Keep.keep (HTX.out w1 hb1).map
    clear hb1
    go_wp2_with (first | (with_reducible refine arm_sRange ?_) | (with_reducible refine arm_sNext ?_) | (with_reducible refine arm_sDel ?_) | (with_reducible refine arm_sPut ?_) | (with_reducible refine arm_sIns ?_))
    refine StM.out ?_
    refine arm_rangeS Tryz.underlying9 Tryz.underlying84 HM.out rfl ?_
    intro w3 hrg hb3 hs3
    obtain ⟨r, hr⟩ : ∃ r, w1.heap.size = r := ⟨_, rfl⟩
    have hwr : w.heap.size ≤ r := by omega
    have HB3 := Keep.keep (HB1.out.trans (hb3.mono hs1))
    rw [hr] at hrg ⊢
    rw [HE1.out] at hrg
    have HRG := Keep.keep hrg
    clear hrg hb3 hs3 hr cT HM
    simp only [Act.put, List.setIfInBounds_toArray, List.set_cons_succ, List.set_cons_zero]
    go_wp2_with fail
    go_loopg [5] L.length (fun g _ wx => ∃ (todo : Tx → Bool), RgS wx 9 mb r (entries f L) todo g ∧ (∀ p n, SM.look L p = some n → todo p = false → SM.look L2 p = some n) ∧ Below w.heap.size w wx)
    case atStart =>
      refine ⟨_, HRG.out, fun p n h1 h2 => ?_, HB3.out⟩
      rw [look_entries, h1] at h2
      simp at h2
    case round =>
      obtain ⟨todo, hrg, hok, hb⟩ := hrel
      have HRG2 := Keep.keep hrg; have HOK := Keep.keep hok; have HB := Keep.keep hb
      clear hrg hok hb HRG HB3
      go_wp2_with (first | (with_reducible refine arm_sRange ?_) | (with_reducible refine arm_sNext ?_) | (with_reducible refine arm_sDel ?_) | (with_reducible refine arm_sPut ?_) | (with_reducible refine arm_sIns ?_))
      refine StM.out ?_
      refine arm_nextS Tryz.underlying9 HRG2.out rfl ?_ ?_
      · intro h0 hall
        have HF : Keep P := ⟨HP.out.2 (by
          have := HSB.out HL.out (fun p n h => HOK.out p n h (hall p))
          exact HP.out.1 this)⟩
        clear h0 hall
        simp only [Act.put, List.setIfInBounds_toArray, List.set_cons_succ, List.set_cons_zero]
        go_wp2_with fail
        go_ret
        exact ⟨⟨true, rfl, ⟨fun _ => HF.out, fun _ => rfl⟩⟩, HB.out⟩
      · intro p v w4 cnt' h1 h2 h3 h4 h5 h6 hen
        obtain ⟨n, hln, hve⟩ : ∃ n, SM.look L p = some n ∧ v = .agg (ndC n (f p).1 (f p).2) := by
          rw [look_entries] at h2
          cases hl : SM.look L p with
          | none => rw [hl] at h2; cases h2
          | some n => rw [hl] at h2; injection h2 with h2; exact ⟨n, rfl, h2.symm⟩
        have HB4 : Keep (Below w.heap.size w w4) := ⟨HB.out.trans ((h5.lower HB.out.size).below (fun k hk e => by omega))⟩
        have hmem := SM.look_mem hln
        have HNX := Keep.keep ((HTX.out w4 HB4.out).nd _ hmem)
        have HSX := Keep.keep (HT.out.sm _ hmem)
        obtain ⟨aa, la, ca, ad, ld, cd, e1, e2⟩ := HNX.out.shape
        dsimp only at e1 e2 HNX
        rw [e1, e2] at HNX hve
        have HRG4 := Keep.keep h3
        have HLN := Keep.keep hln
        have HSH := Keep.keep (And.intro e1 e2)
        have HTD := Keep.keep h1
        clear h1 h2 h3 h5 h6 e1 e2 HRG2 hmem
        subst hve
        have hlt4 := HRG4.out.lt
        have HNC : Keep (ndC n (.slice aa la ca) (.slice ad ld cd) = #[.int .i64 n.kind, .int .u32 n.mode, .int .u32 n.uid, .int .u32 n.gid, .int .i64 n.time, .slice aa la ca, .slice ad ld cd, .string ⟨n.link.toArray⟩]) := ⟨rfl⟩
        rw [HNC.out] at hen ⊢
        simp only [Act.put, List.setIfInBounds_toArray, List.set_cons_succ, List.set_cons_zero]
        go_upto_region 8 with fail
        refine wp_world (R := fun w5 => Below w.heap.size w w5 ∧ RgS w5 9 mb r (entries f L) (fun q => todo q && q != p) cnt' ∧ Row w5 w4.heap.size 30 #[.int .i64 n.kind, .int .u32 n.mode, .int .u32 n.uid, .int .u32 n.gid, .int .i64 n.time, .slice aa la ca, .slice ad ld cd, .string ⟨n.link.toArray⟩]) ⟨HB4.out.alloc HB4.out.size _, HRG4.out.loc (Below.heap_alloc _ _ _ hlt4.1) (Below.heap_alloc _ _ _ hlt4.2.1), Row.new _ _ _⟩ ?_
        intro w5 H5
        obtain ⟨b6, hb6⟩ : ∃ b6, w4.heap.size = b6 := ⟨_, rfl⟩
        rw [hb6] at H5 ⊢
        have hT5 := HTY.out w5 H5.out.1
        have c2 := hT5.row.cell (i := 0) rfl
        have hlk := hT5.map.lookOk Tryz.underlying9 Tryz.underlying84 (zeroN w5) (p := p) (by have := HSX.out.p; dsimp only at this; unfold maxLen; omega)
        have HND2 := Keep.keep hT5.nd
        have hb6lt := H5.out.2.2.lt
        rw [look_entries] at hlk
        clear hen HRG4 HB4 HNX hT5
        cases hl2 : SM.look L2 p with
        | none =>
          have HNE := Keep.keep (HEQ.out p n HLN.out (by rw [hl2]; simp))
          rw [hl2] at hlk
          replace hlk : (Instr.lookup 84 (.map (some m2)) (.string ⟨p.toArray⟩) true).run Tryz.prog w5 = .ok (.tuple #[.agg #[.int .i64 0, .int .u32 0, .int .u32 0, .int .u32 0, .int .i64 0, .slice none 0 0, .slice none 0 0, .string ⟨#[]⟩], .bool false]) w5 := hlk
          clear hl2
          go_wp2_with fail
          go_ret
          exact ⟨⟨false, rfl, ⟨fun h => (by cases h), fun h => (HNE.out (HP.out.1 h)).elim⟩⟩, H5.out.1.alloc H5.out.1.size _⟩
        | some m =>
          have hnm := HND2.out _ (SM.look_mem hl2)
          obtain ⟨ba, lb, cb, bd, le, ce, e1, e2⟩ := hnm.shape
          dsimp only at e1 e2 hnm
          rw [hl2] at hlk
          replace hlk : (Instr.lookup 84 (.map (some m2)) (.string ⟨p.toArray⟩) true).run Tryz.prog w5 = .ok (.tuple #[.agg (ndC m (f2 p).1 (f2 p).2), .bool true]) w5 := hlk
          rw [e1, e2] at hnm hlk
          replace hlk : (Instr.lookup 84 (.map (some m2)) (.string ⟨p.toArray⟩) true).run Tryz.prog w5 = .ok (.tuple #[.agg #[.int .i64 m.kind, .int .u32 m.mode, .int .u32 m.uid, .int .u32 m.gid, .int .i64 m.time, .slice ba lb cb, .slice bd le ce, .string ⟨m.link.toArray⟩], .bool true]) w5 := hlk
          have HNM := Keep.keep hnm
          have HL2 := Keep.keep hl2
          have HS2 := Keep.keep (And.intro e1 e2)
          clear hl2 hnm e1 e2
          go_upto_region 9 with fail
          refine wp_world (R := fun w9 => Below w5.heap.size w5 w9 ∧ Row w9 w5.heap.size 30 #[.int .i64 m.kind, .int .u32 m.mode, .int .u32 m.uid, .int .u32 m.gid, .int .i64 m.time, .slice ba lb cb, .slice bd le ce, .string ⟨m.link.toArray⟩]) ⟨(Below.refl _ _).alloc (Nat.le_refl _) _, Row.new _ _ _⟩ ?_
          intro w9 H9
          obtain ⟨b7, hb7⟩ : ∃ b7, w5.heap.size = b7 := ⟨_, rfl⟩
          rw [hb7] at H9 ⊢
          have HR6 := Keep.keep (H5.out.2.2.below (hb7 ▸ H9.out.1) hb6lt)
          have HR7 := Keep.keep H9.out.2
          have HS6 : Keep ((#[.int .i64 n.kind, .int .u32 n.mode, .int .u32 n.uid, .int .u32 n.gid, .int .i64 n.time, .slice aa la ca, .slice ad ld cd, .string ⟨n.link.toArray⟩] : Array Value).size = 8) := ⟨rfl⟩
          have HS7 : Keep ((#[.int .i64 m.kind, .int .u32 m.mode, .int .u32 m.uid, .int .u32 m.gid, .int .i64 m.time, .slice ba lb cb, .slice bd le ce, .string ⟨m.link.toArray⟩] : Array Value).size = 8) := ⟨rfl⟩
          have HB9 := Keep.keep (H5.out.1.trans ((show Below w5.heap.size w5 w9 from hb7 ▸ H9.out.1).mono H5.out.1.size))
          have hw9 := HB9.out.size
          have hbm1 : ∀ w, (Instr.build 32 #[(0, .string ⟨p.toArray⟩), (1, .agg #[.int .i64 n.kind, .int .u32 n.mode, .int .u32 n.uid, .int .u32 n.gid, .int .i64 n.time, .slice aa la ca, .slice ad ld cd, .string ⟨n.link.toArray⟩])]).run Tryz.prog w = .ok (.agg (mbC (p, n) (.slice aa la ca) (.slice ad ld cd))) w := fun w => by kernel_rfl
          have hbm2 : ∀ w, (Instr.build 32 #[(0, .string ⟨p.toArray⟩), (1, .agg #[.int .i64 m.kind, .int .u32 m.mode, .int .u32 m.uid, .int .u32 m.gid, .int .i64 m.time, .slice ba lb cb, .slice bd le ce, .string ⟨m.link.toArray⟩])]).run Tryz.prog w = .ok (.agg (mbC (p, m) (.slice ba lb cb) (.slice bd le ce))) w := fun w => by kernel_rfl
          have HTS := Keep.keep (same_tar (p, n) (p, m) (.slice aa la ca) (.slice ad ld cd) (.slice ba lb cb) (.slice bd le ce) w9 (by
            have h1 := (HTX.out w9 HB9.out).nd _ (SM.look_mem HLN.out)
            dsimp only at h1
            rw [HSH.out.1, HSH.out.2] at h1
            exact h1.mono (fun b hb => by have := HBK.out b hb; omega)) (by
            have h1 := (HTY.out w9 HB9.out).nd _ (SM.look_mem HL2.out)
            dsimp only at h1
            rw [HS2.out.1, HS2.out.2] at h1
            exact h1.mono (fun b hb => by have := HBK2.out b hb; omega)))
          clear hlk c2
          go_wp2_with (first
            | ((with_reducible refine arm_loadRowG ?_ HR6.out aggN HS6.out ?_ ?_); (focus rfl); (focus rfl); simp only [Act.put, List.setIfInBounds_toArray, List.set_cons_succ, List.set_cons_zero])
            | ((with_reducible refine arm_loadRowG ?_ HR7.out aggN HS7.out ?_ ?_); (focus rfl); (focus rfl); simp only [Act.put, List.setIfInBounds_toArray, List.set_cons_succ, List.set_cons_zero]))
          refine HTS.out.mono ?_
          rintro e w10 ⟨⟨rb, rfl, hrb⟩, hb10⟩
          have HB10 := Keep.keep (HB9.out.trans (hb10.mono hw9))
          have hrg5 := H5.out.2.1.lt
          have HRG10 : Keep (RgS w10 9 mb r (entries f L) (fun q => todo q && q != p) cnt') := ⟨H5.out.2.1.loc (by rw [hb10.block mb (by have := HB9.out.size; omega), H9.out.1.block mb (by omega)]) (by rw [hb10.block r (by have := (hb7 ▸ H9.out.1 : Below w5.heap.size w5 w9).size; omega), H9.out.1.block r (by omega)])⟩
          cases rb with
          | true =>
            have hmn : n = m := by
              have := hrb.1 rfl
              injection this
            have HMN := Keep.keep hmn
            clear hmn hrb hb10
            go_wp2_with fail
            go_roundg cnt'
            case measure => omega
            case rel =>
              refine ⟨_, HRG10.out, fun p' n' h1 h2 => ?_, HB10.out⟩
              by_cases e : p' = p
              · rw [e] at h1 ⊢
                rw [HLN.out] at h1
                rw [HL2.out, ← HMN.out]; exact h1
              · exact HOK.out p' n' h1 (by simpa [e] using h2)
          | false =>
            have HNE := Keep.keep (HEQ.out p n HLN.out (by
              rw [HL2.out]
              intro e
              injection e with e
              have := hrb.2 (by rw [e])
              cases this))
            clear hrb hb10
            go_wp2_with fail
            go_ret
            exact ⟨⟨false, rfl, ⟨fun h => (by cases h), fun h => (HNE.out (HP.out.1 h)).elim⟩⟩, HB10.out⟩
  · have hne : ((L.length : Int) == (L2.length : Int)) = false := by simp; omega
    have HL := Keep.keep hl
    clear hl hlen hlen2
    go_wp2_with fail
    go_ret
    exact ⟨⟨false, rfl, ⟨fun h => (by cases h), fun h => (HLE.out HL.out (HP.out.1 h)).elim⟩⟩, below_drewN' (Below.refl _ _) _⟩
end Go.Proofs.YtplafpokgpolkaaGreatDoor
/- portolanref12.Same; portolanlaw12.Alike: Members set side by side. -/
namespace Go.Proofs.YtplafpokgpolkaaGreatDoor
open Go.RowKit
set_option maxHeartbeats 4000000 in
set_option maxRecDepth 100000 in
theorem same_ref (a b : Mb) (av dv bv ev : Value) (w : World) (ha : NdR w (· < w.heap.size) a.2 av dv) (hb : NdR w (· < w.heap.size) b.2 bv ev) :
    Calls Tryz.prog 26 #[.agg (mbC a av dv), .agg (mbC b bv ev)] w fun e w' => SaysB (a = b) e ∧ Below w.heap.size w w' := by
  obtain ⟨aa, la, ca, ad, ld, cd, e1, e2⟩ := ha.shape
  obtain ⟨ba, lb, cb, bd, le, ce, e3, e4⟩ := hb.shape
  subst e1 e2 e3 e4
  obtain ⟨rfl, -, -⟩ := ha.at_.lens
  obtain ⟨rfl, -, -⟩ := hb.at_.lens
  have hma := ha.at_.lens.2
  have hmb := hb.at_.lens.2
  unfold maxLen at hma hmb
  have HA := Keep.keep ha; have HB := Keep.keep hb
  have HEQ := Keep.keep (mb_eq (a := a) (b := b))
  clear ha hb
  obtain ⟨ap, ⟨kind, mode, uid, gid, time, attrs, data, link⟩⟩ := a
  obtain ⟨bp, ⟨kind2, mode2, uid2, gid2, time2, attrs2, data2, link2⟩⟩ := b
  unfold mbC strV
  dsimp only at HEQ HA HB hma hmb ⊢
  obtain ⟨PEQ, hP⟩ : ∃ P : Prop, (((ap, ⟨kind, mode, uid, gid, time, attrs, data, link⟩) : Mb) = (bp, ⟨kind2, mode2, uid2, gid2, time2, attrs2, data2, link2⟩)) = P := ⟨_, rfl⟩
  rw [hP] at HEQ ⊢
  clear hP
  go_enter Tryz.func26, Tryz.ntmps26
  go_upto_region 3 with fail
  refine wp_world (R := fun w1 => Hp NoM w w1 [rowA w.heap.size 32 #[.string ⟨ap.toArray⟩, .int .i64 kind, .int .u32 mode, .int .u32 uid, .int .u32 gid, .int .i64 time, .slice aa attrs.length ca, .slice ad ld cd, .string ⟨link.toArray⟩], rowA (w.heap.size + 1) 32 #[.string ⟨bp.toArray⟩, .int .i64 kind2, .int .u32 mode2, .int .u32 uid2, .int .u32 gid2, .int .i64 time2, .slice ba attrs2.length cb, .slice bd le ce, .string ⟨link2.toArray⟩], rowA (w.heap.size + 1 + 1) 30 #[.int .i64 kind, .int .u32 mode, .int .u32 uid, .int .u32 gid, .int .i64 time, .slice aa attrs.length ca, .slice ad ld cd, .string ⟨link.toArray⟩], rowA (w.heap.size + 1 + 1 + 1) 30 #[.int .i64 kind2, .int .u32 mode2, .int .u32 uid2, .int .u32 gid2, .int .i64 time2, .slice ba attrs2.length cb, .slice bd le ce, .string ⟨link2.toArray⟩]]) ?_ ?_
  · exact ((((Hp.begin NoM w).newRow _ _).newRow' _ _ _ _ (by simp) rfl).newRow' _ _ _ _ (by simp) rfl).newRow' _ _ _ _ (by simp) rfl
  intro w1 H1
  obtain ⟨b2, hb2⟩ : ∃ b2, w.heap.size = b2 := ⟨_, rfl⟩
  have HB2 := Keep.keep hb2
  have m20 := (H1.out.row 0 rfl).cell (i := 0) rfl
  have m30 := (H1.out.row 1 rfl).cell (i := 0) rfl
  have HA2 := Keep.keep (HA.out.below H1.out.below (fun b hb => hb))
  have HB3 := Keep.keep (HB.out.below H1.out.below (fun b hb => hb))
  have HBL := Keep.keep H1.out.below
  have r5 := H1.out.row 2 rfl
  have r6 := H1.out.row 3 rfl
  have x0 := r5.cell (i := 0) rfl
  have x1 := r5.cell (i := 1) rfl
  have x2 := r5.cell (i := 2) rfl
  have x3 := r5.cell (i := 3) rfl
  have x4 := r5.cell (i := 4) rfl
  have x5 := r5.cell (i := 5) rfl
  have x6 := r5.cell (i := 6) rfl
  have x7 := r5.cell (i := 7) rfl
  have y0 := r6.cell (i := 0) rfl
  have y1 := r6.cell (i := 1) rfl
  have y2 := r6.cell (i := 2) rfl
  have y3 := r6.cell (i := 3) rfl
  have y4 := r6.cell (i := 4) rfl
  have y5 := r6.cell (i := 5) rfl
  have y6 := r6.cell (i := 6) rfl
  have y7 := r6.cell (i := 7) rfl
  rw [hb2] at m20 m30 x0 x1 x2 x3 x4 x5 x6 x7 y0 y1 y2 y3 y4 y5 y6 y7 ⊢
  have hwl : w.heap.size ≤ w1.heap.size := H1.out.size
  have hc1 := run_string_of HA2.out.dt
  have hc2 := run_string_of HB3.out.dt
  clear r5 r6 hb2 H1
  go_upto_region 5 with fail
  all_goals try (
    go_ret
    refine ⟨⟨false, rfl, ⟨fun h => (by cases h), fun h => ?_⟩⟩, HBL.out⟩
    obtain ⟨e1, e2, e3, e4, e5, e6, e7, e8, e9⟩ := HEQ.out.1 h
    first
      | contradiction
      | (simp_all; done))
  have HE : Keep (ap = bp ∧ kind = kind2 ∧ mode = mode2 ∧ uid = uid2 ∧ gid = gid2 ∧ time = time2 ∧ link = link2) := ⟨⟨by assumption, by assumption, by assumption, by assumption, by assumption, by assumption, by simpa using (show (!link == link2) = false by assumption)⟩⟩
  by_cases hdt : data = data2
  · have HD := Keep.keep hdt
    have hbd : (data == data2) = true := by simpa using hdt
    clear hdt
    by_cases hal : attrs.length = attrs2.length
    · have hne : ((attrs.length : Int) == (attrs2.length : Int)) = true := by rw [hal]; exact beq_self_eq_true _
      have HL := Keep.keep hal
      clear hal
      go_wp2_with fail
      go_loopg [7] attrs.length (fun g u7 wx => ∃ (k n : Nat), k + g = attrs.length ∧ u7 = .int .i64 (k : Int) ∧ attrs.take k = attrs2.take k ∧ wx = w1.drewN n)
      case atStart => exact ⟨0, 0, by omega, rfl, rfl, rfl⟩
      case round =>
        obtain ⟨k, nd, hkg, rfl, heq, rfl⟩ := hrel
        have HT := Keep.keep heq
        clear heq
        cases gk with
        | zero =>
          obtain rfl : k = attrs.length := by omega
          have HF : Keep (PEQ) := ⟨HEQ.out.2 ⟨HE.out.1, HE.out.2.1, HE.out.2.2.1, HE.out.2.2.2.1, HE.out.2.2.2.2.1, HE.out.2.2.2.2.2.1, HE.out.2.2.2.2.2.2, HD.out, by
            have h := HT.out
            rw [List.take_length, List.take_of_length_le (by rw [← HL.out]; exact Nat.le_refl _)] at h
            exact h⟩⟩
          go_wp2_with fail
          go_ret
          exact ⟨⟨true, rfl, ⟨fun _ => HF.out, fun _ => rfl⟩⟩, below_drewN' HBL.out _⟩
        | succ g =>
          have hk1 : k < attrs.length := by omega
          have hk2 : k < attrs2.length := by have := HL.out; omega
          have hd : decide ((k : Int) < (attrs.length : Int)) = true := decide_eq_true (by omega)
          obtain ⟨p1, o1, rfl⟩ : ∃ b off, aa = some ⟨b, off, none⟩ := by
            obtain ⟨b, off, cap, h, -⟩ := HA2.out.at_.has (by dsimp only; omega)
            injection h with h; exact ⟨b, off, h⟩
          obtain ⟨p2, o2, rfl⟩ : ∃ b off, ba = some ⟨b, off, none⟩ := by
            obtain ⟨b, off, cap, h, -⟩ := HB3.out.at_.has (by dsimp only; omega)
            injection h with h; exact ⟨b, off, h⟩
          obtain ⟨s1, s2⟩ := rcells_get attrs k hk1
          obtain ⟨t1, t2⟩ := rcells_get attrs2 k hk2
          have z1 := HA2.out.at_.cell p1 o1 _ _ rfl _ _ s1
          have z2 := HA2.out.at_.cell p1 o1 _ _ rfl _ _ s2
          have v1 := HB3.out.at_.cell p2 o2 _ _ rfl _ _ t1
          have v2 := HB3.out.at_.cell p2 o2 _ _ rfl _ _ t2
          rw [← Nat.add_assoc] at z2 v2
          have HST : Keep (attrs[k] = attrs2[k] → attrs.take (k + 1) = attrs2.take (k + 1)) := ⟨fun e => by rw [List.take_succ_eq_append_getElem hk1, List.take_succ_eq_append_getElem hk2, HT.out, e]⟩
          have HNE : Keep (attrs[k] ≠ attrs2[k] → ¬ PEQ) := ⟨fun e h => e (by simp only [(HEQ.out.1 h).2.2.2.2.2.2.2.2])⟩
          clear s1 s2 t1 t2
          generalize attrs[k] = p at *
          generalize attrs2[k] = q at *
          have hneq := neq_attr p q
          unfold strV at z1 z2 v1 v2
          obtain ⟨pk, pv⟩ := p
          obtain ⟨qk, qv⟩ := q
          dsimp only at z1 z2 v1 v2 hneq
          by_cases e : ((pk, pv) : R2) = (qk, qv)
          · have HE2 := Keep.keep (HST.out e)
            rw [decide_eq_true e] at hneq
            clear e HST HNE
            go_upto_region 10 with fail
            (refine wp_region_quiet_lit (by kernel_rfl) (by kernel_rfl) ?_); (repeat (first | (fail) | go_big_quiet_step (fail))); (refine wpQuiet_nil ?_); (intro _ hwq); (obtain ⟨nq, hwq⟩ := hwq); (subst hwq)
            go_wp2_with fail
            go_roundg g
            case measure => omega
            case rel => exact ⟨k + 1, nd + nq, by omega, by simp, HE2.out, rfl⟩
          · have HE2 := Keep.keep (HNE.out e)
            rw [decide_eq_false e] at hneq
            clear e HST HNE
            go_upto_region 10 with fail
            (refine wp_region_quiet_lit (by kernel_rfl) (by kernel_rfl) ?_); (repeat (first | (fail) | go_big_quiet_step (fail))); (refine wpQuiet_nil ?_); (intro _ hwq); (obtain ⟨nq, hwq⟩ := hwq); (subst hwq)
            go_wp2_with fail
            go_ret
            exact ⟨⟨false, rfl, ⟨fun h => (by cases h), fun h => (HE2.out h).elim⟩⟩, below_drewN' (below_drewN' HBL.out _) _⟩
    · have hne : ((attrs.length : Int) == (attrs2.length : Int)) = false := by simp; omega
      have HL := Keep.keep hal
      clear hal
      go_wp2_with fail
      go_ret
      exact ⟨⟨false, rfl, ⟨fun h => (by cases h), fun h => (HL.out (by rw [(HEQ.out.1 h).2.2.2.2.2.2.2.2])).elim⟩⟩, HBL.out⟩
  · have HD := Keep.keep hdt
    have hbd : (data == data2) = false := by simpa using hdt
    clear hdt
    go_wp2_with fail
    go_ret
    exact ⟨⟨false, rfl, ⟨fun h => (by cases h), fun h => (HD.out (HEQ.out.1 h).2.2.2.2.2.2.2.1).elim⟩⟩, HBL.out⟩
end Go.Proofs.YtplafpokgpolkaaGreatDoor
/- portolanlaw12.Alike: rows of Members set side by side. -/
namespace Go.Proofs.YtplafpokgpolkaaGreatDoor
open Go.RowKit
theorem SaysB.det {P : Prop} {e : Ending} (h : SaysB P e) {r : Bool} (hr : r = true ↔ P) : e = .returned (.bool r) := by
  obtain ⟨r', rfl, h'⟩ := h
  have : r' = r := by rw [Bool.eq_iff_iff, h', hr]
  rw [this]
theorem bool_of (P : Prop) : ∃ r : Bool, r = true ↔ P := by
  by_cases h : P
  · exact ⟨true, fun _ => h, fun _ => rfl⟩
  · exact ⟨false, fun e => (by cases e), fun e => (h e).elim⟩
end Go.Proofs.YtplafpokgpolkaaGreatDoor
/- slices.EqualFunc over Members, asked by portolanref12.Same. -/
namespace Go.Proofs.YtplafpokgpolkaaGreatDoor
open Go.RowKit
set_option maxHeartbeats 2000000 in
set_option maxRecDepth 100000 in
theorem eqf_any (v1 v2 : Value) (l1 l2 : List Mv) (w : World) (h1 : Mbs w (· < w.heap.size) (· < w.heap.size) v1 l1) (h2 : Mbs w (· < w.heap.size) (· < w.heap.size) v2 l2) :
    Calls Tryz.prog 23 #[v1, v2, .func (.func 26) #[] #[]] w fun e w' => SaysB (l1.map (·.1) = l2.map (·.1)) e ∧ Below w.heap.size w w' := by
  obtain ⟨a1, c1, rfl, hc1, hm1, g1⟩ := h1.rd.shape
  obtain ⟨a2, c2, rfl, hc2, hm2, g2⟩ := h2.rd.shape
  unfold maxLen at hm1 hm2
  have hent : ∀ args w, (callFunc 26 args).run Tryz.prog w = .ok (.enter 26 args) w := enters_of Tryz.func26 (by kernel_rfl) rfl
  have H1 := Keep.keep h1; have H2 := Keep.keep h2; have G1 := Keep.keep g1; have G2 := Keep.keep g2
  clear h1 h2 g1 g2
  obtain ⟨P, hP⟩ : ∃ P : Prop, (l1.map (·.1) = l2.map (·.1)) = P := ⟨_, rfl⟩
  have HP : Keep (P ↔ l1.map (·.1) = l2.map (·.1)) := ⟨by rw [hP]⟩
  rw [hP]
  clear hP
  by_cases hl : l1.length = l2.length
  · have HL := Keep.keep hl
    have hne : ((l1.length : Int) == (l2.length : Int)) = true := by rw [hl]; exact beq_self_eq_true _
    clear hl
    go_enter Tryz.func23, Tryz.ntmps23
    go_wp2_with fail
    go_loopg [17] l1.length (fun g u17 wx => ∃ (k : Nat), k + g = l1.length ∧ u17 = .int .i64 (k : Int) ∧ (l1.map (·.1)).take k = (l2.map (·.1)).take k ∧ Below w.heap.size w wx)
    case atStart => exact ⟨0, by omega, rfl, rfl, Below.refl _ _⟩
    case round =>
      obtain ⟨k, hkg, rfl, heq, hb⟩ := hrel
      have HEQ := Keep.keep heq; have HB := Keep.keep hb
      clear heq hb
      cases gk with
      | zero =>
        obtain rfl : k = l1.length := by omega
        have HF : Keep P := ⟨HP.out.2 (by
          have h := HEQ.out
          rw [List.take_of_length_le (by rw [List.length_map]; exact Nat.le_refl _), List.take_of_length_le (by rw [List.length_map, ← HL.out]; exact Nat.le_refl _)] at h
          exact h)⟩
        go_wp2_with fail
        go_ret
        exact ⟨⟨true, rfl, ⟨fun _ => HF.out, fun _ => rfl⟩⟩, HB.out⟩
      | succ g =>
        have hk1 : k < l1.length := by omega
        have hk2 : k < l2.length := by have := HL.out; omega
        have hd : decide ((k : Int) < (l1.length : Int)) = true := decide_eq_true (by omega)
        obtain ⟨b1, o1, rfl, hb1⟩ : ∃ b off, a1 = some ⟨b, off, none⟩ ∧ b < w.heap.size := by
          rcases G1.out with h | ⟨b, off, h, hb⟩
          · omega
          · exact ⟨b, off, h, hb⟩
        obtain ⟨b2, o2, rfl, hb2⟩ : ∃ b off, a2 = some ⟨b, off, none⟩ ∧ b < w.heap.size := by
          rcases G2.out with h | ⟨b, off, h, hb⟩
          · omega
          · exact ⟨b, off, h, hb⟩
        obtain ⟨r, hr⟩ := bool_of (l1[k].1 = l2[k].1)
        have hld1 := (H1.out.below HB.out (fun b hb => hb) (fun b hb => hb)).load hk1
        have HLD2 : Keep (∀ wx, Below wr.heap.size wr wx → (Instr.loadAt 32 (.pointer (some ⟨b2, o2 + k * 9, none⟩))).run Tryz.prog wx = .ok (.agg (mcell l2[k])) wx) := ⟨fun wx hx => (H2.out.below (HB.out.trans (hx.mono HB.out.size)) (fun b hb => hb) (fun b hb => hb)).load hk2⟩
        have HS : Keep (∀ wx, Below wr.heap.size wr wx → Calls Tryz.prog 26 #[.agg (mcell l1[k]), .agg (mcell l2[k])] wx fun e w' => e = .returned (.bool r) ∧ Below wx.heap.size wx w') := ⟨fun wx hx => by
          have hbx := HB.out.trans (hx.mono HB.out.size)
          have hsx := hbx.size
          refine (same_ref _ _ _ _ _ _ wx ((H1.out.nd _ (List.getElem_mem hk1)).below hbx (fun b hb => hb) |>.mono (fun b hb => Nat.lt_of_lt_of_le hb hsx)) ((H2.out.nd _ (List.getElem_mem hk2)).below hbx (fun b hb => hb) |>.mono (fun b hb => Nat.lt_of_lt_of_le hb hsx))).mono ?_
          rintro e w' ⟨he, hb⟩
          exact ⟨he.det hr, hb⟩⟩
        have HST : Keep (r = true → (l1.map (·.1)).take (k + 1) = (l2.map (·.1)).take (k + 1)) := ⟨fun e => by
          rw [List.take_succ_eq_append_getElem (by simpa using hk1), List.take_succ_eq_append_getElem (by simpa using hk2), HEQ.out]
          simp [hr.1 e]⟩
        have HNE : Keep (r = false → ¬ P) := ⟨fun e h => by
          have h := HP.out.1 h
          have : (l1.map (·.1))[k]'(by simpa using hk1) = (l2.map (·.1))[k]'(by simpa using hk2) := by simp only [h]
          simp only [List.getElem_map] at this
          rw [hr.2 this] at e; cases e⟩
        have HSZ1 : Keep ((mcell l1[k]).size = 9) := ⟨rfl⟩
        have HSZ2 : Keep ((mcell l2[k]).size = 9) := ⟨rfl⟩
        have HON1 := Keep.keep (mcell_one (H1.out.nd _ (List.getElem_mem hk1)))
        have HON2 := Keep.keep (mcell_one (H2.out.nd _ (List.getElem_mem hk2)))
        generalize mcell l1[k] = x1 at *
        generalize mcell l2[k] = x2 at *
        clear hr
        go_upto_region 6 with (first | ((with_reducible refine arm_loadM hld1 ?_ ?_); (focus rfl); simp only [Act.put, List.setIfInBounds_toArray, List.set_cons_succ, List.set_cons_zero]) | ((with_reducible refine arm_storeRow (Row.new wr 32 _) aggM ?_ HSZ1.out HON1.out ?_ ?_ ?_); (focus rfl); (focus rfl); (focus rfl); simp only [Act.put, World.setRow_alloc_new]))
        refine wp_world (R := fun wq => Hp NoM wr wq [rowA wr.heap.size 32 x1]) ((Hp.begin NoM wr).newRow _ _) ?_
        intro w2 H8
        obtain ⟨b8, hb8⟩ : ∃ b8, wr.heap.size = b8 := ⟨_, rfl⟩
        have HB8 := Keep.keep hb8
        have hld2 := HLD2.out w2 H8.out.below
        rw [hb8] at H8 ⊢
        clear hld1 hb8
        go_upto_region 7 with (first | ((with_reducible refine arm_loadM hld2 ?_ ?_); (focus rfl); simp only [Act.put, List.setIfInBounds_toArray, List.set_cons_succ, List.set_cons_zero]) | ((with_reducible refine arm_storeRow (Row.new w2 32 _) aggM ?_ HSZ2.out HON2.out ?_ ?_ ?_); (focus rfl); (focus rfl); (focus rfl); simp only [Act.put, World.setRow_alloc_new]))
        refine wp_world (R := fun wq => Hp NoM wr wq [rowA b8 32 x1, rowA w2.heap.size 32 x2]) (H8.out.newRow _ _) ?_
        intro w3 H9
        obtain ⟨b9, hb9⟩ : ∃ b9, w2.heap.size = b9 := ⟨_, rfl⟩
        rw [hb9] at H9 ⊢
        clear hld2 hb9 H8
        have HR8 := Keep.keep (H9.out.row 0 rfl)
        have HR9 := Keep.keep (H9.out.row 1 rfl)
        go_wp2_with (first | ((with_reducible refine arm_loadRow HR8.out aggM HSZ1.out ?_ ?_); (focus rfl); simp only [Act.put, List.setIfInBounds_toArray, List.set_cons_succ, List.set_cons_zero]) | ((with_reducible refine arm_loadRow HR9.out aggM HSZ2.out ?_ ?_); (focus rfl); simp only [Act.put, List.setIfInBounds_toArray, List.set_cons_succ, List.set_cons_zero]))
        refine (HS.out w3 H9.out.below).mono ?_
        rintro e w4 ⟨rfl, hb4⟩
        have HB4 := Keep.keep (HB.out.trans ((H9.out.below.trans (hb4.mono H9.out.below.size)).mono HB.out.size))
        clear hb4 H9 HR8 HR9
        cases r with
        | true =>
          have HE := Keep.keep (HST.out rfl)
          go_wp2_with fail
          go_roundg g
          case measure => omega
          case rel => exact ⟨k + 1, by omega, by simp, HE.out, HB4.out⟩
        | false =>
          have HE := Keep.keep (HNE.out rfl)
          go_wp2_with fail
          go_ret
          exact ⟨⟨false, rfl, ⟨fun h => (by cases h), fun h => (HE.out h).elim⟩⟩, HB4.out⟩
  · have hne : ((l1.length : Int) == (l2.length : Int)) = false := by simp; omega
    have HL := Keep.keep hl
    clear hl
    go_enter Tryz.func23, Tryz.ntmps23
    go_wp2_with fail
    go_ret
    exact ⟨⟨false, rfl, ⟨fun h => (by cases h), fun h => (HL.out (by have := congrArg List.length (HP.out.1 h); simpa using this)).elim⟩⟩, Below.refl _ _⟩
end Go.Proofs.YtplafpokgpolkaaGreatDoor
/- portolanlaw19.ChangeLocal: calls as the law goes on. -/
namespace Go.Proofs.YtplafpokgpolkaaGreatDoor
open Go.RowKit
theorem same_tr {w : World} {T T2 : Nat} {A B : List Mb} (h1 : TrL w T A) (h2 : TrL w T2 B) (hA : A.length ≤ 100000) (he : A = B) :
    Calls Tryz.prog 18 #[.pointer (some ⟨T, 0, none⟩), .pointer (some ⟨T2, 0, none⟩)] w fun e w' => e = .returned (.bool true) ∧ Below w.heap.size w w' := by
  obtain ⟨mb, Bk, f, h1, h1'⟩ := h1
  obtain ⟨mb2, Bk2, f2, h2, h2'⟩ := h2
  refine (same_tree T mb Bk f A T2 mb2 Bk2 f2 B w h1 h1' h2 h2' hA).mono ?_
  rintro e w' ⟨he', hb⟩
  exact ⟨he'.det ⟨fun _ => he, fun _ => rfl⟩, hb⟩
theorem all_tr {w : World} {T : Nat} {A : List Mb} (h : TrL w T A) (hA : A.length ≤ 100000) :
    Calls Tryz.prog 38 #[.pointer (some ⟨T, 0, none⟩)] w fun e w' => ∃ v l, e = .returned v ∧ l.map (·.1) = A ∧ RowM w.heap.size NoM w' v l ∧ Below w.heap.size w w' := by
  obtain ⟨mb, Bk, f, h1, h2⟩ := h
  refine (all_own T mb Bk f A w hA h1 ⟨h1.row.lt, h1.map.lt, h2⟩).mono ?_
  rintro e w' ⟨v, l, rfl, hl, ho, hb⟩
  exact ⟨v, l, rfl, hl, RowM.ofOwn ho NoM, hb⟩
theorem tree_tr {w : World} {v : Value} {l : List Mv} (B : Nat) (hT : Tabs B w) (hr : MbL w v l) (hk : ∀ x ∈ l, Kb x.1) :
    Calls Tryz.prog 29 #[v] w fun e w' => ∃ T, e = .returned (.pointer (some ⟨T, 0, none⟩)) ∧ TrL w' T (tree19 (l.map (·.1))) ∧ Below w.heap.size w w' := by
  refine (tree19_any B v l w hT hr hk).mono ?_
  rintro e w' ⟨T, mb, Bk, f, rfl, h1, h2, h3⟩
  exact ⟨T, rfl, ⟨mb, Bk, f, h1, fun b hb => (h2.2.2 b hb).2⟩, h3⟩
theorem TrL.sm {w : World} {T : Nat} {t : List Mb} (h : TrL w T t) : ∀ m ∈ t, Sm m := by
  obtain ⟨mb, Bk, f, h1, -⟩ := h
  exact h1.sm
theorem sm_mapX {l : List Mv} (h : ∀ x ∈ l.map (·.1), Sm x) : ∀ x ∈ l, Sm x.1 := fun x hx => h _ (List.mem_map.2 ⟨x, hx, rfl⟩)
end Go.Proofs.YtplafpokgpolkaaGreatDoor
/- WHERE A KEY STANDS in a sorted list that is gone along; plain facts. -/
namespace Go.Proofs.YtplafpokgpolkaaGreatDoor
namespace SM
section
variable {α : Type}
/-- how many keys stand ahead -/
def plc (L : List (Tx × α)) (p : Tx) : Nat := (lo L p).length
theorem plc_le (L : List (Tx × α)) (p : Tx) : plc L p ≤ L.length := List.length_filter_le _ _
theorem Srt.rise {L : List (Tx × α)} (h : Srt L) {i j : Nat} (hij : i < j) (hj : j < L.length) : (L[i]'(by omega)).1 < L[j].1 := (List.pairwise_iff_getElem.1 h) i j (by omega) hj hij
theorem Srt.plc_at {L : List (Tx × α)} (h : Srt L) {p : Tx} {k : Nat} (hk : k ≤ L.length) (h1 : ∀ j, (hj : j < k) → (hl : j < L.length) → L[j].1 < p) (h2 : ∀ hl : k < L.length, ¬ L[k].1 < p) : k = plc L p := by
  have e : lo L p = L.take k := by
    unfold lo
    conv => lhs; rw [← List.take_append_drop k L]
    rw [List.filter_append, List.filter_eq_self.2 (fun x hx => ?_), List.filter_eq_nil_iff.2 (fun x hx => ?_), List.append_nil]
    · obtain ⟨j, hj, rfl⟩ := List.mem_iff_getElem.1 hx
      rw [List.length_drop] at hj
      rw [List.getElem_drop]
      have h2 := h2 (by omega)
      rcases Nat.eq_zero_or_pos j with rfl | h0
      · simpa using h2
      · have := h.rise (i := k) (j := k + j) (by omega) (by omega)
        simpa using fun e : (L[k + j]).1 < p => h2 (tx_trans this e)
    · obtain ⟨j, hj, rfl⟩ := List.mem_iff_getElem.1 hx
      rw [List.length_take] at hj
      rw [List.getElem_take]
      simpa using h1 j (by omega) (by omega)
  unfold plc
  rw [e, List.length_take]
  omega
theorem Srt.take_plc {L : List (Tx × α)} (h : Srt L) (p : Tx) : L.take (plc L p) = lo L p := by
  have e := congrArg (List.take (plc L p)) (h.split p)
  rw [e]
  unfold plc
  rw [List.take_append_of_le_length (Nat.le_refl _), List.take_length]
theorem Srt.drop_plc {L : List (Tx × α)} (h : Srt L) (p : Tx) : L.drop (plc L p) = L.filter (fun x => x.1 == p) ++ hi L p := by
  have e := congrArg (List.drop (plc L p)) (h.split p)
  rw [e]
  unfold plc
  rw [List.drop_append_of_le_length (Nat.le_refl _), List.drop_length, List.nil_append]
theorem Srt.drop_some {L : List (Tx × α)} (h : Srt L) {p : Tx} {v : α} (hl : SM.look L p = some v) : L.drop (plc L p + 1) = hi L p := by
  rw [← List.drop_drop, h.drop_plc, h.mid, hl]; rfl
theorem Srt.drop_none {L : List (Tx × α)} (h : Srt L) {p : Tx} (hl : SM.look L p = none) : L.drop (plc L p) = hi L p := by
  rw [h.drop_plc, h.mid, hl]; rfl
theorem Srt.at_some {L : List (Tx × α)} (h : Srt L) {p : Tx} {v : α} (hl : SM.look L p = some v) : L[plc L p]? = some (p, v) := by
  rw [← List.head?_drop, h.drop_plc, h.mid, hl]; rfl
theorem Srt.at_none {L : List (Tx × α)} (h : Srt L) {p : Tx} (hl : SM.look L p = none) (hk : plc L p < L.length) : p < (L[plc L p]).1 := by
  have e : L[plc L p]? = some L[plc L p] := List.getElem?_eq_getElem hk
  rw [← List.head?_drop, h.drop_none hl] at e
  have := List.mem_of_mem_head? e
  unfold hi at this
  simpa using (List.mem_filter.1 this).2
/-- is it there? as one sees at its place -/
theorem Srt.is_at {L : List (Tx × α)} (h : Srt L) (p : Tx) : (match L[plc L p]? with | some x => x.1 == p | none => false) = (SM.look L p).isSome := by
  cases hl : SM.look L p with
  | some v => rw [h.at_some hl]; simp
  | none =>
    by_cases hk : plc L p < L.length
    · rw [List.getElem?_eq_getElem hk]
      have := h.at_none hl hk
      simpa using fun e => tx_irrefl p (by rw [e] at this; exact this)
    · rw [List.getElem?_eq_none (by omega)]; rfl
theorem Srt.put_eq {L : List (Tx × α)} (h : Srt L) (m : Tx × α) : SM.put L m = L.take (plc L m.1) ++ m :: L.drop (if (SM.look L m.1).isSome then plc L m.1 + 1 else plc L m.1) := by
  unfold SM.put
  rw [h.take_plc]
  cases hl : SM.look L m.1 with
  | some v => simp [h.drop_some hl]
  | none => simp [h.drop_none hl]
end
end SM
end Go.Proofs.YtplafpokgpolkaaGreatDoor
/- portolanref11: begins, Name, MayName, Split, May, Join. -/
namespace Go.Proofs.YtplafpokgpolkaaGreatDoor
open Go.RowKit
theorem prefix_take (s t : List UInt8) (_h : t.length ≤ s.length) : (s.take t.length == t) = t.isPrefixOf s := by
  rw [Bool.eq_iff_iff, beq_iff_eq, List.isPrefixOf_iff_prefix]
  constructor
  · intro e; rw [← e]; exact List.take_prefix _ _
  · intro hp; exact (List.prefix_iff_eq_take.1 hp).symm
theorem begins_any (s t : List UInt8) (w : World) : Calls Tryz.prog 110 #[.string ⟨s.toArray⟩, .string ⟨t.toArray⟩] w fun e w' => e = .returned (.bool (t.isPrefixOf s)) ∧ w = w' := by
  by_cases h : t.length ≤ s.length
  · have hd : decide ((t.length : Int) ≤ (s.length : Int)) = true := decide_eq_true (by omega)
    have hd2 : decide (t.length ≤ s.length) = true := decide_eq_true h
    have hst := run_slice_to (P := Tryz.prog) Tryz.underlying9 s .i64 t.length h
    have he := prefix_take s t h
    generalize s.take t.length = q at *
    generalize t.isPrefixOf s = b at *
    go_enter Tryz.func110, Tryz.ntmps110
    go_wp2_with fail
    go_ret
    exact ⟨rfl, rfl⟩
  · have hd : decide ((t.length : Int) ≤ (s.length : Int)) = false := decide_eq_false (by omega)
    have hd2 : decide (t.length ≤ s.length) = false := decide_eq_false h
    have he : t.isPrefixOf s = false := by
      cases hx : t.isPrefixOf s with
      | false => rfl
      | true => exact absurd (List.isPrefixOf_iff_prefix.1 hx).length_le h
    rw [he]
    clear he h
    go_enter Tryz.func110, Tryz.ntmps110
    go_wp2_with fail
    go_ret
    exact ⟨rfl, rfl⟩
def nameB (s : List UInt8) : Bool := !(s.any fun c => c == 47 || c == 0) && (decide (1 ≤ s.length) && decide (s.length ≤ 255) && s != [46] && s != [46, 46])
set_option maxHeartbeats 2000000 in
set_option maxRecDepth 100000 in
theorem rname_any (s : List UInt8) (hs : s.length ≤ 1000000) (w : World) : Calls Tryz.prog 138 #[.string ⟨s.toArray⟩] w fun e w' => e = .returned (.bool (nameB s)) ∧ w = w' := by
  go_enter Tryz.func138, Tryz.ntmps138
  go_wp2_with fail
  go_loopg [3] s.length (fun g u3 wx => ∃ k : Nat, k + g = s.length ∧ u3 = .int .i64 (k : Int) ∧ (∀ j, (hj : j < k) → (hl : j < s.length) → s[j] ≠ 47 ∧ s[j] ≠ 0) ∧ w = wx)
  case atStart => exact ⟨0, by omega, rfl, fun j hj => by omega, rfl⟩
  case round =>
    obtain ⟨k, hkg, rfl, hno, rfl⟩ := hrel
    have HNO := Keep.keep hno
    clear hno
    cases gk with
    | zero =>
      obtain rfl : k = s.length := by omega
      have HE : Keep (nameB s = (decide (1 ≤ s.length) && decide (s.length ≤ 255) && s != [46] && s != [46, 46])) := ⟨by
        have : (s.any fun c => c == 47 || c == 0) = false := by
          rw [List.any_eq_false]
          intro c hc
          obtain ⟨j, hj, rfl⟩ := List.mem_iff_getElem.1 hc
          obtain ⟨h1, h2⟩ := HNO.out j hj hj
          simp [h1, h2]
        unfold nameB; rw [this]; rfl⟩
      simp only [bne] at HE
      obtain ⟨b1, h1⟩ : ∃ b, decide (1 ≤ s.length) = b := ⟨_, rfl⟩
      obtain ⟨b2, h2⟩ : ∃ b, decide (s.length ≤ 255) = b := ⟨_, rfl⟩
      obtain ⟨b3, h3⟩ : ∃ b, (s == [46]) = b := ⟨_, rfl⟩
      obtain ⟨b4, h4⟩ : ∃ b, (s == [46, 46]) = b := ⟨_, rfl⟩
      simp only [h1, h2, h3, h4] at HE
      have h1i : decide ((1 : Int) ≤ (s.length : Int)) = b1 := by rw [← h1]; simp only [decide_eq_decide]; omega
      have h2i : decide ((s.length : Int) ≤ 255) = b2 := by rw [← h2]; simp only [decide_eq_decide]; omega
      clear HNO
      cases b1 with
      | false =>
        go_wp2_with fail
        go_ret
        exact ⟨by rw [HE.out]; rfl, rfl⟩
      | true =>
      cases b2 with
      | false =>
        go_wp2_with fail
        go_ret
        exact ⟨by rw [HE.out]; rfl, rfl⟩
      | true =>
      cases b3 with
      | true =>
        go_wp2_with fail
        go_ret
        exact ⟨by rw [HE.out]; rfl, rfl⟩
      | false =>
        cases b4 with
        | true =>
          go_wp2_with fail
          go_ret
          exact ⟨by rw [HE.out]; rfl, rfl⟩
        | false =>
          go_wp2_with fail
          go_ret
          exact ⟨by rw [HE.out]; rfl, rfl⟩
    | succ g =>
      have hk : k < s.length := by omega
      have hidx := run_index_str (P := Tryz.prog) Tryz.underlying9 ⟨s.toArray⟩ .i64 k s[k] (by simp [hk])
      have hgi : (⟨s.toArray⟩ : ByteArray)[k]'(hk) = s[k] := rfl
      have HSTEP : Keep (s[k] ≠ 47 ∧ s[k] ≠ 0 → ∀ j, (hj : j < k + 1) → (hl : j < s.length) → s[j] ≠ 47 ∧ s[j] ≠ 0) := ⟨fun he j hj hl => by
        rcases Nat.lt_succ_iff_lt_or_eq.1 hj with h | rfl
        · exact HNO.out j h hl
        · exact he⟩
      have HBAD : Keep (s[k] = 47 ∨ s[k] = 0 → nameB s = false) := ⟨fun h => by
        have : (s.any fun c => c == 47 || c == 0) = true := List.any_eq_true.2 ⟨_, List.getElem_mem hk, by rcases h with h | h <;> simp [h]⟩
        unfold nameB; rw [this]; rfl⟩
      by_cases h0 : s[k] = 0
      · have HX := Keep.keep (HBAD.out (.inr h0))
        rw [h0] at hidx hgi
        clear HSTEP HBAD h0 HNO
        go_wp2_with fail
        go_ret
        exact ⟨by rw [HX.out]; rfl, rfl⟩
      · by_cases h47 : s[k] = 47
        · have HX := Keep.keep (HBAD.out (.inl h47))
          rw [h47] at hidx hgi
          clear HSTEP HBAD h0 h47 HNO
          go_wp2_with fail
          go_ret
          exact ⟨by rw [HX.out]; rfl, rfl⟩
        · have HST := Keep.keep (HSTEP.out ⟨h47, h0⟩)
          have hn0 : ((s[k].toNat : Int) == 0) = false := by
            rw [beq_eq_false_iff_ne]; intro e; exact h0 (UInt8.toNat_inj.1 (by show s[k].toNat = 0; omega))
          have hn47 : ((s[k].toNat : Int) == 47) = false := by
            rw [beq_eq_false_iff_ne]; intro e; exact h47 (UInt8.toNat_inj.1 (by show s[k].toNat = 47; omega))
          clear HSTEP HBAD h0 h47 HNO
          generalize s[k] = c at *
          go_wp2_with fail
          go_roundg g
          case measure => omega
          case rel => exact ⟨k + 1, by omega, by simp, HST.out, rfl⟩
theorem mayN_name (s : List UInt8) : mayN s = (nameB s && decide (s.length ≤ 251) && !whiteB.isPrefixOf s) := by
  unfold mayN nameB
  have h1 : decide (1 ≤ s.length) = !s.isEmpty := by cases s <;> simp
  rw [h1, show ([46, 119, 104, 46] : List UInt8) = whiteB from rfl]
  by_cases h2 : s.length ≤ 251
  · rw [decide_eq_true h2, decide_eq_true (show s.length ≤ 255 by omega)]
    cases s.isEmpty <;> cases (s != [46]) <;> cases (s != [46, 46]) <;> cases (s.any fun c => c == 47 || c == 0) <;> cases whiteB.isPrefixOf s <;> rfl
  · rw [decide_eq_false h2]; simp
set_option maxHeartbeats 1000000 in
theorem rmayname_any (s : List UInt8) (hs : s.length ≤ 1000000) (w : World) : Calls Tryz.prog 108 #[.string ⟨s.toArray⟩] w fun e w' => e = .returned (.bool (mayN s)) ∧ w = w' := by
  have HN := Keep.keep (fun w => rname_any s hs w)
  have HB : Keep (∀ w, Calls Tryz.prog 110 #[.string ⟨s.toArray⟩, .string ⟨#[46, 119, 104, 46]⟩] w fun e w' => e = .returned (.bool (whiteB.isPrefixOf s)) ∧ w = w') := ⟨fun w => begins_any s whiteB w⟩
  rw [mayN_name]
  have h2i : decide ((s.length : Int) ≤ 251) = decide (s.length ≤ 251) := by simp only [decide_eq_decide]; omega
  generalize nameB s = b1 at *
  generalize decide (s.length ≤ 251) = b2 at *
  generalize whiteB.isPrefixOf s = b3 at *
  go_enter Tryz.func108, Tryz.ntmps108
  go_wp2_with fail
  refine (HN.out _).mono ?_
  rintro e w' ⟨rfl, rfl⟩
  cases b1 with
  | false =>
    go_wp2_with fail
    go_ret
    exact ⟨rfl, rfl⟩
  | true =>
  cases b2 with
  | false =>
    go_wp2_with fail
    go_ret
    exact ⟨rfl, rfl⟩
  | true =>
    go_wp2_with fail
    refine (HB.out _).mono ?_
    rintro e w' ⟨rfl, rfl⟩
    go_wp2_with fail
    go_ret
    exact ⟨rfl, rfl⟩
/-- how far Split is at place k -/
def SpAt (p : List UInt8) (k f : Nat) (D : List (List UInt8)) : Prop := (k ≤ p.length ∧ f ≤ k ∧ D ++ spl (p.drop f) = spl p ∧ ∀ j, f ≤ j → j < k → (hl : j < p.length) → p[j] ≠ 47) ∨ (k = p.length + 1 ∧ D = spl p)
theorem seg_noSl {p : List UInt8} {k f : Nat} (h : ∀ j, f ≤ j → j < k → (hl : j < p.length) → p[j] ≠ 47) : ∀ x ∈ (p.drop f).take (k - f), x ≠ 47 := by
  intro x hx
  obtain ⟨j, hj, rfl⟩ := List.mem_iff_getElem.1 hx
  rw [List.length_take, List.length_drop] at hj
  rw [List.getElem_take, List.getElem_drop]
  exact h (f + j) (by omega) (by omega) (by omega)
theorem SpAt.cut {p : List UInt8} {k f : Nat} {D : List (List UInt8)} (h : SpAt p k f D) (hk : k < p.length) (h47 : p[k] = 47) : SpAt p (k + 1) (k + 1) (D ++ [(p.drop f).take (k - f)]) := by
  rcases h with ⟨h1, h2, h3, h4⟩ | ⟨h1, _⟩
  · refine .inl ⟨hk, Nat.le_refl _, ?_, fun j a b _ => by omega⟩
    have e1 : p.drop f = (p.drop f).take (k - f) ++ 47 :: p.drop (k + 1) := by
      conv => lhs; rw [← List.take_append_drop (k - f) (p.drop f), List.drop_drop, show f + (k - f) = k by omega, List.drop_eq_getElem_cons hk, h47]
    rw [e1, spl_cut _ (seg_noSl h4)] at h3
    rw [List.append_assoc]; exact h3
  · omega
theorem SpAt.end_ {p : List UInt8} {f : Nat} {D : List (List UInt8)} (h : SpAt p p.length f D) : SpAt p (p.length + 1) (p.length + 1) (D ++ [(p.drop f).take (p.length - f)]) := by
  rcases h with ⟨h1, h2, h3, h4⟩ | ⟨h1, _⟩
  · refine .inr ⟨rfl, ?_⟩
    have e1 : (p.drop f).take (p.length - f) = p.drop f := by rw [List.take_of_length_le]; rw [List.length_drop]; omega
    have h5 := seg_noSl h4
    rw [e1] at h5 ⊢
    rw [spl_none h5] at h3
    exact h3
  · omega
theorem SpAt.skip {p : List UInt8} {k f : Nat} {D : List (List UInt8)} (h : SpAt p k f D) (hk : k < p.length) (h47 : p[k] ≠ 47) : SpAt p (k + 1) f D := by
  rcases h with ⟨h1, h2, h3, h4⟩ | ⟨h1, _⟩
  · refine .inl ⟨hk, by omega, h3, fun j a b c => ?_⟩
    rcases Nat.lt_succ_iff_lt_or_eq.1 b with h | rfl
    · exact h4 j a h c
    · exact h47
  · omega
theorem SpAt.le {p : List UInt8} {k f : Nat} {D : List (List UInt8)} (h : SpAt p k f D) (hk : k ≤ p.length) : f ≤ k := by
  rcases h with ⟨_, h2, _⟩ | ⟨h1, _⟩
  · exact h2
  · omega
theorem run_slice_mid {P : Program} {T : TypeId} (hu : P.underlying T = some .string) (l : List UInt8) (k1 k2 : IntKind) (i j : Nat) (h1 : i ≤ j) (h2 : j ≤ l.length) (w : World) :
    (Instr.slice T (.string ⟨l.toArray⟩) (some (.int k1 (i : Int))) (some (.int k2 (j : Int))) none).run P w = .ok (.string ⟨((l.drop i).take (j - i)).toArray⟩) w := by
  have h := run_slice_str (P := P) hu l k1 k2 (i : Int) (j : Int) (by omega) (by omega) (by omega) w
  rw [h]
  simp
set_option maxHeartbeats 4000000 in
set_option maxRecDepth 100000 in
theorem rsplit_any (p : List UInt8) (hp : p.length ≤ 1000000) (w : World) : Calls Tryz.prog 107 #[.string ⟨p.toArray⟩] w fun e w' => ∃ v, e = .returned v ∧ OwnS w' w.heap.size v (splitP p) ∧ Below w.heap.size w w' := by
  have heq := bne_nil p
  cases hl0 : p.isEmpty with
  | true =>
    have hs : splitP p = [] := by cases p with | nil => rfl | cons c l => cases hl0
    rw [hl0] at heq
    rw [hs]
    clear hs hl0
    go_enter Tryz.func107, Tryz.ntmps107
    go_wp2_with fail
    go_ret
    exact ⟨_, rfl, World.ownsRow_nil _ _ _ _, Below.refl _ _⟩
  | false =>
    have hs : splitP p = spl p := by cases p with | nil => cases hl0 | cons c l => rfl
    rw [hl0] at heq
    rw [hs]
    have hlen := spl_length p
    clear hs hl0
    go_enter Tryz.func107, Tryz.ntmps107
    go_wp2_with fail
    go_loopg [3, 4, 5] (p.length + 1) (fun g u3 u4 u5 wx => ∃ (k f : Nat) (D : List (List UInt8)), k + g = p.length + 1 ∧ u5 = .int .i64 (k : Int) ∧ u4 = .int .i64 (f : Int) ∧ SpAt p k f D ∧ D.length ≤ k ∧ Hp NoM w wx [slA w.heap.size 9 1 u3 D.length (D.map strV)])
    case atStart => exact ⟨0, 0, [], by omega, rfl, rfl, .inl ⟨Nat.zero_le _, Nat.le_refl _, rfl, fun j _ hj => by omega⟩, Nat.le_refl _, (Hp.begin NoM w).nilS _ _ _⟩
    case round =>
      obtain ⟨k, f, D, hkg, rfl, rfl, hsp, hDl, hH⟩ := hrel
      have HH := Keep.keep hH; have HSP := Keep.keep hsp
      have hown := hH.sl 0 rfl
      obtain ⟨a3, c3, rfl, -⟩ := (ownsV_reads hown).shape
      have HO := Keep.keep hown
      clear hH hown hsp
      cases gk with
      | zero =>
        obtain rfl : k = p.length + 1 := by omega
        have HD : Keep (D = spl p) := ⟨by
          rcases HSP.out with ⟨h, _⟩ | ⟨_, h⟩
          · omega
          · exact h⟩
        have hd : decide (((p.length + 1 : Nat) : Int) ≤ (p.length : Int)) = false := decide_eq_false (by omega)
        have hd2 : decide ((p.length : Int) + 1 ≤ (p.length : Int)) = false := decide_eq_false (by omega)
        have hd3 : decide (p.length + 1 ≤ p.length) = false := decide_eq_false (by omega)
        go_wp2_with fail
        go_ret
        exact ⟨_, rfl, by rw [← HD.out]; exact HO.out, HH.out.below⟩
      | succ g =>
        have hk1 : k ≤ p.length := by omega
        have hf := HSP.out.le hk1
        have hd : decide ((k : Int) ≤ (p.length : Int)) = true := decide_eq_true (by omega)
        have hd2 : decide (k ≤ p.length) = true := decide_eq_true hk1
        have hst := run_slice_mid (P := Tryz.prog) Tryz.underlying9 p .i64 .i64 f k hf hk1
        by_cases hke : k = p.length
        · have hek : ((k : Int) == (p.length : Int)) = true := by rw [hke]; exact beq_self_eq_true _
          have hek2 : (k == p.length) = true := by rw [hke]; exact beq_self_eq_true _
          have HNX : Keep (SpAt p (k + 1) (k + 1) (D ++ [(p.drop f).take (k - f)])) := ⟨by
            subst hke; exact HSP.out.end_⟩
          clear hke
          generalize (p.drop f).take (k - f) = x at *
          go_wp2_with (with_reducible refine arm_stop ?_)
          refine Stopped.out ?_
          refine arm_appendV slS ((HH.out.alloc _).sl 0 rfl) (RdV.new (N := fun _ => True) 9 [strV x] 1 1 _ rfl rfl (by unfold maxLen; omega) trivial) (by simp [strV, Value.oneCell']) (by unfold maxLen; omega) (by omega) (by simp; have := HH.out.size; omega) rfl rfl ?_
          intro v' w' ho hg hb _
          have HG := Keep.keep ((HH.out.alloc _).grow 0 rfl hg ho hb)
          obtain ⟨a4, c4, rfl, -⟩ := (ownsV_reads ho).shape
          clear ho hg hb
          simp only [Act.put, List.setIfInBounds_toArray, List.set_cons_succ, List.set_cons_zero]
          go_wp2_with fail
          go_roundg g
          case measure => omega
          case rel => exact ⟨k + 1, k + 1, _, by omega, by simp, by simp, HNX.out, by simp; omega, by rw [List.length_append, List.map_append]; exact HG.out⟩
        · have hk : k < p.length := by omega
          have hek : ((k : Int) == (p.length : Int)) = false := by rw [beq_eq_false_iff_ne]; omega
          have hek2 : (k == p.length) = false := by rw [beq_eq_false_iff_ne]; omega
          have hidx := run_index_str (P := Tryz.prog) Tryz.underlying9 ⟨p.toArray⟩ .i64 k p[k] (by simp [hk])
          have hgi : (⟨p.toArray⟩ : ByteArray)[k]'(hk) = p[k] := rfl
          have HCUT := Keep.keep (fun h => HSP.out.cut hk h)
          have HSKIP := Keep.keep (fun h => HSP.out.skip hk h)
          by_cases h47 : p[k] = 47
          · have HNX := Keep.keep (HCUT.out h47)
            rw [h47] at hidx hgi
            clear HCUT HSKIP h47 hke
            generalize (p.drop f).take (k - f) = x at *
            go_wp2_with (with_reducible refine arm_stop ?_)
            refine Stopped.out ?_
            refine arm_appendV slS ((HH.out.alloc _).sl 0 rfl) (RdV.new (N := fun _ => True) 9 [strV x] 1 1 _ rfl rfl (by unfold maxLen; omega) trivial) (by simp [strV, Value.oneCell']) (by unfold maxLen; omega) (by omega) (by simp; have := HH.out.size; omega) rfl rfl ?_
            intro v' w' ho hg hb _
            have HG := Keep.keep ((HH.out.alloc _).grow 0 rfl hg ho hb)
            obtain ⟨a4, c4, rfl, -⟩ := (ownsV_reads ho).shape
            clear ho hg hb
            simp only [Act.put, List.setIfInBounds_toArray, List.set_cons_succ, List.set_cons_zero]
            go_wp2_with fail
            go_roundg g
            case measure => omega
            case rel => exact ⟨k + 1, k + 1, _, by omega, by simp, by simp, HNX.out, by simp; omega, by rw [List.length_append, List.map_append]; exact HG.out⟩
          · have HNX := Keep.keep (HSKIP.out h47)
            have hn47 : ((p[k].toNat : Int) == 47) = false := by
              rw [beq_eq_false_iff_ne]; intro e; exact h47 (UInt8.toNat_inj.1 (by show p[k].toNat = 47; omega))
            clear HCUT HSKIP h47 hke hst
            generalize p[k] = c at *
            go_wp2_with fail
            go_roundg g
            case measure => omega
            case rel => exact ⟨k + 1, f, D, by omega, by simp, rfl, HNX.out, by omega, HH.out⟩
end Go.Proofs.YtplafpokgpolkaaGreatDoor
