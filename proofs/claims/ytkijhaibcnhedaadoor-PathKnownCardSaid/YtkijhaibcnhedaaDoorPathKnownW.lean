/- PathKnown: examples; ends. -/
import Derived.Test.YtkijhaibcnhedaaDoorPathKnownM
namespace Go.Proofs.YtkijhaibcnhedaaDoor
open Go.RowKit Go.Maps
theorem I2.val {W : World} {l : List UInt8} {done : Array Bool} {s s' : Nat → Value} {w : World} (h : I2 W l done s w) {i d : Nat} {v : Value} (hs : s' d = v) (ho : ∀ j, j ≠ d → s' j = s j) (hd1 : d ≠ 1) (hd29 : d ≠ 29) (hd34 : d ≠ 34)
    (hi : i < done.size) (hu : done.getD i false = false) (hi0 : i ≠ 0) (hi19 : i ≠ 19)
    (n30 : (i = 10 → d = 30 ∧ v = .string ⟨l.toArray⟩) ∧ (i ≠ 10 → d ≠ 30)) (n31 : (i = 12 → d = 31 ∧ v = .string ⟨l.toArray⟩) ∧ (i ≠ 12 → d ≠ 31)) (n32 : (i = 13 → d = 32 ∧ v = .string ⟨(l ++ [110]).toArray⟩) ∧ (i ≠ 13 → d ≠ 32)) (n33 : (i = 18 → d = 33 ∧ v = .map (some W.heap.size)) ∧ (i ≠ 18 → d ≠ 33)) :
    I2 W l (done.setIfInBounds i true) s' w := by
  have key : ∀ (j dd : Nat) (vv : Value), ((i = j → d = dd ∧ v = vv) ∧ (i ≠ j → d ≠ dd)) → (done.getD j false = true → s dd = vv) → (done.setIfInBounds i true).getD j false = true → s' dd = vv := by
    intro j dd vv hn hold hj
    by_cases e : i = j
    · obtain ⟨rfl, rfl⟩ := hn.1 e
      exact hs
    · rw [getD_set_ne' e] at hj
      rw [ho dd (fun e2 => hn.2 e e2.symm)]
      exact hold hj
  refine ⟨h.bel, by rw [ho 1 (Ne.symm hd1)]; exact h.h1, ?_, ?_, key 10 30 _ n30 h.h30, key 12 31 _ n31 h.h31, key 13 32 _ n32 h.h32, key 18 33 _ n33 h.h33, ?_⟩
  · rw [getD_set_ne' hi0]; exact h.h0
  · rw [getD_set_ne' hi0]
    intro h0
    obtain ⟨h29, n, D, hown, hn, hg⟩ := h.h29 h0
    exact ⟨by rw [ho 29 (Ne.symm hd29)]; exact h29, n, D, hown, by rw [cnt_set hi hu]; omega, hg⟩
  · rw [getD_set_ne' hi19]
    intro h19
    rw [ho 34 (Ne.symm hd34)]
    exact h.h34 h19
/-- facts on the long texts -/
structure Kn (lt d0 dp v0 v1 v2 v3 wd xx a6 a5 x1 x2 x3 x4 x5 : List UInt8) : Prop where
  r1 : Lib.repeatL [110] 251 = lt
  ll : lt.length = 251
  nl : mayN lt = true ∧ mayN (lt ++ [110]) = false
  r2 : Lib.repeatL [100, 47] 253 = d0
  e2 : d0 ++ [100] = dp
  l2 : d0.length = 506
  r3 : Lib.repeatL [119] 249 = v0
  e3 : v0 ++ [47] = v1
  l3 : v0.length = 249
  l31 : v1.length = 250
  r4 : Lib.repeatL v1 16 = v2
  r5 : Lib.repeatL [119] 80 = v3
  e4 : v2 ++ v3 = wd
  l4 : v2.length = 4000 ∧ v3.length = 80
  wl : wd.length = 4080
  dl : dp.length = 507
  r6 : Lib.repeatL [120] 256 = xx
  r7 : Lib.repeatL [97, 47] 256 = a6
  r8 : Lib.repeatL [97, 47] 255 = a5
  l6 : xx.length = 256 ∧ a6.length = 512 ∧ a5.length = 510
  f1 : [97, 47, 46, 119, 104, 46] ++ lt = x1
  f2 : x1 ++ [110] = x2
  f3 : [97, 47] ++ lt = x3
  f4 : dp ++ [47, 100] = x4
  f5 : wd ++ [119] = x5
  fl : x1.length = 257 ∧ x2.length = 258 ∧ x3.length = 253 ∧ x4.length = 509 ∧ x5.length = 4081
  c1 : classP x1 = (2, x3)
  c2 : (classP x2).1 = 0
  k1 : (cleanP xx).2 = 3
  k3 : (cleanP a6).2 = 3
  k4 : (cleanP a5).2 = 0 ∧ (cleanP a5).1.length = 509
  m2 : mayP dp = true
  m3 : mayP x4 = false
  m5 : mayP wd = true
  m6 : mayP x5 = false
theorem kn_all : ∃ lt d0 dp v0 v1 v2 v3 wd xx a6 a5 x1 x2 x3 x4 x5, Kn lt d0 dp v0 v1 v2 v3 wd xx a6 a5 x1 x2 x3 x4 x5 :=
  ⟨longT, Lib.repeatL [100, 47] 253, deepT, Lib.repeatL [119] 249, Lib.repeatL [119] 249 ++ [47], Lib.repeatL (Lib.repeatL [119] 249 ++ [47]) 16, Lib.repeatL [119] 80, wideT, List.replicate 256 120, (List.replicate 256 [97, 47]).flatten, (List.replicate 255 [97, 47]).flatten, _, _, _, _, _,
    ⟨rp_long, by decide +kernel, ⟨kn_n.1, kn_n.2.1⟩, rfl, rp_deep, by decide +kernel, rfl, rfl, by decide +kernel, by decide +kernel, rfl, rfl, rp_wide, by decide +kernel, kn_m4, by decide +kernel, rp_x, rp_a6, rp_a5, by decide +kernel, rfl, rfl, rfl, rfl, rfl, by decide +kernel, kn_c1, kn_c2, kn_l1, kn_l3, kn_l4, kn_m2, kn_m3, kn_m5, kn_m6⟩⟩
set_option maxHeartbeats 4000000 in
set_option maxRecDepth 100000 in
/-- the map that is written out, then its range -/
theorem knreg {Q : Exit → Act → World → Prop} {a : Act} {W : World} {l : List UInt8} {C : Code} (hl : l.length = 251) (hn : mayN l = true ∧ mayN (l ++ [110]) = false) (hsz : a.tmps.size = 232) (h1 : slot a 1 = .string ⟨l.toArray⟩)
    (hC : C = Code.region 2 #[{ dst := some 29, op := .makeMap 41 none, type := 41, pos := "outright.go:102", after := #[], guard := none },
      { dst := none, op := .insert 41 (.tmp 29) (.const (.string { data := #[] })) (.const (.bool false)), type := 0, pos := "outright.go:102", after := #[{ on := 0, ground := .data }], guard := none },
      { dst := none, op := .insert 41 (.tmp 29) (.const (.string { data := #[46] })) (.const (.bool false)), type := 0, pos := "outright.go:102", after := #[{ on := 0, ground := .data }], guard := none },
      { dst := none, op := .insert 41 (.tmp 29) (.const (.string { data := #[46, 46] })) (.const (.bool false)), type := 0, pos := "outright.go:102", after := #[{ on := 0, ground := .data }], guard := none },
      { dst := none, op := .insert 41 (.tmp 29) (.const (.string { data := #[46, 46, 46] })) (.const (.bool true)), type := 0, pos := "outright.go:102", after := #[{ on := 0, ground := .data }], guard := none },
      { dst := none, op := .insert 41 (.tmp 29) (.const (.string { data := #[46, 119, 104, 46] })) (.const (.bool false)), type := 0, pos := "outright.go:102", after := #[{ on := 0, ground := .data }], guard := none },
      { dst := none, op := .insert 41 (.tmp 29) (.const (.string { data := #[46, 119, 104] })) (.const (.bool true)), type := 0, pos := "outright.go:102", after := #[{ on := 0, ground := .data }], guard := none },
      { dst := none, op := .insert 41 (.tmp 29) (.const (.string { data := #[46, 119, 104, 120] })) (.const (.bool true)), type := 0, pos := "outright.go:102", after := #[{ on := 0, ground := .data }], guard := none },
      { dst := none, op := .insert 41 (.tmp 29) (.const (.string { data := #[97, 47, 98] })) (.const (.bool false)), type := 0, pos := "outright.go:102", after := #[{ on := 0, ground := .data }], guard := none },
      { dst := none, op := .insert 41 (.tmp 29) (.const (.string { data := #[97, 0] })) (.const (.bool false)), type := 0, pos := "outright.go:102", after := #[{ on := 0, ground := .data }], guard := none },
      { dst := some 30, op := .move (.tmp 1), type := 9, pos := "outright.go:102", after := #[], guard := none },
      { dst := none, op := .insert 41 (.tmp 29) (.tmp 30) (.const (.bool true)), type := 0, pos := "outright.go:102", after := #[{ on := 0, ground := .data }, { on := 10, ground := .data }], guard := none },
      { dst := some 31, op := .move (.tmp 1), type := 9, pos := "outright.go:102", after := #[], guard := none },
      { dst := some 32, op := .binOp .add 9 (.tmp 31) (.const (.string { data := #[110] })) 9, type := 9, pos := "outright.go:102", after := #[{ on := 12, ground := .data }], guard := none },
      { dst := none, op := .insert 41 (.tmp 29) (.tmp 32) (.const (.bool false)), type := 0, pos := "outright.go:102", after := #[{ on := 0, ground := .data }, { on := 13, ground := .data }], guard := none },
      { dst := none, op := .insert 41 (.tmp 29) (.const (.string { data := #[255] })) (.const (.bool true)), type := 0, pos := "outright.go:102", after := #[{ on := 0, ground := .data }], guard := none },
      { dst := none, op := .insert 41 (.tmp 29) (.const (.string { data := #[32] })) (.const (.bool true)), type := 0, pos := "outright.go:102", after := #[{ on := 0, ground := .data }], guard := none },
      { dst := none, op := .insert 41 (.tmp 29) (.const (.string { data := #[46, 119, 104, 46, 120] })) (.const (.bool false)), type := 0, pos := "outright.go:102", after := #[{ on := 0, ground := .data }], guard := none },
      { dst := some 33, op := .move (.tmp 29), type := 41, pos := "outright.go:102", after := #[{ on := 0, ground := .data }, { on := 1, ground := .data }, { on := 2, ground := .data }, { on := 3, ground := .data }, { on := 4, ground := .data }, { on := 5, ground := .data }, { on := 6, ground := .data }, { on := 7, ground := .data }, { on := 8, ground := .data }, { on := 9, ground := .data }, { on := 10, ground := .data }, { on := 11, ground := .data }, { on := 12, ground := .data }, { on := 13, ground := .data }, { on := 14, ground := .data }, { on := 15, ground := .data }, { on := 16, ground := .data }, { on := 17, ground := .data }], guard := none },
      { dst := some 34, op := .range 41 (.tmp 33), type := 0, pos := "outright.go:102", after := #[{ on := 18, ground := .data }], guard := none }] true)
    (he : ∀ a1 w1, a1 = [29, 30, 31, 32, 33, 34].foldl (fun b d => b.put (some d) (slot a1 d)) a → Below W.heap.size W w1 → slot a1 29 = .map (some W.heap.size) → slot a1 30 = .string ⟨l.toArray⟩ → slot a1 31 = .string ⟨l.toArray⟩ → slot a1 32 = .string ⟨(l ++ [110]).toArray⟩ → slot a1 33 = .map (some W.heap.size) →
      (∃ r n D left c, slot a1 34 = .pointer (some ⟨r, 0, none⟩) ∧ W.heap.size ≤ r ∧ Good D ∧ w1.ranges Tryd.prog 9 (plainElem Tryd.prog 4) W.heap.size r n D left c) → Q .normal a1 w1) :
    C.wp Tryd.prog Q a W := by
  subst hC
  refine wp_region_fr [29, 30, 31, 32, 33, 34] (I2 W l) (by kernel_rfl) ?_ ?_ ?_
  · exact ⟨(Below.refl _ _).drew, h1, fun _ => rfl, fun h => by simp at h, fun h => by simp at h, fun h => by simp at h, fun h => by simp at h, fun h => by simp at h, fun h => by simp at h⟩
  · intro done a1 wq hfr hI hz hcl i hi
    have hlt : i < 20 := ready_lt hi
    have hz : done.size = 20 := hz
    have hds : ∀ d ∈ [29, 30, 31, 32, 33, 34], d < a.tmps.size := by rw [hsz]; decide
    have h180 : done.getD 18 false = true → ∀ j, j < 18 → done.getD j false = true := fun h j hj => hcl 18 _ rfl h ⟨j, .data⟩ (by
      rcases (by omega : j = 0 ∨ j = 1 ∨ j = 2 ∨ j = 3 ∨ j = 4 ∨ j = 5 ∨ j = 6 ∨ j = 7 ∨ j = 8 ∨ j = 9 ∨ j = 10 ∨ j = 11 ∨ j = 12 ∨ j = 13 ∨ j = 14 ∨ j = 15 ∨ j = 16 ∨ j = 17) with rfl | rfl | rfl | rfl | rfl | rfl | rfl | rfl | rfl | rfl | rfl | rfl | rfl | rfl | rfl | rfl | rfl | rfl <;> simp) rfl
    have h190 : ∀ k, k < 19 → done.getD k false = false → done.getD 19 false = false := fun k hk hu => by
      cases h19 : done.getD 19 false with
      | false => rfl
      | true =>
        have h18 := hcl 19 _ rfl h19 ⟨18, .data⟩ (by simp) rfl
        by_cases e : k = 18
        · subst e; rw [hu] at h18; cases h18
        · have := h180 h18 k (by omega)
          rw [hu] at this; cases this
    have hu : done.getD i false = false := getD_both (mem_ready.1 hi).1
    rcases (by omega : i = 0 ∨ i = 1 ∨ i = 2 ∨ i = 3 ∨ i = 4 ∨ i = 5 ∨ i = 6 ∨ i = 7 ∨ i = 8 ∨ i = 9 ∨ i = 10 ∨ i = 11 ∨ i = 12 ∨ i = 13 ∨ i = 14 ∨ i = 15 ∨ i = 16 ∨ i = 17 ∨ i = 18 ∨ i = 19) with rfl | rfl | rfl | rfl | rfl | rfl | rfl | rfl | rfl | rfl | rfl | rfl | rfl | rfl | rfl | rfl | rfl | rfl | rfl | rfl
    · -- makemap
      have hsz0 := hI.h0 hu
      refine fr_op (d := 29) (I := I2 W l) (v := .map (some wq.heap.size)) (w' := wq.alloc (.map #[] 0)) hfr (by decide) rfl (by simp [execOp, run_makeMap, Result.andThen]) ?_ hds
      intro s hd ho
      refine ⟨hI.bel.alloc hI.bel.size _, by rw [ho 1 (by decide)]; exact hI.h1, fun h => (by rw [getD_set_eq' (by omega)] at h; cases h), fun _ => ⟨by rw [hd, hsz0], 0, .map [], by rw [← hsz0]; exact World.ownsMap_made _ _ _ _, Nat.zero_le _, Good.empty⟩, fun h => ?_, fun h => ?_, fun h => ?_, fun h => ?_, fun h => ?_⟩
      · rw [getD_set_ne' (by decide)] at h; rw [ho 30 (by decide)]; exact hI.h30 h
      · rw [getD_set_ne' (by decide)] at h; rw [ho 31 (by decide)]; exact hI.h31 h
      · rw [getD_set_ne' (by decide)] at h; rw [ho 32 (by decide)]; exact hI.h32 h
      · rw [getD_set_ne' (by decide)] at h; rw [ho 33 (by decide)]; exact hI.h33 h
      · rw [getD_set_ne' (by decide), h190 0 (by decide) hu] at h; cases h
    · have h0 := (ready_at hi rfl).2 ⟨0, .data⟩ (by simp) rfl
      obtain ⟨w', hr, hI'⟩ := hI.ins (i := 1) (by omega) hu h0 (h190 1 (by decide) hu) (by decide) [] false (by decide) (by decide +kernel) hz
      exact inv_skip rfl rfl rfl (run_insert hr) ⟨hfr, hI'⟩
    · have h0 := (ready_at hi rfl).2 ⟨0, .data⟩ (by simp) rfl
      obtain ⟨w', hr, hI'⟩ := hI.ins (i := 2) (by omega) hu h0 (h190 2 (by decide) hu) (by decide) [46] false (by decide) (by decide +kernel) hz
      exact inv_skip rfl rfl rfl (run_insert hr) ⟨hfr, hI'⟩
    · have h0 := (ready_at hi rfl).2 ⟨0, .data⟩ (by simp) rfl
      obtain ⟨w', hr, hI'⟩ := hI.ins (i := 3) (by omega) hu h0 (h190 3 (by decide) hu) (by decide) [46, 46] false (by decide) (by decide +kernel) hz
      exact inv_skip rfl rfl rfl (run_insert hr) ⟨hfr, hI'⟩
    · have h0 := (ready_at hi rfl).2 ⟨0, .data⟩ (by simp) rfl
      obtain ⟨w', hr, hI'⟩ := hI.ins (i := 4) (by omega) hu h0 (h190 4 (by decide) hu) (by decide) [46, 46, 46] true (by decide) (by decide +kernel) hz
      exact inv_skip rfl rfl rfl (run_insert hr) ⟨hfr, hI'⟩
    · have h0 := (ready_at hi rfl).2 ⟨0, .data⟩ (by simp) rfl
      obtain ⟨w', hr, hI'⟩ := hI.ins (i := 5) (by omega) hu h0 (h190 5 (by decide) hu) (by decide) [46, 119, 104, 46] false (by decide) (by decide +kernel) hz
      exact inv_skip rfl rfl rfl (run_insert hr) ⟨hfr, hI'⟩
    · have h0 := (ready_at hi rfl).2 ⟨0, .data⟩ (by simp) rfl
      obtain ⟨w', hr, hI'⟩ := hI.ins (i := 6) (by omega) hu h0 (h190 6 (by decide) hu) (by decide) [46, 119, 104] true (by decide) (by decide +kernel) hz
      exact inv_skip rfl rfl rfl (run_insert hr) ⟨hfr, hI'⟩
    · have h0 := (ready_at hi rfl).2 ⟨0, .data⟩ (by simp) rfl
      obtain ⟨w', hr, hI'⟩ := hI.ins (i := 7) (by omega) hu h0 (h190 7 (by decide) hu) (by decide) [46, 119, 104, 120] true (by decide) (by decide +kernel) hz
      exact inv_skip rfl rfl rfl (run_insert hr) ⟨hfr, hI'⟩
    · have h0 := (ready_at hi rfl).2 ⟨0, .data⟩ (by simp) rfl
      obtain ⟨w', hr, hI'⟩ := hI.ins (i := 8) (by omega) hu h0 (h190 8 (by decide) hu) (by decide) [97, 47, 98] false (by decide) (by decide +kernel) hz
      exact inv_skip rfl rfl rfl (run_insert hr) ⟨hfr, hI'⟩
    · have h0 := (ready_at hi rfl).2 ⟨0, .data⟩ (by simp) rfl
      obtain ⟨w', hr, hI'⟩ := hI.ins (i := 9) (by omega) hu h0 (h190 9 (by decide) hu) (by decide) [97, 0] false (by decide) (by decide +kernel) hz
      exact inv_skip rfl rfl rfl (run_insert hr) ⟨hfr, hI'⟩
    · refine fr_op (d := 30) (I := I2 W l) hfr (by decide) rfl run_move ?_ hds
      intro s hd ho
      rw [show a1.eval (.tmp 1) = _ from hI.h1] at hd
      exact hI.val hd ho (by decide) (by decide) (by decide) (by omega) hu (by decide) (by decide) (by simp) (by simp) (by simp) (by simp)
    · have h0 := (ready_at hi rfl).2 ⟨0, .data⟩ (by simp) rfl
      have hk := hI.h30 ((ready_at hi rfl).2 ⟨10, .data⟩ (by simp) rfl)
      obtain ⟨w', hr, hI'⟩ := hI.ins (i := 11) (by omega) hu h0 (h190 11 (by decide) hu) (by decide) l true (by omega) hn.1 hz
      exact inv_skip rfl rfl rfl (run_insert (by rw [show a1.eval (.tmp 30) = _ from hk]; exact hr)) ⟨hfr, hI'⟩
    · refine fr_op (d := 31) (I := I2 W l) hfr (by decide) rfl run_move ?_ hds
      intro s hd ho
      rw [show a1.eval (.tmp 1) = _ from hI.h1] at hd
      exact hI.val hd ho (by decide) (by decide) (by decide) (by omega) hu (by decide) (by decide) (by simp) (by simp) (by simp) (by simp)
    · have hk := hI.h31 ((ready_at hi rfl).2 ⟨12, .data⟩ (by simp) rfl)
      refine fr_op (d := 32) (I := I2 W l) (v := .string ⟨(l ++ [110]).toArray⟩) (w' := wq) hfr (by decide) rfl ?_ ?_ hds
      · unfold execOp
        simp only [show a1.eval (.tmp 31) = _ from hk, show a1.eval (.const (.string ⟨#[110]⟩)) = .string ⟨#[110]⟩ from rfl]
        have := run_cat (P := Tryd.prog) l [110] (by simp; omega) wq
        simp [binOp, eqGuard, Result.andThen, this]
      intro s hd ho
      exact hI.val hd ho (by decide) (by decide) (by decide) (by omega) hu (by decide) (by decide) (by simp) (by simp) (by simp) (by simp)
    · have h0 := (ready_at hi rfl).2 ⟨0, .data⟩ (by simp) rfl
      have hk := hI.h32 ((ready_at hi rfl).2 ⟨13, .data⟩ (by simp) rfl)
      obtain ⟨w', hr, hI'⟩ := hI.ins (i := 14) (by omega) hu h0 (h190 14 (by decide) hu) (by decide) (l ++ [110]) false (by rw [List.length_append, hl]; decide) hn.2 hz
      exact inv_skip rfl rfl rfl (run_insert (by rw [show a1.eval (.tmp 32) = _ from hk]; exact hr)) ⟨hfr, hI'⟩
    · have h0 := (ready_at hi rfl).2 ⟨0, .data⟩ (by simp) rfl
      obtain ⟨w', hr, hI'⟩ := hI.ins (i := 15) (by omega) hu h0 (h190 15 (by decide) hu) (by decide) [255] true (by decide) kn_n.2.2.1 hz
      exact inv_skip rfl rfl rfl (run_insert hr) ⟨hfr, hI'⟩
    · have h0 := (ready_at hi rfl).2 ⟨0, .data⟩ (by simp) rfl
      obtain ⟨w', hr, hI'⟩ := hI.ins (i := 16) (by omega) hu h0 (h190 16 (by decide) hu) (by decide) [32] true (by decide) kn_n.2.2.2.1 hz
      exact inv_skip rfl rfl rfl (run_insert hr) ⟨hfr, hI'⟩
    · have h0 := (ready_at hi rfl).2 ⟨0, .data⟩ (by simp) rfl
      obtain ⟨w', hr, hI'⟩ := hI.ins (i := 17) (by omega) hu h0 (h190 17 (by decide) hu) (by decide) [46, 119, 104, 46, 120] false (by decide) kn_n.2.2.2.2 hz
      exact inv_skip rfl rfl rfl (run_insert hr) ⟨hfr, hI'⟩
    · have h0 := (ready_at hi rfl).2 ⟨0, .data⟩ (by simp) rfl
      have hk := (hI.h29 h0).1
      refine fr_op (d := 33) (I := I2 W l) hfr (by decide) rfl run_move ?_ hds
      intro s hd ho
      rw [show a1.eval (.tmp 29) = _ from hk] at hd
      exact hI.val hd ho (by decide) (by decide) (by decide) (by omega) hu (by decide) (by decide) (by simp) (by simp) (by simp) (by simp)
    · have h18 := (ready_at hi rfl).2 ⟨18, .data⟩ (by simp) rfl
      have hk := hI.h33 h18
      obtain ⟨h29, n, D, hown, hnn, hg⟩ := hI.h29 (h180 h18 0 (by decide))
      obtain ⟨w', hrun, hrg, hgr, hsz'⟩ := hown.range lawS Tryd.underlying41
      refine fr_op (d := 34) (I := I2 W l) (v := .pointer (some ⟨wq.heap.size, 0, none⟩)) (w' := w') hfr (by decide) rfl ?_ ?_ hds
      · unfold execOp
        simp only [show a1.eval (.tmp 33) = _ from hk, Sem.run_bind, hrun, Result.andThen_ok, Sem.run_pure]
      intro s hd ho
      have hb2 : Below wq.heap.size wq w' := ⟨hgr.os, hgr.tape, hgr.output, hgr.size, fun j hj => hgr.block j hj (by simp)⟩
      refine ⟨hI.bel.trans (hb2.mono hI.bel.size), by rw [ho 1 (by decide)]; exact hI.h1, fun h => ?_, fun _ => ⟨by rw [ho 29 (by decide)]; exact h29, n, D, hown.kept hgr (by simp), by rw [cnt_set (by omega) hu]; omega, hg⟩, fun h => ?_, fun h => ?_, fun h => ?_, fun h => ?_, fun _ => ⟨_, n, D, _, _, hd, hI.bel.size, hg, hrg⟩⟩
      · rw [getD_set_ne' (by decide), h180 h18 0 (by decide)] at h; cases h
      · rw [getD_set_ne' (by decide)] at h; rw [ho 30 (by decide)]; exact hI.h30 h
      · rw [getD_set_ne' (by decide)] at h; rw [ho 31 (by decide)]; exact hI.h31 h
      · rw [getD_set_ne' (by decide)] at h; rw [ho 32 (by decide)]; exact hI.h32 h
      · rw [ho 33 (by decide)]; exact hk
  · intro done a1 w1 ha hI hz hr
    have had := all_done (by kernel_rfl) hz hr
    exact he a1 w1 ha hI.bel (hI.h29 (had 0 (by decide))).1 (hI.h30 (had 10 (by decide))) (hI.h31 (had 12 (by decide))) (hI.h32 (had 13 (by decide))) (hI.h33 (had 18 (by decide))) (hI.h34 (had 19 (by decide)))
end Go.Proofs.YtkijhaibcnhedaaDoor
