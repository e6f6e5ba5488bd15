/- pax: Put's loop. -/
import Derived.Test.YtlhjehcfpnjbmaaDoorPaxPut
import Derived.Test.YtlhjehcfpnjbmaaDoorGen2
namespace Go.Proofs.YtlhjehcfpnjbmaaDoor
open Go.RowKit
theorem putT_take_le (l : List R2) (i : Nat) : (putT (l.take i)).length ≤ (putT l).length := by
  conv => rhs; rw [← List.take_append_drop i l]
  rw [putT_append, List.length_append]; omega
theorem Hp.drop2 {M : Nat → Prop} {w wr : World} {A B C D : As} (h : Hp M w wr [A, B, C, D]) : Hp M w wr [A, B] := by
  refine ⟨h.c, fun X hX => h.p X (by simp at hX ⊢; rcases hX with h | h <;> simp [h]), fun i j X Y hi hj => ?_⟩
  have up : ∀ (i : Nat) (X : As), [A, B][i]? = some X → [A, B, C, D][i]? = some X := by
    intro i X hi
    match i, hi with
    | 0, hi => exact hi
    | 1, hi => exact hi
    | (i + 2), hi => simp at hi
  exact h.d i j X Y (up i X hi) (up j Y hj)
theorem Hp.drop1 {M : Nat → Prop} {w wr : World} {A B : As} (h : Hp M w wr [A, B]) : Hp M w wr [A] := by
  refine ⟨h.c, fun X hX => h.p X (by simp at hX ⊢; simp [hX]), fun i j X Y hi hj => ?_⟩
  have up : ∀ (i : Nat) (X : As), [A][i]? = some X → [A, B][i]? = some X := by
    intro i X hi
    match i, hi with
    | 0, hi => exact hi
    | (i + 1), hi => simp at hi
  exact h.d i j X Y (up i X hi) (up j Y hj)
theorem byteCells_eq (l : List UInt8) : Lib.byteCells l = bcells l := rfl
theorem Hp.remade {w wr w' : World} {e ty : TypeId} {v v' : Value} {l l' : List UInt8} {b : Nat} {c : Array Value} (h : Hp NoM w wr [byA w.heap.size e v l, rowA b ty c]) (hty : ty ≠ e)
    (ho : Owns w' w.heap.size e v' l') (hb : Below w.heap.size wr w') (hk : Lib.OthersKept e none wr w') : Hp NoM w w' [byA w.heap.size e v' l', rowA b ty c] := by
  have hrow := h.row 1 rfl
  have hnb := h.new 1 rfl (b := b) rfl
  have hrow' : Row w' b ty c := hk b _ hrow (by simp) (fun c' fz e' => by injection e' with _ e' _; exact hty e')
  have hne : ∀ g, v'.ownBlock = some g → g ≠ b := by
    intro g hg e'
    subst e'
    rcases ho.2 with ⟨rfl, _⟩ | ⟨g', cap, cur, rfl, _, hgg, _⟩
    · simp [Value.ownBlock] at hg
    · simp [Value.ownBlock] at hg
      subst hg
      have : w'.heap[g']? = some (.cells c ty (0, 0)) := hrow'
      rw [hgg] at this
      injection this with this
      injection this with _ this _
      exact hty this.symm
  refine ⟨.of_below (h.below.trans hb), ?_, ?_⟩
  · intro A hA
    rcases List.mem_cons.1 hA with rfl | hA
    · exact ⟨ho, fun g hg => ⟨.inl (ho.lt g hg).1, (ho.lt g hg).2⟩⟩
    · obtain rfl := List.mem_singleton.1 hA
      exact ⟨hrow', fun g hg => by have hg : g = b := hg; subst hg; exact ⟨.inl hnb.1, hrow'.lt⟩⟩
  · intro i j A1 A2 h1 h2 g e1 e2
    match i, j, h1, h2 with
    | 0, 0, _, _ => rfl
    | 1, 1, _, _ => rfl
    | 0, 1, h1, h2 =>
      injection h1 with h1; injection h2 with h2; subst h1 h2
      exact (hne g e1 e2).elim
    | 1, 0, h1, h2 =>
      injection h1 with h1; injection h2 with h2; subst h1 h2
      exact (hne g e2 e1).elim
    | (i + 2), _, h1, _ => simp at h1
    | _, (j + 2), _, h2 => simp at h2
theorem slB' : SlTy Tryd.prog 23 5 (.int .u8 0) 1 := SlTy.mk' Tryd.underlying23 (by kernel_rfl) rfl
/-- what holds within the region that lays the blank, the key and = -/
structure R11 (w : World) (v4 : Value) (T0 k v : List UInt8) (b6 : Nat) (d0 d1 d2 d3 d4 d5 d6 d7 d8 : Bool) (s : Nat → Value) (wx : World) : Prop where
  hp : Hp NoM w wx [byA w.heap.size 5 (if d7 then s 33 else if d5 then s 31 else if d2 then s 28 else v4) (if d7 then T0 ++ [32] ++ k ++ [61] else if d5 then T0 ++ [32] ++ k else if d2 then T0 ++ [32] else T0),
          rowA b6 33 #[.string ⟨k.toArray⟩, .string ⟨v.toArray⟩],
          if d1 then rowA (blkOf (s 27)) 5 #[.int .u8 32] else noA,
          if d6 then rowA (blkOf (s 32)) 5 #[.int .u8 61] else noA]
  h27 : d1 = true → s 27 = .slice (some ⟨blkOf (s 27), 0, none⟩) 1 1
  h32 : d6 = true → s 32 = .slice (some ⟨blkOf (s 32), 0, none⟩) 1 1
  h26 : d0 = true → s 26 = v4
  h29 : d3 = true → s 29 = .pointer (some ⟨b6, 0, none⟩)
  h30 : d4 = true → s 30 = .string ⟨k.toArray⟩
  h6 : s 6 = .pointer (some ⟨b6, 0, none⟩)
  h4 : s 4 = if d8 then s 33 else v4
theorem R11.ext {w wx : World} {v4 : Value} {T0 k v : List UInt8} {b6 : Nat} {d0 d1 d2 d3 d4 d5 d6 d7 d8 : Bool} {s s' : Nat → Value} (h : R11 w v4 T0 k v b6 d0 d1 d2 d3 d4 d5 d6 d7 d8 s wx)
    (hs : ∀ j, j = 4 ∨ j = 6 ∨ (26 ≤ j ∧ j ≤ 33) → s' j = s j) : R11 w v4 T0 k v b6 d0 d1 d2 d3 d4 d5 d6 d7 d8 s' wx := by
  obtain ⟨a1, a2, a3, a4, a5, a6, a7, a8⟩ := h
  have e4 := hs 4 (by omega); have e6 := hs 6 (by omega); have e26 := hs 26 (by omega); have e27 := hs 27 (by omega); have e28 := hs 28 (by omega); have e29 := hs 29 (by omega)
  have e30 := hs 30 (by omega); have e31 := hs 31 (by omega); have e32 := hs 32 (by omega); have e33 := hs 33 (by omega)
  exact ⟨by rw [e33, e31, e28, e27, e32]; exact a1, by rw [e27]; exact a2, by rw [e32]; exact a3, by rw [e26]; exact a4, by rw [e29]; exact a5, by rw [e30]; exact a6, by rw [e6]; exact a7, by rw [e4, e33]; exact a8⟩
def I11 (w : World) (v4 : Value) (T0 k v : List UInt8) (b6 : Nat) (d : Array Bool) (s : Nat → Value) (wx : World) : Prop :=
  R11 w v4 T0 k v b6 (d.getD 0 false) (d.getD 1 false) (d.getD 2 false) (d.getD 3 false) (d.getD 4 false) (d.getD 5 false) (d.getD 6 false) (d.getD 7 false) (d.getD 8 false) s wx
set_option maxHeartbeats 1000000 in
set_option maxRecDepth 100000 in
theorem put_ok (sv : Value) (l : List R2) (B : Nat) (w : World) (hl : l.length ≤ 1000000) (hr : RdV w (· < w.heap.size) 2 sv l.length (rcells l)) (hB : B ≤ w.heap.size) (hT : Pow B w)
    (hm : mayL l = true) (hb : (putT l).length ≤ 16777216) (hv : ∀ p ∈ l, p.2.length ≤ 16777216) :
    Calls Tryd.prog 9 #[sv] w fun e w' => ∃ v', e = .returned (.tuple #[v', .int .i64 0]) ∧ Owns w' w.heap.size 5 v' (putT l) ∧ Below w.heap.size w w' := by
  have HC := Keep.keep (cfun_any sv l w hl hr)
  rw [show (!l.all fun p => mayK p.1) = false by rw [show (l.all fun p => mayK p.1) = true from hm]; rfl] at HC
  obtain ⟨a, cap, rfl, hcap, hmx, hsh⟩ := hr.shape
  have HR := Keep.keep hr; have HSH := Keep.keep hsh; have HT := Keep.keep hT; have HBB := Keep.keep hB; have HM := Keep.keep hm; have HV := Keep.keep hv; have HLN := Keep.keep hb
  clear hr hsh hT hB hm hb hv
  go_enter Tryd.func9, Tryd.ntmps9
  go_wp2_with (go_at_call 21; ((with_reducible refine HC.out.mono ?_); rintro e w1 ⟨rfl, hb1⟩))
  have HB1 := Keep.keep hb1
  clear hb1
  go_loopg [4, 6, 7, 12] l.length (fun g v4 _ _ u wx => ∃ i : Nat, i + g = l.length ∧ u = .int .i64 (i : Int) ∧ Hp NoM w wx [byA w.heap.size 5 v4 (putT (l.take i))])
  case atStart => exact ⟨0, by omega, rfl, ((Hp.begin NoM w).call HB1.out).nilB _ _⟩
  case round =>
    obtain ⟨i, hig, rfl, hH⟩ := hrel
    have HH := Keep.keep hH
    clear hH
    cases gk with
    | zero =>
      obtain rfl : i = l.length := by omega
      go_wp2_with fail
      go_ret2
      refine ⟨_, rfl, ?_, HH.out.below⟩
      have := HH.out.bs 0 rfl
      rwa [List.take_length] at this
    | succ g =>
      have hi : i < l.length := by omega
      obtain ⟨p, hp⟩ : ∃ p, l[i]? = some p := ⟨l[i], List.getElem?_eq_getElem hi⟩
      rcases HSH.out with ⟨rfl, hc0⟩ | ⟨b, off, rfl, hlt⟩
      · omega
      obtain ⟨hc0, hc1⟩ := (HR.out.below HH.out.below (fun _ h => h)).recAt hp
      have HPP := Keep.keep hp
      obtain ⟨k, v⟩ := p
      clear hp
      have HKV : Keep (v.length ≤ 16777216) := ⟨HV.out (k, v) (List.mem_of_getElem? HPP.out)⟩
      have hmk : mayK k = true := (List.all_eq_true.1 HM.out) (k, v) (List.mem_of_getElem? HPP.out)
      have hsz1 : szR k v ≤ 1000000000000000000 := by
        have h1 := HKV.out
        have h2 : k.length ≤ 255 := by
          have := hmk
          simp only [mayK, Bool.and_eq_true, decide_eq_true_eq] at this
          exact this.1.2
        unfold szR; omega
      have hrl := recT_length k v hmk hsz1
      have htk : putT (l.take (i + 1)) = putT (l.take i) ++ recT k v := by
        rw [List.take_add_one, HPP.out, putT_append]; simp [putT]
      have hle := putT_take_le l (i + 1)
      have hmx2 := HLN.out
      rw [htk, List.length_append, hrl] at hle
      have HTK := Keep.keep htk
      have HRD : Keep (recT k v = Lib.decDigits (sz k v) ++ 32 :: (k ++ 61 :: (v ++ [10]))) := ⟨rfl⟩
      have HRL := Keep.keep hrl
      have hszle : sz k v ≤ 16777216 := by omega
      clear hmk hsz1 hrl htk
      generalize hbs : putT (l.take i) = bs at *
      clear hbs
      obtain ⟨⟨a4, c4, rfl, -, -, -⟩, -⟩ := (HH.out.bs 0 rfl).reads
      have hgt : decide ((16777216 : Int) < (bs.length : Int) + ((sz k v : Nat) : Int)) = false := decide_eq_false (by omega)
      have HSZ := Keep.keep (fun (wx : World) (h : Below w.heap.size w wx) => size_any k v (by have := HKV.out; omega) B wx (Nat.le_trans HBB.out h.size) (HT.out.on (h.mono HBB.out)))
      have HAI := Keep.keep (fun (wx : World) (v4 : Value) (h : Below w.heap.size w wx) (ho : Owns wx w.heap.size 5 v4 bs) =>
        Tryd.strconv_AppendInt_10 w.heap.size bs.length ((sz k v : Nat) : Int) (by omega) (by omega) v4 (bcells bs) wx ho h.size (by omega) (fun w' hb => HT.out w' ((h.mono HBB.out).trans (hb.mono HBB.out))))
      rw [itoa_nat] at HAI
      generalize sz k v = n at *
      go_wp2_with fail
      refine calls_at (R := fun w2 => Hp NoM w w2 [byA w.heap.size 5 (.slice a4 bs.length c4) bs, rowA wr.heap.size 33 #[.string ⟨k.toArray⟩, .string ⟨v.toArray⟩]]) (HH.out.newRow _ _) ?_
      intro w2 H2
      generalize wr.heap.size = b6 at *
      refine (HSZ.out w2 H2.out.below).mono ?_
      rintro e w3 ⟨rfl, hb3⟩
      have H3 := Keep.keep (H2.out.call hb3)
      clear hb3 hc0 hc1
      go_wp2_with fail
      refine (HAI.out w3 _ H3.out.below (H3.out.bs 0 rfl)).mono ?_
      rintro e w4 ⟨v4, rfl, ho4, hb4, hk4⟩
      have ho4 : Owns w4 w.heap.size 5 v4 (bs ++ Lib.decDigits n) := by
        unfold Owns; rw [List.length_append, bcells_append]; exact ho4
      have H4 := Keep.keep (H3.out.remade (by decide) ho4 hb4 hk4)
      clear ho4 hb4 hk4
      go_wp2_with fail
      have hT0 : bs.length + (Lib.decDigits n).length + k.length + v.length + 3 ≤ 16777216 := by
        have h1 := HRL.out
        rw [HRD.out] at h1
        simp at h1
        omega
      have HT0 := Keep.keep hT0
      refine wp_region_fr [26, 27, 28, 29, 30, 31, 32, 33, 4] (I11 w v4 (bs ++ Lib.decDigits n) k v b6) (by kernel_rfl) ?_ ?_ ?_
      · exact ⟨(H4.out.drew.pushNo).pushNo, fun h => (by simp at h), fun h => (by simp at h), fun h => (by simp at h), fun h => (by simp at h), fun h => (by simp at h), rfl, rfl⟩
      · intro d a1 wx hfr hI hsz hcl i hi
        obtain ⟨d0, d1, d2, d3, d4, d5, d6, d7, d8, rfl⟩ := arr9 d hsz
        have hlt := ready_lt hi
        have HI : R11 w v4 (bs ++ Lib.decDigits n) k v b6 d0 d1 d2 d3 d4 d5 d6 d7 d8 (slot a1) wx := hI
        have c5 : d5 = true → d2 = true := fun h => hcl 5 _ rfl h _ (List.mem_toArray.2 (List.mem_cons_self)) rfl
        have c7 : d7 = true → d5 = true := fun h => hcl 7 _ rfl h _ (List.mem_toArray.2 (List.mem_cons_self)) rfl
        have c8 : d8 = true → d0 = true := fun h => hcl 8 _ rfl h ⟨0, .phase⟩ (by simp) rfl
        have c87 : d8 = true → d7 = true := fun h => hcl 8 _ rfl h ⟨7, .data⟩ (by simp) rfl
        clear hI hcl
        have hds : ∀ d ∈ [26, 27, 28, 29, 30, 31, 32, 33, 4], d < 42 := by decide
        simp only [List.size_toArray, List.length_cons, List.length_nil] at hlt
        rcases (by omega : i = 0 ∨ i = 1 ∨ i = 2 ∨ i = 3 ∨ i = 4 ∨ i = 5 ∨ i = 6 ∨ i = 7 ∨ i = 8) with rfl | rfl | rfl | rfl | rfl | rfl | rfl | rfl | rfl
        · have hr := ready_at hi rfl
          have r0 : d0 = false := hr.1
          subst r0
          have r8 : d8 = false := by cases d8 <;> simp_all
          subst r8
          have h4 : a1.eval (.tmp 4) = v4 := HI.h4
          refine fr_op (d := 26) (I := I11 w v4 (bs ++ Lib.decDigits n) k v b6) hfr (by decide) rfl run_move ?_ hds
          intro s hd ho
          rw [h4] at hd
          have HN : R11 w v4 (bs ++ Lib.decDigits n) k v b6 true d1 d2 d3 d4 d5 d6 d7 false (fun j => if j = 26 then v4 else slot a1 j) wx := ⟨HI.hp, HI.h27, HI.h32, fun _ => rfl, HI.h29, HI.h30, HI.h6, HI.h4⟩
          exact HN.ext (fun j _ => by by_cases e : j = 26 <;> simp [e, hd, ho])
        · have hr := ready_at hi rfl
          have r0 : d1 = false := hr.1
          subst r0
          refine fr_op (d := 27) (I := I11 w v4 (bs ++ Lib.decDigits n) k v b6) hfr (by decide) rfl (run_build1 (slTy_slK slB') (by decide) rfl) ?_ hds
          intro s hd ho
          have hu := HI.hp.upd 2 rfl (rowA wx.heap.size 5 #[.int .u8 32]) (.of_below ((Below.refl _ _).alloc (Nat.le_refl _) _)) (Row.new wx 5 _) (fun b hb => .inr (by have hb : b = _ := hb; subst hb; simp))
          have HN : R11 w v4 (bs ++ Lib.decDigits n) k v b6 d0 true d2 d3 d4 d5 d6 d7 d8 (fun j => if j = 27 then .slice (some ⟨wx.heap.size, 0, none⟩) 1 1 else slot a1 j) (wx.alloc (.cells #[.int .u8 32] 5)) := ⟨hu, fun _ => rfl, HI.h32, HI.h26, HI.h29, HI.h30, HI.h6, HI.h4⟩
          exact HN.ext (fun j _ => by by_cases e : j = 27 <;> simp [e, hd, ho])
        · have hr := ready_at hi rfl
          have r2 : d2 = false := hr.1
          have r0 : d0 = true := hr.2 ⟨0, .data⟩ (by simp) rfl
          have r1 : d1 = true := hr.2 ⟨1, .data⟩ (by simp) rfl
          subst r2 r0 r1
          have r5 : d5 = false := by cases d5 <;> simp_all
          subst r5
          have r7 : d7 = false := by cases d7 <;> simp_all
          subst r7
          obtain ⟨v', w', hrun, ho', hg', hb'⟩ := run_appB (ρ := a1.eval) (d := some 28) (s := .tmp 26) (x := .tmp 27) slB' (HI.hp.bs 0 rfl) (reads_row1 (c := 32) (N := fun _ => True) (HI.hp.row 2 rfl) trivial) (by have := HT0.out; simp; omega) HI.hp.size (HI.h26 rfl) (HI.h27 rfl)
          refine fr_op (d := 28) (I := I11 w v4 (bs ++ Lib.decDigits n) k v b6) hfr (by decide) rfl hrun ?_ hds
          intro s hd ho
          have hu := HI.hp.growB 0 rfl hg' ho' hb'
          have HN : R11 w v4 (bs ++ Lib.decDigits n) k v b6 true true true d3 d4 false d6 false d8 (fun j => if j = 28 then v' else slot a1 j) w' := ⟨hu, HI.h27, HI.h32, HI.h26, HI.h29, HI.h30, HI.h6, HI.h4⟩
          exact HN.ext (fun j _ => by by_cases e : j = 28 <;> simp [e, hd, ho])
        · have hr := ready_at hi rfl
          refine fr_op (d := 29) (I := I11 w v4 (bs ++ Lib.decDigits n) k v b6) hfr (by decide) rfl (run_fieldAddr (m := 0) Tryd.underlying33 rfl (by kernel_rfl) HI.h6) ?_ hds
          intro s hd ho
          have HN : R11 w v4 (bs ++ Lib.decDigits n) k v b6 d0 d1 d2 true d4 d5 d6 d7 d8 (fun j => if j = 29 then .pointer (some ⟨b6, 0, none⟩) else slot a1 j) wx := ⟨HI.hp, HI.h27, HI.h32, HI.h26, fun _ => rfl, HI.h30, HI.h6, HI.h4⟩
          exact HN.ext (fun j _ => by by_cases e : j = 29 <;> simp [e, hd, ho])
        · have hr := ready_at hi rfl
          have r3 : d3 = true := hr.2 ⟨3, .data⟩ (by simp) rfl
          refine fr_op (d := 30) (I := I11 w v4 (bs ++ Lib.decDigits n) k v b6) hfr (by decide) rfl (run_loadCell (run_isAgg_plain Tryd.underlying9 rfl) ((HI.hp.row 1 rfl).cell (i := 0) rfl) (HI.h29 r3)) ?_ hds
          intro s hd ho
          have HN : R11 w v4 (bs ++ Lib.decDigits n) k v b6 d0 d1 d2 d3 true d5 d6 d7 d8 (fun j => if j = 30 then .string ⟨k.toArray⟩ else slot a1 j) wx := ⟨HI.hp, HI.h27, HI.h32, HI.h26, HI.h29, fun _ => rfl, HI.h6, HI.h4⟩
          exact HN.ext (fun j _ => by by_cases e : j = 30 <;> simp [e, hd, ho])
        · have hr := ready_at hi rfl
          have r5 : d5 = false := hr.1
          have r2 : d2 = true := hr.2 ⟨2, .data⟩ (by simp) rfl
          have r4 : d4 = true := hr.2 ⟨4, .data⟩ (by simp) rfl
          subst r5 r2 r4
          have r7 : d7 = false := by cases d7 <;> simp_all
          subst r7
          obtain ⟨v', w', hrun, ho', hg', hb'⟩ := run_appS (ρ := a1.eval) (d := some 31) (s := .tmp 28) (x := .tmp 30) slB' Tryd.underlying9 (HI.hp.bs 0 rfl) (m := k) (by have := HT0.out; simp; omega) HI.hp.size rfl (HI.h30 rfl)
          refine fr_op (d := 31) (I := I11 w v4 (bs ++ Lib.decDigits n) k v b6) hfr (by decide) rfl hrun ?_ hds
          intro s hd ho
          have hu := HI.hp.growB 0 rfl hg' ho' hb'
          have HN : R11 w v4 (bs ++ Lib.decDigits n) k v b6 d0 d1 true d3 true true d6 false d8 (fun j => if j = 31 then v' else slot a1 j) w' := ⟨hu, HI.h27, HI.h32, HI.h26, HI.h29, HI.h30, HI.h6, HI.h4⟩
          exact HN.ext (fun j _ => by by_cases e : j = 31 <;> simp [e, hd, ho])
        · have hr := ready_at hi rfl
          have r0 : d6 = false := hr.1
          subst r0
          refine fr_op (d := 32) (I := I11 w v4 (bs ++ Lib.decDigits n) k v b6) hfr (by decide) rfl (run_build1 (slTy_slK slB') (by decide) rfl) ?_ hds
          intro s hd ho
          have hu := HI.hp.upd 3 rfl (rowA wx.heap.size 5 #[.int .u8 61]) (.of_below ((Below.refl _ _).alloc (Nat.le_refl _) _)) (Row.new wx 5 _) (fun b hb => .inr (by have hb : b = _ := hb; subst hb; simp))
          have HN : R11 w v4 (bs ++ Lib.decDigits n) k v b6 d0 d1 d2 d3 d4 d5 true d7 d8 (fun j => if j = 32 then .slice (some ⟨wx.heap.size, 0, none⟩) 1 1 else slot a1 j) (wx.alloc (.cells #[.int .u8 61] 5)) := ⟨hu, HI.h27, fun _ => rfl, HI.h26, HI.h29, HI.h30, HI.h6, HI.h4⟩
          exact HN.ext (fun j _ => by by_cases e : j = 32 <;> simp [e, hd, ho])
        · have hr := ready_at hi rfl
          have r7 : d7 = false := hr.1
          have r5 : d5 = true := hr.2 ⟨5, .data⟩ (by simp) rfl
          have r6 : d6 = true := hr.2 ⟨6, .data⟩ (by simp) rfl
          subst r7 r5 r6
          have r8 : d8 = false := by cases d8 <;> simp_all
          subst r8
          obtain ⟨v', w', hrun, ho', hg', hb'⟩ := run_appB (ρ := a1.eval) (d := some 33) (s := .tmp 31) (x := .tmp 32) slB' (HI.hp.bs 0 rfl) (reads_row1 (c := 61) (N := fun _ => True) (HI.hp.row 3 rfl) trivial) (by have := HT0.out; simp; omega) HI.hp.size rfl (HI.h32 rfl)
          refine fr_op (d := 33) (I := I11 w v4 (bs ++ Lib.decDigits n) k v b6) hfr (by decide) rfl hrun ?_ hds
          intro s hd ho
          have hu := HI.hp.growB 0 rfl hg' ho' hb'
          have HN : R11 w v4 (bs ++ Lib.decDigits n) k v b6 d0 d1 d2 d3 d4 true true true false (fun j => if j = 33 then v' else slot a1 j) w' := ⟨hu, HI.h27, HI.h32, HI.h26, HI.h29, HI.h30, HI.h6, HI.h4⟩
          exact HN.ext (fun j _ => by by_cases e : j = 33 <;> simp [e, hd, ho])
        · have hr := ready_at hi rfl
          refine fr_op (d := 4) (I := I11 w v4 (bs ++ Lib.decDigits n) k v b6) hfr (by decide) rfl run_assign ?_ hds
          intro s hd ho
          have HN : R11 w v4 (bs ++ Lib.decDigits n) k v b6 d0 d1 d2 d3 d4 d5 d6 d7 true (fun j => if j = 4 then slot a1 33 else slot a1 j) wx := ⟨HI.hp, HI.h27, HI.h32, HI.h26, HI.h29, HI.h30, HI.h6, rfl⟩
          exact HN.ext (fun j _ => by by_cases e : j = 4 <;> simp [e, hd, ho, eval_slot])
      · intro d a1 wx ha hI hsz hr
        have had := all_done (by kernel_rfl) hsz hr
        obtain ⟨d0, d1, d2, d3, d4, d5, d6, d7, d8, rfl⟩ := arr9 d hsz
        have HI : R11 w v4 (bs ++ Lib.decDigits n) k v b6 d0 d1 d2 d3 d4 d5 d6 d7 d8 (slot a1) wx := hI
        obtain rfl : d7 = true := had 7 (by simp)
        obtain rfl : d8 = true := had 8 (by simp)
        have h4 : slot a1 4 = slot a1 33 := HI.h4
        have H5 : Keep (Hp NoM w wx [byA w.heap.size 5 (slot a1 33) (bs ++ Lib.decDigits n ++ [32] ++ k ++ [61]), rowA b6 33 #[.string ⟨k.toArray⟩, .string ⟨v.toArray⟩]]) := ⟨HI.hp.drop2⟩
        clear hI had hr HI hsz
        simp only [List.foldl_cons, List.foldl_nil, h4] at ha
        generalize slot a1 26 = x26 at *
        generalize slot a1 27 = x27 at *
        generalize slot a1 28 = x28 at *
        generalize slot a1 29 = x29 at *
        generalize slot a1 30 = x30 at *
        generalize slot a1 31 = x31 at *
        generalize slot a1 32 = x32 at *
        generalize slot a1 33 = x33 at *
        clear h4
        subst ha
        simp only [Act.put, List.setIfInBounds_toArray, List.set_cons_succ, List.set_cons_zero]
        have hc6 := (H5.out.row 1 rfl).cell (i := 1) rfl
        go_wp2_with (with_reducible refine arm_stop ?_)
        refine Stopped.out ?_
        refine arm_appendS slB' Tryd.underlying9 (H5.out.bs 0 rfl) (m := v) (by have := HT0.out; simp; omega) H5.out.size rfl rfl ?_
        intro v6 w6 ho6 hg6 hb6
        have H6 := Keep.keep (H5.out.growB 0 rfl hg6 ho6 hb6)
        clear ho6 hg6 hb6 hc6
        simp only [Act.put, List.setIfInBounds_toArray, List.set_cons_succ, List.set_cons_zero]
        go_wp2_with (with_reducible refine arm_stop ?_)
        refine Stopped.out ?_
        refine arm_append slB' ((H6.out.alloc _).bs 0 rfl) (Reads.one w6 _ _ 10 rfl _ rfl) (by have := HT0.out; simp; omega) (H6.out.alloc _).size rfl rfl ?_
        intro v7 w7 ho7 hg7 hb7
        have H7 := Keep.keep ((H6.out.alloc _).growB 0 rfl hg7 ho7 hb7)
        clear ho7 hg7 hb7
        simp only [Act.put, List.setIfInBounds_toArray, List.set_cons_succ, List.set_cons_zero]
        go_wp2_with fail
        go_roundg g
        case measure => omega
        case rel =>
          refine ⟨i + 1, by omega, by simp, ?_⟩
          have h8 := H7.out.drop1
          rw [HTK.out, HRD.out]
          have e : bs ++ Lib.decDigits n ++ [32] ++ k ++ [61] ++ v ++ [10] = bs ++ (Lib.decDigits n ++ 32 :: (k ++ 61 :: (v ++ [10]))) := by simp
          rw [← e]
          exact h8
set_option maxHeartbeats 1000000 in
set_option maxRecDepth 100000 in
theorem put_bad (sv : Value) (l : List R2) (w : World) (hl : l.length ≤ 1000000) (hr : RdV w (· < w.heap.size) 2 sv l.length (rcells l)) (hm : mayL l = false) :
    Calls Tryd.prog 9 #[sv] w fun e w' => e = .returned (.tuple #[.slice none 0 0, .int .i64 1]) ∧ Below w.heap.size w w' := by
  have HC := Keep.keep (cfun_any sv l w hl hr)
  rw [show (!l.all fun p => mayK p.1) = true by rw [show (l.all fun p => mayK p.1) = false from hm]; rfl] at HC
  clear hr hm
  go_enter Tryd.func9, Tryd.ntmps9
  go_wp2_with (go_at_call 21; ((with_reducible refine HC.out.mono ?_); rintro e w1 ⟨rfl, hb1⟩))
  go_ret2
  exact ⟨rfl, hb1⟩
end Go.Proofs.YtlhjehcfpnjbmaaDoor
