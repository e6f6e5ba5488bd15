/- PARTS OF ONE PROOF, set in one file: RefSame, DtOne, DtTold, DtOf, DtSpoil, DfCost, TreeSame, DifferChain. Each part tells its own conditions. -/
import Derived.Test.YtmnknmpfkjhgbaaGreatDoorY6
/- portolanref12.Same; portolanlaw12.Alike: Members set side by side. -/
namespace Go.Proofs.YtmnknmpfkjhgbaaGreatDoor
open Go.RowKit
set_option maxHeartbeats 4000000 in
set_option maxRecDepth 100000 in
theorem same_ref (a b : Mb) (av dv bv ev : Value) (w : World) (ha : NdR w (· < w.heap.size) a.2 av dv) (hb : NdR w (· < w.heap.size) b.2 bv ev) :
    Calls Tryz.prog 67 #[.agg (mbC a av dv), .agg (mbC b bv ev)] w fun e w' => SaysB (a = b) e ∧ Below w.heap.size w w' := by
  obtain ⟨aa, la, ca, ad, ld, cd, e1, e2⟩ := ha.shape
  obtain ⟨ba, lb, cb, bd, le, ce, e3, e4⟩ := hb.shape
  subst e1 e2 e3 e4
  obtain ⟨rfl, -, -⟩ := ha.at_.lens
  obtain ⟨rfl, -, -⟩ := hb.at_.lens
  have hma := ha.at_.lens.2
  have hmb := hb.at_.lens.2
  unfold maxLen at hma hmb
  have HA := Keep.keep ha; have HB := Keep.keep hb
  have HEQ := Keep.keep (mb_eq (a := a) (b := b))
  clear ha hb
  obtain ⟨ap, ⟨kind, mode, uid, gid, time, attrs, data, link⟩⟩ := a
  obtain ⟨bp, ⟨kind2, mode2, uid2, gid2, time2, attrs2, data2, link2⟩⟩ := b
  unfold mbC strV
  dsimp only at HEQ HA HB hma hmb ⊢
  obtain ⟨PEQ, hP⟩ : ∃ P : Prop, (((ap, ⟨kind, mode, uid, gid, time, attrs, data, link⟩) : Mb) = (bp, ⟨kind2, mode2, uid2, gid2, time2, attrs2, data2, link2⟩)) = P := ⟨_, rfl⟩
  rw [hP] at HEQ ⊢
  clear hP
  go_enter Tryz.func67, Tryz.ntmps67
  go_upto_region 3 with fail
  refine wp_world (R := fun w1 => Hp NoM w w1 [rowA w.heap.size 41 #[.string ⟨ap.toArray⟩, .int .i64 kind, .int .u32 mode, .int .u32 uid, .int .u32 gid, .int .i64 time, .slice aa attrs.length ca, .slice ad ld cd, .string ⟨link.toArray⟩], rowA (w.heap.size + 1) 41 #[.string ⟨bp.toArray⟩, .int .i64 kind2, .int .u32 mode2, .int .u32 uid2, .int .u32 gid2, .int .i64 time2, .slice ba attrs2.length cb, .slice bd le ce, .string ⟨link2.toArray⟩], rowA (w.heap.size + 1 + 1) 39 #[.int .i64 kind, .int .u32 mode, .int .u32 uid, .int .u32 gid, .int .i64 time, .slice aa attrs.length ca, .slice ad ld cd, .string ⟨link.toArray⟩], rowA (w.heap.size + 1 + 1 + 1) 39 #[.int .i64 kind2, .int .u32 mode2, .int .u32 uid2, .int .u32 gid2, .int .i64 time2, .slice ba attrs2.length cb, .slice bd le ce, .string ⟨link2.toArray⟩]]) ?_ ?_
  · exact ((((Hp.begin NoM w).newRow _ _).newRow' _ _ _ _ (by simp) rfl).newRow' _ _ _ _ (by simp) rfl).newRow' _ _ _ _ (by simp) rfl
  intro w1 H1
  obtain ⟨b2, hb2⟩ : ∃ b2, w.heap.size = b2 := ⟨_, rfl⟩
  have HB2 := Keep.keep hb2
  have m20 := (H1.out.row 0 rfl).cell (i := 0) rfl
  have m30 := (H1.out.row 1 rfl).cell (i := 0) rfl
  have HA2 := Keep.keep (HA.out.below H1.out.below (fun b hb => hb))
  have HB3 := Keep.keep (HB.out.below H1.out.below (fun b hb => hb))
  have HBL := Keep.keep H1.out.below
  have r5 := H1.out.row 2 rfl
  have r6 := H1.out.row 3 rfl
  have x0 := r5.cell (i := 0) rfl
  have x1 := r5.cell (i := 1) rfl
  have x2 := r5.cell (i := 2) rfl
  have x3 := r5.cell (i := 3) rfl
  have x4 := r5.cell (i := 4) rfl
  have x5 := r5.cell (i := 5) rfl
  have x6 := r5.cell (i := 6) rfl
  have x7 := r5.cell (i := 7) rfl
  have y0 := r6.cell (i := 0) rfl
  have y1 := r6.cell (i := 1) rfl
  have y2 := r6.cell (i := 2) rfl
  have y3 := r6.cell (i := 3) rfl
  have y4 := r6.cell (i := 4) rfl
  have y5 := r6.cell (i := 5) rfl
  have y6 := r6.cell (i := 6) rfl
  have y7 := r6.cell (i := 7) rfl
  rw [hb2] at m20 m30 x0 x1 x2 x3 x4 x5 x6 x7 y0 y1 y2 y3 y4 y5 y6 y7 ⊢
  have hwl : w.heap.size ≤ w1.heap.size := H1.out.size
  have hc1 := run_string_of HA2.out.dt
  have hc2 := run_string_of HB3.out.dt
  clear r5 r6 hb2 H1
  go_upto_region 5 with fail
  all_goals try (
    go_ret
    refine ⟨⟨false, rfl, ⟨fun h => (by cases h), fun h => ?_⟩⟩, HBL.out⟩
    obtain ⟨e1, e2, e3, e4, e5, e6, e7, e8, e9⟩ := HEQ.out.1 h
    first
      | contradiction
      | (simp_all; done))
  have HE : Keep (ap = bp ∧ kind = kind2 ∧ mode = mode2 ∧ uid = uid2 ∧ gid = gid2 ∧ time = time2 ∧ link = link2) := ⟨⟨by assumption, by assumption, by assumption, by assumption, by assumption, by assumption, by simpa using (show (!link == link2) = false by assumption)⟩⟩
  by_cases hdt : data = data2
  · have HD := Keep.keep hdt
    have hbd : (data == data2) = true := by simpa using hdt
    clear hdt
    by_cases hal : attrs.length = attrs2.length
    · have hne : ((attrs.length : Int) == (attrs2.length : Int)) = true := by rw [hal]; exact beq_self_eq_true _
      have HL := Keep.keep hal
      clear hal
      go_wp2_with fail
      go_loopg [7] attrs.length (fun g u7 wx => ∃ (k n : Nat), k + g = attrs.length ∧ u7 = .int .i64 (k : Int) ∧ attrs.take k = attrs2.take k ∧ wx = w1.drewN n)
      case atStart => exact ⟨0, 0, by omega, rfl, rfl, rfl⟩
      case round =>
        obtain ⟨k, nd, hkg, rfl, heq, rfl⟩ := hrel
        have HT := Keep.keep heq
        clear heq
        cases gk with
        | zero =>
          obtain rfl : k = attrs.length := by omega
          have HF : Keep (PEQ) := ⟨HEQ.out.2 ⟨HE.out.1, HE.out.2.1, HE.out.2.2.1, HE.out.2.2.2.1, HE.out.2.2.2.2.1, HE.out.2.2.2.2.2.1, HE.out.2.2.2.2.2.2, HD.out, by
            have h := HT.out
            rw [List.take_length, List.take_of_length_le (by rw [← HL.out]; exact Nat.le_refl _)] at h
            exact h⟩⟩
          go_wp2_with fail
          go_ret
          exact ⟨⟨true, rfl, ⟨fun _ => HF.out, fun _ => rfl⟩⟩, below_drewN' HBL.out _⟩
        | succ g =>
          have hk1 : k < attrs.length := by omega
          have hk2 : k < attrs2.length := by have := HL.out; omega
          have hd : decide ((k : Int) < (attrs.length : Int)) = true := decide_eq_true (by omega)
          obtain ⟨p1, o1, rfl⟩ : ∃ b off, aa = some ⟨b, off, none⟩ := by
            obtain ⟨b, off, cap, h, -⟩ := HA2.out.at_.has (by dsimp only; omega)
            injection h with h; exact ⟨b, off, h⟩
          obtain ⟨p2, o2, rfl⟩ : ∃ b off, ba = some ⟨b, off, none⟩ := by
            obtain ⟨b, off, cap, h, -⟩ := HB3.out.at_.has (by dsimp only; omega)
            injection h with h; exact ⟨b, off, h⟩
          obtain ⟨s1, s2⟩ := rcells_get attrs k hk1
          obtain ⟨t1, t2⟩ := rcells_get attrs2 k hk2
          have z1 := HA2.out.at_.cell p1 o1 _ _ rfl _ _ s1
          have z2 := HA2.out.at_.cell p1 o1 _ _ rfl _ _ s2
          have v1 := HB3.out.at_.cell p2 o2 _ _ rfl _ _ t1
          have v2 := HB3.out.at_.cell p2 o2 _ _ rfl _ _ t2
          rw [← Nat.add_assoc] at z2 v2
          have HST : Keep (attrs[k] = attrs2[k] → attrs.take (k + 1) = attrs2.take (k + 1)) := ⟨fun e => by rw [List.take_succ_eq_append_getElem hk1, List.take_succ_eq_append_getElem hk2, HT.out, e]⟩
          have HNE : Keep (attrs[k] ≠ attrs2[k] → ¬ PEQ) := ⟨fun e h => e (by simp only [(HEQ.out.1 h).2.2.2.2.2.2.2.2])⟩
          clear s1 s2 t1 t2
          generalize attrs[k] = p at *
          generalize attrs2[k] = q at *
          have hneq := neq_attr p q
          unfold strV at z1 z2 v1 v2
          obtain ⟨pk, pv⟩ := p
          obtain ⟨qk, qv⟩ := q
          dsimp only at z1 z2 v1 v2 hneq
          by_cases e : ((pk, pv) : R2) = (qk, qv)
          · have HE2 := Keep.keep (HST.out e)
            rw [decide_eq_true e] at hneq
            clear e HST HNE
            go_upto_region 10 with fail
            (refine wp_region_quiet_lit (by kernel_rfl) (by kernel_rfl) ?_); (repeat (first | (fail) | go_big_quiet_step (fail))); (refine wpQuiet_nil ?_); (intro _ hwq); (obtain ⟨nq, hwq⟩ := hwq); (subst hwq)
            go_wp2_with fail
            go_roundg g
            case measure => omega
            case rel => exact ⟨k + 1, nd + nq, by omega, by simp, HE2.out, rfl⟩
          · have HE2 := Keep.keep (HNE.out e)
            rw [decide_eq_false e] at hneq
            clear e HST HNE
            go_upto_region 10 with fail
            (refine wp_region_quiet_lit (by kernel_rfl) (by kernel_rfl) ?_); (repeat (first | (fail) | go_big_quiet_step (fail))); (refine wpQuiet_nil ?_); (intro _ hwq); (obtain ⟨nq, hwq⟩ := hwq); (subst hwq)
            go_wp2_with fail
            go_ret
            exact ⟨⟨false, rfl, ⟨fun h => (by cases h), fun h => (HE2.out h).elim⟩⟩, below_drewN' (below_drewN' HBL.out _) _⟩
    · have hne : ((attrs.length : Int) == (attrs2.length : Int)) = false := by simp; omega
      have HL := Keep.keep hal
      clear hal
      go_wp2_with fail
      go_ret
      exact ⟨⟨false, rfl, ⟨fun h => (by cases h), fun h => (HL.out (by rw [(HEQ.out.1 h).2.2.2.2.2.2.2.2])).elim⟩⟩, HBL.out⟩
  · have HD := Keep.keep hdt
    have hbd : (data == data2) = false := by simpa using hdt
    clear hdt
    go_wp2_with fail
    go_ret
    exact ⟨⟨false, rfl, ⟨fun h => (by cases h), fun h => (HD.out (HEQ.out.1 h).2.2.2.2.2.2.2.1).elim⟩⟩, HBL.out⟩
end Go.Proofs.YtmnknmpfkjhgbaaGreatDoor
/- portolanref20.one: what is told of a path. -/
namespace Go.Proofs.YtmnknmpfkjhgbaaGreatDoor
open Go.RowKit
theorem getT_look {L : List Mb} {p : Tx} (h : p ≠ []) : getT L p = ((SM.look L p).getD nd0, (SM.look L p).isSome) := by
  unfold getT
  rw [if_neg h]
  cases SM.look L p <;> rfl
set_option maxHeartbeats 8000000 in
set_option maxRecDepth 100000 in
theorem rone_any (d : RD) (c : Tx) (bl : List Mb) (w : World) (hc : c.length ≤ 400000) (h0 : c ≠ []) (hbl : bl.length ≤ 1000000) (h : RIn w d)
    (hbel : (∃ y, SM.look d.B c = some y ∧ y.kind = 1) → dirB d.A c = true → ∀ wx, Below w.heap.size w wx → Calls Tryz.prog 33 #[.pointer (some ⟨d.Ra, 0, none⟩), .pointer (some ⟨d.Rb, 0, none⟩), .string ⟨c.toArray⟩] wx (RAns d.Nb bl wx)) :
    Calls Tryz.prog 69 #[.pointer (some ⟨d.Ra, 0, none⟩), .pointer (some ⟨d.Rb, 0, none⟩), .string ⟨c.toArray⟩] w (RAns d.Nb (oneF d.A d.B bl c) w) := by
  have HLA : Keep (∀ b, d.Na b → b < w.heap.size) := ⟨h.na⟩
  have HLB : Keep (∀ b, d.Nb b → b < w.heap.size) := ⟨h.nb⟩
  have HGA := Keep.keep (rget_any d.Ra d.Na d.va d.la w h.a h.ra h.na c)
  have HGB : Keep (∀ wx, Below w.heap.size w wx → Calls Tryz.prog 112 #[.pointer (some ⟨d.Rb, 0, none⟩), .string ⟨c.toArray⟩] wx fun e w' => ∃ av dv, e = .returned (.tuple #[.agg (ndC (getT (d.lb.map (·.1)) c).1 av dv), .bool (getT (d.lb.map (·.1)) c).2]) ∧ NdR w' d.Nb (getT (d.lb.map (·.1)) c).1 av dv ∧ Below wx.heap.size wx w') :=
    ⟨fun wx hb => rget_any d.Rb d.Nb d.vb d.lb wx (h.below hb).b (h.below hb).rb (h.below hb).nb c⟩
  rw [getT_look h0] at HGA
  simp only [getT_look h0] at HGB
  have HUN : Keep (∀ wx, Below w.heap.size w wx → Calls Tryz.prog 113 #[.pointer (some ⟨d.Rb, 0, none⟩), .string ⟨c.toArray⟩] wx (RAns d.Nb (underL c d.B) wx)) := ⟨fun wx hb => runder_ans (h.below hb) c (by omega)⟩
  have HWH := Keep.keep (fun wx => rwhite_any c (by omega) wx)
  have HSG := Keep.keep (fun wx => rsign_any (whiteoutP c) wx)
  obtain ⟨qw, kw, hqw⟩ := signM_cells (whiteoutP c)
  have HQW : Keep (mbC (whM c) nilV nilV = #[.string ⟨qw.toArray⟩, .int .i64 kw, .int .u32 0, .int .u32 0, .int .u32 0, .int .i64 0, .slice none 0 0, .slice none 0 0, .string ⟨#[]⟩]) := ⟨hqw⟩
  rw [hqw] at HSG
  have HBE := Keep.keep hbel
  have HOF : Keep (oneF d.A d.B bl c = (match SM.look d.B c with | none => [whM c] | some y => if y.kind = 1 ∧ dirB d.A c = false then underL c d.B else if y.kind = 1 then (if bl ≠ [] ∨ SM.look d.A c ≠ some y then bl ++ [(c, y)] else bl) else if SM.look d.A c ≠ some y then [(c, y)] else [])) := ⟨rfl⟩
  have HDA : Keep (dirB d.A c = (((SM.look d.A c).getD nd0).kind == 1)) := ⟨by
    unfold dirB
    cases SM.look d.A c with
    | none => rfl
    | some n => rfl⟩
  change Keep (Calls _ _ _ _ _) at HGA
  have eA : d.la.map (·.1) = d.A := rfl
  have eB : d.lb.map (·.1) = d.B := rfl
  simp only [eA] at HGA
  simp only [eB] at HGB
  obtain ⟨isA, hisA⟩ : ∃ b, (SM.look d.A c).isSome = b := ⟨_, rfl⟩
  obtain ⟨isB, hisB⟩ : ∃ b, (SM.look d.B c).isSome = b := ⟨_, rfl⟩
  rw [hisA] at HGA
  rw [hisB] at HGB
  obtain ⟨nA, hnA⟩ : ∃ n, (SM.look d.A c).getD nd0 = n := ⟨_, rfl⟩
  obtain ⟨nB, hnB⟩ : ∃ n, (SM.look d.B c).getD nd0 = n := ⟨_, rfl⟩
  rw [hnA] at HGA HDA
  rw [hnB] at HGB
  have HA : Keep (SM.look d.A c = if isA = true then some nA else none) := ⟨by
    rw [← hisA, ← hnA]; cases SM.look d.A c <;> rfl⟩
  have HB : Keep (SM.look d.B c = if isB = true then some nB else none) := ⟨by
    rw [← hisB, ← hnB]; cases SM.look d.B c <;> rfl⟩
  have HNA0 : Keep (isA = false → nA = nd0) := ⟨fun e => by
    rw [← hnA]
    cases hx : SM.look d.A c with
    | none => rfl
    | some v => rw [hx] at hisA; rw [e] at hisA; cases hisA⟩
  obtain ⟨sm, hsm⟩ : ∃ b, decide (SM.look d.A c = some nB) = b := ⟨_, rfl⟩
  have HSM : Keep (sm = true ↔ SM.look d.A c = some nB) := ⟨by rw [← hsm]; exact decide_eq_true_iff⟩
  have HOF2 : Keep (oneF d.A d.B bl c = if isB = true then (if (nB.kind == 1 && !(nA.kind == 1)) = true then underL c d.B else if (nB.kind == 1) = true then (if (bl.isEmpty && sm) = true then bl else bl ++ [(c, nB)]) else (if sm = true then [] else [(c, nB)])) else [whM c]) := ⟨by
    rw [HOF.out, HB.out]
    cases isB with
    | false => rfl
    | true =>
      simp only [if_true, HDA.out]
      by_cases h1 : nB.kind = 1 <;> by_cases h2 : nA.kind = 1 <;> by_cases h3 : SM.look d.A c = some nB <;> (have h4 : sm = decide (SM.look d.A c = some nB) := hsm.symm) <;> cases bl <;> simp [h1, h2, h3, h4]⟩
  have HBX : Keep (isB = true → nB.kind = 1 → nA.kind = 1 → ∀ wx, Below w.heap.size w wx → Calls Tryz.prog 33 #[.pointer (some ⟨d.Ra, 0, none⟩), .pointer (some ⟨d.Rb, 0, none⟩), .string ⟨c.toArray⟩] wx (RAns d.Nb bl wx)) := ⟨fun h1 h2 h3 => HBE.out ⟨nB, by rw [HB.out, if_pos h1], h2⟩ (by rw [HDA.out]; simpa using h3)⟩
  generalize oneF d.A d.B bl c = out at *
  clear h hbel hisA hisB hnA hnB hsm HOF HDA hqw eA eB HBE
  go_enter Tryz.func69, Tryz.ntmps69
  go_wp2_with fail
  refine HGA.out.mono ?_
  rintro e w1 ⟨av, dv, rfl, hna, hb1⟩
  have HNA := Keep.keep hna; have HB1 := Keep.keep hb1
  obtain ⟨aa, la, ca, ad, ld, cd, e1, e2⟩ := hna.shape
  clear hna hb1 HGA
  subst e1 e2
  obtain ⟨k6, m6, u6, g6, t6, at6, da6, l6⟩ := nA
  have HNCA : Keep (ndC ⟨k6, m6, u6, g6, t6, at6, da6, l6⟩ (.slice aa la ca) (.slice ad ld cd) = #[.int .i64 k6, .int .u32 m6, .int .u32 u6, .int .u32 g6, .int .i64 t6, .slice aa la ca, .slice ad ld cd, .string ⟨l6.toArray⟩]) := ⟨rfl⟩
  rw [HNCA.out]
  go_upto_region 3 with fail
  refine wp_world (R := fun w2 => Hp NoM w w2 [rowA w1.heap.size 39 #[.int .i64 k6, .int .u32 m6, .int .u32 u6, .int .u32 g6, .int .i64 t6, .slice aa la ca, .slice ad ld cd, .string ⟨l6.toArray⟩]]) (((Hp.begin NoM w).call HB1.out).newRow _ _) ?_
  intro w2 H2
  obtain ⟨b6, hb6⟩ : ∃ b, w1.heap.size = b := ⟨_, rfl⟩
  have HLT6 : Keep (∀ b, d.Na b → b < b6) := ⟨fun b hb => by have h1 := HLA.out b hb; have h2 := HB1.out.size; omega⟩
  have HNA2 : Keep (∀ wx, Below w2.heap.size w2 wx → NdR wx d.Na ⟨k6, m6, u6, g6, t6, at6, da6, l6⟩ (.slice aa la ca) (.slice ad ld cd)) := ⟨fun wx hb => by
    refine HNA.out.loc (fun b hbN => ?_)
    have h1 := HLA.out b hbN
    rw [(H2.out.below.trans (hb.mono H2.out.below.size)).block b h1, HB1.out.block b h1]⟩
  rw [hb6] at H2 ⊢
  clear hb6 HNA
  go_wp2_with fail
  refine (HGB.out w2 H2.out.below).mono ?_
  rintro e w3 ⟨bv, ev, rfl, hnb, hb3⟩
  have HNB := Keep.keep hnb; have HB3 := Keep.keep hb3
  have H3 := Keep.keep (H2.out.call hb3)
  obtain ⟨ba, lb, cb, bd, le, ce, e3, e4⟩ := hnb.shape
  clear hnb hb3 HGB H2
  subst e3 e4
  obtain ⟨k8, m8, u8, g8, t8, at8, da8, l8⟩ := nB
  have HNCB : Keep (ndC ⟨k8, m8, u8, g8, t8, at8, da8, l8⟩ (.slice ba lb cb) (.slice bd le ce) = #[.int .i64 k8, .int .u32 m8, .int .u32 u8, .int .u32 g8, .int .i64 t8, .slice ba lb cb, .slice bd le ce, .string ⟨l8.toArray⟩]) := ⟨rfl⟩
  rw [HNCB.out]
  go_upto_region 4 with fail
  obtain ⟨b8, hb8⟩ : ∃ b, w3.heap.size = b := ⟨_, rfl⟩
  refine wp_world (R := fun w4 => Hp NoM w w4 [rowA b6 39 #[.int .i64 k6, .int .u32 m6, .int .u32 u6, .int .u32 g6, .int .i64 t6, .slice aa la ca, .slice ad ld cd, .string ⟨l6.toArray⟩], rowA b8 39 #[.int .i64 k8, .int .u32 m8, .int .u32 u8, .int .u32 g8, .int .i64 t8, .slice ba lb cb, .slice bd le ce, .string ⟨l8.toArray⟩]] ∧ w3.heap.size ≤ w4.heap.size ∧ Below w3.heap.size w3 w4) (by
    have := H3.out.newRow 39 #[.int .i64 k8, .int .u32 m8, .int .u32 u8, .int .u32 g8, .int .i64 t8, .slice ba lb cb, .slice bd le ce, .string ⟨l8.toArray⟩]
    rw [hb8] at this
    exact ⟨this, by simp, (Below.refl _ _).alloc (Nat.le_refl _) _⟩) ?_
  intro w4 H4
  rw [hb8]
  have HW4 := Keep.keep H4.out.1.below
  have HR6 := Keep.keep (H4.out.1.row 0 rfl)
  have HR8 := Keep.keep (H4.out.1.row 1 rfl)
  have HS6 : Keep ((#[.int .i64 k6, .int .u32 m6, .int .u32 u6, .int .u32 g6, .int .i64 t6, .slice aa la ca, .slice ad ld cd, .string ⟨l6.toArray⟩] : Array Value).size = 8) := ⟨rfl⟩
  have HS8 : Keep ((#[.int .i64 k8, .int .u32 m8, .int .u32 u8, .int .u32 g8, .int .i64 t8, .slice ba lb cb, .slice bd le ce, .string ⟨l8.toArray⟩] : Array Value).size = 8) := ⟨rfl⟩
  have HNDA : Keep (∀ wx, Below w4.heap.size w4 wx → NdR wx d.Na ⟨k6, m6, u6, g6, t6, at6, da6, l6⟩ (.slice aa la ca) (.slice ad ld cd)) := ⟨fun wx hb => HNA2.out wx ((HB3.out.trans (H4.out.2.2.mono HB3.out.size)).trans (hb.mono (Nat.le_trans HB3.out.size H4.out.2.1)))⟩
  have HNDB : Keep (∀ wx, Below w4.heap.size w4 wx → NdR wx d.Nb ⟨k8, m8, u8, g8, t8, at8, da8, l8⟩ (.slice ba lb cb) (.slice bd le ce)) := ⟨fun wx hb => by
    refine HNB.out.loc (fun b hbN => ?_)
    have h1 := HLB.out b hbN
    have h3 : w.heap.size ≤ w3.heap.size := H3.out.below.size
    exact (H4.out.2.2.trans (hb.mono H4.out.2.1)).block b (by omega)⟩
  clear hb8 H3 H4 HNB HNA2 HB3 HB1 HLT6
  have hbmA : ∀ w, (Instr.build 41 #[(1, .agg #[.int .i64 k6, .int .u32 m6, .int .u32 u6, .int .u32 g6, .int .i64 t6, .slice aa la ca, .slice ad ld cd, .string ⟨l6.toArray⟩])]).run Tryz.prog w = .ok (.agg (mbC ([], ⟨k6, m6, u6, g6, t6, at6, da6, l6⟩) (.slice aa la ca) (.slice ad ld cd))) w := fun w => buildM1 ⟨k6, m6, u6, g6, t6, at6, da6, l6⟩ _ _ w
  have hbmB : ∀ w, (Instr.build 41 #[(1, .agg #[.int .i64 k8, .int .u32 m8, .int .u32 u8, .int .u32 g8, .int .i64 t8, .slice ba lb cb, .slice bd le ce, .string ⟨l8.toArray⟩])]).run Tryz.prog w = .ok (.agg (mbC ([], ⟨k8, m8, u8, g8, t8, at8, da8, l8⟩) (.slice ba lb cb) (.slice bd le ce))) w := fun w => buildM1 ⟨k8, m8, u8, g8, t8, at8, da8, l8⟩ _ _ w
  have hbmC : ∀ w, (Instr.build 41 #[(0, .string ⟨c.toArray⟩), (1, .agg #[.int .i64 k8, .int .u32 m8, .int .u32 u8, .int .u32 g8, .int .i64 t8, .slice ba lb cb, .slice bd le ce, .string ⟨l8.toArray⟩])]).run Tryz.prog w = .ok (.agg #[.string ⟨c.toArray⟩, .int .i64 k8, .int .u32 m8, .int .u32 u8, .int .u32 g8, .int .i64 t8, .slice ba lb cb, .slice bd le ce, .string ⟨l8.toArray⟩]) w := fun w => buildM (c, ⟨k8, m8, u8, g8, t8, at8, da8, l8⟩) (.slice ba lb cb) (.slice bd le ce) w
  have HSA : Keep (∀ wx, Below w4.heap.size w4 wx → Calls Tryz.prog 67 #[.agg (mbC ([], ⟨k6, m6, u6, g6, t6, at6, da6, l6⟩) (.slice aa la ca) (.slice ad ld cd)), .agg (mbC ([], ⟨k8, m8, u8, g8, t8, at8, da8, l8⟩) (.slice ba lb cb) (.slice bd le ce))] wx fun e w' => SaysB ((([], ⟨k6, m6, u6, g6, t6, at6, da6, l6⟩) : Mb) = ([], ⟨k8, m8, u8, g8, t8, at8, da8, l8⟩)) e ∧ Below wx.heap.size wx w') :=
    ⟨fun wx hb => same_ref ([], ⟨k6, m6, u6, g6, t6, at6, da6, l6⟩) ([], ⟨k8, m8, u8, g8, t8, at8, da8, l8⟩) _ _ _ _ wx ((HNDA.out wx hb).mono (fun b h => by have h1 := HLA.out b h; have h2 := HW4.out.size; have h3 := hb.size; omega)) ((HNDB.out wx hb).mono (fun b h => by have h1 := HLB.out b h; have h2 := HW4.out.size; have h3 := hb.size; omega))⟩
  cases isB
  case false =>
    go_wp2_with fail
    refine (HWH.out w4).mono ?_
    rintro e w5 ⟨rfl, hb5⟩
    have HB5 := Keep.keep (HW4.out.trans (hb5.mono HW4.out.size))
    clear hb5
    go_wp2_with fail
    refine (HSG.out w5).mono ?_
    rintro e w6 ⟨rfl, hb6⟩
    have HB6 := Keep.keep (HB5.out.trans (hb6.mono HB5.out.size))
    clear hb6
    have HRN : Keep (RowM w.heap.size d.Nb w6 (.slice none 0 0) []) := ⟨RowM.nil _ _ _⟩
    go_wp2_with (with_reducible refine arm_stop ?_)
    refine Stopped.out ?_
    have hmc : mcell ((whM c, nilV, nilV) : Mv) = #[.string ⟨qw.toArray⟩, .int .i64 kw, .int .u32 0, .int .u32 0, .int .u32 0, .int .i64 0, .slice none 0 0, .slice none 0 0, .string ⟨#[]⟩] := HQW.out
    rw [← hmc]
    refine arm_app1 ((whM c, nilV, nilV) : Mv) HRN.out HLB.out HB6.out (ndR_nil (by unfold whM signM; split <;> rfl) (by unfold whM signM; split <;> rfl)) (by simp) rfl rfl ?_
    intro a7 c7 w7 hr7 hb7
    have HR7 := Keep.keep hr7; have HB7 := Keep.keep hb7
    clear hr7 hb7 hmc
    simp only [Act.put, List.setIfInBounds_toArray, List.set_cons_succ, List.set_cons_zero]
    go_wp2_with fail
    go_ret
    exact ⟨_, _, rfl, by rw [HOF2.out]; rfl, HR7.out, HB7.out⟩
  have k80 := HR8.out.cell (i := 0) rfl
  have k60 := HR6.out.cell (i := 0) rfl
  (try dsimp only at HOF2 HBX)
  cases h8 : (k8 == 1)
  case true =>
    have HK8 : Keep (k8 = 1) := ⟨by simpa using h8⟩
    cases isA
    case false =>
      have hnd := HNA0.out rfl
      injection hnd with e1
      subst e1
      go_wp2_with fail
      refine (HUN.out w4 HW4.out).mono ?_
      rintro e w5 ⟨v5, l5, rfl, hl5, hr5, hb5⟩
      have HL5 := Keep.keep hl5
      have HR5 := Keep.keep (hr5.lower HW4.out.size (fun b hb => hb))
      have HB5 := Keep.keep (HW4.out.trans (hb5.mono HW4.out.size))
      obtain ⟨a5, c5, hv5, -⟩ := (ownsV_reads hr5.own).shape
      generalize l5.length = n5 at hv5
      clear hl5 hr5 hb5
      subst hv5
      go_wp2_with fail
      go_ret
      exact ⟨_, l5, rfl, by rw [HL5.out, HOF2.out, h8]; rfl, HR5.out, HB5.out⟩
    cases h6 : (k6 == 1)
    case false =>
      have h6' : (k6 != 1) = true := by rw [bne, h6]; rfl
      go_wp2_with fail
      refine (HUN.out w4 HW4.out).mono ?_
      rintro e w5 ⟨v5, l5, rfl, hl5, hr5, hb5⟩
      have HL5 := Keep.keep hl5
      have HR5 := Keep.keep (hr5.lower HW4.out.size (fun b hb => hb))
      have HB5 := Keep.keep (HW4.out.trans (hb5.mono HW4.out.size))
      obtain ⟨a5, c5, hv5, -⟩ := (ownsV_reads hr5.own).shape
      generalize l5.length = n5 at hv5
      clear hl5 hr5 hb5
      subst hv5
      go_wp2_with fail
      go_ret
      exact ⟨_, l5, rfl, by rw [HL5.out, HOF2.out, h8, h6]; rfl, HR5.out, HB5.out⟩
    have HK6 : Keep (k6 = 1) := ⟨by simpa using h6⟩
    have h6' : (k6 != 1) = false := by rw [bne, h6]; rfl
    go_wp2_with fail
    refine (HBX.out (by first | trivial | rfl) HK8.out HK6.out w4 HW4.out).mono ?_
    rintro e w5 ⟨v5, l5, rfl, hl5, hr5, hb5⟩
    have HL5 := Keep.keep hl5
    have HR5 := Keep.keep (hr5.lower HW4.out.size (fun b hb => hb))
    have HB5 := Keep.keep (HW4.out.trans (hb5.mono HW4.out.size))
    have HB45 := Keep.keep hb5
    have HLO : Keep (∀ b, v5.ownBlock = some b → w4.heap.size ≤ b) := ⟨fun b hb => (hr5.lt hb).1⟩
    obtain ⟨a5, c5, hv5, -⟩ := (ownsV_reads hr5.own).shape
    have HN5 : Keep (l5.length = bl.length) := ⟨by rw [← hl5, List.length_map]⟩
    rw [HN5.out] at hv5
    have HR65 := Keep.keep (HR6.out.below hb5 HR6.out.lt)
    have HR85 := Keep.keep (HR8.out.below hb5 HR8.out.lt)
    clear hl5 hr5 hb5 k80 k60
    subst hv5
    go_upto_region 10 with fail
    go_wp2_with (first | ((with_reducible refine arm_loadRowG ?_ HR65.out aggN HS6.out ?_ ?_); (focus rfl); (focus rfl); simp only [Act.put, List.setIfInBounds_toArray, List.set_cons_succ, List.set_cons_zero]) | ((with_reducible refine arm_loadRowG ?_ HR85.out aggN HS8.out ?_ ?_); (focus rfl); (focus rfl); simp only [Act.put, List.setIfInBounds_toArray, List.set_cons_succ, List.set_cons_zero]))
    refine (HSA.out w5 HB45.out).mono ?_
    rintro e w6 ⟨⟨r, rfl, hr⟩, hb6⟩
    have hrs : r = sm := by
      have h1 := HSM.out
      rw [HA.out] at h1
      rw [Bool.eq_iff_iff, hr, h1]
      simp
    subst hrs
    have HB56 := Keep.keep (HB45.out.trans (hb6.mono HB45.out.size))
    have HB6 := Keep.keep (HB5.out.trans (hb6.mono HB5.out.size))
    have HR6b := Keep.keep (HR5.out.below hb6)
    have HR86 := Keep.keep (HR85.out.below hb6 HR85.out.lt)
    clear hb6 hr HR65 HR85 HR8 HR6 HR5
    obtain ⟨nbl, hnbl⟩ : ∃ n, bl.length = n := ⟨_, rfl⟩
    have HNBL := Keep.keep hnbl
    rw [hnbl] at HN5 hbl HR6b HLO
    rw [hnbl]
    clear hnbl
    by_cases hz : nbl = 0 ∧ r = true
    · obtain ⟨hz, rfl⟩ := hz
      subst hz
      have hbe : bl = [] := List.eq_nil_of_length_eq_zero HNBL.out
      go_wp2_with fail
      go_ret
      exact ⟨_, l5, rfl, by rw [HL5.out, HOF2.out, h8, h6, hbe]; rfl, HR6b.out, HB6.out⟩
    · have HBE : Keep ((bl.isEmpty && r) = false) := ⟨by
        have := HNBL.out
        cases bl with
        | nil => cases r with
          | false => rfl
          | true => exact (hz ⟨this.symm, rfl⟩).elim
        | cons a t => rfl⟩
      have hgo : ∃ b, decide (0 < (nbl : Int)) = b ∧ (b = false → r = false) := ⟨_, rfl, fun e => by
        have := of_decide_eq_false e
        cases r with
        | false => rfl
        | true => exact (hz ⟨by omega, rfl⟩).elim⟩
      obtain ⟨b0, hb0, hbr⟩ := hgo
      have hb0' : decide (0 < nbl) = b0 := by rw [← hb0]; simp
      clear hz
      cases b0 with
      | false =>
        obtain rfl := hbr rfl
        have hb0'' : decide (0 < (nbl : Int)) = false := hb0
        go_wp2_with (first | ((with_reducible refine arm_loadRow HR86.out aggN HS8.out ?_ ?_); (focus rfl); simp only [Act.put, List.setIfInBounds_toArray, List.set_cons_succ, List.set_cons_zero]) | (with_reducible refine arm_stop ?_))
        refine Stopped.out ?_
        refine arm_app1 (((c, ⟨k8, m8, u8, g8, t8, at8, da8, l8⟩), .slice ba lb cb, .slice bd le ce) : Mv) HR6b.out HLB.out HB6.out (HNDB.out _ HB56.out) (by rw [HN5.out]; omega) rfl rfl ?_
        intro a7 c7 w7 hr7 hb7
        have HR7 := Keep.keep hr7; have HB7 := Keep.keep hb7
        clear hr7 hb7
        simp only [Act.put, List.setIfInBounds_toArray, List.set_cons_succ, List.set_cons_zero]
        go_wp2_with fail
        go_ret
        exact ⟨_, _, rfl, by rw [List.map_append, HL5.out, HOF2.out, h8, h6, HBE.out]; rfl, HR7.out, HB7.out⟩
      | true =>
        go_wp2_with (first | ((with_reducible refine arm_loadRow HR86.out aggN HS8.out ?_ ?_); (focus rfl); simp only [Act.put, List.setIfInBounds_toArray, List.set_cons_succ, List.set_cons_zero]) | (with_reducible refine arm_stop ?_))
        refine Stopped.out ?_
        refine arm_app1 (((c, ⟨k8, m8, u8, g8, t8, at8, da8, l8⟩), .slice ba lb cb, .slice bd le ce) : Mv) HR6b.out HLB.out HB6.out (HNDB.out _ HB56.out) (by rw [HN5.out]; omega) rfl rfl ?_
        intro a7 c7 w7 hr7 hb7
        have HR7 := Keep.keep hr7; have HB7 := Keep.keep hb7
        clear hr7 hb7
        simp only [Act.put, List.setIfInBounds_toArray, List.set_cons_succ, List.set_cons_zero]
        go_wp2_with fail
        go_ret
        exact ⟨_, _, rfl, by rw [List.map_append, HL5.out, HOF2.out, h8, h6, HBE.out]; rfl, HR7.out, HB7.out⟩
  case false =>
    cases isA
    case false =>
      have hs0 : sm = false := by
        cases hx : sm with
        | false => rfl
        | true => have := HSM.out.1 hx; rw [HA.out] at this; cases this
      subst hs0
      have HRN : Keep (RowM w.heap.size d.Nb w4 (.slice none 0 0) []) := ⟨RowM.nil _ _ _⟩
      go_wp2_with (first | ((with_reducible refine arm_loadRow HR8.out aggN HS8.out ?_ ?_); (focus rfl); simp only [Act.put, List.setIfInBounds_toArray, List.set_cons_succ, List.set_cons_zero]) | (with_reducible refine arm_stop ?_))
      refine Stopped.out ?_
      refine arm_app1 (((c, ⟨k8, m8, u8, g8, t8, at8, da8, l8⟩), .slice ba lb cb, .slice bd le ce) : Mv) HRN.out HLB.out HW4.out (HNDB.out _ (Below.refl _ _)) (by simp) rfl rfl ?_
      intro a7 c7 w7 hr7 hb7
      have HR7 := Keep.keep hr7; have HB7 := Keep.keep hb7
      clear hr7 hb7
      simp only [Act.put, List.setIfInBounds_toArray, List.set_cons_succ, List.set_cons_zero]
      go_wp2_with fail
      go_ret
      exact ⟨_, _, rfl, by rw [HOF2.out, h8]; rfl, HR7.out, HB7.out⟩
    go_upto_region 10 with fail
    go_wp2_with (first | ((with_reducible refine arm_loadRowG ?_ HR6.out aggN HS6.out ?_ ?_); (focus rfl); (focus rfl); simp only [Act.put, List.setIfInBounds_toArray, List.set_cons_succ, List.set_cons_zero]) | ((with_reducible refine arm_loadRowG ?_ HR8.out aggN HS8.out ?_ ?_); (focus rfl); (focus rfl); simp only [Act.put, List.setIfInBounds_toArray, List.set_cons_succ, List.set_cons_zero]))
    refine (HSA.out w4 (Below.refl _ _)).mono ?_
    rintro e w6 ⟨⟨r, rfl, hr⟩, hb6⟩
    have hrs : r = sm := by
      have h1 := HSM.out
      rw [HA.out] at h1
      rw [Bool.eq_iff_iff, hr, h1]
      simp
    subst hrs
    have HB56 := Keep.keep hb6
    have HB6 := Keep.keep (HW4.out.trans (hb6.mono HW4.out.size))
    have HR86 := Keep.keep (HR8.out.below hb6 HR8.out.lt)
    clear hb6 hr HR8 HR6 k80 k60
    cases r with
    | true =>
      go_wp2_with fail
      go_ret
      exact ⟨_, [], rfl, by rw [HOF2.out, h8]; rfl, RowM.nil _ _ _, HB6.out⟩
    | false =>
      have HRN : Keep (RowM w.heap.size d.Nb w6 (.slice none 0 0) []) := ⟨RowM.nil _ _ _⟩
      go_wp2_with (first | ((with_reducible refine arm_loadRow HR86.out aggN HS8.out ?_ ?_); (focus rfl); simp only [Act.put, List.setIfInBounds_toArray, List.set_cons_succ, List.set_cons_zero]) | (with_reducible refine arm_stop ?_))
      refine Stopped.out ?_
      refine arm_app1 (((c, ⟨k8, m8, u8, g8, t8, at8, da8, l8⟩), .slice ba lb cb, .slice bd le ce) : Mv) HRN.out HLB.out HB6.out (HNDB.out _ HB56.out) (by simp) rfl rfl ?_
      intro a7 c7 w7 hr7 hb7
      have HR7 := Keep.keep hr7; have HB7 := Keep.keep hb7
      clear hr7 hb7
      simp only [Act.put, List.setIfInBounds_toArray, List.set_cons_succ, List.set_cons_zero]
      go_wp2_with fail
      go_ret
      exact ⟨_, _, rfl, by rw [HOF2.out, h8]; rfl, HR7.out, HB7.out⟩
end Go.Proofs.YtmnknmpfkjhgbaaGreatDoor
/- portolanref20.Told: what is told below a Dir. -/
namespace Go.Proofs.YtmnknmpfkjhgbaaGreatDoor
open Go.RowKit
set_option maxHeartbeats 8000000 in
set_option maxRecDepth 100000 in
theorem rtold_one (d : RD) (F : Tx → List Mb) (dir : Tx) (w : World) (hA : WellL d.A) (hB : WellL d.B) (hdl : dir.length ≤ 400000) (hF : ∀ c, (F c).length ≤ 1 + d.B.length) (h : RIn w d)
    (hone : ∀ c ∈ ksR d.A d.B dir, ∀ wx, Below w.heap.size w wx → Calls Tryz.prog 69 #[.pointer (some ⟨d.Ra, 0, none⟩), .pointer (some ⟨d.Rb, 0, none⟩), .string ⟨c.toArray⟩] wx (RAns d.Nb (oneF d.A d.B (F c) c) wx)) :
    Calls Tryz.prog 33 #[.pointer (some ⟨d.Ra, 0, none⟩), .pointer (some ⟨d.Rb, 0, none⟩), .string ⟨dir.toArray⟩] w (RAns d.Nb (bodyF d.A d.B (ksR d.A d.B dir) F dir) w) := by
  have HLB : Keep (∀ b, d.Nb b → b < w.heap.size) := ⟨h.nb⟩
  have HIN := Keep.keep (rin_any d.Ra d.Na d.va d.la d.Rb d.Nb d.vb d.lb w h.a h.ra h.na h.b h.rb h.nb dir hdl h.lla h.llb)
  have eA : d.la.map (·.1) = d.A := rfl
  have eB : d.lb.map (·.1) = d.B := rfl
  rw [eA, eB] at HIN
  have HBL : Keep (∀ wx, Below w.heap.size w wx → Calls Tryz.prog 70 #[.pointer (some ⟨d.Rb, 0, none⟩), .string ⟨dir.toArray⟩] wx (RAns d.Nb (d.B.filter fun q => underP dir q.1) wx)) := ⟨fun wx hb => rbel_any d dir hdl wx (h.below hb)⟩
  have HOP := Keep.keep (fun wx => ropaq_any dir (by omega) wx)
  have HSG := Keep.keep (fun wx => rsign_any (opaqueP dir) wx)
  obtain ⟨qw, kw, hqw⟩ := signM_cells (opaqueP dir)
  have HQW : Keep (mcell ((mkM dir, nilV, nilV) : Mv) = #[.string ⟨qw.toArray⟩, .int .i64 kw, .int .u32 0, .int .u32 0, .int .u32 0, .int .i64 0, .slice none 0 0, .slice none 0 0, .string ⟨#[]⟩]) := ⟨hqw⟩
  rw [hqw] at HSG
  have HONE := Keep.keep hone
  have hlb : d.B.length ≤ 100000 := by unfold RD.B; rw [List.length_map]; exact h.llb
  have HONL : Keep (∀ c, (oneF d.A d.B (F c) c).length ≤ 300000) := ⟨fun c => by
    have := one_len d.A d.B (F c) c
    have := hF c
    omega⟩
  have HBY : Keep (bodyF d.A d.B (ksR d.A d.B dir) F dir = if (flatF d.A d.B (ksR d.A d.B dir) F).length ≤ 1 + d.B.countP (fun q => underP dir q.1) then flatF d.A d.B (ksR d.A d.B dir) F else d.B.filter (fun q => underP dir q.1) ++ [mkM dir]) := ⟨rfl⟩
  have hkl : (ksR d.A d.B dir).length ≤ 200000 := by
    have hnd := (ksR_kids hA hB).nd dir
    have h1 : (d.A.map (·.1) ++ d.B.map (·.1)).length ≤ 200000 := by
      rw [List.length_append, List.length_map, List.length_map]
      have : d.A.length ≤ 100000 := by unfold RD.A; rw [List.length_map]; exact h.lla
      omega
    refine Nat.le_trans (nodup_le _ (d.A.map (·.1) ++ d.B.map (·.1)) hnd (fun c hc => ?_)) h1
    rcases (((ksR_kids hA hB).mem dir c).1 hc).2 with hx | hx
    · obtain ⟨v, hv⟩ := Option.isSome_iff_exists.1 hx
      exact List.mem_append_left _ (List.mem_map.2 ⟨_, SM.look_mem hv, rfl⟩)
    · obtain ⟨v, hv⟩ := Option.isSome_iff_exists.1 hx
      exact List.mem_append_right _ (List.mem_map.2 ⟨_, SM.look_mem hv, rfl⟩)
  have HCP : Keep ((d.B.filter fun q => underP dir q.1).length = d.B.countP (fun q => underP dir q.1)) := ⟨List.countP_eq_length_filter.symm⟩
  have hcp : d.B.countP (fun q => underP dir q.1) ≤ 100000 := Nat.le_trans List.countP_le_length hlb
  clear hone h hqw eA eB hF hA hB
  generalize bodyF d.A d.B (ksR d.A d.B dir) F dir = out at *
  generalize ksR d.A d.B dir = ks at *
  generalize d.B.countP (fun q => underP dir q.1) = cP at *
  generalize hFB : d.B.filter (fun q => underP dir q.1) = fB at *
  obtain ⟨nk, hnk⟩ : ∃ n, ks.length = n := ⟨_, rfl⟩
  have HNK := Keep.keep hnk
  rw [hnk] at hkl
  clear hnk hFB
  go_enter Tryz.func33, Tryz.ntmps33
  go_wp2_with fail
  refine HIN.out.mono ?_
  rintro e w2 ⟨v8, rfl, ho8, hb2⟩
  have H2 := Keep.keep (((Hp.begin NoM w).push (slA w.heap.size 9 1 v8 ks.length (ks.map strV)) (.of_below hb2) ho8 (fun b hb => World.ownsRow.lt ho8 b hb)).nilS w.heap.size 41 9)
  rw [HNK.out] at H2
  obtain ⟨a8, c8, hv8, -⟩ := (ownsV_reads ho8).shape
  rw [HNK.out] at hv8
  clear ho8 hb2 HIN
  subst hv8
  go_wp2_with fail
  go_loopg [7, 9] nk (fun g u7 u9 wx => ∃ (k : Nat) (acc : List Mv), k + g = nk ∧ u9 = .int .i64 (k : Int) ∧ acc.map (·.1) = flatF d.A d.B (ks.take k) F ∧ acc.length ≤ k * 300000 ∧ RowM w.heap.size d.Nb wx u7 acc ∧ Hp NoM w wx [slA w.heap.size 9 1 (.slice a8 nk c8) nk (ks.map strV), slA w.heap.size 41 9 u7 acc.length (mcells acc)])
  case atStart => exact ⟨0, [], by omega, rfl, rfl, Nat.zero_le _, RowM.nil _ _ _, H2.out⟩
  case round =>
    obtain ⟨k, acc, hkg, rfl, hmap, hal, hrow, hH⟩ := hrel
    have HM := Keep.keep hmap; have HR := Keep.keep hrow; have HH := Keep.keep hH
    obtain ⟨a6, c6, hv6, -⟩ := (ownsV_reads hrow.own).shape
    obtain ⟨n6, hn6⟩ : ∃ n, acc.length = n := ⟨_, rfl⟩
    have HN6 := Keep.keep hn6
    rw [hn6] at hv6 HH hal
    clear hmap hrow hH hn6 H2
    subst hv6
    cases gk with
    | zero =>
      obtain rfl : k = nk := by omega
      have hdk : decide ((k : Int) < (k : Int)) = false := decide_eq_false (by omega)
      have HACC : Keep (acc.map (·.1) = flatF d.A d.B ks F) := ⟨by rw [HM.out, List.take_of_length_le (by rw [HNK.out]; exact Nat.le_refl _)]⟩
      have HWB := Keep.keep HH.out.below
      have HLEN : Keep ((flatF d.A d.B ks F).length = n6) := ⟨by rw [← HACC.out, List.length_map]; exact HN6.out⟩
      rw [HLEN.out] at HBY
      go_wp2_with fail
      refine (HBL.out wr HWB.out).mono ?_
      rintro e w5 ⟨v5, l5, rfl, hl5, hr5, hb5⟩
      have HL5 := Keep.keep hl5
      have HB5 := Keep.keep (HWB.out.trans (hb5.mono HWB.out.size))
      have HR5 := Keep.keep (hr5.lower HWB.out.size (fun b hb => hb))
      have HRA := Keep.keep (HR.out.below hb5)
      have HN5 : Keep (l5.length = cP) := ⟨by rw [← HCP.out, ← hl5, List.length_map]⟩
      obtain ⟨a5, c5, hv5, -⟩ := (ownsV_reads hr5.own).shape
      rw [HN5.out] at hv5
      clear hl5 hr5 hb5 HH HR HM
      subst hv5
      by_cases hle : n6 ≤ 1 + cP
      · have HO : Keep (out = flatF d.A d.B ks F) := ⟨by rw [HBY.out, if_pos hle]⟩
        have g1 : decide ((cP : Int) + 1 < (n6 : Int)) = false := decide_eq_false (by omega)
        have g2 : decide (cP + 1 < n6) = false := decide_eq_false (by omega)
        clear hle
        go_wp2_with fail
        go_ret
        exact ⟨_, acc, rfl, by rw [HO.out]; exact HACC.out, HRA.out, HB5.out⟩
      · have HO : Keep (out = fB ++ [mkM dir]) := ⟨by rw [HBY.out, if_neg hle]⟩
        have g1 : decide ((cP : Int) + 1 < (n6 : Int)) = true := decide_eq_true (by omega)
        have g2 : decide (cP + 1 < n6) = true := decide_eq_true (by omega)
        clear hle
        go_wp2_with fail
        refine (HOP.out w5).mono ?_
        rintro e w6 ⟨rfl, hb6⟩
        have HB6 := Keep.keep (HB5.out.trans (hb6.mono HB5.out.size))
        have HR6 := Keep.keep (HR5.out.below hb6)
        clear hb6 HR5
        go_wp2_with fail
        refine (HSG.out w6).mono ?_
        rintro e w7 ⟨rfl, hb7⟩
        have HB7 := Keep.keep (HB6.out.trans (hb7.mono HB6.out.size))
        have HR7 := Keep.keep (HR6.out.below hb7)
        clear hb7 HR6
        go_wp2_with (with_reducible refine arm_stop ?_)
        refine Stopped.out ?_
        rw [← HQW.out]
        refine arm_app1 ((mkM dir, nilV, nilV) : Mv) HR7.out HLB.out HB7.out (ndR_nil (by unfold mkM signM; split <;> rfl) (by unfold mkM signM; split <;> rfl)) (by rw [HN5.out]; omega) rfl rfl ?_
        intro a9 c9 w9 hr9 hb9
        have HR9 := Keep.keep hr9; have HB9 := Keep.keep hb9
        clear hr9 hb9
        simp only [Act.put, List.setIfInBounds_toArray, List.set_cons_succ, List.set_cons_zero]
        go_wp2_with fail
        go_ret
        exact ⟨_, _, rfl, by rw [List.map_append, HL5.out, HO.out]; rfl, HR9.out, HB9.out⟩
    | succ g =>
      have hk : k < ks.length := by rw [HNK.out]; omega
      have hdk : decide ((k : Int) < (nk : Int)) = true := decide_eq_true (by omega)
      have hb := HH.out.below
      have ho8 := HH.out.sl 0 rfl
      obtain ⟨g8, rfl⟩ : ∃ g, a8 = some ⟨g, 0, none⟩ := by
        rcases ho8.2 with ⟨_, h0⟩ | ⟨g, cap, cur, h, _⟩
        · omega
        · injection h with h; exact ⟨g, h⟩
      have hcell := (ownsV_reads ho8).cell g8 0 _ _ rfl k (strV ks[k]) (by simp [hk])
      have HC := Keep.keep (HONE.out ks[k] (List.getElem_mem hk) wr hb)
      have HTK := Keep.keep (flatF_take (A := d.A) (B := d.B) (F := F) hk)
      have hol := HONL.out ks[k]
      generalize oneF d.A d.B (F ks[k]) ks[k] = of1 at *
      generalize ks[k] = cq at *
      unfold strV at hcell
      rw [Nat.zero_add] at hcell
      clear hb ho8
      go_wp2_with fail
      refine HC.out.mono ?_
      rintro e w3 ⟨v3, l3, rfl, hl3, hr3, hb3⟩
      have HL3 := Keep.keep hl3; have HR3 := Keep.keep hr3
      have HH3 := Keep.keep (HH.out.call hb3)
      have HRA := Keep.keep (HR.out.below hb3)
      have HRLT := Keep.keep (fun b e => (HR.out.lt (b := b) e))
      have hn3 : l3.length ≤ 300000 := by rw [← List.length_map (f := fun x : Mv => x.1), hl3]; exact hol
      obtain ⟨a3, c3, hv3, -⟩ := (ownsV_reads hr3.own).shape
      have hsw := HH.out.size
      have hs3 := hb3.size
      clear hl3 hr3 hb3 HC hcell HR HH
      subst hv3
      go_wp2_with (with_reducible refine arm_stop ?_)
      refine Stopped.out ?_
      have hkb : k * 300000 ≤ 200000 * 300000 := Nat.mul_le_mul_right _ (by omega)
      refine arm_appM (B := w.heap.size) HRA.out (Nat.le_trans hsw hs3) HR3.out.mbs (fun b hb => ⟨?_, hb.2.1, fun e => ?_⟩) (by rw [HN6.out]; omega) rfl rfl ?_
      · rcases hb.1 with h | h
        · exact .inl h
        · exact .inr (by omega)
      · have h1 := HRLT.out b e
        rcases hb.1 with h | h
        · have := HLB.out b h; omega
        · omega
      intro v4 w4 hr4 hg4 hov4 hsh4
      have H4 := Keep.keep (HH3.out.grow 1 rfl hg4 hr4.own hov4)
      obtain ⟨a4, c4, rfl⟩ := hsh4
      have HR4 := Keep.keep hr4
      clear hr4 hg4 hov4 HH3 HRA
      simp only [Act.put, List.setIfInBounds_toArray, List.set_cons_succ, List.set_cons_zero]
      rw [HN6.out]
      go_wp2_with fail
      go_roundg g
      case measure => omega
      case rel =>
        refine ⟨k + 1, acc ++ l3, by omega, by simp, by rw [List.map_append, HM.out, HTK.out, HL3.out], ?_, ?_, ?_⟩
        · rw [List.length_append, HN6.out]; omega
        · have := HR4.out; rw [HN6.out] at this; exact this
        · have := H4.out; rw [HN6.out] at this; exact this
theorem kidR_facts {A B : List Mb} (hA : WellL A) (hB : WellL B) {n : Nat} {dir c : Tx} (hf : ∀ x, x ∈ A ∨ x ∈ B → x.1.length < n + dir.length) (hp : ∀ x, x ∈ A ∨ x ∈ B → x.1.length ≤ 400000) (hc : c ∈ ksR A B dir) : c.length ≤ 400000 ∧ dir.length + 1 ≤ c.length ∧ c.length < n + dir.length ∧ c ≠ [] := by
  have hk := ksR_kids hA hB
  obtain ⟨h1, h2, h3⟩ := hk.path hA hB hc
  have hlt := parent_lt h2
  rw [h3] at hlt
  rcases ((hk.mem dir c).1 hc).2 with h4 | h4
  · obtain ⟨v, hv⟩ := Option.isSome_iff_exists.1 h4
    have hm : (c, v) ∈ A ∨ (c, v) ∈ B := .inl (SM.look_mem hv)
    exact ⟨hp _ hm, by omega, hf _ hm, h2⟩
  · obtain ⟨v, hv⟩ := Option.isSome_iff_exists.1 h4
    have hm : (c, v) ∈ A ∨ (c, v) ∈ B := .inr (SM.look_mem hv)
    exact ⟨hp _ hm, by omega, hf _ hm, h2⟩
theorem rtold_any (d : RD) (hA : WellL d.A) (hB : WellL d.B) (hp : ∀ x, x ∈ d.A ∨ x ∈ d.B → x.1.length ≤ 400000) :
    ∀ (n : Nat) (dir : Tx) (w : World), RIn w d → dir.length ≤ 400000 → (∀ x, x ∈ d.A ∨ x ∈ d.B → x.1.length < n + dir.length) →
    Calls Tryz.prog 33 #[.pointer (some ⟨d.Ra, 0, none⟩), .pointer (some ⟨d.Rb, 0, none⟩), .string ⟨dir.toArray⟩] w (RAns d.Nb (belF d.A d.B (ksR d.A d.B) n dir) w) := by
  intro n
  have hB1 : ∀ w, RIn w d → d.B.length ≤ 100000 := fun w h => by unfold RD.B; rw [List.length_map]; exact h.llb
  induction n with
  | zero =>
    intro dir w h hdl hf
    rw [bel_step hA hB (ksR_kids hA hB) 0 dir hf]
    exact rtold_one d _ dir w hA hB hdl (fun c => by
      have := bel_len d.A d.B (ksR d.A d.B) (0 - 1) c
      have h2 := List.countP_le_length (p := fun q : Mb => underP c q.1) (l := d.B)
      omega) h (fun c hc wx hb => by
      have := kidR_facts hA hB hf hp hc
      omega)
  | succ n ih =>
    intro dir w h hdl hf
    rw [bel_step hA hB (ksR_kids hA hB) (n + 1) dir hf]
    have hlen : ∀ c, (belF d.A d.B (ksR d.A d.B) n c).length ≤ 1 + d.B.length := fun c => by
      have := bel_len d.A d.B (ksR d.A d.B) n c
      have h2 := List.countP_le_length (p := fun q : Mb => underP c q.1) (l := d.B)
      omega
    have hlb := hB1 w h
    refine rtold_one d _ dir w hA hB hdl hlen h (fun c hc wx hb => ?_)
    obtain ⟨f1, f2, f3, f4⟩ := kidR_facts hA hB hf hp hc
    refine rone_any d c _ wx f1 f4 (Nat.le_trans (hlen c) (by omega)) (h.below hb) (fun ⟨y, hy, hk⟩ _ wy hb2 => ?_)
    refine ih c wy ((h.below hb).below hb2) f1 (fun x hx => ?_)
    have := hf x hx
    omega
end Go.Proofs.YtmnknmpfkjhgbaaGreatDoor
/- portolanref20.Of: the changeset, by rising paths. -/
namespace Go.Proofs.YtmnknmpfkjhgbaaGreatDoor
open Go.RowKit
/-- where the first one stands that is not less -/
def fstG (l : List Mb) (p : Tx) : Nat := (l.takeWhile fun x => decide (x.1 < p)).length
theorem fstG_le : ∀ (l : List Mb) (p : Tx), fstG l p ≤ l.length
  | [], _ => Nat.le_refl _
  | x :: l, p => by
    unfold fstG
    rw [List.takeWhile_cons]
    split
    · exact Nat.succ_le_succ (fstG_le l p)
    · exact Nat.zero_le _
theorem fstG_lt : ∀ (l : List Mb) (p : Tx) (j : Nat), j < fstG l p → (hl : j < l.length) → l[j].1 < p
  | [], _, _, _, hl => by cases hl
  | x :: l, p, j, hj, hl => by
    unfold fstG at hj
    rw [List.takeWhile_cons] at hj
    split at hj
    · rename_i h
      cases j with
      | zero => exact of_decide_eq_true h
      | succ j => exact fstG_lt l p j (Nat.lt_of_succ_lt_succ hj) (Nat.lt_of_succ_lt_succ hl)
    · cases hj
theorem fstG_ge : ∀ (l : List Mb) (p : Tx), (hl : fstG l p < l.length) → ¬ l[fstG l p].1 < p
  | [], _, hl => by cases hl
  | x :: l, p, hl => by
    have e : fstG (x :: l) p = if decide (x.1 < p) then fstG l p + 1 else 0 := by
      unfold fstG
      rw [List.takeWhile_cons]
      split <;> simp_all
    by_cases h : x.1 < p
    · rw [if_pos (by simpa using h)] at e
      simp only [e] at hl ⊢
      exact fstG_ge l p (Nat.lt_of_succ_lt_succ hl)
    · rw [if_neg (by simpa using h)] at e
      simp only [e]
      exact h
theorem insM_at : ∀ (l : List Mb) (m : Mb), insM l m = l.take (fstG l m.1) ++ m :: l.drop (fstG l m.1)
  | [], m => rfl
  | x :: l, m => by
    have ih := insM_at l m
    unfold insM at ih ⊢
    have e : fstG (x :: l) m.1 = if decide (x.1 < m.1) then fstG l m.1 + 1 else 0 := by
      unfold fstG
      rw [List.takeWhile_cons]
      split <;> simp_all
    rw [List.takeWhile_cons, List.dropWhile_cons, e]
    split
    · rw [List.take_succ_cons, List.drop_succ_cons, List.cons_append, List.cons_append, ih]
    · rfl
set_option maxHeartbeats 8000000 in
set_option maxRecDepth 100000 in
theorem rof_any (d : RD) (w : World) (hA : WellL d.A) (hB : WellL d.B) (hlB : d.B.length ≤ 4095) (h : RIn w d) :
    Calls Tryz.prog 28 #[.pointer (some ⟨d.Ra, 0, none⟩), .pointer (some ⟨d.Rb, 0, none⟩)] w fun e w' => ∃ v l, e = .returned (.tuple #[v, .int .i64 0]) ∧ l.map (·.1) = (toldR d.A d.B).foldl insM [] ∧ RowM w.heap.size d.Nb w' v l ∧ Below w.heap.size w w' := by
  have hp : ∀ x, x ∈ d.A ∨ x ∈ d.B → x.1.length ≤ 400000 := fun x hx => by
    rcases hx with hx | hx
    · obtain ⟨y, hy, rfl⟩ := List.mem_map.1 hx
      exact (h.a.sm y hy).p
    · obtain ⟨y, hy, rfl⟩ := List.mem_map.1 hx
      exact (h.b.sm y hy).p
  have HT := Keep.keep (rtold_any d hA hB hp 500000 [] w h (by simp) (fun x hx => by have := hp x hx; simp; omega))
  have hlen : (toldR d.A d.B).length ≤ 4096 := by
    have h1 := bel_len d.A d.B (ksR d.A d.B) 500000 []
    have h2 := List.countP_le_length (p := fun q : Mb => underP [] q.1) (l := d.B)
    unfold toldR
    omega
  have HE : Keep (belF d.A d.B (ksR d.A d.B) 500000 [] = toldR d.A d.B) := ⟨rfl⟩
  rw [HE.out] at HT
  have HLB : Keep (∀ b, d.Nb b → b < w.heap.size) := ⟨h.nb⟩
  clear hA hB h hp HE
  generalize toldR d.A d.B = U at *
  go_enter Tryz.func28, Tryz.ntmps28
  go_wp2_with fail
  refine HT.out.mono ?_
  rintro e w1 ⟨v, l, rfl, hm, hr, hb⟩
  have HM := Keep.keep hm; have HR := Keep.keep hr; have HB := Keep.keep hb
  have hll : l.length ≤ 4096 := by rw [← List.length_map (f := fun x : Mv => x.1), hm]; exact hlen
  obtain ⟨a6, c6, hv, -⟩ := (ownsV_reads hr.own).shape
  obtain ⟨n, hn⟩ : ∃ n, l.length = n := ⟨_, rfl⟩
  have HN := Keep.keep hn
  have HUN : Keep (U.length = n) := ⟨by rw [← hm, List.length_map]; exact hn⟩
  rw [hn] at hv hll
  clear hm hr hb hn HT hlen
  subst hv
  go_wp2_with fail
  go_loopg [7, 8, 9, 10] n (fun g u7 u8 _ _ wx => ∃ (i : Nat) (acc : List Mv), i + g = n ∧ u8 = .int .i64 (i : Int) ∧ (U.take i).foldl insM [] = acc.map (·.1) ∧ acc.length = i ∧ RowM w.heap.size d.Nb wx u7 acc ∧ Below w1.heap.size w1 wx)
  case atStart => exact ⟨0, [], by omega, rfl, rfl, rfl, RowM.nil _ _ _, Below.refl _ _⟩
  case round =>
    obtain ⟨i, acc, hig, rfl, hacc, hal, hrow, hbx⟩ := hrel
    have HAC := Keep.keep hacc; have HRO := Keep.keep hrow; have HBX := Keep.keep hbx; have HAL := Keep.keep hal
    obtain ⟨a7, c7, hv7, hc7, hm7, h73⟩ := (ownsV_reads hrow.own).shape
    rw [hal] at hv7 hc7
    have H73 := Keep.keep h73; have HM7 := Keep.keep hm7
    clear hacc hrow hbx hal h73 hm7
    subst hv7
    cases gk with
    | zero =>
      obtain rfl : i = n := by omega
      have hd1 : decide ((i : Int) < (i : Int)) = false := decide_eq_false (by omega)
      have hd2 : decide (4096 < (i : Int)) = false := decide_eq_false (by omega)
      have hd3 : decide (4096 < i) = false := decide_eq_false (by omega)
      have HX : Keep (acc.map (·.1) = U.foldl insM []) := ⟨by rw [← HAC.out, List.take_of_length_le (by rw [HUN.out]; exact Nat.le_refl _)]⟩
      go_wp2_with fail
      go_ret2
      exact ⟨_, acc, rfl, HX.out, HRO.out, HB.out.trans (HBX.out.mono HB.out.size)⟩
    | succ g =>
      have hi : i < l.length := by rw [HN.out]; omega
      have hiU : i < U.length := by rw [HUN.out]; omega
      have hdi : decide ((i : Int) < (n : Int)) = true := decide_eq_true (by omega)
      have hUi : U[i] = l[i].1 := by simp [← HM.out]
      have HTK : Keep ((U.take (i + 1)).foldl insM [] = insM (acc.map (·.1)) l[i].1) := ⟨by rw [List.take_succ_eq_append_getElem hiU, List.foldl_append, HAC.out, hUi]; rfl⟩
      clear hUi hiU
      have hrb := HR.out.below HBX.out
      have hmb : Mbs wr (Fresh w.heap.size wr) (fun b => (d.Nb b ∨ w.heap.size ≤ b) ∧ b < w1.heap.size) (.slice a6 n c6) l := ⟨hrb.mbs.rd, fun x hx => ((HR.out.nd x hx).below HBX.out (fun b e => e.2.1)).mono (fun b e => ⟨e.1, e.2.1⟩)⟩
      obtain ⟨b6, off6, rfl⟩ : ∃ b off, a6 = some ⟨b, off, none⟩ := by
        obtain ⟨_, _, e, _, _, h3⟩ := hmb.rd.shape
        injection e with e1 e2 e3
        subst e1 e3
        rcases h3 with h | ⟨b, off, e, _⟩
        · omega
        · exact ⟨b, off, e⟩
      have HCX : Keep (∀ wx, Below wr.heap.size wr wx → wx.cell? ⟨b6, off6 + i * 9, none⟩ = some (strV l[i].1.1)) := ⟨fun wx hb => by
        have hc := (hmb.below hb (fun b e => e.2) (fun b e => Nat.lt_of_lt_of_le e.2 HBX.out.size)).cell hi 0 (by omega) (u := strV l[i].1.1) rfl
        rw [Nat.add_zero] at hc
        exact hc⟩
      have HLDX : Keep (∀ wx, Below wr.heap.size wr wx → (Instr.loadAt 41 (.pointer (some ⟨b6, off6 + i * 9, none⟩))).run Tryz.prog wx = .ok (.agg (mcell l[i])) wx) := ⟨fun wx hb => (hmb.below hb (fun b e => e.2) (fun b e => Nat.lt_of_lt_of_le e.2 HBX.out.size)).load hi⟩
      have HNDX := Keep.keep (hmb.nd _ (List.getElem_mem hi))
      clear hrb hmb
      generalize l[i] = x at *
      obtain ⟨⟨xp, xn⟩, xv, xd⟩ := x
      obtain ⟨aa, la, ca, ad, ld, cd, e1, e2⟩ := HNDX.out.shape
      dsimp only at e1 e2 HTK HCX HNDX
      subst e1 e2
      have HMC : Keep (mcell ((xp, xn), .slice aa la ca, .slice ad ld cd) = #[.string ⟨xp.toArray⟩, .int .i64 xn.kind, .int .u32 xn.mode, .int .u32 xn.uid, .int .u32 xn.gid, .int .i64 xn.time, .slice aa la ca, .slice ad ld cd, .string ⟨xn.link.toArray⟩]) := ⟨rfl⟩
      rw [HMC.out] at HLDX
      unfold strV at HCX
      have HIA := Keep.keep (insM_at (acc.map (·.1)) (xp, xn))
      have hple := fstG_le (acc.map (·.1)) xp
      rw [List.length_map, HAL.out] at hple
      have HLT : Keep (∀ j, (hj : j < fstG (acc.map (·.1)) xp) → (hl : j < acc.length) → acc[j].1.1 < xp) := ⟨fun j hj hl => by
        have := fstG_lt (acc.map (·.1)) xp j hj (by rw [List.length_map]; exact hl)
        simpa using this⟩
      have HGE : Keep (∀ hl : fstG (acc.map (·.1)) xp < acc.length, ¬ acc[fstG (acc.map (·.1)) xp].1.1 < xp) := ⟨fun hl => by
        have := fstG_ge (acc.map (·.1)) xp (by rw [List.length_map]; exact hl)
        simpa using this⟩
      dsimp only at HIA
      generalize fstG (acc.map (·.1)) xp = pl at *
      have HB0 := Keep.keep (HB.out.trans (HBX.out.mono HB.out.size))
      have HSZ : Keep (w1.heap.size ≤ wr.heap.size) := ⟨HBX.out.size⟩
      go_wp2_with fail
      generalize wr = wo at *
      go_loopg [9] pl (fun g u9 wx => ∃ j : Nat, j + g = pl ∧ u9 = .int .i64 (j : Int) ∧ Below wo.heap.size wo wx)
      case atStart => exact ⟨0, by omega, rfl, Below.refl _ _⟩
      case round =>
        obtain ⟨j, hjg, rfl, hbx⟩ := hrel
        have HBY := Keep.keep hbx
        have HROX := Keep.keep (HRO.out.below hbx)
        have cx := HCX.out wr hbx
        clear hbx
        cases gk with
        | zero =>
          obtain rfl : j = pl := by omega
          have HX : Keep ((U.take (i + 1)).foldl insM [] = (acc.take j ++ [(((xp, xn), .slice aa la ca, .slice ad ld cd) : Mv)] ++ acc.drop j).map (·.1)) := ⟨by
            rw [HTK.out, HIA.out]
            simp [List.map_take, List.map_drop]⟩
          by_cases hjn : j < acc.length
          focus
            have hng := HGE.out hjn
            obtain ⟨b3, off3, rfl, -⟩ := H73.out.resolve_left (by have := HAL.out; omega)
            have hcj := HROX.out.mbs.cell hjn 0 (by omega) (u := strV acc[j].1.1) rfl
            have hjl : j < i := by have := HAL.out; omega
            have hd : decide (j < i) = true := decide_eq_true hjl
            have hd' : decide ((j : Int) < (i : Int)) = true := decide_eq_true (by omega)
            have hbl : Op.bytesLess acc[j].1.1 xp = false := by rw [less_lt]; exact decide_eq_false hng
            unfold strV at hcj
            rw [Nat.add_zero] at hcj
            obtain ⟨yp, hyp⟩ : ∃ y, acc[j].1.1 = y := ⟨_, rfl⟩
            rw [hyp] at hcj hbl
            clear hyp hng hjn
            go_upto_region 7 with fail
            (refine wp_region_quiet_lit (by kernel_rfl) (by kernel_rfl) ?_); (repeat (first | (fail) | go_big_quiet_step (fail))); (refine wpQuiet_nil ?_); (intro _ hwq); (obtain ⟨nq, hwq⟩ := hwq); (subst hwq)
            go_upto_region 10 with fail
            clear hcj hd hd' hbl hjl
            generalize (some (⟨b3, off3, none⟩ : Addr)) = a7 at *
          rotate_left
          focus
            have hd : decide (j < i) = false := decide_eq_false (by have := HAL.out; omega)
            have hd' : decide ((j : Int) < (i : Int)) = false := decide_eq_false (by have := HAL.out; omega)
            clear hjn
            go_upto_region 7 with fail
            (refine wp_region_quiet_lit (by kernel_rfl) (by kernel_rfl) ?_); (repeat (first | (fail) | go_big_quiet_step (fail))); (refine wpQuiet_nil ?_); (intro _ hwq); (obtain ⟨nq, hwq⟩ := hwq); (subst hwq)
            go_upto_region 10 with fail
            clear hd hd'
          all_goals
            have hs42 := slice_mto a7 i c7 j .i64 (by omega)
            obtain ⟨a7', hs54, hrd7⟩ := slice_mfrom a7 i c7 j .i64 hple hc7
            have HR54 := Keep.keep hrd7
            clear hrd7 cx
            have hbq : Below wr.heap.size wr (wr.drewN nq) := below_drewN' (Below.refl _ _) _
            obtain ⟨wq, hwq⟩ : ∃ wq, wr.drewN nq = wq := ⟨_, rfl⟩
            rw [hwq] at hbq ⊢
            have HBQ := Keep.keep (HBY.out.trans (hbq.mono HBY.out.size))
            have HRQ := Keep.keep (HROX.out.below hbq)
            clear hwq hbq HROX
            go_wp2_with (with_reducible refine arm_stop ?_)
            refine Stopped.out ?_
            refine arm_appM (B := wq.heap.size) (K := fun b => d.Nb b ∨ w.heap.size ≤ b) (l := []) (RowM.nil _ _ _) (Nat.le_refl _) (Mbs.take HRQ.out.mbs j (by rw [HAL.out]; exact hple)) (fun b hb => ⟨.inl hb.1, hb.2.1, by simp [Value.ownBlock]⟩) (by rw [List.length_take]; simp; omega) rfl rfl ?_
            intro v10 w10 hr10 hg10 hov10 hsh10
            obtain ⟨a10, c10, rfl⟩ := hsh10
            have hlj : (acc.take j).length = j := by rw [List.length_take, HAL.out]; omega
            have hb10 := (RowM.nil wq.heap.size (fun b => d.Nb b ∨ w.heap.size ≤ b) wq).chg (Nat.le_refl _) hg10
            rw [List.nil_append, List.length_nil, Nat.zero_add, hlj] at hr10
            rw [List.length_nil, Nat.zero_add, hlj]
            have HR10 := Keep.keep hr10; have HB10 := Keep.keep hb10; have HLJ := Keep.keep hlj
            have hld := HLDX.out w10 (HBQ.out.trans (hb10.mono HBQ.out.size))
            have hsq := HBQ.out.size
            have hs1 := HSZ.out
            have hsw := HB.out.size
            have hs10 := hb10.size
            clear hr10 hg10 hov10 hb10 hlj hs42
            simp only [Act.put, List.setIfInBounds_toArray, List.set_cons_succ, List.set_cons_zero]
            go_wp2_with (first
              | ((with_reducible refine arm_loadM hld ?_ ?_); (focus rfl); simp only [Act.put, List.setIfInBounds_toArray, List.set_cons_succ, List.set_cons_zero])
              | (with_reducible refine arm_stop ?_))
            refine Stopped.out ?_
            refine arm_app1G (w0 := wq) (N := fun b => (d.Nb b ∨ w.heap.size ≤ b) ∧ b < w1.heap.size) (((xp, xn), .slice aa la ca, .slice ad ld cd) : Mv) HR10.out (fun b hb => ⟨.inl hb.1, by omega, fun e => by have := (HR10.out.lt e).1; omega⟩) HB10.out (HNDX.out.below (HBQ.out.trans (HB10.out.mono hsq)) (fun b hb => by omega)) (by rw [HLJ.out]; omega) rfl rfl ?_
            intro a11 c11 w11 hr11 hb11
            have HR11 := Keep.keep hr11; have HB11 := Keep.keep hb11
            have HM12 := Keep.keep (HR54.out _ _ _ acc (Mbs.below HRQ.out.mbs hb11 (fun b h => h.2) (fun b h => h.2.1)))
            have hs11 := hb11.size
            rw [HLJ.out] at HR11 ⊢
            clear hr11 hb11 hld HLDX HCX
            simp only [Act.put, List.setIfInBounds_toArray, List.set_cons_succ, List.set_cons_zero]
            go_wp2_with (with_reducible refine arm_stop ?_)
            refine Stopped.out ?_
            refine arm_appM (B := wq.heap.size) HR11.out hs11 HM12.out (fun b hb => ⟨.inl hb.1, by have := hb.2.1; omega, fun e => by have h1 := (HR11.out.lt e).1; have h2 := hb.2.1; omega⟩) (by rw [List.length_append, HLJ.out, List.length_drop, HAL.out]; simp; omega) rfl rfl ?_
            intro v12 w12 hr12 hg12 hov12 hsh12
            obtain ⟨a12, c12, rfl⟩ := hsh12
            have HB12 := Keep.keep (HB11.out.trans (HR11.out.chg hs11 hg12 |>.mono (Nat.le_refl _)))
            have HL12 : Keep ((acc.take j ++ [(((xp, xn), .slice aa la ca, .slice ad ld cd) : Mv)] ++ acc.drop j).length = i + 1) := ⟨by rw [List.length_append, List.length_append, HLJ.out, List.length_drop, HAL.out]; simp; omega⟩
            have HR12 : Keep (RowM w.heap.size d.Nb w12 (.slice a12 (i + 1) c12) (acc.take j ++ [(((xp, xn), .slice aa la ca, .slice ad ld cd) : Mv)] ++ acc.drop j)) := ⟨by
              have hr := hr12
              rw [← List.length_append, HL12.out] at hr
              refine ⟨ownsRow_base hr.own (by omega), fun y hy => (hr.nd y hy).mono (fun b e => ⟨?_, e.2⟩)⟩
              rcases e.1 with e1 | e1
              · exact e1
              · exact .inr (by omega)⟩
            rw [← List.length_append, HL12.out]
            clear hr12 hg12 hov12 hs54 HM12 HR11 HR10
            simp only [Act.put, List.setIfInBounds_toArray, List.set_cons_succ, List.set_cons_zero]
            go_wp2_with fail
            go_roundg g
            case measure => omega
            case rel => exact ⟨i + 1, _, by omega, by simp, HX.out, HL12.out, HR12.out, HBX.out.trans ((HBQ.out.trans (HB12.out.mono hsq)).mono hs1)⟩
        | succ g1 =>
          have hjn : j < acc.length := by have := HAL.out; omega
          obtain ⟨b3, off3, rfl, -⟩ := H73.out.resolve_left (by have := HAL.out; omega)
          have hcj := HROX.out.mbs.cell hjn 0 (by omega) (u := strV acc[j].1.1) rfl
          have hlt := HLT.out j (by omega) hjn
          have hjl : j < i := by have := HAL.out; omega
          have hd : decide (j < i) = true := decide_eq_true hjl
          have hd' : decide ((j : Int) < (i : Int)) = true := decide_eq_true (by omega)
          have hbl : Op.bytesLess acc[j].1.1 xp = true := by rw [less_lt]; exact decide_eq_true hlt
          unfold strV at hcj
          rw [Nat.add_zero] at hcj
          obtain ⟨yp, hyp⟩ : ∃ y, acc[j].1.1 = y := ⟨_, rfl⟩
          rw [hyp] at hcj hbl
          clear hyp hlt hjn
          go_upto_region 7 with fail
          (refine wp_region_quiet_lit (by kernel_rfl) (by kernel_rfl) ?_); (repeat (first | (fail) | go_big_quiet_step (fail))); (refine wpQuiet_nil ?_); (intro _ hwq); (obtain ⟨nq, hwq⟩ := hwq); (subst hwq)
          go_wp2_with fail
          go_roundg g1
          case measure => omega
          case rel => exact ⟨j + 1, by omega, by simp, HBY.out.trans (below_drewN' (Below.refl _ _) _ |>.mono HBY.out.size)⟩
end Go.Proofs.YtmnknmpfkjhgbaaGreatDoor
/- MEMBERS OF ONE'S OWN, the bytes of which are overwritten. -/
namespace Go.Proofs.YtmnknmpfkjhgbaaGreatDoor
open Go.RowKit
theorem Of_trO {w : World} {Ta Tb : Nat} {A B : List Mb} (T : Nat) (hT : Tabs T w) (hA : WellL A) (hB : WellL B) (hLA : A.length ≤ 4095) (hLB : B.length ≤ 4095) (h1 : TrL w Ta A) (h2 : TrL w Tb B) :
    Calls Tryz.prog 9 #[.pointer (some ⟨Ta, 0, none⟩), .pointer (some ⟨Tb, 0, none⟩)] w fun e w' => ∃ v l, e = .returned (.tuple #[v, .int .i64 0]) ∧ OfL A B (l.map (·.1)) ∧ (l.map (·.1)).Perm (toldL A B) ∧ RowO w.heap.size NoM w' v l ∧ Below w.heap.size w w' := by
  obtain ⟨ta, Ba, fa, ha, hBa⟩ := h1
  obtain ⟨tb, Bb, fb, hb, hBb⟩ := h2
  refine (Of_anyO Ta ta Ba fa A Tb tb Bb fb B T w hT hA hB (by omega) hLB ha hBa hb hBb).mono ?_
  rintro e w' ⟨v, l, he, hp, hs, hr, hbb⟩
  exact ⟨v, l, he, of_leads hA hB hLB ha.sm hb.sm hp (by rw [List.pairwise_map]; exact hs), hp, hr, hbb⟩
/-- the bytes of a Member's Data are there, whichever they are -/
def DtB (w : World) (B : Nat) (v dv : Value) (n : Nat) : Prop := ∀ b off m c, dv = .slice (some ⟨b, off, none⟩) m c → B ≤ b ∧ v.ownBlock ≠ some b ∧ ∃ cs, Row w b 5 cs ∧ ∀ j, j < n → ∃ z, cs[off + j]? = some (.int .u8 z)
structure SpB (B : Nat) (w : World) (v : Value) (l : List Mv) : Prop where
  own : w.ownsRow B 41 9 v l.length (mcells l)
  b : ∀ x ∈ l, DtB w B v x.2.2 x.1.2.data.length
theorem row_at {w : World} {b i : Nat} {e : TypeId} {c : Array Value} (h : Row w b e c) {u : Value} (hc : w.cell? ⟨b, i, none⟩ = some u) : c[i]? = some u := by
  rw [cell_of_row w b i c e (0, 0) h] at hc; exact hc
theorem SpB.ofO {B : Nat} {w : World} {v : Value} {l : List Mv} (h : RowO B NoM w v l) : SpB B w v l :=
  ⟨h.own, fun x hx b off m c e => by
    obtain ⟨h1, cs, h2⟩ := (h.nd x hx).td b off m c e
    refine ⟨h1.1.elim (fun h => h.elim) id, h1.2.2, cs, h2, fun j hj => ?_⟩
    exact ⟨_, row_at h2 ((h.nd x hx).r.dt.cell b off m c e j hj)⟩⟩
theorem SpB.set {B g i : Nat} {w : World} {v : Value} {l : List Mv} {cs : Array Value} {z : Int} (h : SpB B w v l) (hr : Row w g 5 cs) (hne : v.ownBlock ≠ some g) : SpB B (w.setCell ⟨g, i, none⟩ (.int .u8 z)) v l :=
  ⟨ownsRow_loc _ _ (fun b hb => heap_setCell_other w ⟨g, i, none⟩ b _ (fun e => hne (by rw [hb, e]))) h.own, fun x hx b off m c e => by
    obtain ⟨h1, h2, c', h3, h4⟩ := h.b x hx b off m c e
    by_cases hb : b = g
    · subst hb
      have hcc : c' = cs := by
        unfold Row at h3 hr
        rw [h3] at hr
        injection hr with hr
        injection hr
      subst hcc
      refine ⟨h1, h2, _, h3.set i _, fun j hj => ?_⟩
      obtain ⟨k, hk⟩ := h4 j hj
      by_cases hi : i = off + j
      · subst hi
        have hlt := (Array.getElem?_eq_some_iff.1 hk).1
        exact ⟨z, by simp [hlt]⟩
      · exact ⟨k, by rw [Array.getElem?_setIfInBounds_ne hi]; exact hk⟩
    · exact ⟨h1, h2, c', h3.other (a := ⟨g, i, none⟩) hb _, h4⟩⟩
theorem SpB.below {B : Nat} {w w' : World} {v : Value} {l : List Mv} (h : SpB B w v l) (hb : Below w.heap.size w w') : SpB B w' v l :=
  ⟨ownsRow_loc _ _ (fun b hb' => hb.block b (World.ownsRow.lt h.own b hb').2) h.own, fun x hx b off m c e => by
    obtain ⟨h1, h2, cs, h3, h4⟩ := h.b x hx b off m c e
    exact ⟨h1, h2, cs, h3.below hb h3.lt, h4⟩⟩
/-- sorted, of distinct paths: one list alone -/
theorem srt_of_le {K L : List Mb} (hK : K.Pairwise (fun x y => x.1 ≤ y.1)) (hp : K.Perm L) (hL : SM.Srt L) : K = L := by
  have hn : (L.map (·.1)).Nodup := srt_nodup hL
  have hnK : (K.map (·.1)).Nodup := (hp.map (·.1)).nodup_iff.2 hn
  have hs : SM.Srt K := by
    unfold SM.Srt
    have h2 : K.Pairwise (fun x y => x.1 ≠ y.1) := by
      have := hnK
      unfold List.Nodup at this
      rwa [List.pairwise_map] at this
    refine (List.pairwise_and_iff.2 ⟨hK, h2⟩).imp ?_
    rintro x y ⟨a, b⟩
    rcases tx_tri x.1 y.1 with e | e | e
    · exact e
    · exact (b e).elim
    · exact (List.not_le.2 e a).elim
  exact srt_mem hs hL (fun x => hp.mem_iff)
theorem insR_eq {A B K : List Mb} (hA : WellL A) (hB : WellL B) (ho : OfL A B K) (hp : K.Perm (toldL A B)) : (toldR A B).foldl insM [] = K := by
  obtain ⟨h1, h2⟩ := fold_ins (toldR A B) [] List.Pairwise.nil
  rw [List.nil_append] at h2
  exact srt_of_le h1 ((h2.trans (toldR_perm hA hB)).trans hp.symm) ho.srt
end Go.Proofs.YtmnknmpfkjhgbaaGreatDoor
/- differ.Cost. -/
namespace Go.Proofs.YtmnknmpfkjhgbaaGreatDoor
open Go.RowKit
set_option maxHeartbeats 1000000 in
set_option maxRecDepth 100000 in
theorem cost_tr {w : World} {Ta Tb : Nat} {A B : List Mb} (T : Nat) (hT : Tabs T w) (hA : WellL A) (hB : WellL B) (hLA : A.length ≤ 100000) (hLB : B.length ≤ 100000) (h1 : TrL w Ta A) (h2 : TrL w Tb B) :
    Calls Tryz.prog 21 #[.pointer (some ⟨Ta, 0, none⟩), .pointer (some ⟨Tb, 0, none⟩)] w fun e w' => e = .returned (.tuple #[.int .i64 ((toldL A B).length : Int), .int .i64 0]) ∧ Below w.heap.size w w' := by
  obtain ⟨ta, Ba, fa, ha, hBa⟩ := h1
  obtain ⟨tb, Bb, fb, hb, hBb⟩ := h2
  have HAL := Keep.keep (all_anyO Ta ta Ba fa A Tb tb Bb fb B T w hT hA hB hLA hLB ha hBa hb hBb)
  obtain ⟨n, hn⟩ : ∃ n, (toldL A B).length = n := ⟨_, rfl⟩
  have HNN := Keep.keep hn
  rw [hn]
  clear hT hA hB ha hb hBa hBb hn
  go_enter Tryz.func21, Tryz.ntmps21
  go_wp2_with fail
  refine HAL.out.mono ?_
  rintro e w1 ⟨v, l, rfl, hp, -, hr, hb⟩
  have HB := Keep.keep hb
  obtain ⟨a1, c1, hv1, -⟩ := (ownsV_reads hr.own).shape
  have HN : Keep (l.length = n) := ⟨by rw [← HNN.out, ← hp.length_eq, List.length_map]⟩
  rw [HN.out] at hv1
  clear hp hr hb HAL
  subst hv1
  go_wp2_with fail
  go_ret2
  exact ⟨rfl, HB.out⟩
end Go.Proofs.YtmnknmpfkjhgbaaGreatDoor
/- tree.Same: two trees are the same. -/
namespace Go.Proofs.YtmnknmpfkjhgbaaGreatDoor
open Go.RowKit
theorem srt_sub {L K : List Mb} (h : SM.Srt L) (k : SM.Srt K) (hs : ∀ p n, SM.look L p = some n → SM.look K p = some n) (hl : L.length = K.length) : L = K := by
  have e : K.filter (fun x => (SM.look L x.1).isSome) = L := by
    refine SM.Srt.ext (k.filter _) h (fun p => ?_)
    rw [k.look_filter (fun p => (SM.look L p).isSome)]
    cases hp : SM.look L p with
    | none => simp
    | some n => simp [hs p n hp]
  have e2 : K.filter (fun x => (SM.look L x.1).isSome) = K := by
    refine List.filter_eq_self.2 ?_
    refine List.length_filter_eq_length_iff.1 ?_
    rw [e, hl]
  rw [← e, e2]
set_option maxHeartbeats 4000000 in
set_option maxRecDepth 100000 in
theorem same_tree (T mb : Nat) (Bk : Nat → Prop) (f : Tx → Value × Value) (L : List Mb) (T2 m2 : Nat) (Bk2 : Nat → Prop) (f2 : Tx → Value × Value) (L2 : List Mb) (w : World) (h : TreeIn w T mb Bk f L) (hBk : ∀ b, Bk b → b < w.heap.size) (h2 : TreeIn w T2 m2 Bk2 f2 L2) (hBk2 : ∀ b, Bk2 b → b < w.heap.size) (_hL : L.length ≤ 100000) :
    Calls Tryz.prog 12 #[.pointer (some ⟨T, 0, none⟩), .pointer (some ⟨T2, 0, none⟩)] w fun e w' => SaysB (L = L2) e ∧ Below w.heap.size w w' := by
  have HT := Keep.keep h; have HBK := Keep.keep hBk
  have HT2 := Keep.keep h2; have HBK2 := Keep.keep hBk2
  have HN := Keep.keep (none_ok T mb w h.row)
  have HN2 := Keep.keep (none_ok T2 m2 w h2.row)
  have hmbw := h.map.lt
  have hTw := h.row.lt
  have hm2w := h2.map.lt
  have hT2w := h2.row.lt
  have HEQ : Keep (∀ p n, SM.look L p = some n → SM.look L2 p ≠ some n → L ≠ L2) := ⟨fun p n h1 h2 e => h2 (by rw [← e]; exact h1)⟩
  have HLE : Keep (L.length ≠ L2.length → L ≠ L2) := ⟨fun h e => h (by rw [e])⟩
  have HSB : Keep (L.length = L2.length → (∀ p n, SM.look L p = some n → SM.look L2 p = some n) → L = L2) := ⟨fun hl hs => srt_sub h.srt h2.srt hs hl⟩
  clear h hBk h2 hBk2
  obtain ⟨P, hP⟩ : ∃ P : Prop, (L = L2) = P := ⟨_, rfl⟩
  rw [hP] at HSB ⊢
  have HP : Keep (P ↔ L = L2) := ⟨by rw [hP]⟩
  clear hP
  go_enter Tryz.func12, Tryz.ntmps12
  go_wp2_with fail
  refine HN.out.mono ?_
  rintro e w' ⟨rfl, rfl⟩
  go_wp2_with fail
  refine HN2.out.mono ?_
  rintro e w' ⟨rfl, rfl⟩
  have cT := HT.out.row.cell (i := 0) rfl
  have cT2 := HT2.out.row.cell (i := 0) rfl
  have e1 : (entries f L).length = L.length := by simp [entries]
  have e2 : (entries f2 L2).length = L2.length := by simp [entries]
  have hlen := fun n => (HT.out.map.loc (w' := w.drewN n) rfl).len Tryz.underlying86 3
  have hlen2 := fun n => (HT2.out.map.loc (w' := w.drewN n) rfl).len Tryz.underlying86 3
  rw [e1] at hlen
  rw [e2] at hlen2
  have HE1 := Keep.keep e1
  clear e1 e2 HN HN2
  go_upto_region 3 with fail
  (refine wp_region_quiet_lit (by kernel_rfl) (by kernel_rfl) ?_); (repeat (first | (fail) | go_big_quiet_step (fail))); (refine wpQuiet_nil ?_); (intro _ hwq); (obtain ⟨nq, hwq⟩ := hwq); (subst hwq)
  by_cases hl : L.length = L2.length
  · have hne : ((L.length : Int) != (L2.length : Int)) = false := by simp [hl]
    have HL := Keep.keep hl
    simp only [hne]
    clear hl hlen hlen2 cT cT2 hne
    have hb1 := below_drewN' (Below.refl w.heap.size w) nq
    generalize w.drewN nq = w1 at *
    have HB1 := Keep.keep hb1
    have hs1 := hb1.size
    have HTX : Keep (∀ wx, Below w.heap.size w wx → TreeIn wx T mb Bk f L) := ⟨fun wx hb => HT.out.loc (fun b hb' => hb.block b (by
      rcases hb' with rfl | rfl | h
      · exact hTw
      · exact hmbw
      · exact HBK.out b h))⟩
    have HTY : Keep (∀ wx, Below w.heap.size w wx → TreeIn wx T2 m2 Bk2 f2 L2) := ⟨fun wx hb => HT2.out.loc (fun b hb' => hb.block b (by
      rcases hb' with rfl | rfl | h
      · exact hT2w
      · exact hm2w
      · exact HBK2.out b h))⟩
    have cT := (HTX.out w1 hb1).row.cell (i := 0) rfl
    have HM := Keep.keep (HTX.out w1 hb1).map
    clear hb1
    go_wp2_with (first | (with_reducible refine arm_sRange ?_) | (with_reducible refine arm_sNext ?_) | (with_reducible refine arm_sDel ?_) | (with_reducible refine arm_sPut ?_) | (with_reducible refine arm_sIns ?_))
    refine StM.out ?_
    refine arm_rangeS Tryz.underlying9 Tryz.underlying86 HM.out rfl ?_
    intro w3 hrg hb3 hs3
    obtain ⟨r, hr⟩ : ∃ r, w1.heap.size = r := ⟨_, rfl⟩
    have hwr : w.heap.size ≤ r := by omega
    have HB3 := Keep.keep (HB1.out.trans (hb3.mono hs1))
    rw [hr] at hrg ⊢
    rw [HE1.out] at hrg
    have HRG := Keep.keep hrg
    clear hrg hb3 hs3 hr cT HM
    simp only [Act.put, List.setIfInBounds_toArray, List.set_cons_succ, List.set_cons_zero]
    go_wp2_with fail
    go_loopg [5] L.length (fun g _ wx => ∃ (todo : Tx → Bool), RgS wx 9 mb r (entries f L) todo g ∧ (∀ p n, SM.look L p = some n → todo p = false → SM.look L2 p = some n) ∧ Below w.heap.size w wx)
    case atStart =>
      refine ⟨_, HRG.out, fun p n h1 h2 => ?_, HB3.out⟩
      rw [look_entries, h1] at h2
      simp at h2
    case round =>
      obtain ⟨todo, hrg, hok, hb⟩ := hrel
      have HRG2 := Keep.keep hrg; have HOK := Keep.keep hok; have HB := Keep.keep hb
      clear hrg hok hb HRG HB3
      go_wp2_with (first | (with_reducible refine arm_sRange ?_) | (with_reducible refine arm_sNext ?_) | (with_reducible refine arm_sDel ?_) | (with_reducible refine arm_sPut ?_) | (with_reducible refine arm_sIns ?_))
      refine StM.out ?_
      refine arm_nextS Tryz.underlying9 HRG2.out rfl ?_ ?_
      · intro h0 hall
        have HF : Keep P := ⟨HP.out.2 (by
          have := HSB.out HL.out (fun p n h => HOK.out p n h (hall p))
          exact HP.out.1 this)⟩
        clear h0 hall
        simp only [Act.put, List.setIfInBounds_toArray, List.set_cons_succ, List.set_cons_zero]
        go_wp2_with fail
        go_ret
        exact ⟨⟨true, rfl, ⟨fun _ => HF.out, fun _ => rfl⟩⟩, HB.out⟩
      · intro p v w4 cnt' h1 h2 h3 h4 h5 h6 hen
        obtain ⟨n, hln, hve⟩ : ∃ n, SM.look L p = some n ∧ v = .agg (ndC n (f p).1 (f p).2) := by
          rw [look_entries] at h2
          cases hl : SM.look L p with
          | none => rw [hl] at h2; cases h2
          | some n => rw [hl] at h2; injection h2 with h2; exact ⟨n, rfl, h2.symm⟩
        have HB4 : Keep (Below w.heap.size w w4) := ⟨HB.out.trans ((h5.lower HB.out.size).below (fun k hk e => by omega))⟩
        have hmem := SM.look_mem hln
        have HNX := Keep.keep ((HTX.out w4 HB4.out).nd _ hmem)
        have HSX := Keep.keep (HT.out.sm _ hmem)
        obtain ⟨aa, la, ca, ad, ld, cd, e1, e2⟩ := HNX.out.shape
        dsimp only at e1 e2 HNX
        rw [e1, e2] at HNX hve
        have HRG4 := Keep.keep h3
        have HLN := Keep.keep hln
        have HSH := Keep.keep (And.intro e1 e2)
        have HTD := Keep.keep h1
        clear h1 h2 h3 h5 h6 e1 e2 HRG2 hmem
        subst hve
        have hlt4 := HRG4.out.lt
        have HNC : Keep (ndC n (.slice aa la ca) (.slice ad ld cd) = #[.int .i64 n.kind, .int .u32 n.mode, .int .u32 n.uid, .int .u32 n.gid, .int .i64 n.time, .slice aa la ca, .slice ad ld cd, .string ⟨n.link.toArray⟩]) := ⟨rfl⟩
        rw [HNC.out] at hen ⊢
        simp only [Act.put, List.setIfInBounds_toArray, List.set_cons_succ, List.set_cons_zero]
        go_upto_region 8 with fail
        refine wp_world (R := fun w5 => Below w.heap.size w w5 ∧ RgS w5 9 mb r (entries f L) (fun q => todo q && q != p) cnt' ∧ Row w5 w4.heap.size 39 #[.int .i64 n.kind, .int .u32 n.mode, .int .u32 n.uid, .int .u32 n.gid, .int .i64 n.time, .slice aa la ca, .slice ad ld cd, .string ⟨n.link.toArray⟩]) ⟨HB4.out.alloc HB4.out.size _, HRG4.out.loc (Below.heap_alloc _ _ _ hlt4.1) (Below.heap_alloc _ _ _ hlt4.2.1), Row.new _ _ _⟩ ?_
        intro w5 H5
        obtain ⟨b6, hb6⟩ : ∃ b6, w4.heap.size = b6 := ⟨_, rfl⟩
        rw [hb6] at H5 ⊢
        have hT5 := HTY.out w5 H5.out.1
        have c2 := hT5.row.cell (i := 0) rfl
        have hlk := hT5.map.lookOk Tryz.underlying9 Tryz.underlying86 (zeroN w5) (p := p) (by have := HSX.out.p; dsimp only at this; unfold maxLen; omega)
        have HND2 := Keep.keep hT5.nd
        have hb6lt := H5.out.2.2.lt
        rw [look_entries] at hlk
        clear hen HRG4 HB4 HNX hT5
        cases hl2 : SM.look L2 p with
        | none =>
          have HNE := Keep.keep (HEQ.out p n HLN.out (by rw [hl2]; simp))
          rw [hl2] at hlk
          replace hlk : (Instr.lookup 86 (.map (some m2)) (.string ⟨p.toArray⟩) true).run Tryz.prog w5 = .ok (.tuple #[.agg #[.int .i64 0, .int .u32 0, .int .u32 0, .int .u32 0, .int .i64 0, .slice none 0 0, .slice none 0 0, .string ⟨#[]⟩], .bool false]) w5 := hlk
          clear hl2
          go_wp2_with fail
          go_ret
          exact ⟨⟨false, rfl, ⟨fun h => (by cases h), fun h => (HNE.out (HP.out.1 h)).elim⟩⟩, H5.out.1.alloc H5.out.1.size _⟩
        | some m =>
          have hnm := HND2.out _ (SM.look_mem hl2)
          obtain ⟨ba, lb, cb, bd, le, ce, e1, e2⟩ := hnm.shape
          dsimp only at e1 e2 hnm
          rw [hl2] at hlk
          replace hlk : (Instr.lookup 86 (.map (some m2)) (.string ⟨p.toArray⟩) true).run Tryz.prog w5 = .ok (.tuple #[.agg (ndC m (f2 p).1 (f2 p).2), .bool true]) w5 := hlk
          rw [e1, e2] at hnm hlk
          replace hlk : (Instr.lookup 86 (.map (some m2)) (.string ⟨p.toArray⟩) true).run Tryz.prog w5 = .ok (.tuple #[.agg #[.int .i64 m.kind, .int .u32 m.mode, .int .u32 m.uid, .int .u32 m.gid, .int .i64 m.time, .slice ba lb cb, .slice bd le ce, .string ⟨m.link.toArray⟩], .bool true]) w5 := hlk
          have HNM := Keep.keep hnm
          have HL2 := Keep.keep hl2
          have HS2 := Keep.keep (And.intro e1 e2)
          clear hl2 hnm e1 e2
          go_upto_region 9 with fail
          refine wp_world (R := fun w9 => Below w5.heap.size w5 w9 ∧ Row w9 w5.heap.size 39 #[.int .i64 m.kind, .int .u32 m.mode, .int .u32 m.uid, .int .u32 m.gid, .int .i64 m.time, .slice ba lb cb, .slice bd le ce, .string ⟨m.link.toArray⟩]) ⟨(Below.refl _ _).alloc (Nat.le_refl _) _, Row.new _ _ _⟩ ?_
          intro w9 H9
          obtain ⟨b7, hb7⟩ : ∃ b7, w5.heap.size = b7 := ⟨_, rfl⟩
          rw [hb7] at H9 ⊢
          have HR6 := Keep.keep (H5.out.2.2.below (hb7 ▸ H9.out.1) hb6lt)
          have HR7 := Keep.keep H9.out.2
          have HS6 : Keep ((#[.int .i64 n.kind, .int .u32 n.mode, .int .u32 n.uid, .int .u32 n.gid, .int .i64 n.time, .slice aa la ca, .slice ad ld cd, .string ⟨n.link.toArray⟩] : Array Value).size = 8) := ⟨rfl⟩
          have HS7 : Keep ((#[.int .i64 m.kind, .int .u32 m.mode, .int .u32 m.uid, .int .u32 m.gid, .int .i64 m.time, .slice ba lb cb, .slice bd le ce, .string ⟨m.link.toArray⟩] : Array Value).size = 8) := ⟨rfl⟩
          have HB9 := Keep.keep (H5.out.1.trans ((show Below w5.heap.size w5 w9 from hb7 ▸ H9.out.1).mono H5.out.1.size))
          have hw9 := HB9.out.size
          have hbm1 : ∀ w, (Instr.build 41 #[(0, .string ⟨p.toArray⟩), (1, .agg #[.int .i64 n.kind, .int .u32 n.mode, .int .u32 n.uid, .int .u32 n.gid, .int .i64 n.time, .slice aa la ca, .slice ad ld cd, .string ⟨n.link.toArray⟩])]).run Tryz.prog w = .ok (.agg (mbC (p, n) (.slice aa la ca) (.slice ad ld cd))) w := fun w => by kernel_rfl
          have hbm2 : ∀ w, (Instr.build 41 #[(0, .string ⟨p.toArray⟩), (1, .agg #[.int .i64 m.kind, .int .u32 m.mode, .int .u32 m.uid, .int .u32 m.gid, .int .i64 m.time, .slice ba lb cb, .slice bd le ce, .string ⟨m.link.toArray⟩])]).run Tryz.prog w = .ok (.agg (mbC (p, m) (.slice ba lb cb) (.slice bd le ce))) w := fun w => by kernel_rfl
          have HTS := Keep.keep (same_tar (p, n) (p, m) (.slice aa la ca) (.slice ad ld cd) (.slice ba lb cb) (.slice bd le ce) w9 (by
            have h1 := (HTX.out w9 HB9.out).nd _ (SM.look_mem HLN.out)
            dsimp only at h1
            rw [HSH.out.1, HSH.out.2] at h1
            exact h1.mono (fun b hb => by have := HBK.out b hb; omega)) (by
            have h1 := (HTY.out w9 HB9.out).nd _ (SM.look_mem HL2.out)
            dsimp only at h1
            rw [HS2.out.1, HS2.out.2] at h1
            exact h1.mono (fun b hb => by have := HBK2.out b hb; omega)))
          clear hlk c2
          go_wp2_with (first
            | ((with_reducible refine arm_loadRowG ?_ HR6.out aggN HS6.out ?_ ?_); (focus rfl); (focus rfl); simp only [Act.put, List.setIfInBounds_toArray, List.set_cons_succ, List.set_cons_zero])
            | ((with_reducible refine arm_loadRowG ?_ HR7.out aggN HS7.out ?_ ?_); (focus rfl); (focus rfl); simp only [Act.put, List.setIfInBounds_toArray, List.set_cons_succ, List.set_cons_zero]))
          refine HTS.out.mono ?_
          rintro e w10 ⟨⟨rb, rfl, hrb⟩, hb10⟩
          have HB10 := Keep.keep (HB9.out.trans (hb10.mono hw9))
          have hrg5 := H5.out.2.1.lt
          have HRG10 : Keep (RgS w10 9 mb r (entries f L) (fun q => todo q && q != p) cnt') := ⟨H5.out.2.1.loc (by rw [hb10.block mb (by have := HB9.out.size; omega), H9.out.1.block mb (by omega)]) (by rw [hb10.block r (by have := (hb7 ▸ H9.out.1 : Below w5.heap.size w5 w9).size; omega), H9.out.1.block r (by omega)])⟩
          cases rb with
          | true =>
            have hmn : n = m := by
              have := hrb.1 rfl
              injection this
            have HMN := Keep.keep hmn
            clear hmn hrb hb10
            go_wp2_with fail
            go_roundg cnt'
            case measure => omega
            case rel =>
              refine ⟨_, HRG10.out, fun p' n' h1 h2 => ?_, HB10.out⟩
              by_cases e : p' = p
              · rw [e] at h1 ⊢
                rw [HLN.out] at h1
                rw [HL2.out, ← HMN.out]; exact h1
              · exact HOK.out p' n' h1 (by simpa [e] using h2)
          | false =>
            have HNE := Keep.keep (HEQ.out p n HLN.out (by
              rw [HL2.out]
              intro e
              injection e with e
              have := hrb.2 (by rw [e])
              cases this))
            clear hrb hb10
            go_wp2_with fail
            go_ret
            exact ⟨⟨false, rfl, ⟨fun h => (by cases h), fun h => (HNE.out (HP.out.1 h)).elim⟩⟩, HB10.out⟩
  · have hne : ((L.length : Int) == (L2.length : Int)) = false := by simp; omega
    have HL := Keep.keep hl
    clear hl hlen hlen2
    go_wp2_with fail
    go_ret
    exact ⟨⟨false, rfl, ⟨fun h => (by cases h), fun h => (HLE.out HL.out (HP.out.1 h)).elim⟩⟩, below_drewN' (Below.refl _ _) _⟩
end Go.Proofs.YtmnknmpfkjhgbaaGreatDoor
/- portolanlaw20.DifferChain: the law's walk. -/
namespace Go.Proofs.YtmnknmpfkjhgbaaGreatDoor
open Go.RowKit
def ActL (w : World) (v : Value) (l : List Av) : Prop := ActsR w (· < w.heap.size) (· < w.heap.size) v l
theorem ActL.on {w w' : World} {v : Value} {l : List Av} (h : ActL w v l) (hb : Below w.heap.size w w') : ActL w' v l :=
  ⟨(h.rd.below hb (fun _ hb => hb)).mono (fun _ h => Nat.lt_of_lt_of_le h hb.size), fun x hx => ((h.nd x hx).below hb (fun _ hb => hb)).mono (fun _ h => Nat.lt_of_lt_of_le h hb.size)⟩
def actT (l : List Av) : List Mb := grownL (l.map fun x => (x.1, x.2.1))
theorem actT_well (l : List Av) : WellL (actT l) := grown_well _
theorem actT_len (l : List Av) : (actT l).length ≤ 40 := grown_len _
theorem grown_tr {w : World} {v : Value} {l : List Av} (B : Nat) (hT : Tabs B w) (hr : ActL w v l) (hs : ∀ x ∈ l, Kb x.2.1) :
    Calls Tryz.prog 8 #[v] w fun e w' => ∃ T, e = .returned (.pointer (some ⟨T, 0, none⟩)) ∧ TrL w' T (actT l) ∧ Below w.heap.size w w' := by
  refine (grown_any B v l w hT hr hs).mono ?_
  rintro e w' ⟨T, mb, Bk, f, he, h1, h2, h3⟩
  exact ⟨T, he, ⟨mb, Bk, f, h1, fun b hb => (h2.2.2 b hb).2⟩, h3⟩
theorem same_tr {w : World} {T T2 : Nat} {A B : List Mb} (h1 : TrL w T A) (h2 : TrL w T2 B) (hA : A.length ≤ 100000) (he : A = B) :
    Calls Tryz.prog 12 #[.pointer (some ⟨T, 0, none⟩), .pointer (some ⟨T2, 0, none⟩)] w fun e w' => e = .returned (.bool true) ∧ Below w.heap.size w w' := by
  obtain ⟨mb, Bk, f, h1, h1'⟩ := h1
  obtain ⟨mb2, Bk2, f2, h2, h2'⟩ := h2
  refine (same_tree T mb Bk f A T2 mb2 Bk2 f2 B w h1 h1' h2 h2' hA).mono ?_
  rintro e w' ⟨⟨r, rfl, hr⟩, hb⟩
  rw [hr.2 he]
  exact ⟨rfl, hb⟩
/-- what Of gives, at hand -/
structure ToldIs (w : World) (A B : List Mb) (v : Value) (l : List Mv) : Prop where
  mb : MbL w v l
  sm : ∀ x ∈ l, Sm x.1
  len : l.length ≤ 100000
  ap : applyC A (l.map (·.1)) = (0, some B)
theorem ToldIs.on {w w' : World} {A B : List Mb} {v : Value} {l : List Mv} (h : ToldIs w A B v l) (hb : Below w.heap.size w w') : ToldIs w' A B v l := ⟨h.mb.on hb, h.sm, h.len, h.ap⟩
end Go.Proofs.YtmnknmpfkjhgbaaGreatDoor
