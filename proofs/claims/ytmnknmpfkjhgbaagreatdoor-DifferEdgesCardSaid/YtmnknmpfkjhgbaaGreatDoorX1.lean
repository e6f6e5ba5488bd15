/- PARTS OF ONE PROOF, set in one file: Tree, Grown, Conv, DifEdge, DfCost, DfTr, RefSame, Alike, DifferEdges. Each part tells its own conditions. -/
import Derived.Shelf.Bytes.SlEqualAll
import Derived.Lib.SlBytesConst
import Derived.Lib.SmallJoins
import Derived.Test.YtmnknmpfkjhgbaaGreatDoorP19
/- A TREE in memory; none, dir, Len, Get. -/
namespace Go.Proofs.YtmnknmpfkjhgbaaGreatDoor
open Go.RowKit
set_option maxHeartbeats 400000 in
set_option maxRecDepth 100000 in
theorem len_tree (T mb : Nat) (Bk : Nat → Prop) (f : Tx → Value × Value) (L : List Mb) (w : World) (h : TreeIn w T mb Bk f L) : Calls Tryz.prog 34 #[.pointer (some ⟨T, 0, none⟩)] w fun e w' => e = .returned (.int .i64 (L.length : Int)) ∧ w = w' := by
  have HN := Keep.keep (none_ok T mb w h.row)
  have c0 := h.row.cell (i := 0) rfl
  have hlen := fun ty => h.map.len Tryz.underlying86 ty
  have e1 : (entries f L).length = L.length := by simp [entries]
  rw [e1] at hlen
  clear h e1
  go_enter Tryz.func34, Tryz.ntmps34
  go_wp2_with fail
  refine HN.out.mono ?_
  rintro e w' ⟨rfl, rfl⟩
  go_wp2_with fail
  go_ret
  exact ⟨rfl, rfl⟩
end Go.Proofs.YtmnknmpfkjhgbaaGreatDoor
/- portolanlaw18.Grown: a tree under calls. -/
namespace Go.Proofs.YtmnknmpfkjhgbaaGreatDoor
open Go.RowKit
theorem newT_nil : newT [] = (0, some []) := rfl
end Go.Proofs.YtmnknmpfkjhgbaaGreatDoor
/- string(b) of what reads as bytes; []byte of a text that is written out. -/
namespace Go.Proofs.YtmnknmpfkjhgbaaGreatDoor
open Go.RowKit
theorem run_string_of {w : World} {N : Nat → Prop} {v : Value} {l : List UInt8} (h : Reads w N v l) : (convert 37 9 v).run Tryz.prog w = .ok (.string ⟨l.toArray⟩) w := by
  obtain ⟨a, cap, hu, _⟩ := h.shape
  subst hu
  have := Lib.BytesIn.convert h.bytesIn.2 (ints_length l) cap 37 5 9 Tryz.underlying37 Tryz.underlying5 Tryz.underlying9
  rw [this]
  rw [show strOfNums (ints l) = ⟨l.toArray⟩ by simp [strOfNums, ints, Function.comp_def]]
end Go.Proofs.YtmnknmpfkjhgbaaGreatDoor
/- CHANGESETS, plainly: from a tree to itself, from nothing, to nothing. -/
namespace Go.Proofs.YtmnknmpfkjhgbaaGreatDoor
/-- nothing leads from a tree to itself -/
theorem apply_nil {A : List Mb} (hA : WellL A) (hl : A.length ≤ 4096) : applyC A [] = (0, some A) := by
  unfold applyC
  rw [if_neg (by unfold mayC mayFrom; simp)]
  have e : A.filter (fun m => staysC [] m.1) ++ plainC [] = A := by
    have : plainC [] = [] := rfl
    rw [this, List.append_nil, List.filter_eq_self]
    intro x hx
    exact stays_iff.2 ⟨(hA.path hx).2, fun m hm => (List.not_mem_nil hm).elim⟩
  rw [e]
  exact newT_perm hA (List.Perm.refl _) hl
theorem told_self {A : List Mb} {ks : Tx → List Tx} (hA : WellL A) (hl : A.length ≤ 4096) (hk : KidsOf A A ks) (n : Nat) : belF A A ks n [] = [] := by
  have := least hA hA hk (apply_nil hA hl) n
  exact List.length_eq_zero_iff.1 (by simpa using this)
theorem zero_same {A B : List Mb} {ks : Tx → List Tx} (hA : WellL A) (hB : WellL B) (hla : A.length ≤ 4096) (hlb : B.length ≤ 4096) (hk : KidsOf A B ks) (n : Nat) (hf : ∀ x, x ∈ A ∨ x ∈ B → x.1.length < n) : (belF A B ks n []).length = 0 ↔ A = B := by
  constructor
  · intro h
    have h0 := List.length_eq_zero_iff.1 h
    have hg := good_all hA hB hk n hf
    rw [h0] at hg
    have h1 := leads_there hA hB hg (List.Perm.refl _) SM.Srt.nil (by simp) hlb
    rw [apply_nil hA hla] at h1
    injection h1 with _ h1
    injection h1
  · rintro rfl
    rw [told_self hA hla hk n]; rfl
theorem told_from {B : List Mb} {ks : Tx → List Tx} (hB : WellL B) (hl : B.length ≤ 4096) (hk : KidsOf [] B ks) (n : Nat) (hf : ∀ x, x ∈ B → x.1.length < n) : (belF [] B ks n []).Perm B := by
  have hg := good_all WellL.nil hB hk n (fun x hx => hf x (hx.resolve_left List.not_mem_nil))
  have hcB : ∀ m ∈ B, cls m = 1 ∧ tgt m = m.1 := fun m hm => cls_may (n := m.2) (hB.path hm).1 (hB.path hm).2
  have hgB : Good [] B B (underP []) (fun m => underP [] m.1 = true) := by
    refine ⟨fun m hm => .inl ⟨(hcB m hm).1, hm⟩, fun m hm => ?_, fun m hm q hq hR => ?_, srt_pair hB.s, fun p y _ h => .inl h, fun p _ _ => .inl rfl⟩
    · rw [under_nil]; simp [(hB.path hm).2]
    · have hq0 := under_ne hR
      obtain ⟨v, hv, hk⟩ := dir_above hB hq0 _ m rfl hm ((under_above hq0).2 hq)
      exact ⟨(q, v), SM.look_mem hv, rfl, hk⟩
  have h1 := least WellL.nil hB hk (leads_there WellL.nil hB hgB (List.Perm.refl _) hB.s hl hl) n
  have hnd : (belF [] B ks n []).Nodup := List.Pairwise.imp (R := fun x y : Mb => x.1 ≠ y.1) (S := fun x y : Mb => x ≠ y) (fun hab e => hab (by rw [e])) hg.nd
  have hsub : ∀ x ∈ B, x ∈ belF [] B ks n [] := by
    intro x hx
    rcases hg.inn x.1 x.2 (by rw [under_nil]; simp [(hB.path hx).2]) hx with e | ⟨e, _⟩
    · exact e
    · exact (List.not_mem_nil e).elim
  refine (List.perm_ext_iff_of_nodup hnd (mb_nodup hB.s)).2 (fun x => ⟨fun hx => ?_, hsub x⟩)
  refine Classical.byContradiction fun hn => ?_
  have := nodup_le (x :: B) _ (List.nodup_cons.2 ⟨hn, mb_nodup hB.s⟩) (fun y hy => by
    rcases List.mem_cons.1 hy with rfl | hy
    · exact hx
    · exact hsub y hy)
  rw [List.length_cons] at this
  omega
theorem told_to {A : List Mb} {ks : Tx → List Tx} (hA : WellL A) (hl : A.length ≤ 4096) (hk : KidsOf A [] ks) (n : Nat) (hf : ∀ x, x ∈ A → x.1.length < n) : (belF A [] ks n []).length ≤ 1 ∧ ((belF A [] ks n []).length = 0 ↔ A = []) := ⟨bel_len A [] ks n [], zero_same hA WellL.nil hl (by simp) hk n (fun x hx => hf x (hx.resolve_right List.not_mem_nil))⟩
end Go.Proofs.YtmnknmpfkjhgbaaGreatDoor
/- differ.Cost. -/
namespace Go.Proofs.YtmnknmpfkjhgbaaGreatDoor
open Go.RowKit
set_option maxHeartbeats 1000000 in
set_option maxRecDepth 100000 in
theorem cost_tr {w : World} {Ta Tb : Nat} {A B : List Mb} (T : Nat) (hT : Tabs T w) (hA : WellL A) (hB : WellL B) (hLA : A.length ≤ 100000) (hLB : B.length ≤ 100000) (h1 : TrL w Ta A) (h2 : TrL w Tb B) :
    Calls Tryz.prog 21 #[.pointer (some ⟨Ta, 0, none⟩), .pointer (some ⟨Tb, 0, none⟩)] w fun e w' => e = .returned (.tuple #[.int .i64 ((toldL A B).length : Int), .int .i64 0]) ∧ Below w.heap.size w w' := by
  obtain ⟨ta, Ba, fa, ha, hBa⟩ := h1
  obtain ⟨tb, Bb, fb, hb, hBb⟩ := h2
  have HAL := Keep.keep (all_any Ta ta Ba fa A Tb tb Bb fb B T w hT hA hB hLA hLB ha hBa hb hBb)
  obtain ⟨n, hn⟩ : ∃ n, (toldL A B).length = n := ⟨_, rfl⟩
  have HNN := Keep.keep hn
  rw [hn]
  clear hT hA hB ha hb hBa hBb hn
  go_enter Tryz.func21, Tryz.ntmps21
  go_wp2_with fail
  refine HAL.out.mono ?_
  rintro e w1 ⟨v, l, rfl, hp, -, hr, hb⟩
  have HB := Keep.keep hb
  obtain ⟨a1, c1, hv1, -⟩ := (ownsV_reads hr.own).shape
  have HN : Keep (l.length = n) := ⟨by rw [← HNN.out, ← hp.length_eq, List.length_map]⟩
  rw [HN.out] at hv1
  clear hp hr hb HAL
  subst hv1
  go_wp2_with fail
  go_ret2
  exact ⟨rfl, HB.out⟩
end Go.Proofs.YtmnknmpfkjhgbaaGreatDoor
/- Trees at hand: All, Copy, Len. -/
namespace Go.Proofs.YtmnknmpfkjhgbaaGreatDoor
open Go.RowKit
theorem copy_tr {w : World} {T : Nat} {A : List Mb} (h : TrL w T A) (hA : A.length ≤ 100000) : Calls Tryz.prog 27 #[.pointer (some ⟨T, 0, none⟩)] w fun e w' => ∃ T2, e = .returned (.pointer (some ⟨T2, 0, none⟩)) ∧ TrL w' T2 A ∧ Below w.heap.size w w' := by
  obtain ⟨mb, Bk, f, h1, h2⟩ := h
  refine (copy_tree T mb Bk f A w h1 h2 hA).mono ?_
  rintro e w' ⟨T2, m2, Bk2, f2, he, h3, h4, h5⟩
  exact ⟨T2, he, ⟨m2, Bk2, f2, h3, fun b hb => (h4.2.2 b hb).2⟩, h5⟩
theorem all_tr {w : World} {T : Nat} {A : List Mb} (h : TrL w T A) (hA : A.length ≤ 100000) : Calls Tryz.prog 26 #[.pointer (some ⟨T, 0, none⟩)] w fun e w' => ∃ a n c l, e = .returned (.slice a n c) ∧ l.map (·.1) = A ∧ MbL w' (.slice a n c) l ∧ Below w.heap.size w w' := by
  obtain ⟨mb, Bk, f, h1, h2⟩ := h
  refine (all_own T mb Bk f A w hA h1 ⟨h1.row.lt, h1.map.lt, h2⟩).mono ?_
  rintro e w' ⟨v, l, rfl, hl, ho, hb⟩
  have hm : MbL w' v l := ho.mbs.mono (fun _ h => h.2) (fun _ h => h.2)
  obtain ⟨a, c, hv, -⟩ := hm.rd.shape
  subst hv
  exact ⟨a, _, c, l, rfl, hl, hm, hb⟩
theorem len_tr {w : World} {T : Nat} {A : List Mb} (h : TrL w T A) : Calls Tryz.prog 34 #[.pointer (some ⟨T, 0, none⟩)] w fun e w' => e = .returned (.int .i64 (A.length : Int)) ∧ w = w' := by
  obtain ⟨mb, Bk, f, h1, h2⟩ := h
  exact len_tree T mb Bk f A w h1
theorem TrL.paths {w : World} {T : Nat} {A : List Mb} (h : TrL w T A) : ∀ x ∈ A, x.1.length < 500000 := by
  obtain ⟨mb, Bk, f, h1, -⟩ := h
  intro x hx
  have := (h1.sm x hx).p
  omega
end Go.Proofs.YtmnknmpfkjhgbaaGreatDoor
/- portolanref12.Same; portolanlaw12.Alike: Members set side by side. -/
namespace Go.Proofs.YtmnknmpfkjhgbaaGreatDoor
open Go.RowKit
set_option maxHeartbeats 4000000 in
set_option maxRecDepth 100000 in
theorem same_ref (a b : Mb) (av dv bv ev : Value) (w : World) (ha : NdR w (· < w.heap.size) a.2 av dv) (hb : NdR w (· < w.heap.size) b.2 bv ev) :
    Calls Tryz.prog 67 #[.agg (mbC a av dv), .agg (mbC b bv ev)] w fun e w' => SaysB (a = b) e ∧ Below w.heap.size w w' := by
  obtain ⟨aa, la, ca, ad, ld, cd, e1, e2⟩ := ha.shape
  obtain ⟨ba, lb, cb, bd, le, ce, e3, e4⟩ := hb.shape
  subst e1 e2 e3 e4
  obtain ⟨rfl, -, -⟩ := ha.at_.lens
  obtain ⟨rfl, -, -⟩ := hb.at_.lens
  have hma := ha.at_.lens.2
  have hmb := hb.at_.lens.2
  unfold maxLen at hma hmb
  have HA := Keep.keep ha; have HB := Keep.keep hb
  have HEQ := Keep.keep (mb_eq (a := a) (b := b))
  clear ha hb
  obtain ⟨ap, ⟨kind, mode, uid, gid, time, attrs, data, link⟩⟩ := a
  obtain ⟨bp, ⟨kind2, mode2, uid2, gid2, time2, attrs2, data2, link2⟩⟩ := b
  unfold mbC strV
  dsimp only at HEQ HA HB hma hmb ⊢
  obtain ⟨PEQ, hP⟩ : ∃ P : Prop, (((ap, ⟨kind, mode, uid, gid, time, attrs, data, link⟩) : Mb) = (bp, ⟨kind2, mode2, uid2, gid2, time2, attrs2, data2, link2⟩)) = P := ⟨_, rfl⟩
  rw [hP] at HEQ ⊢
  clear hP
  go_enter Tryz.func67, Tryz.ntmps67
  go_upto_region 3 with fail
  refine wp_world (R := fun w1 => Hp NoM w w1 [rowA w.heap.size 41 #[.string ⟨ap.toArray⟩, .int .i64 kind, .int .u32 mode, .int .u32 uid, .int .u32 gid, .int .i64 time, .slice aa attrs.length ca, .slice ad ld cd, .string ⟨link.toArray⟩], rowA (w.heap.size + 1) 41 #[.string ⟨bp.toArray⟩, .int .i64 kind2, .int .u32 mode2, .int .u32 uid2, .int .u32 gid2, .int .i64 time2, .slice ba attrs2.length cb, .slice bd le ce, .string ⟨link2.toArray⟩], rowA (w.heap.size + 1 + 1) 39 #[.int .i64 kind, .int .u32 mode, .int .u32 uid, .int .u32 gid, .int .i64 time, .slice aa attrs.length ca, .slice ad ld cd, .string ⟨link.toArray⟩], rowA (w.heap.size + 1 + 1 + 1) 39 #[.int .i64 kind2, .int .u32 mode2, .int .u32 uid2, .int .u32 gid2, .int .i64 time2, .slice ba attrs2.length cb, .slice bd le ce, .string ⟨link2.toArray⟩]]) ?_ ?_
  · exact ((((Hp.begin NoM w).newRow _ _).newRow' _ _ _ _ (by simp) rfl).newRow' _ _ _ _ (by simp) rfl).newRow' _ _ _ _ (by simp) rfl
  intro w1 H1
  obtain ⟨b2, hb2⟩ : ∃ b2, w.heap.size = b2 := ⟨_, rfl⟩
  have HB2 := Keep.keep hb2
  have m20 := (H1.out.row 0 rfl).cell (i := 0) rfl
  have m30 := (H1.out.row 1 rfl).cell (i := 0) rfl
  have HA2 := Keep.keep (HA.out.below H1.out.below (fun b hb => hb))
  have HB3 := Keep.keep (HB.out.below H1.out.below (fun b hb => hb))
  have HBL := Keep.keep H1.out.below
  have r5 := H1.out.row 2 rfl
  have r6 := H1.out.row 3 rfl
  have x0 := r5.cell (i := 0) rfl
  have x1 := r5.cell (i := 1) rfl
  have x2 := r5.cell (i := 2) rfl
  have x3 := r5.cell (i := 3) rfl
  have x4 := r5.cell (i := 4) rfl
  have x5 := r5.cell (i := 5) rfl
  have x6 := r5.cell (i := 6) rfl
  have x7 := r5.cell (i := 7) rfl
  have y0 := r6.cell (i := 0) rfl
  have y1 := r6.cell (i := 1) rfl
  have y2 := r6.cell (i := 2) rfl
  have y3 := r6.cell (i := 3) rfl
  have y4 := r6.cell (i := 4) rfl
  have y5 := r6.cell (i := 5) rfl
  have y6 := r6.cell (i := 6) rfl
  have y7 := r6.cell (i := 7) rfl
  rw [hb2] at m20 m30 x0 x1 x2 x3 x4 x5 x6 x7 y0 y1 y2 y3 y4 y5 y6 y7 ⊢
  have hwl : w.heap.size ≤ w1.heap.size := H1.out.size
  have hc1 := run_string_of HA2.out.dt
  have hc2 := run_string_of HB3.out.dt
  clear r5 r6 hb2 H1
  go_upto_region 5 with fail
  all_goals try (
    go_ret
    refine ⟨⟨false, rfl, ⟨fun h => (by cases h), fun h => ?_⟩⟩, HBL.out⟩
    obtain ⟨e1, e2, e3, e4, e5, e6, e7, e8, e9⟩ := HEQ.out.1 h
    first
      | contradiction
      | (simp_all; done))
  have HE : Keep (ap = bp ∧ kind = kind2 ∧ mode = mode2 ∧ uid = uid2 ∧ gid = gid2 ∧ time = time2 ∧ link = link2) := ⟨⟨by assumption, by assumption, by assumption, by assumption, by assumption, by assumption, by simpa using (show (!link == link2) = false by assumption)⟩⟩
  by_cases hdt : data = data2
  · have HD := Keep.keep hdt
    have hbd : (data == data2) = true := by simpa using hdt
    clear hdt
    by_cases hal : attrs.length = attrs2.length
    · have hne : ((attrs.length : Int) == (attrs2.length : Int)) = true := by rw [hal]; exact beq_self_eq_true _
      have HL := Keep.keep hal
      clear hal
      go_wp2_with fail
      go_loopg [7] attrs.length (fun g u7 wx => ∃ (k n : Nat), k + g = attrs.length ∧ u7 = .int .i64 (k : Int) ∧ attrs.take k = attrs2.take k ∧ wx = w1.drewN n)
      case atStart => exact ⟨0, 0, by omega, rfl, rfl, rfl⟩
      case round =>
        obtain ⟨k, nd, hkg, rfl, heq, rfl⟩ := hrel
        have HT := Keep.keep heq
        clear heq
        cases gk with
        | zero =>
          obtain rfl : k = attrs.length := by omega
          have HF : Keep (PEQ) := ⟨HEQ.out.2 ⟨HE.out.1, HE.out.2.1, HE.out.2.2.1, HE.out.2.2.2.1, HE.out.2.2.2.2.1, HE.out.2.2.2.2.2.1, HE.out.2.2.2.2.2.2, HD.out, by
            have h := HT.out
            rw [List.take_length, List.take_of_length_le (by rw [← HL.out]; exact Nat.le_refl _)] at h
            exact h⟩⟩
          go_wp2_with fail
          go_ret
          exact ⟨⟨true, rfl, ⟨fun _ => HF.out, fun _ => rfl⟩⟩, below_drewN' HBL.out _⟩
        | succ g =>
          have hk1 : k < attrs.length := by omega
          have hk2 : k < attrs2.length := by have := HL.out; omega
          have hd : decide ((k : Int) < (attrs.length : Int)) = true := decide_eq_true (by omega)
          obtain ⟨p1, o1, rfl⟩ : ∃ b off, aa = some ⟨b, off, none⟩ := by
            obtain ⟨b, off, cap, h, -⟩ := HA2.out.at_.has (by dsimp only; omega)
            injection h with h; exact ⟨b, off, h⟩
          obtain ⟨p2, o2, rfl⟩ : ∃ b off, ba = some ⟨b, off, none⟩ := by
            obtain ⟨b, off, cap, h, -⟩ := HB3.out.at_.has (by dsimp only; omega)
            injection h with h; exact ⟨b, off, h⟩
          obtain ⟨s1, s2⟩ := rcells_get attrs k hk1
          obtain ⟨t1, t2⟩ := rcells_get attrs2 k hk2
          have z1 := HA2.out.at_.cell p1 o1 _ _ rfl _ _ s1
          have z2 := HA2.out.at_.cell p1 o1 _ _ rfl _ _ s2
          have v1 := HB3.out.at_.cell p2 o2 _ _ rfl _ _ t1
          have v2 := HB3.out.at_.cell p2 o2 _ _ rfl _ _ t2
          rw [← Nat.add_assoc] at z2 v2
          have HST : Keep (attrs[k] = attrs2[k] → attrs.take (k + 1) = attrs2.take (k + 1)) := ⟨fun e => by rw [List.take_succ_eq_append_getElem hk1, List.take_succ_eq_append_getElem hk2, HT.out, e]⟩
          have HNE : Keep (attrs[k] ≠ attrs2[k] → ¬ PEQ) := ⟨fun e h => e (by simp only [(HEQ.out.1 h).2.2.2.2.2.2.2.2])⟩
          clear s1 s2 t1 t2
          generalize attrs[k] = p at *
          generalize attrs2[k] = q at *
          have hneq := neq_attr p q
          unfold strV at z1 z2 v1 v2
          obtain ⟨pk, pv⟩ := p
          obtain ⟨qk, qv⟩ := q
          dsimp only at z1 z2 v1 v2 hneq
          by_cases e : ((pk, pv) : R2) = (qk, qv)
          · have HE2 := Keep.keep (HST.out e)
            rw [decide_eq_true e] at hneq
            clear e HST HNE
            go_upto_region 10 with fail
            (refine wp_region_quiet_lit (by kernel_rfl) (by kernel_rfl) ?_); (repeat (first | (fail) | go_big_quiet_step (fail))); (refine wpQuiet_nil ?_); (intro _ hwq); (obtain ⟨nq, hwq⟩ := hwq); (subst hwq)
            go_wp2_with fail
            go_roundg g
            case measure => omega
            case rel => exact ⟨k + 1, nd + nq, by omega, by simp, HE2.out, rfl⟩
          · have HE2 := Keep.keep (HNE.out e)
            rw [decide_eq_false e] at hneq
            clear e HST HNE
            go_upto_region 10 with fail
            (refine wp_region_quiet_lit (by kernel_rfl) (by kernel_rfl) ?_); (repeat (first | (fail) | go_big_quiet_step (fail))); (refine wpQuiet_nil ?_); (intro _ hwq); (obtain ⟨nq, hwq⟩ := hwq); (subst hwq)
            go_wp2_with fail
            go_ret
            exact ⟨⟨false, rfl, ⟨fun h => (by cases h), fun h => (HE2.out h).elim⟩⟩, below_drewN' (below_drewN' HBL.out _) _⟩
    · have hne : ((attrs.length : Int) == (attrs2.length : Int)) = false := by simp; omega
      have HL := Keep.keep hal
      clear hal
      go_wp2_with fail
      go_ret
      exact ⟨⟨false, rfl, ⟨fun h => (by cases h), fun h => (HL.out (by rw [(HEQ.out.1 h).2.2.2.2.2.2.2.2])).elim⟩⟩, HBL.out⟩
  · have HD := Keep.keep hdt
    have hbd : (data == data2) = false := by simpa using hdt
    clear hdt
    go_wp2_with fail
    go_ret
    exact ⟨⟨false, rfl, ⟨fun h => (by cases h), fun h => (HD.out (HEQ.out.1 h).2.2.2.2.2.2.2.1).elim⟩⟩, HBL.out⟩
end Go.Proofs.YtmnknmpfkjhgbaaGreatDoor
/- portolanlaw12.Alike: rows of Members set side by side. -/
namespace Go.Proofs.YtmnknmpfkjhgbaaGreatDoor
open Go.RowKit
theorem SaysB.det {P : Prop} {e : Ending} (h : SaysB P e) {r : Bool} (hr : r = true ↔ P) : e = .returned (.bool r) := by
  obtain ⟨r', rfl, h'⟩ := h
  have : r' = r := by rw [Bool.eq_iff_iff, h', hr]
  rw [this]
theorem bool_of (P : Prop) : ∃ r : Bool, r = true ↔ P := by
  by_cases h : P
  · exact ⟨true, fun _ => h, fun _ => rfl⟩
  · exact ⟨false, fun e => (by cases e), fun e => (h e).elim⟩
set_option maxHeartbeats 2000000 in
set_option maxRecDepth 100000 in
theorem alike_any (v1 v2 : Value) (l1 l2 : List Mv) (w : World) (h1 : Mbs w (· < w.heap.size) (· < w.heap.size) v1 l1) (h2 : Mbs w (· < w.heap.size) (· < w.heap.size) v2 l2) :
    Calls Tryz.prog 32 #[v1, v2] w fun e w' => SaysB (l1.map (·.1) = l2.map (·.1)) e ∧ Below w.heap.size w w' := by
  obtain ⟨a1, c1, rfl, hc1, hm1, g1⟩ := h1.rd.shape
  obtain ⟨a2, c2, rfl, hc2, hm2, g2⟩ := h2.rd.shape
  unfold maxLen at hm1 hm2
  have H1 := Keep.keep h1; have H2 := Keep.keep h2; have G1 := Keep.keep g1; have G2 := Keep.keep g2
  clear h1 h2 g1 g2
  obtain ⟨P, hP⟩ : ∃ P : Prop, (l1.map (·.1) = l2.map (·.1)) = P := ⟨_, rfl⟩
  have HP : Keep (P ↔ l1.map (·.1) = l2.map (·.1)) := ⟨by rw [hP]⟩
  rw [hP]
  clear hP
  by_cases hl : l1.length = l2.length
  · have HL := Keep.keep hl
    have hne : ((l1.length : Int) == (l2.length : Int)) = true := by rw [hl]; exact beq_self_eq_true _
    clear hl
    go_enter Tryz.func32, Tryz.ntmps32
    go_wp2_with fail
    go_loopg [5] l1.length (fun g u5 wx => ∃ (k : Nat), k + g = l1.length ∧ u5 = .int .i64 (k : Int) ∧ (l1.map (·.1)).take k = (l2.map (·.1)).take k ∧ Below w.heap.size w wx)
    case atStart => exact ⟨0, by omega, rfl, rfl, Below.refl _ _⟩
    case round =>
      obtain ⟨k, hkg, rfl, heq, hb⟩ := hrel
      have HEQ := Keep.keep heq; have HB := Keep.keep hb
      clear heq hb
      cases gk with
      | zero =>
        obtain rfl : k = l1.length := by omega
        have HF : Keep P := ⟨HP.out.2 (by
          have h := HEQ.out
          rw [List.take_of_length_le (by rw [List.length_map]; exact Nat.le_refl _), List.take_of_length_le (by rw [List.length_map, ← HL.out]; exact Nat.le_refl _)] at h
          exact h)⟩
        go_wp2_with fail
        go_ret
        exact ⟨⟨true, rfl, ⟨fun _ => HF.out, fun _ => rfl⟩⟩, HB.out⟩
      | succ g =>
        have hk1 : k < l1.length := by omega
        have hk2 : k < l2.length := by have := HL.out; omega
        have hd : decide ((k : Int) < (l1.length : Int)) = true := decide_eq_true (by omega)
        obtain ⟨b1, o1, rfl, hb1⟩ : ∃ b off, a1 = some ⟨b, off, none⟩ ∧ b < w.heap.size := by
          rcases G1.out with h | ⟨b, off, h, hb⟩
          · omega
          · exact ⟨b, off, h, hb⟩
        obtain ⟨b2, o2, rfl, hb2⟩ : ∃ b off, a2 = some ⟨b, off, none⟩ ∧ b < w.heap.size := by
          rcases G2.out with h | ⟨b, off, h, hb⟩
          · omega
          · exact ⟨b, off, h, hb⟩
        obtain ⟨r, hr⟩ := bool_of (l1[k].1 = l2[k].1)
        have HX1 : Keep (∀ wx, Below wr.heap.size wr wx → ∀ (j : Nat) (u : Value), (mcell l1[k]).toList[j]? = some u → wx.cell? ⟨b1, o1 + k * 9 + j, none⟩ = some u) := ⟨fun wx hx j u hj => by
          have hjl := (List.getElem?_eq_some_iff.1 hj).1
          rw [mcell_len] at hjl
          exact (H1.out.below (HB.out.trans (hx.mono HB.out.size)) (fun b hb => hb) (fun b hb => hb)).cell hk1 j hjl (by simpa using hj)⟩
        have HX2 : Keep (∀ wx, Below wr.heap.size wr wx → ∀ (j : Nat) (u : Value), (mcell l2[k]).toList[j]? = some u → wx.cell? ⟨b2, o2 + k * 9 + j, none⟩ = some u) := ⟨fun wx hx j u hj => by
          have hjl := (List.getElem?_eq_some_iff.1 hj).1
          rw [mcell_len] at hjl
          exact (H2.out.below (HB.out.trans (hx.mono HB.out.size)) (fun b hb => hb) (fun b hb => hb)).cell hk2 j hjl (by simpa using hj)⟩
        have HS : Keep (∀ wx, Below wr.heap.size wr wx → Calls Tryz.prog 67 #[.agg (mcell l1[k]).toList.toArray, .agg (mcell l2[k]).toList.toArray] wx fun e w' => e = .returned (.bool r) ∧ Below wx.heap.size wx w') := ⟨fun wx hx => by
          have hbx := HB.out.trans (hx.mono HB.out.size)
          have hsx := hbx.size
          simp only [Array.toArray_toList]
          refine (same_ref _ _ _ _ _ _ wx ((H1.out.nd _ (List.getElem_mem hk1)).below hbx (fun b hb => hb) |>.mono (fun b hb => Nat.lt_of_lt_of_le hb hsx)) ((H2.out.nd _ (List.getElem_mem hk2)).below hbx (fun b hb => hb) |>.mono (fun b hb => Nat.lt_of_lt_of_le hb hsx))).mono ?_
          rintro e w' ⟨he, hb⟩
          exact ⟨he.det hr, hb⟩⟩
        have HST : Keep (r = true → (l1.map (·.1)).take (k + 1) = (l2.map (·.1)).take (k + 1)) := ⟨fun e => by
          rw [List.take_succ_eq_append_getElem (by simpa using hk1), List.take_succ_eq_append_getElem (by simpa using hk2), HEQ.out]
          simp [hr.1 e]⟩
        have HNE : Keep (r = false → ¬ P) := ⟨fun e h => by
          have h := HP.out.1 h
          have : (l1.map (·.1))[k]'(by simpa using hk1) = (l2.map (·.1))[k]'(by simpa using hk2) := by simp only [h]
          simp only [List.getElem_map] at this
          rw [hr.2 this] at e; cases e⟩
        have hs1 : (Tryz.prog.info? 41).map (·.size) = some (mcell l1[k]).toList.length := by rw [mcell_len]; exact aggM.i
        have hs2 : (Tryz.prog.info? 41).map (·.size) = some (mcell l2[k]).toList.length := by rw [mcell_len]; exact aggM.i
        generalize (mcell l1[k]).toList = x1 at *
        generalize (mcell l2[k]).toList = x2 at *
        have HS1 := Keep.keep hs1; have HS2 := Keep.keep hs2
        clear hr hs1 hs2
        go_upto_region 6 with fail
        refine wp_region_cls (fun w' => Below wr.heap.size wr w') (by kernel_rfl) (by kernel_rfl) (Below.refl _ _).drew ?_
        repeat (first
          | ((with_reducible refine cls_call (f := 67) ?_ (Go.Proofs.enters_of Tryz.func67 (by kernel_rfl) rfl) ?_ (fun w1 hw1 => (HS.out w1 hw1).mono (fun e w2 he => ⟨he.1, hw1.trans (he.2.mono hw1.size)⟩)) ?_); (focus rfl); (focus (first | exact Array.map_empty | (simp only [List.map_toArray, List.map_cons, List.map_nil]; rfl))); simp only [Act.put, List.setIfInBounds_toArray, List.set_cons_succ, List.set_cons_zero])
          | ((with_reducible refine cls_agg ?_ HX1.out Tryz.underlying41 rfl HS1.out ?_ ?_); (focus rfl); (focus rfl); simp only [Act.put, List.setIfInBounds_toArray, List.set_cons_succ, List.set_cons_zero])
          | ((with_reducible refine cls_agg ?_ HX2.out Tryz.underlying41 rfl HS2.out ?_ ?_); (focus rfl); (focus rfl); simp only [Act.put, List.setIfInBounds_toArray, List.set_cons_succ, List.set_cons_zero])
          | (first | go_big_quiet_step (fail) | (go_big_quiet_want; go_big_quiet_op; (refine ⟨_, fun _ _ => rfl, ?_⟩); go_big_quiet_on)))
        (refine wpQuiet_nil ?_); intro w6 hw6
        have HB6 := Keep.keep (HB.out.trans (hw6.mono HB.out.size))
        clear hw6
        cases r with
        | true =>
          have HE := Keep.keep (HST.out rfl)
          go_wp2_with fail
          go_roundg g
          case measure => omega
          case rel => exact ⟨k + 1, by omega, by simp, HE.out, HB6.out⟩
        | false =>
          have HE := Keep.keep (HNE.out rfl)
          go_wp2_with fail
          go_ret
          exact ⟨⟨false, rfl, ⟨fun h => (by cases h), fun h => (HE.out h).elim⟩⟩, HB6.out⟩
  · have hne : ((l1.length : Int) == (l2.length : Int)) = false := by simp; omega
    have HL := Keep.keep hl
    clear hl
    go_enter Tryz.func32, Tryz.ntmps32
    go_wp2_with fail
    go_ret
    exact ⟨⟨false, rfl, ⟨fun h => (by cases h), fun h => (HL.out (by have := congrArg List.length (HP.out.1 h); simpa using this)).elim⟩⟩, Below.refl _ _⟩
end Go.Proofs.YtmnknmpfkjhgbaaGreatDoor
/- portolanlaw20.DifferEdges: the law's walk. -/
namespace Go.Proofs.YtmnknmpfkjhgbaaGreatDoor
open Go.RowKit
set_option maxHeartbeats 8000000 in
set_option maxRecDepth 100000 in
theorem edges_any (B : Nat) (v0 v1 : Value) (l0 l1 : List Av) (w : World) (hT : Tabs B w) (h0 : ActL w v0 l0) (k0 : ∀ x ∈ l0, Kb x.2.1) (h1 : ActL w v1 l1) (k1 : ∀ x ∈ l1, Kb x.2.1) :
    Calls Tryz.prog 7 #[v0, v1] w fun e w' => e = .returned (.bool true) ∧ Below w.heap.size w w' := by
  obtain ⟨a0, c0, hv0, -⟩ := h0.rd.shape
  obtain ⟨a1, c1, hv1, -⟩ := h1.rd.shape
  have HT := Keep.keep hT
  have HWA : Keep (WellL (actT l0) ∧ (actT l0).length ≤ 40) := ⟨actT_well _, actT_len _⟩
  have HWB : Keep (WellL (actT l1) ∧ (actT l1).length ≤ 40) := ⟨actT_well _, actT_len _⟩
  have HW0 : Keep (Below w.heap.size w w) := ⟨Below.refl _ _⟩
  subst hv0 hv1
  have HG0 := Keep.keep (grown_tr B hT h0 k0)
  have HG1 : Keep (∀ wx, Below w.heap.size w wx → Calls Tryz.prog 8 #[.slice a1 l1.length c1] wx fun e w' => ∃ T, e = .returned (.pointer (some ⟨T, 0, none⟩)) ∧ TrL w' T (actT l1) ∧ Below wx.heap.size wx w') := ⟨fun wx hb => grown_tr B (hT.on (hb.mono hT.b)) (h1.on hb) k1⟩
  generalize actT l0 = A at *
  generalize actT l1 = C at *
  clear hT h0 k0 h1 k1
  go_enter Tryz.func7, Tryz.ntmps7
  go_wp2_with fail
  refine HG0.out.mono ?_
  rintro e w1 ⟨Ta, rfl, ht, hb⟩
  have HW1 := Keep.keep hb
  have HA1 := Keep.keep ht
  clear ht hb HG0
  go_wp2_with fail
  refine (HG1.out w1 HW1.out).mono ?_
  rintro e w2 ⟨Tb, rfl, ht, hb⟩
  have HW2 := Keep.keep (HW1.out.trans (hb.mono HW1.out.size))
  have HA2 := Keep.keep (HA1.out.on hb)
  have HC2 := Keep.keep ht
  have HPA := Keep.keep HA1.out.paths; have HPC := Keep.keep ht.paths
  clear ht hb HG1 HA1
  go_wp2_with fail
  refine (small_tr (v := .slice none 0 0) (l := []) B (HT.out.on (HW2.out.mono HT.out.b)) ⟨RdV.ofNil, fun x hx => (List.not_mem_nil hx).elim⟩ (fun x hx => (List.not_mem_nil hx).elim) (by simp) newT_nil).mono ?_
  rintro e w3 ⟨Te, rfl, ht, hb⟩
  have HW3 := Keep.keep (HW2.out.trans (hb.mono HW2.out.size))
  have HA3 := Keep.keep (HA2.out.on hb)
  have HC3 := Keep.keep (HC2.out.on hb)
  have HE3 := Keep.keep ht
  clear ht hb HA2 HC2
  go_wp2_with fail
  refine (copy_tr HA3.out (by have := HWA.out.2; omega)).mono ?_
  rintro e w4 ⟨Tc, rfl, ht, hb⟩
  have HW4 := Keep.keep (HW3.out.trans (hb.mono HW3.out.size))
  have HA4 := Keep.keep (HA3.out.on hb)
  have HC4 := Keep.keep (HC3.out.on hb)
  have HE4 := Keep.keep (HE3.out.on hb)
  have HD4 := Keep.keep ht
  clear ht hb HA3 HC3 HE3
  go_wp2_with fail
  refine (Of_tr B (HT.out.on (HW4.out.mono HT.out.b)) HWA.out.1 HWA.out.1 (by have := HWA.out.2; omega) (by have := HWA.out.2; omega) HA4.out HD4.out).mono ?_
  rintro e w5 ⟨v5, l5, rfl, ho, -, hr, hb⟩
  have HW5 := Keep.keep (HW4.out.trans (hb.mono HW4.out.size))
  have HA5 := Keep.keep (HA4.out.on hb)
  have HC5 := Keep.keep (HC4.out.on hb)
  have HE5 := Keep.keep (HE4.out.on hb)
  have hl5 : l5.length = 0 := by
    have h := ho.len
    rw [List.length_map] at h
    rw [h]
    unfold toldL
    rw [told_self HWA.out.1 (by have := HWA.out.2; omega) (ksT_kids HWA.out.1 HWA.out.1) 500000]
    rfl
  obtain ⟨a5, c5, hv5, -⟩ := (ownsV_reads hr.own).shape
  rw [hl5] at hv5
  clear ho hr hb hl5 HA4 HC4 HE4 HD4
  subst hv5
  go_wp2_with fail
  refine (Of_tr B (HT.out.on (HW5.out.mono HT.out.b)) WellL.nil HWB.out.1 (by simp) (by have := HWB.out.2; omega) HE5.out HC5.out).mono ?_
  rintro e w6 ⟨v6, l6, rfl, ho, hp, hr, hb⟩
  have HW6 := Keep.keep (HW5.out.trans (hb.mono HW5.out.size))
  have HA6 := Keep.keep (HA5.out.on hb)
  have HC6 := Keep.keep (HC5.out.on hb)
  have HE6 := Keep.keep (HE5.out.on hb)
  have HL6 : Keep (l6.map (·.1) = C) := ⟨srt_mem ho.srt HWB.out.1.s (fun x => (hp.trans (told_from HWB.out.1 (by have := HWB.out.2; omega) (ksT_kids WellL.nil HWB.out.1) 500000 HPC.out)).mem_iff)⟩
  have HM6 : Keep (MbL w6 v6 l6) := ⟨MbL.ofRow hr⟩
  obtain ⟨a6, c6, hv6, -⟩ := (ownsV_reads hr.own).shape
  generalize l6.length = n6 at hv6
  clear ho hp hr hb HA5 HC5 HE5
  subst hv6
  go_wp2_with fail
  refine (Of_tr B (HT.out.on (HW6.out.mono HT.out.b)) HWA.out.1 WellL.nil (by have := HWA.out.2; omega) (by simp) HA6.out HE6.out).mono ?_
  rintro e w7 ⟨v7, l7, rfl, ho, -, hr, hb⟩
  have HW7 := Keep.keep (HW6.out.trans (hb.mono HW6.out.size))
  have HA7 := Keep.keep (HA6.out.on hb)
  have HC7 := Keep.keep (HC6.out.on hb)
  have HM7 := Keep.keep (HM6.out.on hb)
  have hl7 : l7.length ≤ 1 ∧ (l7.length = 0 ↔ A = []) := by
    have h := ho.len
    rw [List.length_map] at h
    rw [h]
    exact told_to HWA.out.1 (by have := HWA.out.2; omega) (ksT_kids HWA.out.1 WellL.nil) 500000 HPA.out
  obtain ⟨a7, c7, hv7, -⟩ := (ownsV_reads hr.own).shape
  generalize l7.length = n7 at hv7 hl7
  clear ho hr hb HA6 HC6 HE6 HM6
  subst hv7
  go_wp2_with fail
  refine (cost_tr B (HT.out.on (HW7.out.mono HT.out.b)) HWA.out.1 HWB.out.1 (by have := HWA.out.2; omega) (by have := HWB.out.2; omega) HA7.out HC7.out).mono ?_
  rintro e w8 ⟨rfl, hb⟩
  have HW8 := Keep.keep (HW7.out.trans (hb.mono HW7.out.size))
  have HA8 := Keep.keep (HA7.out.on hb)
  have HC8 := Keep.keep (HC7.out.on hb)
  have HM8 := Keep.keep (HM7.out.on hb)
  have hcs : (toldL A C).length ≤ C.length + 1 := by
    have := bel_len A C (ksT A C) 500000 []
    have h2 := List.countP_le_length (p := fun q : Mb => underP [] q.1) (l := C)
    unfold toldL
    omega
  have hcz : (toldL A C).length = 0 ↔ A = C := zero_same HWA.out.1 HWB.out.1 (by have := HWA.out.2; omega) (by have := HWB.out.2; omega) (ksT_kids HWA.out.1 HWB.out.1) 500000 (fun x hx => hx.elim (HPA.out x) (HPC.out x))
  generalize (toldL A C).length = cs at *
  have HCZ := Keep.keep hcz; have HCS := Keep.keep hcs; have HL7 := Keep.keep hl7
  clear hb HA7 HC7 HM7 hcz hl7
  go_wp2_with fail
  refine (all_tr HC8.out (by have := HWB.out.2; omega)).mono ?_
  rintro e w9 ⟨a9, n9, c9, l9, rfl, hl9, hm9, hb⟩
  have HW9 := Keep.keep (HW8.out.trans (hb.mono HW8.out.size))
  have HA9 := Keep.keep (HA8.out.on hb)
  have HC9 := Keep.keep (HC8.out.on hb)
  have HAL := Keep.keep (alike_any (.slice a6 n6 c6) (.slice a9 n9 c9) l6 l9 w9 (HM8.out.on hb) hm9)
  rw [HL6.out, hl9] at HAL
  clear hb hl9 hm9 HA8 HC8 HM8
  go_wp2_with fail
  refine HAL.out.mono ?_
  rintro e w10 ⟨⟨r, rfl, hr⟩, hb⟩
  obtain rfl : r = true := by simpa using hr
  have HW10 := Keep.keep (HW9.out.trans (hb.mono HW9.out.size))
  have HA10 := Keep.keep (HA9.out.on hb)
  have HC10 := Keep.keep (HC9.out.on hb)
  clear hb hr HA9 HC9 HAL
  have hn71 : decide (1 < n7) = false := decide_eq_false (by have := HL7.out.1; omega)
  have hn72 : decide ((1 : Int) < (n7 : Int)) = false := decide_eq_false (by have := HL7.out.1; omega)
  have HLN := Keep.keep (len_tr HA10.out)
  have HLC := Keep.keep (len_tr HC10.out)
  have HSM := Keep.keep (same_says HA10.out HC10.out (by have := HWA.out.2; omega))
  have hA0 : A.length = 0 ↔ A = [] := List.length_eq_zero_iff
  have hla := HL7.out
  rw [← hA0] at hla
  have hcs := HCS.out
  have hcz := HCZ.out
  generalize A.length = lA at *
  generalize C.length = lC at *
  have hlc : lC ≤ 40 := HWB.out.2
  have g1 : decide (lC + 1 < cs) = false := decide_eq_false (by omega)
  have g2 : decide ((lC : Int) + 1 < (cs : Int)) = false := decide_eq_false (by omega)
  rcases (by omega : n7 = 0 ∨ n7 = 1) with rfl | rfl
  · obtain rfl : lA = 0 := hla.2.1 rfl
    clear hn71 hn72 hla HL7 hA0
    go_wp2_with fail
    refine HLN.out.mono ?_
    rintro e w11 ⟨rfl, rfl⟩
    go_wp2_with fail
    refine HLC.out.mono ?_
    rintro e w11 ⟨rfl, rfl⟩
    by_cases hc : cs = 0
    · have hac := hcz.1 hc
      subst hc
      clear g1 g2 hcs hcz HCS HCZ
      have g3 : decide ((lC : Int) + 1 < 0) = false := decide_eq_false (by omega)
      go_wp2_with fail
      refine HSM.out.mono ?_
      rintro e w12 ⟨⟨r, rfl, hr⟩, hb⟩
      obtain rfl : r = true := hr.2 hac
      have HW12 := Keep.keep (HW10.out.trans (hb.mono HW10.out.size))
      clear hac hr hb
      go_wp2_with fail
      refine (dtells_any B _ (HT.out.on (HW12.out.mono HT.out.b))).mono ?_
      rintro e w13 ⟨rfl, hb⟩
      have HW13 := Keep.keep (HW12.out.trans (hb.mono HW12.out.size))
      clear hb
      go_wp2_with fail
      go_ret
      exact ⟨rfl, HW13.out⟩
    · have hac : ¬ A = C := fun e => hc (hcz.2 e)
      have e1 : (cs == 0) = false := by simpa using hc
      have e2 : ((cs : Int) == 0) = false := by simp [hc]
      have e3 : decide (cs = 0) = false := by simp [hc]
      clear hcs hcz HCS HCZ hc
      go_wp2_with fail
      refine HSM.out.mono ?_
      rintro e w12 ⟨⟨r, rfl, hr⟩, hb⟩
      obtain rfl : r = false := by
        cases r with
        | false => rfl
        | true => exact (hac (hr.1 rfl)).elim
      have HW12 := Keep.keep (HW10.out.trans (hb.mono HW10.out.size))
      clear hac hr hb e1 e2 e3 g1 g2
      go_wp2_with fail
      refine (dtells_any B _ (HT.out.on (HW12.out.mono HT.out.b))).mono ?_
      rintro e w13 ⟨rfl, hb⟩
      have HW13 := Keep.keep (HW12.out.trans (hb.mono HW12.out.size))
      clear hb
      go_wp2_with fail
      go_ret
      exact ⟨rfl, HW13.out⟩
  · have hl0 : lA ≠ 0 := fun e => by have := hla.2.2 e; omega
    have k1 : (lA == 0) = false := by simpa using hl0
    have k2 : ((lA : Int) == 0) = false := by simp [hl0]
    have k3 : decide (lA = 0) = false := by simp [hl0]
    clear hn71 hn72 hla HL7 hA0
    go_wp2_with fail
    refine HLN.out.mono ?_
    rintro e w11 ⟨rfl, rfl⟩
    go_wp2_with fail
    refine HLC.out.mono ?_
    rintro e w11 ⟨rfl, rfl⟩
    by_cases hc : cs = 0
    · have hac := hcz.1 hc
      subst hc
      clear g1 g2 hcs hcz HCS HCZ
      have g3 : decide ((lC : Int) + 1 < 0) = false := decide_eq_false (by omega)
      go_wp2_with fail
      refine HSM.out.mono ?_
      rintro e w12 ⟨⟨r, rfl, hr⟩, hb⟩
      obtain rfl : r = true := hr.2 hac
      have HW12 := Keep.keep (HW10.out.trans (hb.mono HW10.out.size))
      clear hac hr hb
      go_wp2_with fail
      refine (dtells_any B _ (HT.out.on (HW12.out.mono HT.out.b))).mono ?_
      rintro e w13 ⟨rfl, hb⟩
      have HW13 := Keep.keep (HW12.out.trans (hb.mono HW12.out.size))
      clear hb
      go_wp2_with fail
      go_ret
      exact ⟨rfl, HW13.out⟩
    · have hac : ¬ A = C := fun e => hc (hcz.2 e)
      have e1 : (cs == 0) = false := by simpa using hc
      have e2 : ((cs : Int) == 0) = false := by simp [hc]
      have e3 : decide (cs = 0) = false := by simp [hc]
      clear hcs hcz HCS HCZ hc
      go_wp2_with fail
      refine HSM.out.mono ?_
      rintro e w12 ⟨⟨r, rfl, hr⟩, hb⟩
      obtain rfl : r = false := by
        cases r with
        | false => rfl
        | true => exact (hac (hr.1 rfl)).elim
      have HW12 := Keep.keep (HW10.out.trans (hb.mono HW10.out.size))
      clear hac hr hb e1 e2 e3 g1 g2
      go_wp2_with fail
      refine (dtells_any B _ (HT.out.on (HW12.out.mono HT.out.b))).mono ?_
      rintro e w13 ⟨rfl, hb⟩
      have HW13 := Keep.keep (HW12.out.trans (hb.mono HW12.out.size))
      clear hb
      go_wp2_with fail
      go_ret
      exact ⟨rfl, HW13.out⟩
end Go.Proofs.YtmnknmpfkjhgbaaGreatDoor
