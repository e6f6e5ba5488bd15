/- PARTS OF ONE PROOF, set in one file: RAsked, RLike, Acts, Grown, TellsB, TreeTls, RfLaw. Each part tells its own conditions. -/
import Derived.RangeFuncNested
import Derived.RangeFuncBound
import Derived.Test.YtphgmkhbhboklaaGreatDoorP1
import Derived.Test.YtphgmkhbhboklaaGreatDoorP6
import Derived.Test.YtphgmkhbhboklaaGreatDoorP7
import Derived.Test.YtphgmkhbhboklaaGreatDoorP8
import Derived.Test.YtphgmkhbhboklaaGreatDoorP9
import Derived.Test.YtphgmkhbhboklaaGreatDoorP10
import Derived.Test.YtphgmkhbhboklaaGreatDoorP11
/- portolanlaw18.asked: what is told of a path, by the tree and by the document's. -/
namespace Go.Proofs.YtphgmkhbhboklaaGreatDoor
open Go.RowKit
set_option maxHeartbeats 4000000 in
set_option maxRecDepth 100000 in
theorem asked_any (T mb : Nat) (Bk : Nat → Prop) (f : Tx → Value × Value) (L : List Mb) (R : Nat) (N : Nat → Prop) (v : Value) (l : List Mv) (w : World) (hT : TreeIn w T mb Bk f L) (hBk : ∀ b, Bk b → b < w.heap.size) (h : RefIn w R N v l) (hR : R < w.heap.size) (hN : ∀ b, N b → b < w.heap.size) (he : l.map (·.1) = L) (p : Tx) (hp : p.length ≤ 400000) (hL : L.length ≤ 100000) :
    Calls Tryz.prog 26 #[.pointer (some ⟨T, 0, none⟩), .pointer (some ⟨R, 0, none⟩), .string ⟨p.toArray⟩] w fun e w' => e = .returned (.bool true) ∧ Below w.heap.size w w' := by
  have hTl := hT.row.lt
  have hml := hT.map.lt
  have HTN : Keep (∀ wx, Below w.heap.size w wx → TreeIn wx T mb Bk f L) := ⟨fun wx hb => hT.loc (fun b hb' => hb.block b (by rcases hb' with rfl | rfl | h; exact hTl; exact hml; exact hBk b h))⟩
  have HRN : Keep (∀ wx, Below w.heap.size w wx → RefIn wx R N v l) := ⟨fun wx hb => h.below hb hR hN⟩
  have hll : l.length ≤ 100000 := by rw [← he, List.length_map] at hL; exact hL
  have HG1 : Keep (∀ wx, Below w.heap.size w wx → Calls Tryz.prog 11 #[.pointer (some ⟨T, 0, none⟩), .string ⟨p.toArray⟩] wx fun e w' => ∃ av dv, e = .returned (.tuple #[.agg (ndC (getT L p).1 av dv), .bool (getT L p).2]) ∧ NdR w' (· < w'.heap.size) (getT L p).1 av dv ∧ Below wx.heap.size wx w') := ⟨fun wx hb => (get_tree T mb Bk f L wx (HTN.out wx hb) (fun b hb' => Nat.lt_of_lt_of_le (hBk b hb') hb.size) p (by omega)).mono (fun _ _ ⟨a, d, h1, h2, h3⟩ => ⟨a, d, h1, h2.mono (fun b hb => hb.2), h3⟩)⟩
  have HG2 : Keep (∀ wx, Below w.heap.size w wx → Calls Tryz.prog 51 #[.pointer (some ⟨R, 0, none⟩), .string ⟨p.toArray⟩] wx fun e w' => ∃ av dv, e = .returned (.tuple #[.agg (ndC (getT L p).1 av dv), .bool (getT L p).2]) ∧ NdR w' (· < w'.heap.size) (getT L p).1 av dv ∧ Below wx.heap.size wx w') := ⟨fun wx hb => by
    have := rget_any R N v l wx (HRN.out wx hb) (Nat.lt_of_lt_of_le hR hb.size) (fun b hb' => Nat.lt_of_lt_of_le (hN b hb') hb.size) p
    rw [he] at this
    exact this.mono (fun _ _ ⟨a, d, h1, h2, h3⟩ => ⟨a, d, h1, h2.mono (fun b hb' => by have := hN b hb'; have := hb.size; have := h3.size; omega), h3⟩)⟩
  have HL1 : Keep (∀ wx, Below w.heap.size w wx → Calls Tryz.prog 27 #[.pointer (some ⟨T, 0, none⟩), .string ⟨p.toArray⟩] wx fun e w' => (∃ v, e = .returned (.tuple #[v, .int .i64 (listT L p).2]) ∧ w'.ownsRow wx.heap.size 9 1 v (listT L p).1.length ((listT L p).1.map encStr)) ∧ Below wx.heap.size wx w') := ⟨fun wx hb => list_tree T mb Bk f L wx (HTN.out wx hb) (fun b hb' => Nat.lt_of_lt_of_le (hBk b hb') hb.size) p (by omega) hL⟩
  have HL2 : Keep (∀ wx, Below w.heap.size w wx → Calls Tryz.prog 52 #[.pointer (some ⟨R, 0, none⟩), .string ⟨p.toArray⟩] wx fun e w' => (∃ v, e = .returned (.tuple #[v, .int .i64 (listT L p).2]) ∧ w'.ownsRow wx.heap.size 9 1 v (listT L p).1.length ((listT L p).1.map encStr)) ∧ Below wx.heap.size wx w') := ⟨fun wx hb => by
    have := rlist_any R N v l wx (HRN.out wx hb) (Nat.lt_of_lt_of_le hR hb.size) (fun b hb' => Nat.lt_of_lt_of_le (hN b hb') hb.size) p hll
    rw [he] at this
    exact this⟩
  have HU1 : Keep (∀ wx, Below w.heap.size w wx → Calls Tryz.prog 14 #[.pointer (some ⟨T, 0, none⟩), .string ⟨p.toArray⟩] wx fun e w' => ∃ v l, e = .returned v ∧ l.map (·.1) = underL p L ∧ Mbs w' (· < w'.heap.size) (· < w'.heap.size) v l ∧ Below wx.heap.size wx w') := ⟨fun wx hb => by
    have hs := hb.size
    exact (under_tree T mb Bk f L p wx hL hp (HTN.out wx hb) ⟨by omega, by omega, fun b hb' => by have := hBk b hb'; omega⟩).mono (fun _ _ ⟨v, l, h1, h2, h3, h4⟩ => ⟨v, l, h1, h2, h3.mono (fun b hb => hb.2) (fun b hb => hb.2), h4⟩)⟩
  have HU2 : Keep (∀ wx, Below w.heap.size w wx → Calls Tryz.prog 53 #[.pointer (some ⟨R, 0, none⟩), .string ⟨p.toArray⟩] wx fun e w' => ∃ v l, e = .returned v ∧ l.map (·.1) = underL p L ∧ Mbs w' (· < w'.heap.size) (· < w'.heap.size) v l ∧ Below wx.heap.size wx w') := ⟨fun wx hb => by
    have := runderT_any R N v l wx (HRN.out wx hb) (Nat.lt_of_lt_of_le hR hb.size) (fun b hb' => Nat.lt_of_lt_of_le (hN b hb') hb.size) p (by omega) hll
    rw [he] at this
    exact this⟩
  generalize getT L p = gt at *
  generalize listT L p = lt at *
  generalize underL p L = ul at *
  obtain ⟨⟨kind, mode, uid, gid, time, attrs, data, link⟩, is⟩ := gt
  obtain ⟨ls, er⟩ := lt
  dsimp only at HG1 HG2 HL1 HL2
  clear hT h hBk hN he HTN HRN hL hll hTl hml hR
  have hbb : (is == is) = true := beq_self_eq_true _
  have hee : (er == er) = true := beq_self_eq_true _
  go_enter Tryz.func26, Tryz.ntmps26
  go_upto_region 1 with fail
  go_wp2_with fail
  refine (HG1.out w (Below.refl _ _)).mono ?_
  rintro e w1 ⟨av, dv, rfl, hnd, hb1⟩
  obtain ⟨aa, la, ca, ad, ld, cd, rfl, rfl⟩ := hnd.shape
  unfold ndC strV
  dsimp only
  have HB1 := Keep.keep hb1; have HN1 := Keep.keep hnd
  have hs1 : w.heap.size ≤ w1.heap.size := hb1.size
  clear hnd hb1 HG1
  go_upto_region 2 with fail
  refine wp_world (R := fun w2 => Hp NoM w1 w2 [rowA w1.heap.size 30 #[.int .i64 kind, .int .u32 mode, .int .u32 uid, .int .u32 gid, .int .i64 time, .slice aa la ca, .slice ad ld cd, .string ⟨link.toArray⟩]]) ((Hp.begin NoM w1).newRow _ _) ?_
  intro w2 H2
  have HB2 := Keep.keep (HB1.out.trans (H2.out.below.mono hs1))
  go_wp2_with fail
  refine (HG2.out w2 HB2.out).mono ?_
  rintro e w3 ⟨av2, dv2, rfl, hnd3, hb3⟩
  obtain ⟨ba, lb, cb, bd, le, ce, rfl, rfl⟩ := hnd3.shape
  unfold ndC strV
  dsimp only
  have H3 := Keep.keep (H2.out.call hb3)
  have HN3 := Keep.keep hnd3
  clear hnd3 hb3 HG2
  go_upto_region 3 with fail
  refine wp_world (R := fun w4 => Hp NoM w1 w4 [rowA w1.heap.size 30 #[.int .i64 kind, .int .u32 mode, .int .u32 uid, .int .u32 gid, .int .i64 time, .slice aa la ca, .slice ad ld cd, .string ⟨link.toArray⟩], rowA w3.heap.size 30 #[.int .i64 kind, .int .u32 mode, .int .u32 uid, .int .u32 gid, .int .i64 time, .slice ba lb cb, .slice bd le ce, .string ⟨link.toArray⟩]] ∧ Below w3.heap.size w3 w4) ⟨H3.out.newRow _ _, (Below.refl _ _).alloc (Nat.le_refl _) _⟩ ?_
  intro w4 H4
  have hs3 := H3.out.size
  have HB4 := Keep.keep (HB1.out.trans (H4.out.1.below.mono hs1))
  have HNB : Keep (NdR w4 (· < w4.heap.size) ⟨kind, mode, uid, gid, time, attrs, data, link⟩ (.slice ba lb cb) (.slice bd le ce)) := ⟨(HN3.out.below H4.out.2 (fun b hb => hb)).mono (fun b hb => Nat.lt_of_lt_of_le hb H4.out.2.size)⟩
  have HNA : Keep (NdR w4 (· < w4.heap.size) ⟨kind, mode, uid, gid, time, attrs, data, link⟩ (.slice aa la ca) (.slice ad ld cd)) := ⟨(HN1.out.below H4.out.1.below (fun b hb => hb)).mono (fun b hb => Nat.lt_of_lt_of_le hb H4.out.1.size)⟩
  obtain ⟨b7, hb7⟩ : ∃ b, w1.heap.size = b := ⟨_, rfl⟩
  obtain ⟨b9, hb9⟩ : ∃ b, w3.heap.size = b := ⟨_, rfl⟩
  have HH4 := Keep.keep H4.out.1
  have HE7 := Keep.keep hb7
  rw [hb7, hb9] at HH4 ⊢
  clear H4 H3 H2 HN1 HN3 HB2 hb7 hb9 hs3
  go_wp2_with fail
  refine (HL1.out w4 HB4.out).mono ?_
  rintro e w5 ⟨⟨v11, rfl, ho5⟩, hb5⟩
  obtain ⟨a11, c11, rfl, -⟩ := (ownsV_reads ho5).shape
  have HO5 := Keep.keep ho5; have HB5 := Keep.keep hb5
  have HBW5 := Keep.keep (HB4.out.trans (hb5.mono HB4.out.size))
  clear ho5 hb5 HL1
  go_wp2_with fail
  refine (HL2.out w5 HBW5.out).mono ?_
  rintro e w6 ⟨⟨v13, rfl, ho6⟩, hb6⟩
  obtain ⟨a13, c13, rfl, -⟩ := (ownsV_reads ho6).shape
  have HB6 : Keep (Below w4.heap.size w4 w6) := ⟨HB5.out.trans (hb6.mono HB5.out.size)⟩
  have HBW6 := Keep.keep (HBW5.out.trans (hb6.mono HBW5.out.size))
  have HR5 : Keep (RdV w6 (· < w6.heap.size) 1 (.slice a11 ls.length c11) ls.length (ls.map encStr)) := ⟨((ownsV_reads HO5.out).below hb6 (fun b hb => hb.2.1)).mono (fun b hb => Nat.lt_of_lt_of_le hb.2.1 hb6.size)⟩
  have HR6 : Keep (RdV w6 (· < w6.heap.size) 1 (.slice a13 ls.length c13) ls.length (ls.map encStr)) := ⟨(ownsV_reads ho6).mono (fun b hb => hb.2.1)⟩
  have HH6 := Keep.keep (HH4.out.call (HB6.out.mono (Nat.le_refl _)))
  have HNA6 := Keep.keep ((HNA.out.below HB6.out (fun b hb => hb)).mono (N' := (· < w6.heap.size)) (fun b hb => Nat.lt_of_lt_of_le hb HB6.out.size))
  have HNB6 := Keep.keep ((HNB.out.below HB6.out (fun b hb => hb)).mono (N' := (· < w6.heap.size)) (fun b hb => Nat.lt_of_lt_of_le hb HB6.out.size))
  clear ho6 hb6 HL2 HO5 HB5 HBW5 HH4 HNA HNB HB4
  have HRA := Keep.keep (HH6.out.row 0 rfl)
  have HRB := fun o => Keep.keep ((HH6.out.row 1 rfl).old o)
  have HSA : Keep ((#[.int .i64 kind, .int .u32 mode, .int .u32 uid, .int .u32 gid, .int .i64 time, .slice aa la ca, .slice ad ld cd, .string ⟨link.toArray⟩] : Array Value).size = 8) := ⟨rfl⟩
  have HSB : Keep ((#[.int .i64 kind, .int .u32 mode, .int .u32 uid, .int .u32 gid, .int .i64 time, .slice ba lb cb, .slice bd le ce, .string ⟨link.toArray⟩] : Array Value).size = 8) := ⟨rfl⟩
  have hbm1 : ∀ w, (Instr.build 32 #[(1, .agg #[.int .i64 kind, .int .u32 mode, .int .u32 uid, .int .u32 gid, .int .i64 time, .slice aa la ca, .slice ad ld cd, .string ⟨link.toArray⟩])]).run Tryz.prog w = .ok (.agg #[.string ⟨#[]⟩, .int .i64 kind, .int .u32 mode, .int .u32 uid, .int .u32 gid, .int .i64 time, .slice aa la ca, .slice ad ld cd, .string ⟨link.toArray⟩]) w := fun w => by kernel_rfl
  have hbm2 : ∀ w, (Instr.build 32 #[(1, .agg #[.int .i64 kind, .int .u32 mode, .int .u32 uid, .int .u32 gid, .int .i64 time, .slice ba lb cb, .slice bd le ce, .string ⟨link.toArray⟩])]).run Tryz.prog w = .ok (.agg #[.string ⟨#[]⟩, .int .i64 kind, .int .u32 mode, .int .u32 uid, .int .u32 gid, .int .i64 time, .slice ba lb cb, .slice bd le ce, .string ⟨link.toArray⟩]) w := fun w => by kernel_rfl
  go_wp2_with (first
    | ((with_reducible refine arm_loadRowG ?_ HRA.out aggN HSA.out ?_ ?_); (focus rfl); (focus rfl); simp only [Act.put, List.setIfInBounds_toArray, List.set_cons_succ, List.set_cons_zero])
    | ((with_reducible refine arm_loadRowG ?_ (HRB _).out aggN HSB.out ?_ ?_); (focus rfl); (focus rfl); simp only [Act.put, List.setIfInBounds_toArray, List.set_cons_succ, List.set_cons_zero]))
  refine (alike_one w6 _ _ _ _ _ _ _ _ _ _ _ _ _ _ _ _ _ _ _ _ HNA6.out HNB6.out).mono ?_
  rintro e w7 ⟨rfl, hb7⟩
  have HB7 := Keep.keep (HBW6.out.trans (hb7.mono HBW6.out.size))
  have HTX := Keep.keep (texts_any _ _ ls ls w7 ((HR5.out.below hb7 (fun b hb => hb)).mono (fun b hb => Nat.lt_of_lt_of_le hb hb7.size)) ((HR6.out.below hb7 (fun b hb => hb)).mono (fun b hb => Nat.lt_of_lt_of_le hb hb7.size)))
  rw [decide_eq_true (show ls = ls from rfl)] at HTX
  clear hb7 HRA HRB hbm1 hbm2 HNA6 HNB6 HH6
  go_wp2_with fail
  refine HTX.out.mono ?_
  rintro e w8 ⟨rfl, hb8⟩
  have HB8 := Keep.keep (HB7.out.trans (hb8.mono HB7.out.size))
  clear hb8
  go_wp2_with fail
  refine (HU1.out w8 HB8.out).mono ?_
  rintro e w9 ⟨v1, l1, rfl, hl1, hm1, hb9⟩
  have HM1 := Keep.keep hm1; have HL1 := Keep.keep hl1
  have HB9 := Keep.keep (HB8.out.trans (hb9.mono HB8.out.size))
  obtain ⟨a1, c1, rfl, -⟩ := hm1.rd.shape
  clear hm1 hl1 hb9
  go_wp2_with fail
  refine (HU2.out w9 HB9.out).mono ?_
  rintro e w10 ⟨v2, l2, rfl, hl2, hm2, hb10⟩
  have HB10 := Keep.keep (HB9.out.trans (hb10.mono HB9.out.size))
  have HM1' := Keep.keep ((HM1.out.below hb10 (fun b hb => hb) (fun b hb => hb)).mono (K := (· < w10.heap.size)) (K' := (· < w10.heap.size)) (fun b hb => Nat.lt_of_lt_of_le hb hb10.size) (fun b hb => Nat.lt_of_lt_of_le hb hb10.size))
  have HAL := Keep.keep (alike_any _ _ l1 l2 w10 HM1'.out hm2)
  have HEQ : Keep (l1.map (·.1) = l2.map (·.1)) := ⟨by rw [HL1.out, hl2]⟩
  obtain ⟨a2, c2, rfl, -⟩ := hm2.rd.shape
  clear hm2 hl2 hb10 HM1
  go_wp2_with fail
  refine HAL.out.mono ?_
  rintro e w11 ⟨⟨r, rfl, hr⟩, hb11⟩
  obtain rfl : r = true := hr.2 HEQ.out
  have HB11 := Keep.keep (HB10.out.trans (hb11.mono HB10.out.size))
  clear hb11
  go_wp2_with fail
  go_ret
  exact ⟨rfl, HB11.out⟩
end Go.Proofs.YtphgmkhbhboklaaGreatDoor
/- portolanlaw18.like: a tree is the document's; what it tells is spoilt, and it stays. -/
namespace Go.Proofs.YtphgmkhbhboklaaGreatDoor
open Go.RowKit
/-- a slice of bytes whichever they are: its block is new, and a row of bytes -/
def TyB (w : World) (B : Nat) (v : Value) (n : Nat) : Prop := ∀ b off m cap, v = .slice (some ⟨b, off, none⟩) m cap → B ≤ b ∧ ∃ c, Row w b 5 c ∧ ∀ j, j < n → ∃ k, c[off + j]? = some (.int .u8 k)
/-- a slice of attributes whichever they are -/
def TyA (w : World) (B : Nat) (v : Value) (n : Nat) : Prop := ∀ b off m cap, v = .slice (some ⟨b, off, none⟩) m cap → B ≤ b ∧ ∃ c, Row w b 85 c ∧ ∀ j, j < n → ∃ k, c[off + j * 2]? = some k
structure Spoil (B : Nat) (w : World) (v : Value) (l : List Mv) : Prop where
  own : w.ownsRow B 32 9 v l.length (mcells l)
  b : ∀ x ∈ l, TyB w B x.2.2 x.1.2.data.length
  a : ∀ x ∈ l, TyA w B x.2.1 x.1.2.attrs.length
theorem Row.uniq {w : World} {b : Nat} {e e' : TypeId} {c c' : Array Value} (h : Row w b e c) (h' : Row w b e' c') : e = e' ∧ c = c' := by
  unfold Row at h h'
  rw [h] at h'
  injection h' with h'
  injection h' with h1 h2
  exact ⟨h2, h1⟩
theorem cell_row {w : World} {b i : Nat} {e : TypeId} {c : Array Value} (h : Row w b e c) {u : Value} (hc : w.cell? ⟨b, i, none⟩ = some u) : c[i]? = some u := by
  rw [cell_of_row w b i c e (0, 0) h] at hc; exact hc
theorem Spoil.ofOwn {B : Nat} {w : World} {v : Value} {l : List Mv} (h : OwnMbs B w v l) : Spoil B w v l :=
  ⟨h.own, fun x hx b off m cap e => by
    obtain ⟨h1, c, h2⟩ := (h.nd x hx).td b off m cap e
    exact ⟨h1.1, c, h2, fun j hj => ⟨_, cell_row h2 ((h.nd x hx).r.dt.cell b off m cap e j hj)⟩⟩, fun x hx b off m cap e => by
    obtain ⟨h1, c, h2⟩ := (h.nd x hx).ta b off m cap e
    refine ⟨h1.1, c, h2, fun j hj => ⟨_, cell_row h2 ((h.nd x hx).r.at_.cell b off m cap e (j * 2) _ (rcells_get _ j hj).1)⟩⟩⟩
theorem owns_other {w : World} {B g e2 : Nat} {v u : Value} {k n i : Nat} {e : TypeId} {vs : List Value} {c : Array Value} (h : w.ownsRow B e k v n vs) (hr : Row w g e2 c) (hne : e2 ≠ e) : (w.setCell ⟨g, i, none⟩ u).ownsRow B e k v n vs := by
  refine ownsRow_loc _ _ (fun b hb => heap_setCell_other w ⟨g, i, none⟩ b u (fun e1 => ?_)) h
  subst e1
  rcases h.2 with ⟨h1, _⟩ | ⟨g', cap', cur, h1, h2, h3, _⟩
  · rw [h1] at hb; cases hb
  · rw [h1] at hb
    injection hb with hb
    subst hb
    exact hne (Row.uniq hr h3).1
theorem Spoil.setB {B g i : Nat} {w : World} {v : Value} {l : List Mv} {c : Array Value} {z : Int} (h : Spoil B w v l) (hr : Row w g 5 c) : Spoil B (w.setCell ⟨g, i, none⟩ (.int .u8 z)) v l :=
  ⟨owns_other h.own hr (by decide), fun x hx b off m cap e => by
    obtain ⟨h1, c', h2, h3⟩ := h.b x hx b off m cap e
    by_cases hb : b = g
    · subst hb
      obtain ⟨-, rfl⟩ := Row.uniq hr h2
      refine ⟨h1, _, h2.set i _, fun j hj => ?_⟩
      obtain ⟨k, hk⟩ := h3 j hj
      by_cases hi : i = off + j
      · subst hi
        have hlt := (Array.getElem?_eq_some_iff.1 hk).1
        exact ⟨z, by simp [hlt]⟩
      · exact ⟨k, by rw [Array.getElem?_setIfInBounds_ne hi]; exact hk⟩
    · exact ⟨h1, c', h2.other (a := ⟨g, i, none⟩) hb _, h3⟩, fun x hx b off m cap e => by
    obtain ⟨h1, c', h2, h3⟩ := h.a x hx b off m cap e
    refine ⟨h1, c', h2.other (a := ⟨g, i, none⟩) (fun e1 => ?_) _, h3⟩
    subst e1
    exact absurd (Row.uniq hr h2).1 (by decide)⟩
theorem Spoil.setA {B g i : Nat} {w : World} {v u : Value} {l : List Mv} {c : Array Value} (h : Spoil B w v l) (hr : Row w g 85 c) : Spoil B (w.setCell ⟨g, i, none⟩ u) v l :=
  ⟨owns_other h.own hr (by decide), fun x hx b off m cap e => by
    obtain ⟨h1, c', h2, h3⟩ := h.b x hx b off m cap e
    refine ⟨h1, c', h2.other (a := ⟨g, i, none⟩) (fun e1 => ?_) _, h3⟩
    subst e1
    exact absurd (Row.uniq hr h2).1 (by decide), fun x hx b off m cap e => by
    obtain ⟨h1, c', h2, h3⟩ := h.a x hx b off m cap e
    by_cases hb : b = g
    · subst hb
      obtain ⟨-, rfl⟩ := Row.uniq hr h2
      refine ⟨h1, _, h2.set i _, fun j hj => ?_⟩
      obtain ⟨k, hk⟩ := h3 j hj
      by_cases hi : i = off + j * 2
      · subst hi
        have hlt := (Array.getElem?_eq_some_iff.1 hk).1
        exact ⟨u, by simp [hlt]⟩
      · exact ⟨k, by rw [Array.getElem?_setIfInBounds_ne hi]; exact hk⟩
    · exact ⟨h1, c', h2.other (a := ⟨g, i, none⟩) hb _, h3⟩⟩
theorem Spoil.below {B : Nat} {w w' : World} {v : Value} {l : List Mv} (h : Spoil B w v l) (hb : Below w.heap.size w w') : Spoil B w' v l :=
  ⟨ownsRow_loc _ _ (fun b hb' => hb.block b (World.ownsRow.lt h.own b hb').2) h.own, fun x hx b off m cap e => by
    obtain ⟨h1, c, h2, h3⟩ := h.b x hx b off m cap e
    exact ⟨h1, c, h2.below hb h2.lt, h3⟩, fun x hx b off m cap e => by
    obtain ⟨h1, c, h2, h3⟩ := h.a x hx b off m cap e
    exact ⟨h1, c, h2.below hb h2.lt, h3⟩⟩
theorem run_nilCk {P : Program} {ρ : Operand → Value} {d : Option Tmp} {x : Operand} {t : TypeId} {pos : String} {af : Array Edge} {g : Option (Nat × Bool)} {w : World} {ad : Addr} (hx : ρ x = .pointer (some ad)) : (execOp ρ (⟨d, .nilCheck x, t, pos, af, g⟩ : Oper)).run P w = .ok (.value (.pointer (some ad))) w := by
  simp [go_sem, execOp, hx]
/-- what is said of the last region's operations -/
def lkT (T R : Nat) (vr : Value) (L : List Mb) : Nat → Value → World → Prop
  | 0, v, _ => v = .pointer (some ⟨T, 0, none⟩)
  | 1, v, w => ∃ l, l.map (·.1) = L ∧ Mbs w (· < w.heap.size) (· < w.heap.size) v l
  | 2, v, _ => v = .pointer (some ⟨R, 0, none⟩)
  | 3, v, _ => v = .pointer (some ⟨R, 0, none⟩)
  | 4, v, _ => v = .pointer (some ⟨R, 0, none⟩)
  | 5, v, _ => v = vr
  | _, v, _ => v = .bool true
theorem lkT_stays {T R : Nat} {vr : Value} {L : List Mb} (k : Nat) (v : Value) (w w' : World) (h : lkT T R vr L k v w) (hb : Below w.heap.size w w') : lkT T R vr L k v w' := by
  unfold lkT at h ⊢
  split at h
  any_goals exact h
  obtain ⟨l, h1, h2⟩ := h
  exact ⟨l, h1, (h2.below hb (fun b hb => hb) (fun b hb => hb)).mono (fun b hb' => Nat.lt_of_lt_of_le hb' hb.size) (fun b hb' => Nat.lt_of_lt_of_le hb' hb.size)⟩
set_option maxHeartbeats 8000000 in
set_option maxRecDepth 100000 in
theorem like_any (T mb : Nat) (Bk : Nat → Prop) (f : Tx → Value × Value) (L : List Mb) (R : Nat) (N : Nat → Prop) (vr : Value) (lr : List Mv) (w : World) (hT : TreeIn w T mb Bk f L) (hBk : ∀ b, Bk b → b < w.heap.size) (h : RefIn w R N vr lr) (hR : R < w.heap.size) (hN : ∀ b, N b → b < w.heap.size) (he : lr.map (·.1) = L) (hL : L.length ≤ 100000) :
    Calls Tryz.prog 25 #[.pointer (some ⟨T, 0, none⟩), .pointer (some ⟨R, 0, none⟩)] w fun e w' => e = .returned (.bool true) ∧ Below w.heap.size w w' := by
  have hTl := hT.row.lt
  have hml := hT.map.lt
  have HTN : Keep (∀ wx, Below w.heap.size w wx → TreeIn wx T mb Bk f L) := ⟨fun wx hb => hT.loc (fun b hb' => hb.block b (by rcases hb' with rfl | rfl | h; exact hTl; exact hml; exact hBk b h))⟩
  have HRN : Keep (∀ wx, Below w.heap.size w wx → RefIn wx R N vr lr) := ⟨fun wx hb => h.below hb hR hN⟩
  have HMB : Keep (∀ wx, Below w.heap.size w wx → Mbs wx (· < wx.heap.size) (· < wx.heap.size) vr lr) := ⟨fun wx hb => (HRN.out wx hb).mbs.mono (fun b hb' => Nat.lt_of_lt_of_le (hN b hb') hb.size) (fun b hb' => Nat.lt_of_lt_of_le (hN b hb') hb.size)⟩
  have HAO : Keep (∀ wx, Below w.heap.size w wx → Calls Tryz.prog 16 #[.pointer (some ⟨T, 0, none⟩)] wx fun e w' => ∃ v l, e = .returned v ∧ l.map (·.1) = L ∧ OwnMbs wx.heap.size w' v l ∧ Below wx.heap.size wx w') := ⟨fun wx hb => by
    have hs := hb.size
    exact all_own T mb Bk f L wx hL (HTN.out wx hb) ⟨by omega, by omega, fun b hb' => by have := hBk b hb'; omega⟩⟩
  have HLN : Keep (∀ wx, Below w.heap.size w wx → Calls Tryz.prog 15 #[.pointer (some ⟨T, 0, none⟩)] wx fun e w' => e = .returned (.int .i64 (L.length : Int)) ∧ wx = w') := ⟨fun wx hb => len_tree T mb Bk f L wx (HTN.out wx hb)⟩
  have hll : lr.length = L.length := by rw [← he, List.length_map]
  obtain ⟨ar, cr, hvr, hcr, hmr, -⟩ := h.mbs.rd.shape
  have HE := Keep.keep he
  rw [hll] at hvr hcr
  unfold maxLen at hmr
  clear hT h hBk hN he HTN hll
  have HVR := Keep.keep hvr
  go_enter Tryz.func25, Tryz.ntmps25
  go_wp2_with fail
  refine (HAO.out w (Below.refl _ _)).mono ?_
  rintro e w1 ⟨v, l, rfl, hl, hown, hb1⟩
  have hsp := Spoil.ofOwn hown
  have hmb1 := hown.mbs.mono (K := (· < w1.heap.size)) (K' := (· < w1.heap.size)) (fun b hb => hb.2) (fun b hb => hb.2)
  have HSH : Keep (∀ x ∈ l, ∃ aa ca ad cd, x.2.1 = .slice aa x.1.2.attrs.length ca ∧ x.2.2 = .slice ad x.1.2.data.length cd ∧ x.1.2.attrs.length ≤ ca ∧ x.1.2.data.length ≤ cd ∧ (ca = 0 ∨ ∃ b off, aa = some ⟨b, off, none⟩) ∧ (cd = 0 ∨ ∃ b off, ad = some ⟨b, off, none⟩) ∧ ca ≤ maxLen ∧ cd ≤ maxLen) := ⟨fun x hx => by
    obtain ⟨aa, ca, e1, g1, g2, g3⟩ := (hown.nd x hx).r.at_.shape
    obtain ⟨ad, cd, e2, k1, k2, k3⟩ := (hown.nd x hx).r.dt.shape
    exact ⟨aa, ca, ad, cd, e1, e2, g1, k1, g3.imp id (fun ⟨b, off, h, _⟩ => ⟨b, off, h⟩), k3.imp id (fun ⟨b, off, h, _⟩ => ⟨b, off, h⟩), g2, k2⟩⟩
  obtain ⟨a, cap, hva, hcap, hmx⟩ : ∃ a cap, v = .slice a l.length cap ∧ l.length ≤ cap ∧ cap ≤ maxLen := by
    obtain ⟨a, cap, e, h1, h2, -⟩ := hmb1.rd.shape
    exact ⟨a, cap, e, h1, h2⟩
  have hoff : l.length = 0 ∨ ∃ g, a = some ⟨g, 0, none⟩ := by
    rcases hown.own.2 with ⟨h1, h0⟩ | ⟨g, cap', cur, h1, _⟩
    · exact .inl h0
    · rw [h1] at hva; injection hva with hva _ _; exact .inr ⟨g, hva.symm⟩
  have HOFF := Keep.keep hoff
  have HSP := Keep.keep hsp; have HM1 := Keep.keep hmb1; have HLM := Keep.keep hl; have HB1 := Keep.keep hb1
  have hln : l.length = L.length := by rw [← hl, List.length_map]
  unfold maxLen at hmx
  clear hown hsp hmb1 hl hoff hb1
  obtain ⟨n, hn⟩ : ∃ n, L.length = n := ⟨_, rfl⟩
  have HNN := Keep.keep (hln.trans hn)
  subst hva
  rw [hn] at hln hvr hcr HLN hL
  rw [hln] at hcap
  have hlv : ∀ q, Value.slice a l.length q = Value.slice a n q := fun q => by rw [hln]
  rw [hlv] at HSP HM1 ⊢
  clear hlv hln hn
  have hne : ((n : Int) != (n : Int)) = false := by simp
  have HALK : Keep (∀ wx, Below w1.heap.size w1 wx → Calls Tryz.prog 12 #[.slice a n cap, .slice ar n cr] wx fun e w' => e = .returned (.bool true) ∧ Below wx.heap.size wx w') := ⟨fun wx hb => by
    have hm2 := HMB.out wx (HB1.out.trans (hb.mono HB1.out.size))
    rw [hvr] at hm2
    refine (alike_any _ _ l lr wx ((HM1.out.below hb (fun b hb => hb) (fun b hb => hb)).mono (fun b hb' => Nat.lt_of_lt_of_le hb' hb.size) (fun b hb' => Nat.lt_of_lt_of_le hb' hb.size)) hm2).mono ?_
    rintro e w' ⟨⟨r, rfl, hr⟩, hb'⟩
    obtain rfl : r = true := hr.2 (by rw [HLM.out, HE.out])
    exact ⟨rfl, hb'⟩⟩
  have HCR : Keep (∀ wx, Below w1.heap.size w1 wx → wx.cell? ⟨R, 0, none⟩ = some (.slice ar n cr)) := ⟨fun wx hb => by
    have := (HRN.out wx (HB1.out.trans (hb.mono HB1.out.size))).row.cell (i := 0) rfl
    rw [hvr] at this
    exact this⟩
  have HLN1 : Keep (∀ wx, Below w1.heap.size w1 wx → Calls Tryz.prog 15 #[.pointer (some ⟨T, 0, none⟩)] wx fun e w' => e = .returned (.int .i64 (n : Int)) ∧ Below wx.heap.size wx w') := ⟨fun wx hb => (HLN.out wx (HB1.out.trans (hb.mono HB1.out.size))).mono (by rintro e w' ⟨rfl, rfl⟩; exact ⟨rfl, Below.refl _ _⟩)⟩
  clear hvr HVR
  go_upto_region 2 with fail
  refine wp_region_cls (fun w' => Below w1.heap.size w1 w') (by kernel_rfl) (by kernel_rfl) (Below.refl _ _).drew ?_
  repeat (first
    | ((with_reducible refine cls_call (f := 12) ?_ (Go.Proofs.enters_of Tryz.func12 (by kernel_rfl) rfl) ?_ (fun w1 hw1 => (HALK.out w1 hw1).mono (fun e w2 he => ⟨he.1, hw1.trans (he.2.mono hw1.size)⟩)) ?_); (focus rfl); (focus (first | exact Array.map_empty | (simp only [List.map_toArray, List.map_cons, List.map_nil]; rfl))); simp only [Act.put, List.setIfInBounds_toArray, List.set_cons_succ, List.set_cons_zero])
    | ((with_reducible refine cls_call (f := 15) ?_ (Go.Proofs.enters_of Tryz.func15 (by kernel_rfl) rfl) ?_ (fun w1 hw1 => (HLN1.out w1 hw1).mono (fun e w2 he => ⟨he.1, hw1.trans (he.2.mono hw1.size)⟩)) ?_); (focus rfl); (focus (first | exact Array.map_empty | (simp only [List.map_toArray, List.map_cons, List.map_nil]; rfl))); simp only [Act.put, List.setIfInBounds_toArray, List.set_cons_succ, List.set_cons_zero])
    | ((with_reducible refine cls_cell ?_ HCR.out (run_isAgg_plain Tryz.underlying33 rfl) ?_ ?_); (focus rfl); (focus rfl); simp only [Act.put, List.setIfInBounds_toArray, List.set_cons_succ, List.set_cons_zero])
    | (first | go_big_quiet_step (fail) | (go_big_quiet_want; go_big_quiet_op; (refine ⟨_, fun _ _ => rfl, ?_⟩); go_big_quiet_on)))
  (refine wpQuiet_nil ?_); intro w2 hw2
  have HS2 := Keep.keep (HSP.out.below hw2)
  have HB2 := Keep.keep (HB1.out.trans (hw2.mono HB1.out.size))
  clear hw2 HALK HCR HLN1 HLN HSP HM1
  go_wp2_with fail
  go_loopg [6, 7, 8] n (fun g u6 _ _ wx => ∃ i : Nat, i + g = n ∧ u6 = .int .i64 (i : Int) ∧ Spoil w.heap.size wx (.slice a n cap) l ∧ Below w.heap.size w wx)
  case atStart => exact ⟨0, by omega, rfl, HS2.out, HB2.out⟩
  case round =>
    obtain ⟨i, hig, rfl, hsp, hbx⟩ := hrel
    have HSP := Keep.keep hsp; have HBX := Keep.keep hbx
    clear hsp hbx HS2 HB2
    by_cases hi : i < n
    · obtain ⟨gn, rfl⟩ : ∃ gn, gk = gn + 1 := ⟨gk - 1, by omega⟩
      have hd : decide ((i : Int) < (n : Int)) = true := decide_eq_true (by omega)
      have hil : i < l.length := by rw [HNN.out]; exact hi
      obtain ⟨g, rfl⟩ : ∃ g, a = some ⟨g, 0, none⟩ := by
        rcases HOFF.out with h | h
        · omega
        · exact h
      obtain ⟨aa, ca, ad, cd, e1, e2, g1, k1, g3, k3, m1, m2⟩ := HSH.out _ (List.getElem_mem hil)
      have HC : Keep (∀ wx, Spoil w.heap.size wx (.slice (some ⟨g, 0, none⟩) n cap) l → wx.cell? ⟨g, i * 9 + 7, none⟩ = some l[i].2.2 ∧ wx.cell? ⟨g, i * 9 + 6, none⟩ = some l[i].2.1) := ⟨fun wx h => by
        have hr := ownsV_reads h.own
        have h7 := hr.cell g 0 _ _ rfl (i * 9 + 7) l[i].2.2 (by rw [mcells_get l i 7 hil (by omega)]; rfl)
        have h6 := hr.cell g 0 _ _ rfl (i * 9 + 6) l[i].2.1 (by rw [mcells_get l i 6 hil (by omega)]; rfl)
        rw [Nat.zero_add] at h7 h6
        exact ⟨h7, h6⟩⟩
      have HTB : Keep (∀ wx, Spoil w.heap.size wx (.slice (some ⟨g, 0, none⟩) n cap) l → TyB wx w.heap.size l[i].2.2 l[i].1.2.data.length) := ⟨fun wx h => h.b _ (List.getElem_mem hil)⟩
      have HTA : Keep (∀ wx, Spoil w.heap.size wx (.slice (some ⟨g, 0, none⟩) n cap) l → TyA wx w.heap.size l[i].2.1 l[i].1.2.attrs.length) := ⟨fun wx h => h.a _ (List.getElem_mem hil)⟩
      rw [e1] at HC HTA
      rw [e2] at HC HTB
      clear e1 e2
      unfold maxLen at m1 m2
      generalize l[i].1.2.data.length = dl at *
      generalize l[i].1.2.attrs.length = al at *
      have G3 := Keep.keep g3; have K3 := Keep.keep k3
      clear g3 k3
      go_wp2_with fail
      go_loopg [7] dl (fun g2 u7 wx => ∃ k : Nat, k + g2 = dl ∧ u7 = .int .i64 (k : Int) ∧ Spoil w.heap.size wx (.slice (some ⟨g, 0, none⟩) n cap) l ∧ Below w.heap.size w wx)
      case atStart => exact ⟨0, by omega, rfl, HSP.out, HBX.out⟩
      case round =>
        obtain ⟨k, hkg, rfl, hsp, hbx⟩ := hrel
        have HSP2 := Keep.keep hsp; have HBX2 := Keep.keep hbx
        obtain ⟨c7, c6⟩ := HC.out _ hsp
        clear hsp hbx HSP HBX
        by_cases hk : k < dl
        · obtain ⟨gm, rfl⟩ : ∃ gm, gk = gm + 1 := ⟨gk - 1, by omega⟩
          have hdk : decide ((k : Int) < (dl : Int)) = true := decide_eq_true (by omega)
          obtain ⟨b, off, rfl⟩ : ∃ b off, ad = some ⟨b, off, none⟩ := by
            rcases K3.out with h | h
            · omega
            · exact h
          obtain ⟨hB, c, hrow, hck⟩ := HTB.out _ HSP2.out b off _ _ rfl
          obtain ⟨z, hz⟩ := hck k hk
          have cz := hrow.cell hz
          have fz := hrow.frozen (off + k)
          have HROW := Keep.keep hrow
          clear hrow hck hz
          go_wp2_with fail
          go_roundg gm
          case measure => omega
          case rel => exact ⟨k + 1, by omega, by simp, HSP2.out.setB HROW.out, ((Chg.of_below (M := NoM) HBX2.out).setCell (p := ⟨b, off + k, none⟩) (.inl hB) _).below (fun _ _ h => h)⟩
        · obtain rfl : k = dl := by omega
          have hdk : decide ((k : Int) < (k : Int)) = false := decide_eq_false (by omega)
          clear HTB
          go_wp2_with fail
          clear c7 c6
          go_loopg [8] al (fun g3 u8 wx => ∃ j : Nat, j + g3 = al ∧ u8 = .int .i64 (j : Int) ∧ Spoil w.heap.size wx (.slice (some ⟨g, 0, none⟩) n cap) l ∧ Below w.heap.size w wx)
          case atStart => exact ⟨0, by omega, rfl, HSP2.out, HBX2.out⟩
          case round =>
            obtain ⟨j, hjg, rfl, hsp, hbx⟩ := hrel
            have HSP3 := Keep.keep hsp; have HBX3 := Keep.keep hbx
            obtain ⟨c7, c6⟩ := HC.out _ hsp
            clear hsp hbx HSP2 HBX2
            by_cases hj : j < al
            · obtain ⟨gm, rfl⟩ : ∃ gm, gk = gm + 1 := ⟨gk - 1, by omega⟩
              have hdj : decide ((j : Int) < (al : Int)) = true := decide_eq_true (by omega)
              obtain ⟨b, off, rfl⟩ : ∃ b off, aa = some ⟨b, off, none⟩ := by
                rcases G3.out with h | h
                · omega
                · exact h
              obtain ⟨hB, c, hrow, hck⟩ := HTA.out _ HSP3.out b off _ _ rfl
              obtain ⟨z, hz⟩ := hck j hj
              have cz := hrow.cell hz
              have fz := hrow.frozen (off + j * 2)
              have HROW := Keep.keep hrow
              clear hrow hck hz
              go_wp2_with fail
              go_roundg gm
              case measure => omega
              case rel => exact ⟨j + 1, by omega, by simp, HSP3.out.setA HROW.out, ((Chg.of_below (M := NoM) HBX3.out).setCell (p := ⟨b, off + j * 2, none⟩) (.inl hB) _).below (fun _ _ h => h)⟩
            · obtain rfl : j = al := by omega
              have hdj : decide ((j : Int) < (j : Int)) = false := decide_eq_false (by omega)
              clear HTA HC
              go_wp2_with fail
              go_roundg gn
              case measure => omega
              case rel => exact ⟨i + 1, by omega, by simp, HSP3.out, HBX3.out⟩
    · obtain rfl : i = n := by omega
      have hd : decide ((i : Int) < (i : Int)) = false := decide_eq_false (by omega)
      clear HSP HSH HOFF
      go_upto_region 15 with fail
      refine wp_region_spc [76, 77, 78, 79, 80, 81, 82, 4] (Below wr.heap.size wr) (lkT T R vr L) (by kernel_rfl) rfl (by decide) (by show ∀ d ∈ _, d < 83; decide) (by kernel_rfl) (Below.refl _ _).drew (fun i v wx wy h _ hb => lkT_stays i v wx wy h hb) ?_ ?_
      · intro q hq a1 w7 hF hC hT
        have b0 : a1.eval (.tmp 0) = .pointer (some ⟨T, 0, none⟩) := (hF.same 0 (by decide)).trans rfl
        have b1 : a1.eval (.tmp 1) = .pointer (some ⟨R, 0, none⟩) := (hF.same 1 (by decide)).trans rfl
        have hkr : Below w7.heap.size w7 w7 := Below.refl _ _
        have hbw := HBX.out.trans (hC.mono HBX.out.size)
        have hrf := HRN.out w7 hbw
        have hq' : q < 8 := hq
        rcases (by omega : q = 0 ∨ q = 1 ∨ q = 2 ∨ q = 3 ∨ q = 4 ∨ q = 5 ∨ q = 6 ∨ q = 7) with rfl | rfl | rfl | rfl | rfl | rfl | rfl | rfl
        · exact spc_val (d := 76) rfl (wanted_none rfl) (by simp [execOp, b0]) hC hkr rfl
        · have hx : a1.eval (.tmp 76) = .pointer (some ⟨T, 0, none⟩) := hT 0 (by kernel_rfl)
          refine spc_call (d := 77) (vs := #[.pointer (some ⟨T, 0, none⟩)]) rfl (wanted_none rfl) (Go.Proofs.enters_of Tryz.func16 (by kernel_rfl) rfl) (by simp [hx]) ?_
          refine (HAO.out w7 hbw).mono ?_
          rintro e wz ⟨v, l, rfl, h1, h2, h3⟩
          exact ⟨_, rfl, hC.trans (h3.mono hC.size), h3, l, h1, h2.mbs.mono (fun b hb => hb.2) (fun b hb => hb.2)⟩
        · exact spc_val (d := 78) rfl (wanted_none rfl) (by simp [execOp, b1]) hC hkr rfl
        · have hx : a1.eval (.tmp 78) = .pointer (some ⟨R, 0, none⟩) := hT 2 (by kernel_rfl)
          exact spc_val (d := 79) rfl (wanted_none rfl) (run_nilCk hx) hC hkr rfl
        · have hx : a1.eval (.tmp 79) = .pointer (some ⟨R, 0, none⟩) := hT 3 (by kernel_rfl)
          exact spc_val (d := 80) rfl (wanted_none rfl) (run_fieldAddr (m := 0) Tryz.underlying80 rfl (by kernel_rfl) hx) hC hkr rfl
        · have hx : a1.eval (.tmp 80) = .pointer (some ⟨R, 0, none⟩) := hT 4 (by kernel_rfl)
          exact spc_val (d := 81) rfl (wanted_none rfl) (run_loadCell (run_isAgg_plain Tryz.underlying33 rfl) (hrf.row.cell (i := 0) rfl) hx) hC hkr rfl
        · obtain ⟨l1, hl1, hm1⟩ : ∃ l : List Mv, l.map (·.1) = L ∧ Mbs w7 (· < w7.heap.size) (· < w7.heap.size) (a1.eval (.tmp 77)) l := hT 1 (by kernel_rfl)
          have hx : a1.eval (.tmp 81) = vr := hT 5 (by kernel_rfl)
          refine spc_call (d := 82) (vs := #[a1.eval (.tmp 77), vr]) rfl (wanted_none rfl) (Go.Proofs.enters_of Tryz.func12 (by kernel_rfl) rfl) (by simp [hx]) ?_
          refine (alike_any _ _ l1 lr w7 hm1 (HMB.out w7 hbw)).mono ?_
          rintro e wz ⟨⟨r, rfl, hr⟩, hb⟩
          obtain rfl : r = true := hr.2 (by rw [hl1, HE.out])
          exact ⟨_, rfl, hC.trans (hb.mono hC.size), hb, rfl⟩
        · have hx : a1.eval (.tmp 82) = .bool true := hT 6 (by kernel_rfl)
          exact spc_val (d := 4) rfl (wanted_none rfl) (by simp [execOp, hx]) hC hkr rfl
      · intro a1 w7 ha hC hT
        have t4 : slot a1 4 = .bool true := hT 7 (by show 7 < 8; decide)
        simp only [List.foldl_cons, List.foldl_nil, t4] at ha
        have H7 := Keep.keep (HBX.out.trans (hC.mono HBX.out.size))
        clear hT t4 hC
        generalize slot a1 76 = y76 at *
        generalize slot a1 77 = y77 at *
        generalize slot a1 78 = y78 at *
        generalize slot a1 79 = y79 at *
        generalize slot a1 80 = y80 at *
        generalize slot a1 81 = y81 at *
        generalize slot a1 82 = y82 at *
        subst ha
        simp only [Act.put, List.setIfInBounds_toArray, List.set_cons_succ, List.set_cons_zero]
        go_wp2_with fail
        go_ret
        exact ⟨rfl, H7.out⟩
end Go.Proofs.YtphgmkhbhboklaaGreatDoor
/- A SLICE OF ACTS in memory: a bool and a Member each. -/
namespace Go.Proofs.YtphgmkhbhboklaaGreatDoor
open Go.RowKit
abbrev Av := Bool × Mv
def acell (x : Av) : List Value := .bool x.1 :: (mcell x.2).toList
def acells (l : List Av) : List Value := l.flatMap acell
theorem acells_cons (x : Av) (l : List Av) : acells (x :: l) = acell x ++ acells l := rfl
theorem acell_len (x : Av) : (acell x).length = 10 := rfl
theorem acells_length : ∀ l : List Av, (acells l).length = l.length * 10
  | [] => rfl
  | x :: l => by rw [acells_cons, List.length_append, acells_length l, acell_len, List.length_cons]; omega
theorem acells_get : ∀ (l : List Av) (k i : Nat) (hk : k < l.length), i < 10 → (acells l)[k * 10 + i]? = (acell l[k])[i]?
  | x :: l, 0, i, _, hi => by
    rw [acells_cons, Nat.zero_mul, Nat.zero_add, List.getElem?_append_left (by rw [acell_len]; exact hi)]
    rfl
  | x :: l, k + 1, i, h, hi => by
    have := acells_get l k i (by simpa using h) hi
    rw [acells_cons, List.getElem?_append_right (by rw [acell_len]; omega), acell_len]
    have e : (k + 1) * 10 + i - 10 = k * 10 + i := by omega
    rw [e, this]; rfl
/-- v, a []Act, reads as l -/
structure ActsR (w : World) (N N' : Nat → Prop) (v : Value) (l : List Av) : Prop where
  rd : RdV w N 10 v l.length (acells l)
  nd : ∀ x ∈ l, NdR w N' x.2.1.2 x.2.2.1 x.2.2.2
theorem ActsR.below {w w' : World} {B : Nat} {N N' : Nat → Prop} {v : Value} {l : List Av} (h : ActsR w N N' v l) (hb : Below B w w') (h1 : ∀ b, N b → b < B) (h2 : ∀ b, N' b → b < B) : ActsR w' N N' v l := ⟨h.rd.below hb h1, fun x hx => (h.nd x hx).below hb h2⟩
theorem ActsR.puts {w : World} {N N' : Nat → Prop} {l : List Av} {b off n cap : Nat} (h : ActsR w N N' (.slice (some ⟨b, off, none⟩) n cap) l) {k : Nat} (hk : k < l.length) : w.cell? ⟨b, off + k * 10, none⟩ = some (.bool l[k].1) :=
  h.rd.cell b off _ _ rfl _ _ (by have := acells_get l k 0 hk (by decide); rw [Nat.add_zero] at this; rw [this]; rfl)
/-- the Member of an act is read -/
theorem ActsR.load {w : World} {N N' : Nat → Prop} {l : List Av} {b off n cap : Nat} (h : ActsR w N N' (.slice (some ⟨b, off, none⟩) n cap) l) {k : Nat} (hk : k < l.length) : (Instr.loadAt 32 (.pointer (some ⟨b, off + k * 10 + 1, none⟩))).run Tryz.prog w = .ok (.agg (mcell l[k].2)) w := by
  have := run_loadAt_mid (P := Tryz.prog) w b (off + k * 10 + 1) 32 (mcell l[k].2).toList _ (fun j z hj => by
    have hlt := (List.getElem?_eq_some_iff.1 hj).1
    rw [mcell_len] at hlt
    have hg := acells_get l k (j + 1) hk (by omega)
    have e : (acell l[k])[j + 1]? = some z := by
      show (mcell l[k].2).toList[j]? = some z
      simpa using hj
    rw [e] at hg
    have hc := h.rd.cell b off _ _ rfl _ _ hg
    rw [show off + k * 10 + 1 + j = off + (k * 10 + (j + 1)) by omega]
    exact hc) Tryz.underlying32 rfl (by rw [mcell_len]; exact aggM.i)
  simpa using this
end Go.Proofs.YtphgmkhbhboklaaGreatDoor
/- portolanlaw18.Grown: a tree under calls. -/
namespace Go.Proofs.YtphgmkhbhboklaaGreatDoor
open Go.RowKit
def stepT (L : List Mb) (a : Bool × Mb) : List Mb := if a.1 then (putT L (cutM a.2)).2 else (removeT L (cutM a.2).1).2
def grownL (l : List (Bool × Mb)) : List Mb := (l.take 40).foldl stepT []
theorem newT_nil : newT [] = (0, some []) := rfl
theorem grownL_succ (l : List (Bool × Mb)) (k : Nat) (hk : k < l.length) : (l.take (k + 1)).foldl stepT [] = stepT ((l.take k).foldl stepT []) l[k] := by
  rw [List.take_succ_eq_append_getElem hk, List.foldl_append]; rfl
theorem put_len {L : List Mb} (h : SM.Srt L) (m : Mb) : (putT L m).2.length ≤ L.length + 1 := by
  unfold putT
  split
  · simp
  · split
    · simp
    · split
      · simp
      · have h2 : SM.Srt (if m.2.kind = 1 then L else clearT L m.1) := by split; exact h; exact h.filter _
        have h3 : (if m.2.kind = 1 then L else clearT L m.1).length ≤ L.length := by split; exact Nat.le_refl _; exact List.length_filter_le _ _
        have := fold_len [m] _ h2
        simp only [List.foldl_cons, List.foldl_nil, List.length_cons, List.length_nil] at this
        show (SM.put _ m).length ≤ _
        omega
theorem remove_len (L : List Mb) (p : Tx) : (removeT L p).2.length ≤ L.length := by
  unfold removeT
  split
  · simp
  · exact Nat.le_trans (List.length_filter_le _ _) (List.length_filter_le _ _)
/-- the kind is an int -/
def Kb (m : Mb) : Prop := -9223372036854775808 ≤ m.2.kind ∧ m.2.kind ≤ 9223372036854775807
theorem Kb.cut {m : Mb} (h : Kb m) : Sm (cutM m) := by
  refine ⟨?_, ?_, ?_, ?_, fun x hx => ?_, h⟩
  · exact Nat.le_trans (List.length_take_le _ _) (by omega)
  · exact Nat.le_trans (List.length_take_le _ _) (by omega)
  · exact Nat.le_trans (List.length_take_le _ _) (by omega)
  · show ((m.2.attrs.take 20).map cutA).length ≤ _
    rw [List.length_map]
    exact Nat.le_trans (List.length_take_le _ _) (by omega)
  · obtain ⟨y, hy, rfl⟩ := List.mem_map.1 (show x ∈ (m.2.attrs.take 20).map cutA from hx)
    exact ⟨Nat.le_trans (List.length_take_le _ _) (by omega), Nat.le_trans (List.length_take_le _ _) (by omega)⟩
set_option maxHeartbeats 2000000 in
set_option maxRecDepth 100000 in
theorem grown_any (B : Nat) (v : Value) (l : List Av) (w : World) (hT : Tabs B w) (hr : ActsR w (· < w.heap.size) (· < w.heap.size) v l) (hs : ∀ x ∈ l, Kb x.2.1) :
    Calls Tryz.prog 6 #[v] w fun e w' => ∃ T mb Bk f, e = .returned (.pointer (some ⟨T, 0, none⟩)) ∧ TreeIn w' T mb Bk f (grownL (l.map fun x => (x.1, x.2.1))) ∧ (w.heap.size ≤ T ∧ w.heap.size ≤ mb ∧ ∀ b, Bk b → Fresh w.heap.size w' b) ∧ Below w.heap.size w w' := by
  obtain ⟨a, cap, hv, hcap, hmx, h3⟩ := hr.rd.shape
  have HR := Keep.keep hr; have H3 := Keep.keep h3; have HT := Keep.keep hT; have HS := Keep.keep hs
  have HNEW := Keep.keep (new_tree (.slice none 0 0) [] B w hT ⟨RdV.ofNil, fun x hx => by simp at hx⟩ (fun x hx => by simp at hx) (by simp))
  unfold maxLen at hmx
  clear hr h3 hT hs
  subst hv
  go_enter Tryz.func6, Tryz.ntmps6
  go_wp2_with fail
  refine HNEW.out.mono ?_
  rintro e w1 ⟨⟨pv, rfl, hnew⟩, hb1⟩
  obtain ⟨T, mb, Bk, f, rfl, hti, hTw, hmw, hBk⟩ := hnew
  have HTI := Keep.keep hti; have HB1 := Keep.keep hb1; have HBK := Keep.keep hBk
  clear hti hb1 hBk HNEW
  go_wp2_with fail
  go_loopg [5] (min l.length 40) (fun g u5 wx => ∃ (k : Nat) (Bk : Nat → Prop) (f : Tx → Value × Value), k + g = min l.length 40 ∧ u5 = .int .i64 (k : Int) ∧ TreeIn wx T mb Bk f (((l.map fun x => (x.1, x.2.1)).take k).foldl stepT []) ∧ (((l.map fun x => (x.1, x.2.1)).take k).foldl stepT []).length ≤ k ∧ (∀ b, Bk b → Fresh w.heap.size wx b) ∧ Below w.heap.size w wx)
  case atStart => exact ⟨0, Bk, f, by omega, rfl, HTI.out, Nat.le_refl _, HBK.out, HB1.out⟩
  case round =>
    obtain ⟨k, Bk2, f2, hkg, rfl, hti, hlen, hbk, hb⟩ := hrel
    have HT2 := Keep.keep hti; have HBK2 := Keep.keep hbk; have HB2 := Keep.keep hb
    clear hti hbk hb HTI HB1 HBK
    cases gk with
    | zero =>
      have HF : Keep (((l.map fun x => (x.1, x.2.1)).take k).foldl stepT [] = grownL (l.map fun x => (x.1, x.2.1))) := ⟨by
        unfold grownL
        congr 1
        rw [List.take_eq_take_iff, List.length_map]; omega⟩
      rw [HF.out] at HT2
      by_cases hk : k < l.length
      · have hd1 : decide ((k : Int) < (l.length : Int)) = true := decide_eq_true (by omega)
        have hd2 : decide ((k : Int) < 40) = false := decide_eq_false (by omega)
        go_wp2_with fail
        go_ret
        exact ⟨T, mb, Bk2, f2, rfl, HT2.out, ⟨hTw, hmw, HBK2.out⟩, HB2.out⟩
      · have hd1 : decide ((k : Int) < (l.length : Int)) = false := decide_eq_false (by omega)
        go_wp2_with fail
        go_ret
        exact ⟨T, mb, Bk2, f2, rfl, HT2.out, ⟨hTw, hmw, HBK2.out⟩, HB2.out⟩
    | succ g =>
      have hk : k < l.length := by omega
      have hd1 : decide ((k : Int) < (l.length : Int)) = true := decide_eq_true (by omega)
      have hd2 : decide ((k : Int) < 40) = true := decide_eq_true (by omega)
      obtain ⟨b, off, rfl, hbl⟩ : ∃ b off, a = some ⟨b, off, none⟩ ∧ b < w.heap.size := by
        rcases H3.out with h | ⟨b, off, h, hb⟩
        · omega
        · exact ⟨b, off, h, hb⟩
      have HAX : Keep (∀ wx, Below w.heap.size w wx → ActsR wx (· < w.heap.size) (· < w.heap.size) (.slice (some ⟨b, off, none⟩) l.length cap) l) := ⟨fun wx h => HR.out.below h (fun b hb => hb) (fun b hb => hb)⟩
      have hax := HAX.out wr HB2.out
      have hld := hax.load hk
      have hsm := HS.out _ (List.getElem_mem hk)
      have hndx := hax.nd _ (List.getElem_mem hk)
      have HPU : Keep (∀ wx, Below w.heap.size w wx → wx.cell? ⟨b, off + k * 10, none⟩ = some (.bool l[k].1)) := ⟨fun wx h => (HAX.out wx h).puts hk⟩
      have HTK : Keep ((((l.map fun x => (x.1, x.2.1)).take (k + 1)).foldl stepT []) = stepT (((l.map fun x => (x.1, x.2.1)).take k).foldl stepT []) (l[k].1, l[k].2.1)) := ⟨by
        rw [grownL_succ _ k (by simpa using hk)]; simp⟩
      clear hax
      generalize l[k] = x at *
      obtain ⟨pu, ⟨⟨xp, ⟨kind, mode, uid, gid, time, attrs, data, link⟩⟩, av, dv⟩⟩ := x
      obtain ⟨aa, la, ca, ad, ld, cd, e1, e2⟩ := hndx.shape
      dsimp only at hndx e1 e2 hsm
      subst e1 e2
      have HX := Keep.keep hndx; have HSM := Keep.keep hsm
      unfold mcell mbC strV at hld
      dsimp only at hld
      clear hndx hsm
      have hsW := HB2.out.size
      have HMB : Keep (Mbs (wr.alloc (.cells #[.string ⟨xp.toArray⟩, .int .i64 kind, .int .u32 mode, .int .u32 uid, .int .u32 gid, .int .i64 time, .slice aa la ca, .slice ad ld cd, .string ⟨link.toArray⟩] 32)) (· < (wr.alloc (.cells #[.string ⟨xp.toArray⟩, .int .i64 kind, .int .u32 mode, .int .u32 uid, .int .u32 gid, .int .i64 time, .slice aa la ca, .slice ad ld cd, .string ⟨link.toArray⟩] 32)).heap.size) (· < (wr.alloc (.cells #[.string ⟨xp.toArray⟩, .int .i64 kind, .int .u32 mode, .int .u32 uid, .int .u32 gid, .int .i64 time, .slice aa la ca, .slice ad ld cd, .string ⟨link.toArray⟩] 32)).heap.size) (.slice (some ⟨wr.heap.size, 0, none⟩) 1 1) [((xp, ⟨kind, mode, uid, gid, time, attrs, data, link⟩), .slice aa la ca, .slice ad ld cd)]) :=
        ⟨⟨RdV.new 32 [.string ⟨xp.toArray⟩, .int .i64 kind, .int .u32 mode, .int .u32 uid, .int .u32 gid, .int .i64 time, .slice aa la ca, .slice ad ld cd, .string ⟨link.toArray⟩] 9 1 _ rfl rfl (by unfold maxLen; omega) (by simp), fun x hx => by
          obtain rfl : x = ((xp, ⟨kind, mode, uid, gid, time, attrs, data, link⟩), .slice aa la ca, .slice ad ld cd) := by simpa using hx
          exact (HX.out.below ((Below.refl _ wr).alloc (Nat.le_refl _) _) (fun b hb => by omega)).mono (fun b hb => by simp; omega)⟩⟩
      go_wp2_with ((with_reducible refine arm_loadM hld ?_ ?_); (focus rfl); simp only [Act.put, List.setIfInBounds_toArray, List.set_cons_succ, List.set_cons_zero])
      refine (few18_any _ _ _ HMB.out).mono ?_
      rintro e w2 ⟨v2, rfl, ⟨l2, e2, ho2, hn2⟩, hb2⟩
      have e3 : l2.map (·.1) = [cutM (xp, ⟨kind, mode, uid, gid, time, attrs, data, link⟩)] := e2
      obtain ⟨y, rfl, hy⟩ := one_of_map e3
      have HB3 := Keep.keep ((HB2.out.alloc hsW _).trans (hb2.mono (by simp; omega)))
      have HT3 : Keep (TreeIn w2 T mb Bk2 f2 (((l.map fun x => (x.1, x.2.1)).take k).foldl stepT [])) := ⟨HT2.out.loc (fun b hb => by
        have hlt : b < wr.heap.size := by
          rcases hb with rfl | rfl | h
          · exact HT2.out.row.lt
          · exact HT2.out.map.lt
          · exact (HBK2.out b h).2
        rw [hb2.block b (by simp; omega), Below.heap_alloc wr _ b hlt])⟩
      obtain ⟨g2, c2, rfl⟩ : ∃ g2 c2, v2 = .slice (some ⟨g2, 0, none⟩) 1 c2 := by
        rcases ho2.2 with ⟨_, h⟩ | ⟨g, cap, cur, h, _⟩
        · simp at h
        · exact ⟨g, cap, h⟩
      have hny := hn2 y (by simp)
      have hm2 : Mbs w2 _ _ (.slice (some ⟨g2, 0, none⟩) 1 c2) [y] := ⟨ownsV_reads ho2, hn2⟩
      have hld2 := hm2.load (k := 0) (by simp)
      rw [show 0 + 0 * 9 = 0 from rfl] at hld2
      obtain ⟨⟨yp, ⟨k2, m2, u2, gi2, t2, at2, da2, li2⟩⟩, av2, dv2⟩ := y
      obtain ⟨a8, l8, c8, a9, l9, c9, e8, e9⟩ := hny.shape
      dsimp only at hny e8 e9 hy
      subst e8 e9
      have HY := Keep.keep hy; have HNY := Keep.keep hny
      simp only [List.getElem_cons_zero] at hld2
      unfold mcell mbC strV at hld2
      dsimp only at hld2
      have hle2 : w.heap.size ≤ wr.heap.size := hsW
      have hs2 : wr.heap.size + 1 ≤ w2.heap.size := by have := hb2.size; simpa using this
      have hmb : mb < wr.heap.size := HT2.out.map.lt
      have hsr := HT2.out.srt
      clear ho2 hn2 hb2 e2 e3 hy hny hm2 hld HMB HB2 HT2
      go_upto_region 8 with ((with_reducible refine arm_loadM hld2 ?_ ?_); (focus rfl); simp only [Act.put, List.setIfInBounds_toArray, List.set_cons_succ, List.set_cons_zero])
      refine wp_world (R := fun w3 => (Row w3 w2.heap.size 32 #[.string ⟨yp.toArray⟩, .int .i64 k2, .int .u32 m2, .int .u32 u2, .int .u32 gi2, .int .i64 t2, .slice a8 l8 c8, .slice a9 l9 c9, .string ⟨li2.toArray⟩] ∧ TreeIn w3 T mb Bk2 f2 (((l.map fun x => (x.1, x.2.1)).take k).foldl stepT [])) ∧ Below w.heap.size w w3 ∧ w2.heap.size < w3.heap.size ∧ NdR w3 (fun b => wr.heap.size < b ∧ b < w2.heap.size) ⟨k2, m2, u2, gi2, t2, at2, da2, li2⟩ (.slice a8 l8 c8) (.slice a9 l9 c9)) ⟨⟨Row.new _ _ _, ?_⟩, HB3.out.alloc (by omega) _, by simp, ?_⟩ ?_
      · exact HT3.out.loc (fun b hb => Below.heap_alloc w2 _ b (by
          rcases hb with rfl | rfl | h
          · exact HT3.out.row.lt
          · exact HT3.out.map.lt
          · have := (HBK2.out b h).2; omega))
      · exact (HNY.out.below ((Below.refl _ w2).alloc (Nat.le_refl _) _) (fun b hb => hb.1.2)).mono (fun b hb => ⟨by have := hb.1.1; simp at this; omega, hb.1.2⟩)
      intro w3 HW
      have HRW := Keep.keep HW.out.1.1
      have HSZ : Keep ((#[.string ⟨yp.toArray⟩, .int .i64 k2, .int .u32 m2, .int .u32 u2, .int .u32 gi2, .int .i64 t2, .slice a8 l8 c8, .slice a9 l9 c9, .string ⟨li2.toArray⟩] : Array Value).size = 9) := ⟨rfl⟩
      have cpu := HPU.out w3 HW.out.2.1
      have cy := HW.out.1.1.cell (i := 0) rfl
      clear hld2 HT3 HB3 HNY
      cases pu with
      | true =>
        go_wp2_with ((with_reducible refine arm_loadRow HRW.out aggM HSZ.out ?_ ?_); (focus rfl); simp only [Act.put, List.setIfInBounds_toArray, List.set_cons_succ, List.set_cons_zero])
        have h3s := HW.out.2.2.1
        refine (put_tree T mb Bk2 f2 _ B w3 HW.out.1.2 (fun b hb => by have := (HBK2.out b hb).2; omega) (by omega) (HT.out.on (HW.out.2.1.mono HT.out.b)) (yp, ⟨k2, m2, u2, gi2, t2, at2, da2, li2⟩) _ _ (by rw [HY.out]; exact HSM.out.cut) (HW.out.2.2.2.mono (fun b hb => ⟨by omega, by omega⟩))).mono ?_
        rintro e w4 ⟨rfl, ⟨Bk3, f3, hti3, hbk3⟩, hch⟩
        have hpl := put_len hsr (yp, ⟨k2, m2, u2, gi2, t2, at2, da2, li2⟩)
        rw [HY.out] at hti3 hpl
        have HT4 := Keep.keep hti3; have HBK4 := Keep.keep hbk3; have HPL := Keep.keep hpl
        have HB4 := Keep.keep (HW.out.2.1.trans ((hch.lower (by omega)).below (fun j hj e => by omega)))
        have hs4 := hch.size
        clear hti3 hbk3 hch hpl cpu cy
        go_wp2_with fail
        go_roundg g
        case measure => omega
        case rel =>
          refine ⟨k + 1, Bk3, f3, by omega, by simp, by rw [HTK.out]; exact HT4.out, by rw [HTK.out]; exact Nat.le_trans HPL.out (by omega), fun b hb => ?_, HB4.out⟩
          rcases HBK4.out b hb with h | h
          · exact ⟨(HBK2.out b h).1, by have := (HBK2.out b h).2; omega⟩
          · exact ⟨by have := h.1; omega, h.2⟩
      | false =>
        go_wp2_with fail
        have h3s := HW.out.2.2.1
        have hyl : yp.length ≤ 1000000 := by
          have h1 := HSM.out.cut.p
          rw [← HY.out] at h1
          exact Nat.le_trans h1 (by omega)
        refine (remove_tree T mb Bk2 f2 _ w3 HW.out.1.2 (fun b hb => by have := (HBK2.out b hb).2; omega) yp hyl).mono ?_
        rintro e w4 ⟨rfl, hti3, hch⟩
        have hpl := remove_len (((l.map fun x => (x.1, x.2.1)).take k).foldl stepT []) yp
        have hyp : yp = (cutM (xp, ⟨kind, mode, uid, gid, time, attrs, data, link⟩)).1 := by rw [← HY.out]
        rw [hyp] at hti3 hpl
        have HT4 := Keep.keep hti3; have HPL := Keep.keep hpl
        have HB4 := Keep.keep (HW.out.2.1.trans ((hch.lower (by omega)).below (fun j hj e => by omega)))
        have hs4 := hch.size
        clear hti3 hch hpl cpu cy hyp
        go_wp2_with fail
        go_roundg g
        case measure => omega
        case rel => exact ⟨k + 1, Bk2, f2, by omega, by simp, by rw [HTK.out]; exact HT4.out, by rw [HTK.out]; exact Nat.le_trans HPL.out (by omega), fun b hb => ⟨(HBK2.out b hb).1, by have := (HBK2.out b hb).2; omega⟩, HB4.out⟩
end Go.Proofs.YtphgmkhbhboklaaGreatDoor
/- TREETELLS: a tree and the document's, side by side; what each call does to both. -/
namespace Go.Proofs.YtphgmkhbhboklaaGreatDoor
open Go.RowKit
/-- a tree at T holds L1, the document's at R holds L2; the blocks of X are neither's that change -/
structure TWs (w wx : World) (T R : Nat) (L1 L2 : List Mb) (X : Nat → Prop) : Prop where
  ex : ∃ (mb : Nat) (Bk N : Nat → Prop) (f : Tx → Value × Value) (vr : Value) (lr : List Mv), TreeIn wx T mb Bk f L1 ∧ RefIn wx R N vr lr ∧ lr.map (·.1) = L2 ∧ (w.heap.size ≤ mb ∧ w.heap.size ≤ R) ∧ (∀ b, Bk b → b < wx.heap.size) ∧ (∀ b, N b → b < wx.heap.size) ∧ (R ≠ T ∧ R ≠ mb ∧ ¬ Bk R ∧ ¬ N mb) ∧ R < wx.heap.size ∧ ∀ b, X b → b < wx.heap.size ∧ b ≠ mb ∧ b ≠ R
  bel : Below w.heap.size w wx
theorem TWs.on {w wx wy : World} {T R : Nat} {L1 L2 : List Mb} {X : Nat → Prop} (h : TWs w wx T R L1 L2 X) (hb : Below wx.heap.size wx wy) : TWs w wy T R L1 L2 X := by
  obtain ⟨⟨mb, Bk, N, f, vr, lr, h1, h2, h3, h4, h5, h6, h7, h8, h9⟩, hbel⟩ := h
  have hs := hb.size
  refine ⟨⟨mb, Bk, N, f, vr, lr, h1.loc (fun b hb' => hb.block b ?_), h2.below hb h8 h6, h3, h4, fun b hb' => by have := h5 b hb'; omega, fun b hb' => by have := h6 b hb'; omega, h7, by omega, fun b hb' => by have := h9 b hb'; exact ⟨by omega, this.2⟩⟩, hbel.trans (hb.mono hbel.size)⟩
  rcases hb' with rfl | rfl | h
  · exact h1.row.lt
  · exact h1.map.lt
  · exact h5 b h
theorem TWs.sub {w wx : World} {T R : Nat} {L1 L2 : List Mb} {X X' : Nat → Prop} (h : TWs w wx T R L1 L2 X) (hX : ∀ b, X' b → X b) : TWs w wx T R L1 L2 X' := by
  obtain ⟨⟨mb, Bk, N, f, vr, lr, h1, h2, h3, h4, h5, h6, h7, h8, h9⟩, hbel⟩ := h
  exact ⟨⟨mb, Bk, N, f, vr, lr, h1, h2, h3, h4, h5, h6, h7, h8, fun b hb => h9 b (hX b hb)⟩, hbel⟩
/-- new blocks are neither's -/
theorem TWs.grow {w wx wy : World} {T R : Nat} {L1 L2 : List Mb} {X : Nat → Prop} (h : TWs w wx T R L1 L2 X) (hb : Below wx.heap.size wx wy) : TWs w wy T R L1 L2 (fun b => X b ∨ Fresh wx.heap.size wy b) := by
  have hh := h.on hb
  obtain ⟨⟨mb, Bk, N, f, vr, lr, h1, h2, h3, h4, h5, h6, h7, h8, h9⟩, hbel⟩ := h
  obtain ⟨⟨mb', Bk', N', f', vr', lr', -⟩, hbel'⟩ := id hh
  have hs := hb.size
  have hml := h1.map.lt
  refine ⟨⟨mb, Bk, N, f, vr, lr, h1.loc (fun b hb' => hb.block b ?_), h2.below hb h8 h6, h3, h4, fun b hb' => by have := h5 b hb'; omega, fun b hb' => by have := h6 b hb'; omega, h7, by omega, fun b hb' => ?_⟩, hbel'⟩
  · rcases hb' with rfl | rfl | h
    · exact h1.row.lt
    · exact h1.map.lt
    · exact h5 b h
  · rcases hb' with hb' | hb'
    · have := h9 b hb'; exact ⟨by omega, this.2⟩
    · have := hb'.1; exact ⟨hb'.2, by omega, by omega⟩
/-- the tree's own part turns -/
theorem TWs.tree {w wx wy : World} {T R mb : Nat} {L1 L2 L1' : List Mb} {X Bk N Bk' : Nat → Prop} {f f' : Tx → Value × Value} {vr : Value} {lr : List Mv} (hbel : Below w.heap.size w wx) (_h1 : TreeIn wx T mb Bk f L1) (h2 : RefIn wx R N vr lr) (h3 : lr.map (·.1) = L2) (h4 : w.heap.size ≤ mb ∧ w.heap.size ≤ R) (h5 : ∀ b, Bk b → b < wx.heap.size) (h6 : ∀ b, N b → b < wx.heap.size) (h7 : R ≠ T ∧ R ≠ mb ∧ ¬ Bk R ∧ ¬ N mb) (h8 : R < wx.heap.size) (h9 : ∀ b, X b → b < wx.heap.size ∧ b ≠ mb ∧ b ≠ R)
    (ht : TreeIn wy T mb Bk' f' L1') (hB : ∀ b, Bk' b → Bk b ∨ Fresh wx.heap.size wy b) (hc : Chg (fun j => j = mb) wx.heap.size wx wy) : TWs w wy T R L1' L2 X ∧ (∀ b, X b → wy.heap[b]? = wx.heap[b]?) ∧ wx.heap.size ≤ wy.heap.size := by
  have hs := hc.size
  refine ⟨⟨⟨mb, Bk', N, f', vr, lr, ht, h2.loc (fun b hb => ?_), h3, h4, fun b hb => ?_, fun b hb => by have := h6 b hb; omega, ⟨h7.1, h7.2.1, fun e => ?_, h7.2.2.2⟩, by omega, fun b hb => by have := h9 b hb; exact ⟨by omega, this.2⟩⟩, hbel.trans ((hc.lower hbel.size).below (fun k hk e => by omega))⟩, fun b hb => ?_, hs⟩
  · rcases hb with rfl | hb
    · exact hc.block _ h8 h7.2.1
    · exact hc.block b (h6 b hb) (fun e => h7.2.2.2 (e ▸ hb))
  · rcases hB b hb with h | h
    · have := h5 b h; omega
    · exact h.2
  · rcases hB R e with h | h
    · exact h7.2.2.1 h
    · have := h.1; omega
  · have := h9 b hb; exact hc.block b this.1 this.2.1
/-- the document's part turns -/
theorem TWs.ref {w wx wy : World} {T R mb : Nat} {L1 L2' : List Mb} {X Bk N N1 : Nat → Prop} {f : Tx → Value × Value} {vr : Value} {lr : List Mv} (hbel : Below w.heap.size w wx) (h1 : TreeIn wx T mb Bk f L1) (_h2 : RefIn wx R N vr lr) (h4 : w.heap.size ≤ mb ∧ w.heap.size ≤ R) (h5 : ∀ b, Bk b → b < wx.heap.size) (h6 : ∀ b, N1 b → b < wx.heap.size) (h7 : R ≠ T ∧ R ≠ mb ∧ ¬ Bk R ∧ ¬ N1 mb) (h8 : R < wx.heap.size) (h9 : ∀ b, X b → b < wx.heap.size ∧ b ≠ mb ∧ b ≠ R)
    (ht : RefTo wx wy R N1 L2') (hc : Chg (fun j => j = R) wx.heap.size wx wy) : TWs w wy T R L1 L2' X ∧ (∀ b, X b → wy.heap[b]? = wx.heap[b]?) ∧ wx.heap.size ≤ wy.heap.size := by
  have hs := hc.size
  have hml := h1.map.lt
  obtain ⟨v', l', hr, he⟩ := ht
  refine ⟨⟨⟨mb, Bk, _, f, v', l', h1.loc (fun b hb => ?_), hr, he, h4, fun b hb => by have := h5 b hb; omega, fun b hb => ?_, ⟨h7.1, h7.2.1, h7.2.2.1, fun e => ?_⟩, by omega, fun b hb => by have := h9 b hb; exact ⟨by omega, this.2⟩⟩, hbel.trans ((hc.lower hbel.size).below (fun k hk e => by omega))⟩, fun b hb => ?_, hs⟩
  · rcases hb with rfl | rfl | hb
    · exact hc.block _ h1.row.lt (fun e => h7.1 e.symm)
    · exact hc.block _ hml (fun e => h7.2.1 e.symm)
    · exact hc.block b (h5 b hb) (fun e => h7.2.2.1 (e ▸ hb))
  · rcases hb with h | h
    · have := h6 b h; omega
    · exact h.2
  · rcases e with h | h
    · exact h7.2.2.2 h
    · have := h.1; omega
  · have := h9 b hb; exact hc.block b this.1 this.2.2
theorem tput_tw {w wx : World} {T R : Nat} {L1 L2 : List Mb} {X : Nat → Prop} (h : TWs w wx T R L1 L2 X) (B : Nat) (hT : Tabs B w) (hL : L1.length ≤ 1000) (m : Mb) (av dv : Value) (hs : Sm m) (hm : NdR wx X m.2 av dv) :
    Calls Tryz.prog 9 #[.pointer (some ⟨T, 0, none⟩), .agg (mbC m av dv)] wx fun e w' => e = .returned (.int .i64 (putT L1 m).1) ∧ TWs w w' T R (putT L1 m).2 L2 X ∧ (∀ b, X b → w'.heap[b]? = wx.heap[b]?) ∧ wx.heap.size ≤ w'.heap.size := by
  obtain ⟨⟨mb, Bk, N, f, vr, lr, h1, h2, h3, h4, h5, h6, h7, h8, h9⟩, hbel⟩ := h
  refine (put_tree T mb Bk f L1 B wx h1 h5 (by omega) (hT.on (hbel.mono hT.b)) m av dv hs (hm.mono (fun b hb => ⟨(h9 b hb).1, (h9 b hb).2.1⟩))).mono ?_
  rintro e w' ⟨rfl, ⟨Bk', f', ht, hB⟩, hc⟩
  exact ⟨rfl, TWs.tree hbel h1 h2 h3 h4 h5 h6 h7 h8 h9 ht hB hc⟩
theorem tremove_tw {w wx : World} {T R : Nat} {L1 L2 : List Mb} {X : Nat → Prop} (h : TWs w wx T R L1 L2 X) (p : Tx) (hp : p.length ≤ 1000000) :
    Calls Tryz.prog 13 #[.pointer (some ⟨T, 0, none⟩), .string ⟨p.toArray⟩] wx fun e w' => e = .returned (.int .i64 (removeT L1 p).1) ∧ TWs w w' T R (removeT L1 p).2 L2 X ∧ (∀ b, X b → w'.heap[b]? = wx.heap[b]?) ∧ wx.heap.size ≤ w'.heap.size := by
  obtain ⟨⟨mb, Bk, N, f, vr, lr, h1, h2, h3, h4, h5, h6, h7, h8, h9⟩, hbel⟩ := h
  refine (remove_tree T mb Bk f L1 wx h1 h5 p hp).mono ?_
  rintro e w' ⟨rfl, ht, hc⟩
  exact ⟨rfl, TWs.tree hbel h1 h2 h3 h4 h5 h6 h7 h8 h9 ht (fun b hb => .inl hb) hc⟩
theorem rput_tw {w wx : World} {T R : Nat} {L1 L2 : List Mb} {X : Nat → Prop} (h : TWs w wx T R L1 L2 X) (hL : L2.length ≤ 1000) (m : Mb) (av dv : Value) (hs : Sm m) (hm : NdR wx X m.2 av dv) :
    Calls Tryz.prog 23 #[.pointer (some ⟨R, 0, none⟩), .agg (mbC m av dv)] wx fun e w' => e = .returned (.int .i64 (putT L2 m).1) ∧ TWs w w' T R L1 (putT L2 m).2 X ∧ (∀ b, X b → w'.heap[b]? = wx.heap[b]?) ∧ wx.heap.size ≤ w'.heap.size := by
  obtain ⟨⟨mb, Bk, N, f, vr, lr, h1, h2, h3, h4, h5, h6, h7, h8, h9⟩, hbel⟩ := h
  have h2' : RefIn wx R (fun b => N b ∨ X b) vr lr := h2.mono (fun b hb => .inl hb) (fun e => by
    rcases e with e | e
    · exact h2.ne e
    · exact (h9 R e).2.2 rfl)
  have h6' : ∀ b, N b ∨ X b → b < wx.heap.size := fun b hb => hb.elim (h6 b) (fun h => (h9 b h).1)
  have := rput_any R _ vr lr wx h2' h8 h6' m av dv hs (hm.mono (fun b hb => .inr hb)) (by rw [← h3, List.length_map] at hL; omega)
  rw [h3] at this
  refine this.mono ?_
  rintro e w' ⟨rfl, ht, hc⟩
  exact ⟨rfl, TWs.ref hbel h1 h2' h4 h5 h6' ⟨h7.1, h7.2.1, h7.2.2.1, fun e => by
    rcases e with e | e
    · exact h7.2.2.2 e
    · exact (h9 mb e).2.1 rfl⟩ h8 h9 ht hc⟩
theorem rremove_tw {w wx : World} {T R : Nat} {L1 L2 : List Mb} {X : Nat → Prop} (h : TWs w wx T R L1 L2 X) (hL : L2.length ≤ 1000) (p : Tx) (hp : p.length ≤ 1000000) :
    Calls Tryz.prog 24 #[.pointer (some ⟨R, 0, none⟩), .string ⟨p.toArray⟩] wx fun e w' => e = .returned (.int .i64 (removeT L2 p).1) ∧ TWs w w' T R L1 (removeT L2 p).2 X ∧ (∀ b, X b → w'.heap[b]? = wx.heap[b]?) ∧ wx.heap.size ≤ w'.heap.size := by
  obtain ⟨⟨mb, Bk, N, f, vr, lr, h1, h2, h3, h4, h5, h6, h7, h8, h9⟩, hbel⟩ := h
  have := rremove_any R N vr lr wx h2 h8 h6 p hp (by rw [← h3, List.length_map] at hL; omega)
  rw [h3] at this
  refine this.mono ?_
  rintro e w' ⟨rfl, ht, hc⟩
  exact ⟨rfl, TWs.ref hbel h1 h2 h4 h5 h6 h7 h8 h9 ht hc⟩
theorem like_tw {w wx : World} {T R : Nat} {L : List Mb} {X : Nat → Prop} (h : TWs w wx T R L L X) (hL : L.length ≤ 1000) :
    Calls Tryz.prog 25 #[.pointer (some ⟨T, 0, none⟩), .pointer (some ⟨R, 0, none⟩)] wx fun e w' => e = .returned (.bool true) ∧ Below wx.heap.size wx w' := by
  obtain ⟨⟨mb, Bk, N, f, vr, lr, h1, h2, h3, h4, h5, h6, h7, h8, h9⟩, hbel⟩ := h
  exact like_any T mb Bk f L R N vr lr wx h1 h5 h2 h8 h6 h3 (by omega)
theorem asked_tw {w wx : World} {T R : Nat} {L : List Mb} {X : Nat → Prop} (h : TWs w wx T R L L X) (hL : L.length ≤ 1000) (p : Tx) (hp : p.length ≤ 400000) :
    Calls Tryz.prog 26 #[.pointer (some ⟨T, 0, none⟩), .pointer (some ⟨R, 0, none⟩), .string ⟨p.toArray⟩] wx fun e w' => e = .returned (.bool true) ∧ Below wx.heap.size wx w' := by
  obtain ⟨⟨mb, Bk, N, f, vr, lr, h1, h2, h3, h4, h5, h6, h7, h8, h9⟩, hbel⟩ := h
  exact asked_any T mb Bk f L R N vr lr wx h1 h5 h2 h8 h6 h3 p hp (by omega)
end Go.Proofs.YtphgmkhbhboklaaGreatDoor
/- portolanlaw18.tells: the chapter's rows. -/
namespace Go.Proofs.YtphgmkhbhboklaaGreatDoor
open Go.RowKit
def fileN : Nd := ⟨2, 0, 0, 0, 0, [], [], []⟩
def dirN : Nd := ⟨1, 0, 0, 0, 0, [], [], []⟩
set_option maxRecDepth 100000 in
theorem tls1 : newT [([97, 47, 98], fileN)] = (33, none) := by kernel_rfl
set_option maxRecDepth 100000 in
theorem tls2 : newT [([97, 47, 98], fileN), ([97], dirN)] = (0, some [([97], dirN), ([97, 47, 98], fileN)]) := by kernel_rfl
set_option maxRecDepth 100000 in
theorem tls3 : putT [([97], dirN), ([97, 47, 98], fileN)] ([97], fileN) = (0, [([97], fileN)]) := by kernel_rfl
set_option maxRecDepth 100000 in
theorem tls4 : getT [([97], fileN)] [97, 47, 98] = (nd0, false) := by kernel_rfl
set_option maxHeartbeats 2000000 in
set_option maxRecDepth 100000 in
theorem tells_any (B : Nat) (w : World) (hT : Tabs B w) : Calls Tryz.prog 20 #[] w fun e w' => e = .returned (.bool true) ∧ Below w.heap.size w w' := by
  have HT := Keep.keep hT
  clear hT
  have hbn1 : ∀ w, (Instr.build 30 #[(0, .int .i64 2)]).run Tryz.prog w = .ok (.agg #[.int .i64 2, .int .u32 0, .int .u32 0, .int .u32 0, .int .i64 0, .slice none 0 0, .slice none 0 0, .string ⟨#[]⟩]) w := fun w => by kernel_rfl
  have hbn2 : ∀ w, (Instr.build 30 #[(0, .int .i64 1)]).run Tryz.prog w = .ok (.agg #[.int .i64 1, .int .u32 0, .int .u32 0, .int .u32 0, .int .i64 0, .slice none 0 0, .slice none 0 0, .string ⟨#[]⟩]) w := fun w => by kernel_rfl
  go_enter Tryz.func20, Tryz.ntmps20
  go_upto_region 2 with fail
  refine wp_world (R := fun w1 => Hp NoM w w1 [rowA w.heap.size 30 #[.int .i64 2, .int .u32 0, .int .u32 0, .int .u32 0, .int .i64 0, .slice none 0 0, .slice none 0 0, .string ⟨#[]⟩], rowA (w.heap.size + 1) 30 #[.int .i64 1, .int .u32 0, .int .u32 0, .int .u32 0, .int .i64 0, .slice none 0 0, .slice none 0 0, .string ⟨#[]⟩]]) ?_ ?_
  · exact ((Hp.begin NoM w).newRow _ _).newRow' _ _ _ _ (by simp) rfl
  intro w1 H1
  obtain ⟨b0, hb0⟩ : ∃ b0, w.heap.size = b0 := ⟨_, rfl⟩
  rw [hb0] at H1 ⊢
  clear hbn1 hbn2
  have HR0 := Keep.keep (H1.out.row 0 rfl)
  have HSF : Keep ((#[.int .i64 2, .int .u32 0, .int .u32 0, .int .u32 0, .int .i64 0, .slice none 0 0, .slice none 0 0, .string ⟨#[]⟩] : Array Value).size = 8) := ⟨rfl⟩
  have hbm1 : ∀ w, (Instr.build 32 #[(0, .string ⟨#[97, 47, 98]⟩), (1, .agg #[.int .i64 2, .int .u32 0, .int .u32 0, .int .u32 0, .int .i64 0, .slice none 0 0, .slice none 0 0, .string ⟨#[]⟩])]).run Tryz.prog w = .ok (.agg #[.string ⟨#[97, 47, 98]⟩, .int .i64 2, .int .u32 0, .int .u32 0, .int .u32 0, .int .i64 0, .slice none 0 0, .slice none 0 0, .string ⟨#[]⟩]) w := fun w => by kernel_rfl
  go_wp2_with ((with_reducible refine arm_loadRow HR0.out aggN HSF.out ?_ ?_); (focus rfl); simp only [Act.put, List.setIfInBounds_toArray, List.set_cons_succ, List.set_cons_zero])
  have hlt1 := (H1.out.row 1 rfl).lt
  have hNf : ∀ (w : World) (N : Nat → Prop), NdR w N fileN nilV nilV := fun w N => ⟨RdV.ofNil, ⟨⟨none, 0, rfl, Nat.le_refl _, by unfold maxLen; omega, .inl rfl⟩, fun b off n cap e j hj => by cases e⟩⟩
  have hSf : ∀ p : Tx, p.length ≤ 400000 → Sm (p, fileN) := fun p hp => ⟨hp, by simp [fileN], by simp [fileN], by simp [fileN], fun x hx => by simp [fileN] at hx, by simp [fileN]⟩
  have hb1 : Below w.heap.size w w1 := by have := H1.out.below; exact this
  refine (new_tree (.slice (some ⟨w1.heap.size, 0, none⟩) 1 1) [(([97, 47, 98], fileN), nilV, nilV)] B _ (HT.out.on ((hb1.alloc hb1.size _).mono HT.out.b)) ⟨RdV.new 32 (mcells [(([97, 47, 98], fileN), nilV, nilV)]) 9 1 _ rfl rfl (by unfold maxLen; omega) (by simp), fun x hx => ?_⟩ (fun x hx => ?_) (by simp)).mono ?_
  · obtain rfl : x = (([97, 47, 98], fileN), nilV, nilV) := by simpa using hx
    exact hNf _ _
  · obtain rfl : x = (([97, 47, 98], fileN), nilV, nilV) := by simpa using hx
    exact hSf _ (by simp)
  rintro e w2 ⟨⟨pv, rfl, hnew⟩, hb2⟩
  simp only [List.map_cons, List.map_nil, tls1] at hnew ⊢
  have hpv : pv = .pointer none := hnew
  subst hpv
  have H2 := Keep.keep ((H1.out.alloc (.cells #[.string ⟨#[97, 47, 98]⟩, .int .i64 2, .int .u32 0, .int .u32 0, .int .u32 0, .int .i64 0, .slice none 0 0, .slice none 0 0, .string ⟨#[]⟩] 32)).call hb2)
  clear hb2 H1 HR0 hnew
  have HR0 := Keep.keep (H2.out.row 0 rfl)
  have HR1 := Keep.keep (H2.out.row 1 rfl)
  have HSD : Keep ((#[.int .i64 1, .int .u32 0, .int .u32 0, .int .u32 0, .int .i64 0, .slice none 0 0, .slice none 0 0, .string ⟨#[]⟩] : Array Value).size = 8) := ⟨rfl⟩
  have hbm2 : ∀ w, (Instr.build 32 #[(0, .string ⟨#[97]⟩), (1, .agg #[.int .i64 1, .int .u32 0, .int .u32 0, .int .u32 0, .int .i64 0, .slice none 0 0, .slice none 0 0, .string ⟨#[]⟩])]).run Tryz.prog w = .ok (.agg #[.string ⟨#[97]⟩, .int .i64 1, .int .u32 0, .int .u32 0, .int .u32 0, .int .i64 0, .slice none 0 0, .slice none 0 0, .string ⟨#[]⟩]) w := fun w => by kernel_rfl
  go_wp2_with (first
    | ((with_reducible refine arm_loadRow HR0.out aggN HSF.out ?_ ?_); (focus rfl); simp only [Act.put, List.setIfInBounds_toArray, List.set_cons_succ, List.set_cons_zero])
    | ((with_reducible refine arm_loadRow HR1.out aggN HSD.out ?_ ?_); (focus rfl); simp only [Act.put, List.setIfInBounds_toArray, List.set_cons_succ, List.set_cons_zero]))
  have hNd : ∀ (w : World) (N : Nat → Prop), NdR w N dirN nilV nilV := fun w N => ⟨RdV.ofNil, ⟨⟨none, 0, rfl, Nat.le_refl _, by unfold maxLen; omega, .inl rfl⟩, fun b off n cap e j hj => by cases e⟩⟩
  have hSd : ∀ p : Tx, p.length ≤ 400000 → Sm (p, dirN) := fun p hp => ⟨hp, by simp [dirN], by simp [dirN], by simp [dirN], fun x hx => by simp [dirN] at hx, by simp [dirN]⟩
  have hb2 := H2.out.below
  refine (new_tree (.slice (some ⟨w2.heap.size, 0, none⟩) 2 2) [(([97, 47, 98], fileN), nilV, nilV), (([97], dirN), nilV, nilV)] B _ (HT.out.on ((hb2.alloc hb2.size _).mono HT.out.b)) ⟨RdV.new 32 (mcells [(([97, 47, 98], fileN), nilV, nilV), (([97], dirN), nilV, nilV)]) 9 2 _ rfl rfl (by unfold maxLen; omega) (by simp), fun x hx => ?_⟩ (fun x hx => ?_) (by simp)).mono ?_
  · rcases List.mem_cons.1 hx with rfl | hx
    · exact hNf _ _
    · obtain rfl : x = (([97], dirN), nilV, nilV) := by simpa using hx
      exact hNd _ _
  · rcases List.mem_cons.1 hx with rfl | hx
    · exact hSf _ (by simp)
    · obtain rfl : x = (([97], dirN), nilV, nilV) := by simpa using hx
      exact hSd _ (by simp)
  rintro e w3 ⟨⟨pv, rfl, hnew⟩, hb3⟩
  simp only [List.map_cons, List.map_nil, tls2] at hnew ⊢
  obtain ⟨T, mb, Bk, f, rfl, hti, hTw, hmw, hBk⟩ := hnew
  have H3 := Keep.keep ((H2.out.alloc (.cells #[.string ⟨#[97, 47, 98]⟩, .int .i64 2, .int .u32 0, .int .u32 0, .int .u32 0, .int .i64 0, .slice none 0 0, .slice none 0 0, .string ⟨#[]⟩, .string ⟨#[97]⟩, .int .i64 1, .int .u32 0, .int .u32 0, .int .u32 0, .int .i64 0, .slice none 0 0, .slice none 0 0, .string ⟨#[]⟩] 32)).call hb3)
  have hs2 := hb2.size
  have HTI := Keep.keep hti; have HBK := Keep.keep hBk
  simp only [World.size_alloc] at hTw hmw
  have hFr : ∀ b, Bk b → w2.heap.size < b ∧ b < w3.heap.size := fun b hb => ⟨by have := (hBk b hb).1; simp at this; omega, (hBk b hb).2⟩
  clear hb2 hb3 hti hBk H2 HR0 HR1
  have HR0 := Keep.keep (H3.out.row 0 rfl)
  have hbm3 : ∀ w, (Instr.build 32 #[(0, .string ⟨#[97]⟩), (1, .agg #[.int .i64 2, .int .u32 0, .int .u32 0, .int .u32 0, .int .i64 0, .slice none 0 0, .slice none 0 0, .string ⟨#[]⟩])]).run Tryz.prog w = .ok (.agg #[.string ⟨#[97]⟩, .int .i64 2, .int .u32 0, .int .u32 0, .int .u32 0, .int .i64 0, .slice none 0 0, .slice none 0 0, .string ⟨#[]⟩]) w := fun w => by kernel_rfl
  go_wp2_with ((with_reducible refine arm_loadRow HR0.out aggN HSF.out ?_ ?_); (focus rfl); simp only [Act.put, List.setIfInBounds_toArray, List.set_cons_succ, List.set_cons_zero])
  refine (put_tree T mb Bk f _ B w3 HTI.out (fun b hb => (hFr b hb).2) (by simp) (HT.out.on (H3.out.below.mono HT.out.b)) ([97], fileN) nilV nilV (hSf _ (by simp)) (hNf _ _)).mono ?_
  rintro e w4 ⟨rfl, ⟨Bk4, f4, hti4, hbk4⟩, hch⟩
  simp only [tls3] at hti4 ⊢
  have hb3 := H3.out.below
  have HB4 := Keep.keep (hb3.trans ((hch.lower hb3.size).below (fun j hj e => by omega)))
  have hs4 := hch.size
  have hFr4 : ∀ b, Bk4 b → b < w4.heap.size := fun b hb => by
    rcases hbk4 b hb with h | h
    · have := (hFr b h).2; omega
    · exact h.2
  have HG := Keep.keep (get_tree T mb Bk4 f4 _ w4 hti4 hFr4 [97, 47, 98] (by simp))
  rw [tls4] at HG
  have HT4 := Keep.keep hti4
  clear hb3 hch hti4 hbk4
  go_wp2_with fail
  refine HG.out.mono ?_
  rintro e w5 ⟨av5, dv5, rfl, hn5, hb5⟩
  obtain ⟨aa, la, ca, ad, ld, cd, rfl, rfl⟩ := hn5.shape
  have HT5 : Keep (TreeIn w5 T mb Bk4 f4 [([97], fileN)]) := ⟨HT4.out.loc (fun b hb => hb5.block b (by
    rcases hb with rfl | rfl | h
    · exact HT4.out.row.lt
    · exact HT4.out.map.lt
    · exact hFr4 b h))⟩
  have HB5 := Keep.keep (HB4.out.trans (hb5.mono HB4.out.size))
  have hs5 := hb5.size
  clear hn5 hb5 HG HT4 HB4
  unfold ndC strV nd0
  dsimp only
  go_wp2_with fail
  refine (len_tree T mb Bk4 f4 _ _ (HT5.out.loc (fun b hb => Below.heap_alloc w5 _ b (by
    rcases hb with rfl | rfl | h
    · exact HT5.out.row.lt
    · exact HT5.out.map.lt
    · have := hFr4 b h; have := hs5; omega)))).mono ?_
  rintro e w6 ⟨rfl, rfl⟩
  go_wp2_with fail
  go_ret
  exact ⟨rfl, HB5.out.alloc HB5.out.size _⟩
end Go.Proofs.YtphgmkhbhboklaaGreatDoor
/- A RANGE OVER A FUNCTION IN A LAW: whose loop variable is a box of its own; quiet regions in its body; the memory as a list of assertions. -/
namespace Go.Proofs.YtphgmkhbhboklaaGreatDoor
open Go.RowKit
theorem Hp.grownBy {w X Y : World} {row : Option Nat} {ls : List As} (h : Hp NoM w X ls) (hg : X.grownBy Y row) (hr : ∀ r, row = some r → w.heap.size ≤ r ∧ ∀ A ∈ ls, ¬ A.blk r) : Hp NoM w Y ls := by
  refine ⟨⟨hg.os.trans h.c.os, hg.tape.trans h.c.tape, hg.output.trans h.c.output, Nat.le_trans h.c.size hg.size, fun k hk hm => ?_⟩, fun A hA => ?_, h.d⟩
  · have := h.c.size
    rw [hg.block k (by omega) (fun e => by have := (hr k e.symm).1; omega)]
    exact h.c.block k hk hm
  · have := h.p A hA
    exact ⟨A.loc X Y (fun b hb => hg.block b (this.2 b hb).2 (fun e => (hr b e.symm).2 A hA hb)) this.1, fun b hb => ⟨(this.2 b hb).1, Nat.lt_of_lt_of_le (this.2 b hb).2 hg.size⟩⟩
/-- what speaks of blocks below B alone abides -/
theorem hp_own {β : Type} {w : World} {B : Nat} (hw : w.heap.size ≤ B) (ls : β → List As) (hls : ∀ s, ∀ A ∈ ls s, ∀ b, A.blk b → b < B) : OwnFrom B (fun s W => Hp NoM w W (ls s)) :=
  fun s X Y row h hg hr => h.grownBy hg (fun r e => ⟨by have := (hr r e).1; omega, fun A hA hb => by have := hls s A hA r hb; have := (hr r e).1; omega⟩)
theorem wpIn_region_quiet_wide {r n id : Nat} {P : Program} {l : List Oper} {Q : Exit → Act → World → Prop} {a : Act} {w : World} (hm : P.follows .mixedOrders = true) (hd : noDefer l.toArray = true) (hq : ¬ LetsOut Q) (hB : Region.lexB .any l.toArray = true)
    (h : wpQuiet P l.toArray (fun w' => ∃ n, w' = w.drewN n) (fun a' => ∀ w', (∃ n, w' = w.drewN n) → Q .normal a' w') l a) : (Code.region id l.toArray true).wpIn (Fence.wide.inRound r) n P Q a w := by
  simp only [Region.lexB, Bool.and_eq_true] at hB
  refine wpIn_region_wide hm hd hq (wpAny_of_quiet (C := fun w' => ∃ n, w' = w.drewN n) (Q := fun a' => ∀ w', (∃ n, w' = w.drewN n) → Q .normal a' w') (fun _ w' hw' h => h w' hw') _ _ _ _ ⟨1, rfl⟩ ?_)
  have := wpAnyQ_lex (C := fun w' => ∃ n, w' = w.drewN n) (md := .any) hB.1 l 0 (Array.replicate l.toArray.size false) a (by simp) (by simpa using hB.2) h
  simpa using this
/-- THE LAW: the loop variable v is a new row of the type ty, told by p -/
theorem rangeFunc_row {n : Nat} {P : Program} {α : Type} {g : Operand} {p v : Tmp} {assign body : Code} {Q : Exit → Act → World → Prop} {a : Act} {w : World} (h1 : 1 ≤ n) {gf : Nat} {lb : Array Value} (hg : a.eval g = .func (.func gf) #[] lb) (eg : ∀ args w, (callFunc gf args).run P w = .ok (.enter gf args) w)
    {cs : α → Array Value} {Kp : World → World → Prop} {S Sp : List α → Prop} {N : Nat} (ty : TypeId) (hseq : SeqStopsK Fence.wide (n - 1) P gf lb (fun x => #[.agg (cs x)]) Kp S Sp N w)
    (hKt : ∀ {A B C : World}, Kp A B → Kp B C → Kp A C) (hKb : ∀ (W : World) (l : Nat) (o o' : Obj), w.heap.size ≤ l → W.heap[l]? = some o → o.isCells = false → o.isWalk = false → Kp W (W.putObj l o'))
    (I : List α → World → Prop) (Ix : Code → List α → World → Prop) (hI : OwnFrom w.heap.size I) (hIx : ∀ c, OwnFrom w.heap.size (Ix c)) (h0 : I [] w)
    (hassign : ∀ (l : Nat) (pre : List α) (x : α) (W : World) (K : Act → World → Prop), I pre W → (∀ a' W', KeepsFrom w.heap.size W W' → Kp W W' → I pre W' → (∃ Bx, (Row W' Bx ty (cs x) ∧ w.heap.size ≤ Bx) ∧ a' = { tmps := (a.tmps.setIfInBounds p (.agg (cs x))).setIfInBounds v (.pointer (some ⟨Bx, 0, none⟩)), defers := [] }) → K a' W') →
      assign.wpIn (Fence.wide.inRound l) (n - 1 - 1) P (Exit.then K (fun _ _ _ => False)) { tmps := a.tmps.setIfInBounds p (.agg (cs x)), defers := [] } W)
    (hbody : ∀ (l : Nat) (pre : List α) (x : α) (W : World) (Bx : Nat), w.heap.size ≤ l → (∃ r, W.heap[l]? = some (.loop r)) → I pre W → Row W Bx ty (cs x) → w.heap.size ≤ Bx → pre.length < N →
      body.wpIn (Fence.wide.inRound l) (n - 1 - 1) P (ownPostG w.heap.size Kp I Ix (pre ++ [x]) W) { tmps := (a.tmps.setIfInBounds p (.agg (cs x))).setIfInBounds v (.pointer (some ⟨Bx, 0, none⟩)), defers := [] } W)
    (hdone : ∀ (D : Nat) (xs : List α) (W : World), w.heap.size ≤ D → S xs → I xs W → W.heap[D]? = some (.deferred (some [])) → Q .normal { a with defers := { target := .collected D, args := #[] } :: a.defers } W)
    (hstop : ∀ (D : Nat) (c : Code) (pre : List α) (W : World), w.heap.size ≤ D → Sp pre → Ix c pre W → W.heap[D]? = some (.deferred (some [])) → c.wp P Q { a with defers := { target := .collected D, args := #[] } :: a.defers } W) :
    (Code.rangeFunc g #[p] assign body).wp P Q a w := by
  refine (wpIn_wide (n := n)).1 ?_
  refine wpIn_rangeFunc_ownH rfl h1 hg trivial eg hseq hKt hKb (Below.refl _ _) (fun _ => rfl) I Ix hI hIx h0
    (fun x a' W => ∃ Bx, (Row W Bx ty (cs x) ∧ w.heap.size ≤ Bx) ∧ a' = { tmps := (a.tmps.setIfInBounds p (.agg (cs x))).setIfInBounds v (.pointer (some ⟨Bx, 0, none⟩)), defers := [] })
    (fun x a' _ X Y row hs hg hr => by obtain ⟨Bx, ⟨e2, e3⟩, e4⟩ := hs; exact ⟨Bx, ⟨(grownBy_keeps_cells hg (fun r e => (hr r e).2) e2 rfl).trans e2, e3⟩, e4⟩)
    (fun l pre x W K hi hK => ?_) (fun l pre x a' W hl hr hi ha hN => ?_) hdone (fun D c pre W hD hs hx hk => wpIn_wide.2 (hstop D c pre W hD hs hx hk))
  · simpa using hassign l pre x W K hi hK
  · obtain ⟨Bx, ⟨h2, h3⟩, rfl⟩ := ha
    exact hbody l pre x W Bx hl hr hi h2 h3 hN
end Go.Proofs.YtphgmkhbhboklaaGreatDoor
