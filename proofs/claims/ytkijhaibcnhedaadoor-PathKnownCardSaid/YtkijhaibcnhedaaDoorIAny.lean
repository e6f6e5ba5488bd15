/- strings.IndexAny AND strings.ContainsAny FOR ANY TEXT, where the letters asked for are ASCII, two at least. -/
import Derived.Test.YtkijhaibcnhedaaDoorCAny
namespace Go.Proofs.YtkijhaibcnhedaaDoor
open Go.RowKit
theorem getB_list (l : List UInt8) (i : Nat) (h : i < l.length) : (⟨l.toArray⟩ : ByteArray).get! i = l[i] := by
  simp [ByteArray.get!, h]
theorem noAny_high {l t : List UInt8} (hta : ∀ c ∈ t, c.toNat < 128) {p k : Nat} (h : Lib.NoAny l t p) (hp : p + k ≤ l.length) (hh : ∀ j, j < k → 128 ≤ ((⟨l.toArray⟩ : ByteArray).get! (p + j)).toNat) : Lib.NoAny l t (p + k) := by
  intro j b hj hb
  rcases Nat.lt_or_ge j p with hlt | hge
  · exact h j b hlt hb
  · have hjl : j < l.length := by omega
    have h1 := hh (j - p) (by omega)
    rw [show p + (j - p) = j by omega, getB_list l j hjl] at h1
    rw [List.getElem?_eq_getElem hjl] at hb
    injection hb with hb
    subst hb
    cases hc : t.contains l[j]
    · rfl
    · have := hta _ (List.contains_iff_mem.1 hc); omega
set_option maxHeartbeats 1000000 in
set_option maxRecDepth 100000 in
theorem iany_short (l t : List UInt8) (hta : ∀ c ∈ t, c.toNat < 128) (ht2 : 2 ≤ t.length) (htl : t.length ≤ 1000) (h8 : l.length ≤ 8) (w : World) :
    Calls Tryd.prog 55 #[.string ⟨l.toArray⟩, .string ⟨t.toArray⟩] w fun e w' => e = .returned (.int .i64 (Lib.indexAny l t)) ∧ Below w.heap.size w w' := by
  have hsz : (⟨t.toArray⟩ : ByteArray).size = t.length := by simp [ByteArray.size]
  have hsl : (⟨l.toArray⟩ : ByteArray).size = l.length := by simp [ByteArray.size]
  have hemp : t.isEmpty = false := by
    cases t with
    | nil => simp at ht2
    | cons _ _ => rfl
  have hn1 : ((t.length : Int) == 1) = false := beq_eq_false_iff_ne.2 (by omega)
  have h8z : decide ((8 : Int) < (l.length : Int)) = false := decide_eq_false (by omega)
  have HT := Keep.keep hta; have HTL := Keep.keep htl; have H8 := Keep.keep h8; have HT2 := Keep.keep ht2
  clear hta htl h8 ht2
  have HS := Keep.keep (Tryd.strings_shouldUseASCIISet (l.length : Int) w)
  rw [h8z] at HS
  go_enter Tryd.func55, Tryd.ntmps55
  go_wp2_with (go_at_call 70; ((with_reducible refine HS.out.mono ?_); rintro e w1 ⟨rfl, rfl⟩))
  go_loopg [9, 10] l.length (fun g _ _ wx => ∃ p : Nat, l.length ≤ p + g ∧ p ≤ l.length ∧ wx.heap[w1.heap.size]? = some (.stringIter ⟨l.toArray⟩ p) ∧ Below w1.heap.size w1 wx ∧ Lib.NoAny l t p)
  case atStart => exact ⟨0, by omega, by omega, World.iter_heap w1 _ 0, (Below.refl _ w1).alloc (Nat.le_refl _) _, Lib.NoAny.zero _ _⟩
  case round =>
    obtain ⟨p, hpg, hpl, hit, hbw, hno⟩ := hrel
    have HN := Keep.keep hno; have HB := Keep.keep hbw
    clear hno hbw
    by_cases hps : p < l.length
    · obtain ⟨g, rfl⟩ : ∃ g, gk = g + 1 := ⟨gk - 1, by omega⟩
      have hnx := fun ty => Lib.run_next_any_at (P := Tryd.prog) wr w1.heap.size ⟨l.toArray⟩ p ty hit hps
      have hcl : l[p]? = some l[p] := List.getElem?_eq_getElem hps
      have hg0 := getB_list l p hps
      by_cases hasc : l[p].toNat < 128
      · have hd := Go.decode_ascii (⟨l.toArray⟩ : ByteArray) p hps hasc
        have hd1 : Utf8.decode (⟨l.toArray⟩ : ByteArray) p = (l[p].toNat, 1) := hd
        rw [hd1] at hnx
        have hit2 := Lib.iterAt_heap wr w1.heap.size ⟨l.toArray⟩ p (p + 1) hit
        have HB2 := Keep.keep (Lib.below_iterAt HB.out (k := w1.heap.size) (Nat.le_refl _) ⟨l.toArray⟩ (p + 1))
        have HIR := Keep.keep (fun w' => Tryd.strings_IndexRune_ascii ⟨t.toArray⟩ (l[p].toNat : Int) w' (by omega) (by omega))
        have hcon := Lib.contains_iff_indexByte t l[p]
        have hback : ((l[p].toNat : Int)).toNat.toUInt8 = l[p] := by simp
        rw [hback] at HIR
        have hdt : (⟨t.toArray⟩ : ByteArray).data.toList = t := rfl
        rw [hdt] at HIR
        clear hd hd1 hg0 hback hdt
        generalize l[p] = x at *
        have HX := Keep.keep hcl
        generalize Lib.indexByte t x = ib at *
        generalize wr.iterAt w1.heap.size ⟨l.toArray⟩ (p + 1) = W at *
        have HIT := Keep.keep hit2
        clear hcl hit hit2
        cases hin : t.contains x
        · rw [hin] at hcon
          have hlt : ¬ ((0 : Int) ≤ ib) := of_decide_eq_false hcon.symm
          have HIN := Keep.keep hin
          clear hcon hin
          go_wp2_with (go_at_call 69; ((with_reducible refine (HIR.out _).mono ?_); rintro e w2 ⟨rfl, rfl⟩))
          go_roundg g
          case measure => omega
          case rel => exact ⟨p + 1, by omega, by omega, HIT.out, HB2.out, HN.out.succ HX.out HIN.out⟩
        · rw [hin] at hcon
          have hge : ((0 : Int) ≤ ib) := of_decide_eq_true hcon.symm
          have HIN := Keep.keep hin
          clear hcon hin
          go_wp2_with (go_at_call 69; ((with_reducible refine (HIR.out _).mono ?_); rintro e w2 ⟨rfl, rfl⟩))
          go_ret
          refine ⟨by rw [Lib.indexAny_hit HN.out HX.out HIN.out]; rfl, HB2.out⟩
      · have hd := decode_high (⟨l.toArray⟩ : ByteArray) p hps (by rw [hg0]; omega)
        obtain ⟨R, hR⟩ : ∃ R, (Utf8.decode (⟨l.toArray⟩ : ByteArray) p).1 = R := ⟨_, rfl⟩
        obtain ⟨K, hK⟩ : ∃ K, (Utf8.decode (⟨l.toArray⟩ : ByteArray) p).2 = K := ⟨_, rfl⟩
        rw [hR, hK] at hd hnx
        obtain ⟨d1, d2, d3, d4, d5⟩ := hd
        have hno2 := noAny_high HT.out (k := K) HN.out d4 (fun j hj => by
          rcases Nat.eq_zero_or_pos j with rfl | h0
          · rw [Nat.add_zero, hg0]; omega
          · exact d5 j h0 hj)
        have HN2 := Keep.keep hno2
        have hit2 := Lib.iterAt_heap wr w1.heap.size ⟨l.toArray⟩ p (p + K) hit
        have HB2 := Keep.keep (Lib.below_iterAt HB.out (k := w1.heap.size) (Nat.le_refl _) ⟨l.toArray⟩ (p + K))
        have HIR := Keep.keep (fun w' => irune_high t HT.out HTL.out R d1 d2 w')
        have hk1 : 1 ≤ K := d3
        have hk2 : p + K ≤ l.length := d4
        have HKS := Keep.keep (And.intro hk1 hk2)
        clear hno2 d1 d2 d3 d4 d5 hg0 hasc hR hK hcl hk1 hk2
        generalize wr.iterAt w1.heap.size ⟨l.toArray⟩ (p + K) = W at *
        have HIT := Keep.keep hit2
        clear hit hit2
        go_wp2_with (go_at_call 69; ((with_reducible refine (HIR.out _).mono ?_); rintro e w2 ⟨rfl, hb2⟩))
        have hlt : w1.heap.size < W.heap.size := (Array.getElem?_eq_some_iff.1 HIT.out).1
        have hks := HKS.out
        go_roundg g
        case measure => omega
        case rel => exact ⟨p + K, by omega, by omega, (hb2.block _ hlt).trans HIT.out, HB2.out.trans (hb2.mono HB2.out.size), HN2.out⟩
    · have hnx := Lib.run_next_end_at (P := Tryd.prog) wr w1.heap.size ⟨l.toArray⟩ p 0 hit hps
      have hnx' := fun ty => Lib.run_next_end_at (P := Tryd.prog) wr w1.heap.size ⟨l.toArray⟩ p ty hit hps
      obtain rfl : p = l.length := by omega
      clear hnx
      go_wp2_with fail
      go_ret
      exact ⟨by rw [Lib.indexAny_none HN.out]; rfl, HB.out⟩
theorem iany_any (l t : List UInt8) (hta : ∀ c ∈ t, c.toNat < 128) (ht2 : 2 ≤ t.length) (htl : t.length ≤ 1000) (hl : l.length < 4294967281) (w : World) :
    Calls Tryd.prog 55 #[.string ⟨l.toArray⟩, .string ⟨t.toArray⟩] w fun e w' => e = .returned (.int .i64 (Lib.indexAny l t)) ∧ Below w.heap.size w w' := by
  rcases Nat.lt_or_ge 8 l.length with h8 | h8
  · refine (Tryd.strings_IndexAny_long (fun w => (zero_of_info (P := Tryd.prog) (t := 75) (n := 256) (by kernel_rfl)).1 w) ⟨l.toArray⟩ ⟨t.toArray⟩ w ht2 h8 hl (show t.length < _ by omega) (fun j b hb => hta b (List.mem_of_getElem? hb))).mono ?_
    rintro e w' ⟨rfl, rfl⟩
    exact ⟨rfl, ((Below.refl _ _).alloc (Nat.le_refl _) _).alloc (by simp) _⟩
  · exact iany_short l t hta ht2 htl h8 w
set_option maxHeartbeats 1000000 in
theorem cany_any (l t : List UInt8) (hta : ∀ c ∈ t, c.toNat < 128) (ht2 : 2 ≤ t.length) (htl : t.length ≤ 1000) (hl : l.length < 4294967281) (w : World) :
    Calls Tryd.prog 36 #[.string ⟨l.toArray⟩, .string ⟨t.toArray⟩] w fun e w' => e = .returned (.bool (l.any (t.contains ·))) ∧ Below w.heap.size w w' := by
  have H := Keep.keep (iany_any l t hta ht2 htl hl w)
  have hk : l.any (t.contains ·) = decide (0 ≤ Lib.indexAny l t) := by
    clear H hl
    induction l with
    | nil => rfl
    | cons b l ih =>
      rw [List.any_cons, ih, Lib.indexAny]
      cases hb : t.contains b
      · have := Lib.indexAny_ge t l
        simp only [Bool.false_or, Bool.false_eq_true, if_false]
        split
        · rename_i h
          have h : Lib.indexAny l t = -1 := eq_of_beq h
          rw [h]
        · rename_i h
          have h : Lib.indexAny l t ≠ -1 := fun e => h (by rw [e]; rfl)
          have h0 : 0 ≤ Lib.indexAny l t := by omega
          have h1 : 0 ≤ Lib.indexAny l t + 1 := by omega
          simp [h0, h1]
      · simp
  rw [hk]
  go_enter Tryd.func36, Tryd.ntmps36
  go_wp2_with (go_at_call 55; ((with_reducible refine H.out.mono ?_); rintro e w1 ⟨rfl, hb1⟩))
  go_ret
  exact ⟨rfl, hb1⟩
end Go.Proofs.YtkijhaibcnhedaaDoor
