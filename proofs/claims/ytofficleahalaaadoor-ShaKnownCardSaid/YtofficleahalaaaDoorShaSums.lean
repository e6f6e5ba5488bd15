/- ShaSums: whatever bytes are handed in, sha.Sum of them is the document's digest, and they stay. -/
import Derived.Test.YtofficleahalaaaDoorShaAll
import Derived.Test.YtofficleahalaaaDoorShaRefSum
import Derived.Test.YtofficleahalaaaDoorShaName
import Derived.Test.YtofficleahalaaaDoorBytes
namespace Go.Proofs.YtofficleahalaaaDoor
open Go.RowKit
theorem know0 : nameOf (digest []) = [115, 104, 97, 50, 53, 54, 58, 101, 51, 98, 48, 99, 52, 52, 50, 57, 56, 102, 99, 49, 99, 49, 52, 57, 97, 102, 98, 102, 52, 99, 56, 57, 57, 54, 102, 98, 57, 50, 52, 50, 55, 97, 101, 52, 49, 101, 52, 54, 52, 57, 98, 57, 51, 52, 99, 97, 52, 57, 53, 57, 57, 49, 98, 55, 56, 53, 50, 98, 56, 53, 53] := by decide +kernel
theorem know1 : nameOf (digest [97, 98, 99]) = [115, 104, 97, 50, 53, 54, 58, 98, 97, 55, 56, 49, 54, 98, 102, 56, 102, 48, 49, 99, 102, 101, 97, 52, 49, 52, 49, 52, 48, 100, 101, 53, 100, 97, 101, 50, 50, 50, 51, 98, 48, 48, 51, 54, 49, 97, 51, 57, 54, 49, 55, 55, 97, 57, 99, 98, 52, 49, 48, 102, 102, 54, 49, 102, 50, 48, 48, 49, 53, 97, 100] := by decide +kernel
set_option maxHeartbeats 1000000 in
set_option maxRecDepth 100000 in
theorem wakes_any (w : World) (hK : Consts w) (hH : Begins w) : Calls Tryd.prog 12 #[] w fun e w' => e = .returned (.bool true) ∧ Below w.heap.size w w' := by
  have hgK : 1 < w.heap.size := World.block_lt_of_cell? w _ (hK 0 (by decide))
  have hgH : 0 < w.heap.size := World.block_lt_of_cell? w _ (hH 0 (by decide))
  have HK := Keep.keep hK; have HH := Keep.keep hH; clear hK hH
  have hl0 := digest_length []
  have K0 := Keep.keep know0
  have hct0 := sumb_any (.slice none 0 0) [] w HK.out HH.out Reads.ofNil (by decide)
  generalize digest [] = d0 at *
  have HC0 := Keep.keep hct0; clear hct0
  have hd1 := know1
  have hl1 := digest_length [97, 98, 99]
  have hct1 : ∀ w2 v N, Below w.heap.size w w2 → Reads w2 N v [97, 98, 99] → (∀ b, N b → b < w2.heap.size) → Calls Tryd.prog 9 #[v] w2 fun e w' => e = .returned (.agg (bcells (digest [97, 98, 99])).toArray) ∧ Below w2.heap.size w2 w' :=
    fun w2 v N hb hr hN => sumb_any v _ w2 (HK.out.chg (M := fun _ => False) (.of_below hb) hgK (fun h => h)) (HH.out.chg (M := fun _ => False) (.of_below hb) hgH (fun h => h)) (hr.mono hN) (by decide)
  generalize digest [97, 98, 99] = d1 at *
  have HD1 := Keep.keep hd1; clear hd1
  have HC1 := Keep.keep hct1; clear hct1
  have kc := convB
  go_enter Tryd.func12, Tryd.ntmps12
  go_wp2_with (go_at_call 9; ((with_reducible refine HC0.out.mono ?_); rintro e' w1 ⟨rfl, hb1⟩; have HB1 := Keep.keep hb1; clear hb1))
  refine (name_any d0 hl0 w1).mono ?_
  rintro e' w2 ⟨rfl, hb2⟩
  rw [K0.out]
  have HB2 := Keep.keep hb2; clear hb2
  go_wp2_with fail
  refine calls_world (R := fun w3 => Below w.heap.size w w3 ∧ Reads w3 (· < w3.heap.size) (.slice (some ⟨w2.heap.size, 0, none⟩) 3 3) [97, 98, 99]) ⟨?_, ?_⟩ ?_
  · exact ((HB1.out.trans (HB2.out.mono HB1.out.size)).alloc (Nat.le_trans HB1.out.size HB2.out.size) _)
  · exact (Reads.lit _ _ [97, 98, 99] _ _ _ rfl rfl rfl (by decide)).mono (fun b hb => by subst hb; simp)
  intro w3 H3
  refine (HC1.out w3 _ _ H3.out.1 H3.out.2 (fun b hb => hb)).mono ?_
  rintro e' w4 ⟨rfl, hb4⟩
  have HB4 := Keep.keep hb4; clear hb4
  go_wp2_with fail
  refine (name_any d1 hl1 w4).mono ?_
  rintro e' w5 ⟨rfl, hb5⟩
  rw [HD1.out]
  have HB5 := Keep.keep hb5; clear hb5
  go_wp2_with fail
  go_ret
  exact ⟨rfl, (H3.out.1.trans (HB4.out.mono H3.out.1.size)).trans (HB5.out.mono (Nat.le_trans H3.out.1.size HB4.out.size))⟩
theorem eqDig (d : List UInt8) (hd : d.length = 32) (w : World) : (binOp .eql 25 (.agg (bcells d).toArray) (.agg (bcells d).toArray)).run Tryd.prog w = .ok (.bool true) w := by
  have := run_eql_bytes (P := Tryd.prog) Tryd.underlying25 Tryd.underlying5 (by kernel_rfl) d d hd hd w
  simpa using this
theorem konst {w w' : World} (hK : Consts w) (hH : Begins w) (hb : Below w.heap.size w w') : Consts w' ∧ Begins w' :=
  ⟨hK.chg (M := fun _ => False) (.of_below hb) (World.block_lt_of_cell? w _ (hK 0 (by decide))) (fun h => h), hH.chg (M := fun _ => False) (.of_below hb) (World.block_lt_of_cell? w _ (hH 0 (by decide))) (fun h => h)⟩
/-- the law from a slice that was cut -/
theorem law_cut (v : Value) (l : List UInt8) (w : World) (hK : Consts w) (hH : Begins w) (hv : Reads w (· < w.heap.size) v l) (hl : l.length ≤ 2000) :
    ∃ lb : List UInt8, lb.length ≤ 2000 ∧
    (Calls Tryd.prog 8 #[v] w fun e w1 => ∃ v', e = .returned v' ∧ Owns w1 w.heap.size 5 v' lb ∧ Below w.heap.size w w1) ∧
    (∀ w1 v', Owns w1 w.heap.size 5 v' lb → Below w.heap.size w w1 → Calls Tryd.prog 9 #[v'] w1 fun e w' => e = .returned (.agg (bcells (digest lb)).toArray) ∧ Below w1.heap.size w1 w') ∧
    (∀ w2, Below w.heap.size w w2 → Calls Tryd.prog 10 #[v] w2 fun e w' => e = .returned (.agg (bcells (digest lb)).toArray) ∧ Below w2.heap.size w2 w') ∧
    (∀ w1 w3 v', Owns w1 w.heap.size 5 v' lb → Below w.heap.size w w1 → Below w1.heap.size w1 w3 → Calls Tryd.prog 11 #[v', v] w3 fun e w' => e = .returned (.bool true) ∧ w3 = w') := by
  refine ⟨l, hl, clone_any v l _ w hv (by omega), fun w1 v' ho hb => ?_, fun w2 hb => ?_, fun w1 w3 v' ho hb hb3 => ?_⟩
  · have := konst hK hH hb
    exact sumb_any v' l w1 this.1 this.2 (ho.reads.mono (fun b hb => hb.2.1)) (by omega)
  · exact rsum_any v l w2 ((hv.below hb (fun _ h => h)).mono (fun b hb' => Nat.lt_of_lt_of_le hb' hb.size)) (by omega)
  · refine (equal_any v' v l l _ _ w3 (ho.reads.below hb3 (fun b hb => hb.2.1)) (hv.below (hb.trans (hb3.mono hb.size)) (fun _ h => h))).mono ?_
    rintro e w' ⟨rfl, rfl⟩
    exact ⟨by simp, rfl⟩
set_option maxHeartbeats 1000000 in
set_option maxRecDepth 100000 in
theorem law_any (v : Value) (l : List UInt8) (w : World) (hK : Consts w) (hH : Begins w) (hv : Reads w (· < w.heap.size) v l) :
    Calls Tryd.prog 3 #[v] w fun e w' => e = .returned (.bool true) ∧ Below w.heap.size w w' := by
  obtain ⟨a, cap, hu, h1, h2, h3⟩ := hv.shape
  have hcut : Reads w (· < w.heap.size) (.slice a (min l.length 2000) cap) (l.take 2000) := by
    subst hu
    rcases h3 with ⟨rfl, h3⟩ | ⟨b, off, rfl, hb⟩
    · obtain rfl : l = [] := List.eq_nil_of_length_eq_zero (by omega)
      subst h3; exact Reads.ofNil
    · exact hv.sub 0 2000 cap _ (by simp) (by simp; omega) (Nat.le_refl _) _ (by simp; omega)
  obtain ⟨lb, hlb, c1, c2, c3, c4⟩ := law_cut _ _ w hK hH hcut (by simp; omega)
  have C1 := Keep.keep c1; have C2 := Keep.keep c2; have C3 := Keep.keep c3; have C4 := Keep.keep c4
  have HK := Keep.keep (fun w' => konst (w' := w') hK hH)
  have hdl := digest_length lb
  clear c1 c2 c3 c4 hK hH hv hcut
  generalize digest lb = dg at *
  have heq := eqDig dg hdl
  have hlen : min (l.length : Int) 2000 = ((min l.length 2000 : Nat) : Int) := by omega
  have hk : min l.length 2000 ≤ cap := by omega
  unfold maxLen at h2
  generalize min l.length 2000 = k at *
  generalize l.length = n at *
  generalize (bcells dg).toArray = cs at *
  subst hu
  have ha : a = none ∨ ∃ b off, a = some ⟨b, off, none⟩ := by
    rcases h3 with ⟨h, _⟩ | ⟨b, off, h, _⟩
    · exact .inl h
    · exact .inr ⟨b, off, h⟩
  clear h3
  rcases ha with rfl | ⟨b, off, rfl⟩
  all_goals
    go_enter Tryd.func3, Tryd.ntmps3
    go_wp2_with fail
    refine C1.out.mono ?_
    rintro e w1 ⟨v1, rfl, ho1, hb1⟩
    have HO1 := Keep.keep ho1; have HB1 := Keep.keep hb1; clear ho1 hb1
    go_wp2_with fail
    refine (C2.out w1 v1 HO1.out HB1.out).mono ?_
    rintro e w2 ⟨rfl, hb2⟩
    have HB2 := Keep.keep hb2; clear hb2
    go_wp2_with fail
    refine (C3.out w2 (HB1.out.trans (HB2.out.mono HB1.out.size))).mono ?_
    rintro e w3 ⟨rfl, hb3⟩
    have HB3 := Keep.keep hb3; clear hb3
    go_wp2_with fail
    refine (C4.out w1 w3 v1 HO1.out HB1.out (HB2.out.trans (HB3.out.mono HB2.out.size))).mono ?_
    rintro e w4 ⟨rfl, rfl⟩
    go_wp2_with fail
    have hb := HB1.out.trans ((HB2.out.trans (HB3.out.mono HB2.out.size)).mono HB1.out.size)
    refine (wakes_any w3 (HK.out w3 hb).1 (HK.out w3 hb).2).mono ?_
    rintro e w5 ⟨rfl, hb5⟩
    have HB5 := Keep.keep (hb.trans (hb5.mono hb.size)); clear hb5 hb
    go_wp2_with fail
    go_ret
    exact ⟨rfl, HB5.out⟩
end Go.Proofs.YtofficleahalaaaDoor
