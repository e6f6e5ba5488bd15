/- portolanlaw01.wakes; digests side by side. -/
import Derived.Test.YtofficleahalaaaDoorShaAll
import Derived.Test.YtofficleahalaaaDoorShaName
import Derived.Test.YtofficleahalaaaDoorBytes
namespace Go.Proofs.YtofficleahalaaaDoor
open Go.RowKit
theorem know0 : nameOf (digest []) = [115, 104, 97, 50, 53, 54, 58, 101, 51, 98, 48, 99, 52, 52, 50, 57, 56, 102, 99, 49, 99, 49, 52, 57, 97, 102, 98, 102, 52, 99, 56, 57, 57, 54, 102, 98, 57, 50, 52, 50, 55, 97, 101, 52, 49, 101, 52, 54, 52, 57, 98, 57, 51, 52, 99, 97, 52, 57, 53, 57, 57, 49, 98, 55, 56, 53, 50, 98, 56, 53, 53] := by decide +kernel
theorem know1 : nameOf (digest [97, 98, 99]) = [115, 104, 97, 50, 53, 54, 58, 98, 97, 55, 56, 49, 54, 98, 102, 56, 102, 48, 49, 99, 102, 101, 97, 52, 49, 52, 49, 52, 48, 100, 101, 53, 100, 97, 101, 50, 50, 50, 51, 98, 48, 48, 51, 54, 49, 97, 51, 57, 54, 49, 55, 55, 97, 57, 99, 98, 52, 49, 48, 102, 102, 54, 49, 102, 50, 48, 48, 49, 53, 97, 100] := by decide +kernel
set_option maxHeartbeats 1000000 in
set_option maxRecDepth 100000 in
theorem wakes_any (w : World) (hK : Consts w) (hH : Begins w) : Calls Tryd.prog 12 #[] w fun e w' => e = .returned (.bool true) ∧ Below w.heap.size w w' := by
  have hgK : 1 < w.heap.size := World.block_lt_of_cell? w _ (hK 0 (by decide))
  have hgH : 0 < w.heap.size := World.block_lt_of_cell? w _ (hH 0 (by decide))
  have HK := Keep.keep hK; have HH := Keep.keep hH; clear hK hH
  have hl0 := digest_length []
  have K0 := Keep.keep know0
  have hct0 := sumb_any (.slice none 0 0) [] w HK.out HH.out Reads.ofNil (by decide)
  generalize digest [] = d0 at *
  have HC0 := Keep.keep hct0; clear hct0
  have hd1 := know1
  have hl1 := digest_length [97, 98, 99]
  have hct1 : ∀ w2 v N, Below w.heap.size w w2 → Reads w2 N v [97, 98, 99] → (∀ b, N b → b < w2.heap.size) → Calls Tryd.prog 9 #[v] w2 fun e w' => e = .returned (.agg (bcells (digest [97, 98, 99])).toArray) ∧ Below w2.heap.size w2 w' :=
    fun w2 v N hb hr hN => sumb_any v _ w2 (HK.out.chg (M := fun _ => False) (.of_below hb) hgK (fun h => h)) (HH.out.chg (M := fun _ => False) (.of_below hb) hgH (fun h => h)) (hr.mono hN) (by decide)
  generalize digest [97, 98, 99] = d1 at *
  have HD1 := Keep.keep hd1; clear hd1
  have HC1 := Keep.keep hct1; clear hct1
  have kc := convB
  go_enter Tryd.func12, Tryd.ntmps12
  go_wp2_with (go_at_call 9; ((with_reducible refine HC0.out.mono ?_); rintro e' w1 ⟨rfl, hb1⟩; have HB1 := Keep.keep hb1; clear hb1))
  refine (name_any d0 hl0 w1).mono ?_
  rintro e' w2 ⟨rfl, hb2⟩
  rw [K0.out]
  have HB2 := Keep.keep hb2; clear hb2
  go_wp2_with fail
  refine calls_world (R := fun w3 => Below w.heap.size w w3 ∧ Reads w3 (· < w3.heap.size) (.slice (some ⟨w2.heap.size, 0, none⟩) 3 3) [97, 98, 99]) ⟨?_, ?_⟩ ?_
  · exact ((HB1.out.trans (HB2.out.mono HB1.out.size)).alloc (Nat.le_trans HB1.out.size HB2.out.size) _)
  · exact (Reads.lit _ _ [97, 98, 99] _ _ _ rfl rfl rfl (by decide)).mono (fun b hb => by subst hb; simp)
  intro w3 H3
  refine (HC1.out w3 _ _ H3.out.1 H3.out.2 (fun b hb => hb)).mono ?_
  rintro e' w4 ⟨rfl, hb4⟩
  have HB4 := Keep.keep hb4; clear hb4
  go_wp2_with fail
  refine (name_any d1 hl1 w4).mono ?_
  rintro e' w5 ⟨rfl, hb5⟩
  rw [HD1.out]
  have HB5 := Keep.keep hb5; clear hb5
  go_wp2_with fail
  go_ret
  exact ⟨rfl, (H3.out.1.trans (HB4.out.mono H3.out.1.size)).trans (HB5.out.mono (Nat.le_trans H3.out.1.size HB4.out.size))⟩
theorem eqDig (d : List UInt8) (hd : d.length = 32) (w : World) : (binOp .eql 25 (.agg (bcells d).toArray) (.agg (bcells d).toArray)).run Tryd.prog w = .ok (.bool true) w := by
  have := run_eql_bytes (P := Tryd.prog) Tryd.underlying25 Tryd.underlying5 (by kernel_rfl) d d hd hd w
  simpa using this
theorem konst {w w' : World} (hK : Consts w) (hH : Begins w) (hb : Below w.heap.size w w') : Consts w' ∧ Begins w' :=
  ⟨hK.chg (M := fun _ => False) (.of_below hb) (World.block_lt_of_cell? w _ (hK 0 (by decide))) (fun h => h), hH.chg (M := fun _ => False) (.of_below hb) (World.block_lt_of_cell? w _ (hH 0 (by decide))) (fun h => h)⟩
end Go.Proofs.YtofficleahalaaaDoor
