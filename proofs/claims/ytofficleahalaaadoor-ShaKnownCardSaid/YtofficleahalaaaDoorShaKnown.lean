/- ShaKnown: the known digests, and what is refused. -/
import Derived.Test.YtofficleahalaaaDoorShaMilD
import Derived.Test.YtofficleahalaaaDoorShaNil
import Derived.Test.YtofficleahalaaaDoorShaNames
import Derived.Test.YtofficleahalaaaDoorBRep
import Derived.Test.YtofficleahalaaaDoorShaKnownP
import Derived.Test.YtofficleahalaaaDoorShaKnownD
namespace Go.Proofs.YtofficleahalaaaDoor
open Go.RowKit
def st0 : Array Value := #[.int .u32 0, .int .u32 0, .int .u32 0, .int .u32 0, .int .u32 0, .int .u32 0, .int .u32 0, .int .u32 0, .slice none 0 0, .int .u64 0, .bool false]
/-- what is kept while the texts are read -/
structure KJ (w w' : World) (g : Nat) : Prop where
  b : Below w.heap.size w w'
  l : g < w'.heap.size
  r : Reads w' (fun b => b = g) (.slice (some ⟨g, 0, none⟩) 1000000 1000000) (List.replicate 1000000 97)
theorem KJ.call {w w' w2 : World} {g : Nat} (h : KJ w w' g) (hb : Below w'.heap.size w' w2) : KJ w w2 g :=
  ⟨h.b.trans (hb.mono h.b.size), Nat.lt_of_lt_of_le h.l hb.size, h.r.below hb (fun b hb => by subst hb; exact h.l)⟩
theorem KJ.alloc {w w' : World} {g : Nat} (h : KJ w w' g) (o : Obj) : KJ w (w'.alloc o) g := h.call ((Below.refl _ _).alloc (Nat.le_refl _) o)
structure KK (w x : World) (g B : Nat) (cd : Array Value) : Prop where
  j : KJ w x g
  r : Row x B 25 cd
theorem KK.call {w x y : World} {g B : Nat} {cd : Array Value} (h : KK w x g B cd) (hb : Below x.heap.size x y) : KK w y g B cd := ⟨h.j.call hb, h.r.below hb h.r.lt⟩
set_option maxHeartbeats 1000000 in
set_option maxRecDepth 100000 in
theorem known_any (w : World) (hK : Consts w) (hH : Begins w) : Calls Tryd.prog 6 #[] w fun e w' => e = .returned (.bool true) ∧ Below w.heap.size w w' := by
  have HK := Keep.keep (fun w' => konst (w' := w') hK hH)
  clear hK hH
  have HN : Keep (∀ w2, Hp NoM w w2 [rowA w.heap.size 51 st0] → NoSt w2 (.pointer (some ⟨w.heap.size, 0, none⟩))) := ⟨fun w2 h => .inr ⟨_, rfl, (h.row 0 rfl).cell rfl⟩⟩
  have HNN : Keep (∀ w2, NoSt w2 (.pointer none)) := ⟨fun w2 => .inl rfl⟩
  have hz0 := run_neq_bytes (P := Tryd.prog) Tryd.underlying25 Tryd.underlying5 (by kernel_rfl) (List.replicate 32 0) (List.replicate 32 0) (by decide) (by decide)
  have hz : ∀ w, (binOp .neq 25 (.agg (bcells (List.replicate 32 0)).toArray) (.agg #[Value.int .u8 0, Value.int .u8 0, Value.int .u8 0, Value.int .u8 0, Value.int .u8 0, Value.int .u8 0, Value.int .u8 0, Value.int .u8 0, Value.int .u8 0, Value.int .u8 0, Value.int .u8 0, Value.int .u8 0, Value.int .u8 0, Value.int .u8 0, Value.int .u8 0, Value.int .u8 0, Value.int .u8 0, Value.int .u8 0, Value.int .u8 0, Value.int .u8 0, Value.int .u8 0, Value.int .u8 0, Value.int .u8 0, Value.int .u8 0, Value.int .u8 0, Value.int .u8 0, Value.int .u8 0, Value.int .u8 0, Value.int .u8 0, Value.int .u8 0, Value.int .u8 0, Value.int .u8 0])).run Tryd.prog w = .ok (.bool false) w := fun w => (hz0 w).trans rfl
  clear hz0
  have HSN := Keep.keep (fun p w h => sum_nil p w h)
  generalize (bcells (List.replicate 32 0)).toArray = zz at *
  obtain ⟨gs, ns, ms, tg, tn, t1, t2, cd, ze, hg, hn, hm, k1, k2, k3, k4, p0, pg, pn, pm, hze, hze1, hcd, hcd1, hc30, hc31⟩ := lits
  have HG := Keep.keep hg; have HNS := Keep.keep hn; have HMS := Keep.keep hm; have P0 := Keep.keep p0; have PG := Keep.keep pg; have PN := Keep.keep pn; have PM := Keep.keep pm
  have HZE := Keep.keep hze; have HZE1 := Keep.keep hze1; have HCD := Keep.keep hcd; have HCD1 := Keep.keep hcd1; have HC30 := Keep.keep hc30; have HC31 := Keep.keep hc31
  clear hg hn hm p0 pg pn pm hze hze1 hcd hcd1 hc30 hc31
  obtain ⟨c0, c2, c3, q3, q2, q0, qa, qn, n3, n2, heq⟩ := dlits w HK.out
  have Q3 := Keep.keep q3; have Q2 := Keep.keep q2; have Q0 := Keep.keep q0; have QA := Keep.keep qa; have QN := Keep.keep qn; have N3 := Keep.keep n3; have N2 := Keep.keep n2
  clear q3 q2 q0 qa qn n3 n2
  obtain ⟨cf, rf, mf, kcs, hcs⟩ := convS [97, 98, 99, 100, 98, 99, 100, 101, 99, 100, 101, 102, 100, 101, 102, 103, 101, 102, 103, 104, 102, 103, 104, 105, 103, 104, 105, 106, 104, 105, 106, 107, 105, 106, 107, 108, 106, 107, 108, 109, 107, 108, 109, 110, 108, 109, 110, 111, 109, 110, 111, 112, 110, 111, 112, 113] 56 rfl (by decide)
  have HCS := Keep.keep hcs; clear hcs
  have kc := convB
  go_enter Tryd.func6, Tryd.ntmps6
  go_wp2_with (go_at_call 15; ((with_reducible refine (write_nil _ _ _ (HNN.out _)).mono ?_); rintro e' w1 ⟨rfl, rfl⟩))
  refine calls_world (R := fun w2 => Hp NoM w w2 [rowA w.heap.size 51 st0]) (((Hp.begin _ w).newRow' _ _ _ _ rfl rfl).alloc _) ?_
  intro w1 H1
  have HN1 := Keep.keep (HN.out w1 H1.out)
  go_wp2_with (first
    | (go_at_call 15; ((with_reducible refine (write_nil _ _ _ HN1.out).mono ?_); rintro e' w1 ⟨rfl, rfl⟩)))
  have HS0 := Keep.keep (HSN.out (.pointer none) w1 (fun w2 _ => HNN.out w2))
  go_wp2_with (go_at_call 16; ((with_reducible refine HS0.out.mono ?_); rintro e' w2 ⟨rfl, hb2⟩; have H2 := Keep.keep (H1.out.call hb2); clear hb2))
  have HS1 := Keep.keep (HSN.out _ w2 (fun w3 hb => HN.out w3 (H2.out.call hb)))
  refine HS1.out.mono ?_
  rintro e' w3 ⟨rfl, hb3⟩
  have H3 := Keep.keep (H2.out.call hb3); clear hb3
  have HN3 := Keep.keep (HN.out w3 H3.out)
  go_wp2_with (first
    | (go_at_call 17; ((with_reducible refine (len_nil _ _ (HNN.out _)).mono ?_); rintro e' w4 ⟨rfl, rfl⟩))
    | (go_at_call 14; ((with_reducible refine (copy_nil _ _ (HNN.out _)).mono ?_); rintro e' w4 ⟨rfl, rfl⟩))
    | (go_at_call 14; ((with_reducible refine (copy_nil _ _ HN3.out).mono ?_); rintro e' w4 ⟨rfl, rfl⟩)))
  have HB3 := Keep.keep H3.out.below
  clear HN3 HS1 HS0 HN1 H1 H2 H3 HN HSN
  refine calls_world (R := fun w4 => Below w.heap.size w w4 ∧ Reads w4 (· < w4.heap.size) (.slice (some ⟨w3.heap.size, 0, none⟩) 1 1) [97]) ⟨HB3.out.alloc HB3.out.size _, (Reads.lit _ _ [97] _ _ _ rfl rfl rfl (by decide)).mono (fun b hb => by subst hb; simp)⟩ ?_
  intro w4 H4
  refine (rep_any _ 97 1000000 w4 H4.out.2 (by decide) (by decide)).mono ?_
  rintro e w5 ⟨g, rfl, hr5, hg5, hg5', hb5⟩
  have J5 := Keep.keep (KJ.mk (H4.out.1.trans (hb5.mono H4.out.1.size)) hg5' hr5)
  clear hr5 hg5 hb5 hg5'
  go_wp2_with (first
    | (go_at_call 19; ((with_reducible refine (P0.out _).mono ?_); rintro e' w6 ⟨rfl, hb6⟩; have J6 := Keep.keep (J5.out.call hb6); clear hb6))
    | ((with_reducible refine arm_storeRow (Row.new w6 25 _) aggDig2 ?_ HZE.out HZE1.out ?_ ?_ ?_); (focus rfl); (focus rfl); (focus rfl); simp only [Act.put, World.setRow_alloc_new]))
  refine calls_world (R := fun x => KJ w x g) (J6.out.alloc _) ?_
  intro w7 J7
  go_wp2_with (first
    | (go_at_call 24; ((with_reducible refine (HG.out _).mono ?_); rintro e' w8 ⟨rfl, hb8⟩; have J8 := Keep.keep (J7.out.call hb8); clear hb8))
    | (go_at_call 19; ((with_reducible refine (PG.out _).mono ?_); rintro e' w9 ⟨rfl, hb9⟩; have J9 := Keep.keep (J8.out.call hb9); clear hb9))
    | ((with_reducible refine arm_storeRow (Row.new w9 25 _) aggDig2 ?_ HZE.out HZE1.out ?_ ?_ ?_); (focus rfl); (focus rfl); (focus rfl); simp only [Act.put, World.setRow_alloc_new]))
  refine calls_world (R := fun x => KJ w x g) (J9.out.alloc _) ?_
  intro w10 J10
  go_wp2_with (first
    | (go_at_call 24; ((with_reducible refine (HNS.out _).mono ?_); rintro e' w11 ⟨rfl, hb⟩; have J11 := Keep.keep (J10.out.call hb); clear hb))
    | (go_at_call 19; ((with_reducible refine (PN.out _).mono ?_); rintro e' w12 ⟨rfl, hb⟩; have J12 := Keep.keep (J11.out.call hb); clear hb))
    | ((with_reducible refine arm_storeRow (Row.new w12 25 _) aggDig2 ?_ HZE.out HZE1.out ?_ ?_ ?_); (focus rfl); (focus rfl); (focus rfl); simp only [Act.put, World.setRow_alloc_new]))
  refine calls_world (R := fun x => KJ w x g) (J12.out.alloc _) ?_
  intro w13 J13
  go_wp2_with (first
    | (go_at_call 24; ((with_reducible refine (HMS.out _).mono ?_); rintro e' w14 ⟨rfl, hb⟩; have J14 := Keep.keep (J13.out.call hb); clear hb))
    | (go_at_call 19; ((with_reducible refine (PM.out _).mono ?_); rintro e' w15 ⟨rfl, hb⟩; have J15 := Keep.keep (J14.out.call hb); clear hb))
    | ((with_reducible refine arm_storeRow (Row.new w15 25 _) aggDig2 ?_ HCD.out HCD1.out ?_ ?_ ?_); (focus rfl); (focus rfl); (focus rfl); simp only [Act.put, World.setRow_alloc_new]))
  refine calls_world (R := fun x => KK w x g w15.heap.size cd ∧ Reads x (· < x.heap.size) (.slice (some ⟨w15.heap.size + 1, 0, none⟩) 56 (cf (w15.alloc (.cells cd 25)))) [97, 98, 99, 100, 98, 99, 100, 101, 99, 100, 101, 102, 100, 101, 102, 103, 101, 102, 103, 104, 102, 103, 104, 105, 103, 104, 105, 106, 104, 105, 106, 107, 105, 106, 107, 108, 106, 107, 108, 109, 107, 108, 109, 110, 108, 109, 110, 111, 109, 110, 111, 112, 110, 111, 112, 113]) ⟨⟨((J15.out.alloc _).call (Below.refl _ _).drew).alloc _, Row.old (w := (w15.alloc (.cells cd 25)).drew) (Row.new w15 25 cd) _⟩, ?_⟩ ?_
  · have := (HCS.out (w15.alloc (.cells cd 25))).mono (N' := (· < ((w15.alloc (.cells cd 25)).drew.alloc (.cells (rf (w15.alloc (.cells cd 25))) 5 (mf (w15.alloc (.cells cd 25))))).heap.size)) (fun b hb => by subst hb; simp)
    rw [show (w15.alloc (.cells cd 25)).heap.size = w15.heap.size + 1 by simp] at this
    exact this
  intro w16 H16
  generalize hcap : cf (w15.alloc (.cells cd 25)) = cap at *
  generalize w15.heap.size = B at *
  refine (Q3.out w16 H16.out.1.j.b _ H16.out.2).mono ?_
  rintro e w17 ⟨rfl, hb⟩
  have K17 := Keep.keep (H16.out.1.call hb); clear hb
  go_wp2_with (go_at_call 21; ((with_reducible refine (N3.out _).mono ?_); rintro e' w18 ⟨rfl, hb⟩; have K18 := Keep.keep (K17.out.call hb); clear hb))
  refine (Q2.out w18 K18.out.j.b _ (K18.out.j.r.mono (fun b hb => by subst hb; exact K18.out.j.l))).mono ?_
  rintro e w19 ⟨rfl, hb⟩
  have K19 := Keep.keep (K18.out.call hb); clear hb
  go_wp2_with (go_at_call 21; ((with_reducible refine (N2.out _).mono ?_); rintro e' w20 ⟨rfl, hb⟩; have K20 := Keep.keep (K19.out.call hb); clear hb))
  refine (QA.out w20 K20.out.j.b).mono ?_
  rintro e w21 ⟨rfl, hb⟩
  have K21 := Keep.keep (K20.out.call hb); clear hb
  go_wp2_with fail
  refine (Q0.out w21 K21.out.j.b).mono ?_
  rintro e w22 ⟨rfl, hb⟩
  have K22 := Keep.keep (K21.out.call hb); clear hb
  go_wp2_with fail
  refine (QN.out w22 K22.out.j.b).mono ?_
  rintro e w23 ⟨S, rfl, hsum, hb⟩
  have K23 := Keep.keep (K22.out.call hb); clear hb
  have HSU := Keep.keep hsum; clear hsum
  go_wp2_with fail
  refine HSU.out.mono ?_
  rintro e w24 ⟨rfl, hb⟩
  have K24 := Keep.keep (K23.out.call hb); clear hb
  go_wp2_with fail
  refine (Q0.out w24 K24.out.j.b).mono ?_
  rintro e w25 ⟨rfl, hb⟩
  have K25 := Keep.keep (K24.out.call hb); clear hb
  have hc30 : w25.cell? ⟨B, 30, none⟩ = some (.int .u8 0) := K25.out.r.cell HC30.out
  have hc31 : w25.cell? ⟨B, 31, none⟩ = some (.int .u8 31) := K25.out.r.cell HC31.out
  go_wp2_with (go_at_call 12; ((with_reducible refine (wakes_any _ (HK.out _ K25.out.j.b).1 (HK.out _ K25.out.j.b).2).mono ?_); rintro e' w26 ⟨rfl, hb⟩; have K26 := Keep.keep (K25.out.call hb); clear hb))
  go_ret
  exact ⟨rfl, K26.out.j.b⟩
end Go.Proofs.YtofficleahalaaaDoor
