/- FieldKnown: examples; ends; none. -/
import Derived.Test.YtohballfhhndbaaDoorFldNil
import Derived.Test.YtohballfhhndbaaDoorMk
namespace Go.Proofs.YtohballfhhndbaaDoor
open Go.RowKit
theorem fk_o1 : octS 1 1 = ([], 1) := by decide +kernel
theorem fk_o2 : octS 1 21 = ([], 1) := by decide +kernel
theorem fk_o3 : octS (-1) 8 = ([], 3) := by decide +kernel
theorem fk_o4 : octS 8 2 = ([], 3) := by decide +kernel
theorem fk_o5 : octS 7 2 = ([55, 0], 0) := by decide +kernel
theorem fk_w1 : wideS 1 1 = ([], 1) := by decide +kernel
theorem fk_w2 : wideS 16384 2 = ([], 3) := by decide +kernel
theorem fk_w3 : wideS (-16384) 2 = ([192, 0], 0) := by decide +kernel
theorem fk_w4 : wideS (-9223372036854775808) 20 = (255 :: List.replicate 11 255 ++ [128, 0, 0, 0, 0, 0, 0, 0], 0) := by decide +kernel
theorem fk_n1 : numS (255 :: List.replicate 11 255 ++ [128, 0, 0, 0, 0, 0, 0, 0]) = (-9223372036854775808, 0) := by decide +kernel
theorem fk_n2 : numS ([129] ++ List.replicate 19 0) = (0, 3) := by decide +kernel
theorem fk_n3 : numS [] = (0, 1) := by decide +kernel
theorem fk_n4 : numS (List.replicate 21 0) = (0, 1) := by decide +kernel
theorem fk_n5 : numS [255] = (-1, 0) := by decide +kernel
theorem fk_n6 : numS [55, 32, 56] = (7, 0) := by decide +kernel
theorem fk_n7 : numS [55, 56] = (0, 5) := by decide +kernel
theorem fk_n8 : numS [0] = (0, 0) := by decide +kernel
theorem fk_t1 : textS [97, 98, 99] 2 = ([], 3) := by decide +kernel
theorem fk_s1 : cstr [97, 0, 98] = [97] := by decide +kernel
theorem fk_c1 : checkS (List.replicate 512 0) = 5 := by decide +kernel
theorem fk_u1 : sumS (List.replicate 512 0) = 256 := by decide +kernel
theorem fk_len : (List.replicate 512 (0 : UInt8)).length = 512 := List.length_replicate
theorem fk_z : (!(List.replicate 512 (0 : UInt8)).any (· != 0)) = true := by decide +kernel
set_option maxHeartbeats 8000000 in
set_option maxRecDepth 100000 in
theorem fknown_any (B : Nat) (w : World) (hF : Flds B w) (hT : Tz B w) (hB : B ≤ w.heap.size) :
    Calls Tryd.prog 9 #[] w fun e w' => e = .returned (.bool true) ∧ Below w.heap.size w w' := by
  have HF := Keep.keep hF; have HT := Keep.keep hT; have HB := Keep.keep hB
  have HPN := Keep.keep (fun (s : List UInt8) (hs : s.length ≤ 1000) wx (h : Below w.heap.size w wx) => part_nil s hs B wx (hF.on (h.mono hB)))
  have HSE := Keep.keep (fun wx (h : Below w.heap.size w wx) => seal_nil B wx (hF.on (h.mono hB)) (hT.on (h.mono hB)) (Nat.le_trans hB h.size))
  have HOC := Keep.keep (fun n many l er hs h0 h1 wx (h : Below w.heap.size w wx) => oct_k n many l er hs h0 h1 B wx (Nat.le_trans hB h.size) (hT.on (h.mono hB)))
  have HWK := Keep.keep (fun wx (h : Below w.heap.size w wx) => wakes_any B wx (Nat.le_trans hB h.size) (hT.on (h.mono hB)))
  have kc := convB
  have HZ0 : Keep (Tryd.zeroCells37 = (bcells (List.replicate 512 0)).toArray) := ⟨by kernel_rfl⟩
  clear hF hT hB
  go_enter Tryd.func9, Tryd.ntmps9
  go_wp2_with fail
  refine (field_none (.pointer none) [110, 97, 109, 101] _ ⟨HPN.out [110, 97, 109, 101] (by decide) _ (Below.refl _ _)⟩).mono ?_
  rintro e w1 ⟨v, rfl, ho, hb1⟩
  obtain ⟨a1, c1, rfl, -⟩ := ho.reads.shape
  have H1 : Keep (Hp NoM w w1 []) := ⟨(Hp.begin NoM w).call hb1⟩
  clear ho hb1
  go_wp2_with fail
  refine calls_at (R := fun wq => Hp NoM w wq []) (H1.out.alloc _) ?_
  intro w2 H2
  refine (set_none (.pointer none) _ [116, 121, 112, 101] _ ⟨HPN.out [116, 121, 112, 101] (by decide) _ H2.out.below⟩).mono ?_
  rintro e w3 ⟨rfl, hb3⟩
  have H3 := Keep.keep (H2.out.call hb3)
  clear hb3
  go_wp2_with fail
  refine (sum_nil _).mono ?_
  rintro e w3' ⟨rfl, rfl⟩
  go_wp2_with fail
  refine (check_nil _).mono ?_
  rintro e w3' ⟨rfl, rfl⟩
  go_wp2_with fail
  refine (zero_nil _).mono ?_
  rintro e w3' ⟨rfl, rfl⟩
  go_wp2_with fail
  refine (HSE.out _ H3.out.below).mono ?_
  rintro e w4 ⟨rfl, hb4⟩
  have H4 := Keep.keep (H3.out.call hb4)
  clear hb4 H1 H2 H3
  go_wp2_with fail
  refine (HOC.out 1 1 _ _ fk_o1 (by decide) (by decide) _ H4.out.below).mono ?_
  rintro e w5 ⟨a5, c5, rfl, -, hb⟩
  have H5 := Keep.keep (H4.out.call hb)
  clear hb H4
  go_wp2_with fail
  refine (HOC.out 1 21 _ _ fk_o2 (by decide) (by decide) _ H5.out.below).mono ?_
  rintro e w6 ⟨a6, c6, rfl, -, hb⟩
  have H6 := Keep.keep (H5.out.call hb)
  clear hb H5
  go_wp2_with fail
  refine (HOC.out (-1) 8 _ _ fk_o3 (by decide) (by decide) _ H6.out.below).mono ?_
  rintro e w7 ⟨a7, c7, rfl, -, hb⟩
  have H7 := Keep.keep (H6.out.call hb)
  clear hb H6
  go_wp2_with fail
  refine (HOC.out 8 2 _ _ fk_o4 (by decide) (by decide) _ H7.out.below).mono ?_
  rintro e w8 ⟨a8, c8, rfl, -, hb⟩
  have H8 := Keep.keep (H7.out.call hb)
  clear hb H7
  go_wp2_with fail
  refine (HOC.out 7 2 _ _ fk_o5 (by decide) (by decide) _ H8.out.below).mono ?_
  rintro e w9 ⟨a9, c9, rfl, hr, hb⟩
  have H9 := Keep.keep (H8.out.pushRd hr hb)
  clear hr hb H8
  go_wp2_with fail
  refine (wide_k 1 1 _ _ fk_w1 (by decide) (by decide) _).mono ?_
  rintro e w10 ⟨a10, c10, rfl, -, hb⟩
  have H10 := Keep.keep (H9.out.call hb)
  clear hb H9
  go_wp2_with fail
  refine (wide_k 16384 2 _ _ fk_w2 (by decide) (by decide) _).mono ?_
  rintro e w11 ⟨a11, c11, rfl, -, hb⟩
  have H11 := Keep.keep (H10.out.call hb)
  clear hb H10
  go_wp2_with fail
  refine (wide_k (-16384) 2 _ _ fk_w3 (by decide) (by decide) _).mono ?_
  rintro e w12 ⟨a12, c12, rfl, hr, hb⟩
  have H12 := Keep.keep (H11.out.pushRd hr hb)
  clear hr hb H11
  go_wp2_with fail
  refine (wide_k (-9223372036854775808) 20 _ _ fk_w4 (by decide) (by decide) _).mono ?_
  rintro e w13 ⟨a13, c13, rfl, hr, hb⟩
  have H13 := Keep.keep (H12.out.pushRd hr hb)
  clear hr hb H12
  go_wp2_with fail
  refine (num_k _ (255 :: List.replicate 11 255 ++ [128, 0, 0, 0, 0, 0, 0, 0]) _ _ fk_n1 _ (H13.out.rdAt 2 rfl) (by decide)).mono ?_
  rintro e wz ⟨rfl, rfl⟩
  go_wp2_with (with_reducible refine arm_stop ?_)
  refine Stopped.out ?_
  obtain ⟨ti, i1, i2, i3, i4⟩ := (SlTy.mk' (P := Tryd.prog) (t := 22) (e := 5) (z := .int .u8 0) (bytes := 1) Tryd.underlying22 (by kernel_rfl) rfl).i
  have hr1 : Row (w13.alloc (.cells #[.int .u8 (((129 : UInt8).toNat : Nat) : Int)] 5)) w13.heap.size 5 (bcells [129]).toArray := Row.new _ _ _
  refine arm_appGZ (l := [129]) (k := 19) Tryd.underlying22 Tryd.underlying3 i1 i2 i3 i4 hr1 (by decide) (by decide) rfl rfl ?_
  intro v' w14 hr hb
  have HR := Keep.keep (hr.mono (N' := (· < w14.heap.size)) (fun b hb => hb.2))
  have H14 := Keep.keep ((H13.out.alloc _).call hb)
  obtain ⟨a', c', hv', -⟩ := hr.shape
  have hv' : v' = .slice a' 20 c' := hv'
  subst hv'
  clear hr hb hr1 H13
  simp only [Act.put, List.setIfInBounds_toArray, List.set_cons_succ, List.set_cons_zero]
  go_wp2_with fail
  refine (num_k _ ([129] ++ List.replicate 19 0) _ _ fk_n2 _ (HR.out) (by decide)).mono ?_
  rintro e wz ⟨rfl, rfl⟩
  go_wp2_with fail
  refine (num_k _ [] _ _ fk_n3 _ (Reads.ofNil) (by decide)).mono ?_
  rintro e wz ⟨rfl, rfl⟩
  have hmk := mkS (P := Tryd.prog) (T := 22) (e := 5) (z := .int .u8 0) (b := 1) Tryd.underlying22 (by kernel_rfl) rfl (by decide) 21 21 rfl (by decide)
  go_wp2_with fail
  refine calls_at (R := fun wq => Hp NoM w wq _ ∧ Reads wq (· < wq.heap.size) (.slice (some ⟨w14.heap.size, 0, none⟩) 21 21) (List.replicate 21 0)) ⟨H14.out.alloc _, (Reads.lit _ _ (List.replicate 21 0) _ _ _ rfl rfl rfl (by decide)).mono (fun b hb => by subst hb; simp)⟩ ?_
  intro w15 H
  have H15 := Keep.keep H.out.1
  refine (num_k _ (List.replicate 21 0) _ _ fk_n4 _ (H.out.2) (by decide)).mono ?_
  rintro e wz ⟨rfl, rfl⟩
  clear H H14 hmk HR
  go_wp2_with fail
  refine calls_at (R := fun wq => Hp NoM w wq _ ∧ Reads wq (· < wq.heap.size) (.slice (some ⟨w15.heap.size, 0, none⟩) 1 1) [255]) ⟨H15.out.alloc _, (Reads.lit _ _ [255] _ _ _ rfl rfl rfl (by decide)).mono (fun b hb => by subst hb; simp)⟩ ?_
  intro w16 H
  have H16 := Keep.keep H.out.1
  refine (num_k _ [255] _ _ fk_n5 _ (H.out.2) (by decide)).mono ?_
  rintro e wz ⟨rfl, rfl⟩
  clear H H15
  go_wp2_with fail
  refine calls_at (R := fun wq => Hp NoM w wq _ ∧ Reads wq (· < wq.heap.size) (.slice (some ⟨w16.heap.size, 0, none⟩) 3 3) [55, 32, 56]) ⟨H16.out.alloc _, (Reads.lit _ _ [55, 32, 56] _ _ _ rfl rfl rfl (by decide)).mono (fun b hb => by subst hb; simp)⟩ ?_
  intro w17 H
  have H17 := Keep.keep H.out.1
  refine (num_k _ [55, 32, 56] _ _ fk_n6 _ (H.out.2) (by decide)).mono ?_
  rintro e wz ⟨rfl, rfl⟩
  clear H H16
  go_wp2_with fail
  refine calls_at (R := fun wq => Hp NoM w wq _ ∧ Reads wq (· < wq.heap.size) (.slice (some ⟨w17.heap.size, 0, none⟩) 2 2) [55, 56]) ⟨H17.out.alloc _, (Reads.lit _ _ [55, 56] _ _ _ rfl rfl rfl (by decide)).mono (fun b hb => by subst hb; simp)⟩ ?_
  intro w18 H
  have H18 := Keep.keep H.out.1
  refine (num_k _ [55, 56] _ _ fk_n7 _ (H.out.2) (by decide)).mono ?_
  rintro e wz ⟨rfl, rfl⟩
  clear H H17
  go_wp2_with fail
  refine calls_at (R := fun wq => Hp NoM w wq _ ∧ Reads wq (· < wq.heap.size) (.slice (some ⟨w18.heap.size, 0, none⟩) 1 1) [0]) ⟨H18.out.alloc _, (Reads.lit _ _ [0] _ _ _ rfl rfl rfl (by decide)).mono (fun b hb => by subst hb; simp)⟩ ?_
  intro w19 H
  have H19 := Keep.keep H.out.1
  refine (num_k _ [0] _ _ fk_n8 _ (H.out.2) (by decide)).mono ?_
  rintro e wz ⟨rfl, rfl⟩
  clear H H18
  go_wp2_with fail
  refine (text_k [97, 98, 99] 2 _ _ fk_t1 (by decide) _).mono ?_
  rintro e w20 ⟨a20, c20, rfl, -, hb⟩
  have H20 := Keep.keep (H19.out.call hb)
  clear hb H19
  go_upto_region 25 with fail
  simp only [List.append_eq, List.cons_append, List.nil_append]
  refine wp_world (R := fun wq => Hp NoM w wq _) (H20.out.newRow' _ _ _ _ rfl HZ0.out.symm) ?_
  intro w21 H21
  obtain ⟨S, hS⟩ : ∃ S, w20.heap.size = S := ⟨_, rfl⟩
  rw [hS] at H21 ⊢
  have hcv : ∀ a c, a = a9 → c = c9 → (convert 22 9 (.slice a 2 c)).run Tryd.prog w21 = .ok (.string ⟨#[55, 0]⟩) w21 := fun a c ha hc => by subst ha hc; exact run_string_of (H21.out.rdAt 0 rfl)
  have hcv := hcv a9 c9 rfl rfl
  clear hS H20
  go_wp2_with fail
  refine calls_at (R := fun wq => Hp NoM w wq _ ∧ Reads wq (· < wq.heap.size) (.slice (some ⟨w21.heap.size, 0, none⟩) 2 2) [192, 0]) ⟨H21.out.alloc _, (Reads.lit _ _ [192, 0] _ _ _ rfl rfl rfl (by decide)).mono (fun b hb => by subst hb; simp)⟩ ?_
  intro w22 H
  have H22 := Keep.keep H.out.1
  refine (equal_any _ _ _ _ _ _ _ (H22.out.rdAt 1 rfl) H.out.2).mono ?_
  rintro e wz ⟨rfl, rfl⟩
  clear H H21 hcv
  go_wp2_with fail
  refine (zero_any S 37 _ fk_len _ (H22.out.row 3 rfl)).mono ?_
  rw [fk_z]
  rintro e wz ⟨rfl, rfl⟩
  go_wp2_with fail
  refine (check_any S 37 _ fk_len B _ (HF.out.on (H22.out.below.mono HB.out)) (Nat.le_trans HB.out H22.out.size) (H22.out.row 3 rfl)).mono ?_
  rw [fk_c1]
  rintro e w23 ⟨rfl, hb⟩
  have H23 := Keep.keep (H22.out.call hb)
  clear hb H22
  go_wp2_with fail
  refine (sum_any S 37 _ fk_len B _ (HF.out.on (H23.out.below.mono HB.out)) (Nat.le_trans HB.out H23.out.size) (H23.out.row 3 rfl)).mono ?_
  rw [fk_u1]
  rintro e w24 ⟨rfl, hb⟩
  have H24 := Keep.keep (H23.out.call hb)
  clear hb H23
  go_wp2_with fail
  refine calls_at (R := fun wq => Hp NoM w wq _ ∧ Reads wq (· < wq.heap.size) (.slice (some ⟨w24.heap.size, 0, none⟩) 3 3) [97, 0, 98]) ⟨H24.out.alloc _, (Reads.lit _ _ [97, 0, 98] _ _ _ rfl rfl rfl (by decide)).mono (fun b hb => by subst hb; simp)⟩ ?_
  intro w25 H
  have H25 := Keep.keep H.out.1
  refine (strf_any _ [97, 0, 98] _ _ H.out.2 (by decide)).mono ?_
  rw [fk_s1]
  rintro e w26 ⟨rfl, hb⟩
  have H26 := Keep.keep (H25.out.call hb)
  clear H hb H24 H25
  go_wp2_with fail
  refine (HWK.out _ H26.out.below).mono ?_
  rintro e w27 ⟨rfl, hb⟩
  have HE := Keep.keep (H26.out.call hb).below
  clear hb
  go_wp2_with fail
  go_ret
  exact ⟨rfl, HE.out⟩
end Go.Proofs.YtohballfhhndbaaDoor
