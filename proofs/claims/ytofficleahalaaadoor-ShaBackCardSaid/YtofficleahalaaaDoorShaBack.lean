/- ShaBack: names are one to one. -/
import Derived.Test.YtofficleahalaaaDoorShaNames
import Derived.Test.YtofficleahalaaaDoorShaBackP
namespace Go.Proofs.YtofficleahalaaaDoor
open Go.RowKit
theorem neqDig (d : List UInt8) (hd : d.length = 32) (w : World) : (binOp .neq 25 (.agg (bcells d).toArray) (.agg (bcells d).toArray)).run Tryd.prog w = .ok (.bool false) w := by
  have := run_neq_bytes (P := Tryd.prog) Tryd.underlying25 Tryd.underlying5 (by kernel_rfl) d d hd hd w
  simpa using this
theorem up_any (l : List UInt8) (hl : l.length ≤ 140737488355328) (ha : ∀ c ∈ l, c.toNat < 128) (w : World) : Calls Tryd.prog 25 #[.string ⟨l.toArray⟩] w fun e w' => e = .returned (.string ⟨(Lib.toUpperA l).toArray⟩) ∧ Below w.heap.size w w' :=
  Tryd.strings_ToUpper_ascii ⟨l.toArray⟩ w hl (fun j b h => ha b (List.mem_of_getElem? (by simpa using h)))
theorem low_any (l : List UInt8) (hl : l.length ≤ 140737488355328) (ha : ∀ c ∈ l, c.toNat < 128) (w : World) : Calls Tryd.prog 27 #[.string ⟨l.toArray⟩] w fun e w' => e = .returned (.string ⟨(Lib.toLowerA l).toArray⟩) ∧ Below w.heap.size w w' :=
  Tryd.strings_ToLower_ascii ⟨l.toArray⟩ w hl (fun j b h => ha b (List.mem_of_getElem? (by simpa using h)))
theorem trim_any (l p : List UInt8) (w : World) : Calls Tryd.prog 26 #[.string ⟨l.toArray⟩, .string ⟨p.toArray⟩] w fun e w' => e = .returned (.string ⟨(Lib.trimPrefix l p).toArray⟩) ∧ w = w' := by
  refine (Tryd.strings_TrimPrefix ⟨l.toArray⟩ ⟨p.toArray⟩ w).mono ?_
  rintro e w' ⟨rfl, rfl⟩
  exact ⟨rfl, rfl⟩
theorem cany_any (l : List UInt8) (hl : l.length < 4294967281) (ha : ∀ c ∈ l, c.toNat < 128) (w : World) : Calls Tryd.prog 28 #[.string ⟨l.toArray⟩, .string ⟨#[97, 98, 99, 100, 101, 102]⟩] w fun e w' => e = .returned (.bool (Lib.containsAny l [97, 98, 99, 100, 101, 102])) ∧ Below w.heap.size w w' :=
  Tryd.strings_ContainsAny_laid ⟨l.toArray⟩ ⟨#[97, 98, 99, 100, 101, 102]⟩ w hl (by decide) (fun j b h => ha b (List.mem_of_getElem? (by simpa using h))) (by
    intro j b h
    have h2 : b ∈ ([97, 98, 99, 100, 101, 102] : List UInt8) := List.mem_of_getElem? (by simpa using h)
    clear h; revert h2; revert b; decide)
set_option maxHeartbeats 2000000 in
set_option maxRecDepth 100000 in
theorem back_any (d l : List UInt8) (hd : d.length = 32) (hl : l.length ≤ 9223372036854775807) (w : World) (hK : Consts w) (hH : Begins w) :
    Calls Tryd.prog 7 #[.agg (bcells d).toArray, .string ⟨l.toArray⟩] w fun e w' => e = .returned (.bool true) ∧ Below w.heap.size w w' := by
  have hnl : (nameOf d).length = 71 := by rw [nameOf_length, hd]
  have hnl2 : (nameOf d).length ≤ 140737488355328 := by omega
  have NA := Keep.keep (name_any d hd)
  have hlen : min (l.length : Int) 100 = ((min l.length 100 : Nat) : Int) := by omega
  have hkl : min l.length 100 ≤ l.length := by omega
  have hex := extK l (min l.length 100)
  have P5 := parse_any (l.take (min l.length 100)) (by simp; omega)
  have N5 := name_any (parseD (l.take (min l.length 100))) (parseD_length _)
  have C5 := parse_cases (l.take (min l.length 100))
  have S5 : (bcells (parseD (l.take (min l.length 100)))).toArray.size = 32 := by simp [bcells, parseD_length]
  have O5 := all_oneCell_toArray (bcells_one (parseD (l.take (min l.length 100))))
  have hqz := run_eql_bytes (P := Tryd.prog) Tryd.underlying25 Tryd.underlying5 (by kernel_rfl) (List.replicate 32 0) (List.replicate 32 0) rfl rfl
  rw [show (List.replicate 32 (0 : UInt8) == List.replicate 32 0) = true from rfl] at hqz
  have hlit : (bcells (List.replicate 32 0)).toArray = #[Value.int .u8 0, Value.int .u8 0, Value.int .u8 0, Value.int .u8 0, Value.int .u8 0, Value.int .u8 0, Value.int .u8 0, Value.int .u8 0, Value.int .u8 0, Value.int .u8 0, Value.int .u8 0, Value.int .u8 0, Value.int .u8 0, Value.int .u8 0, Value.int .u8 0, Value.int .u8 0, Value.int .u8 0, Value.int .u8 0, Value.int .u8 0, Value.int .u8 0, Value.int .u8 0, Value.int .u8 0, Value.int .u8 0, Value.int .u8 0, Value.int .u8 0, Value.int .u8 0, Value.int .u8 0, Value.int .u8 0, Value.int .u8 0, Value.int .u8 0, Value.int .u8 0, Value.int .u8 0] := rfl
  rw [hlit] at hqz
  have HQZ := Keep.keep hqz; have HLIT := Keep.keep hlit; clear hqz hlit
  have HP5 := Keep.keep P5; have HN5 := Keep.keep N5; have HC5 := Keep.keep C5; have HS5 := Keep.keep S5; have HO5 := Keep.keep O5
  clear P5 N5 C5 S5 O5
  generalize l.take (min l.length 100) = t at *
  generalize min l.length 100 = k at *
  have P1 := parse_any (nameOf d) hnl2
  rw [(parse_name d hd).1, (parse_name d hd).2] at P1
  have P2 := parse_any (nameOf d ++ [48]) (by simp; omega)
  rw [(parse_long _ (by simp [hnl])).1, (parse_long _ (by simp [hnl])).2] at P2
  have P3 := parse_any ((nameOf d).take 70) (by simp; omega)
  rw [(parse_long _ (by simp [hnl])).1, (parse_long _ (by simp [hnl])).2] at P3
  have P4 := parse_any (upName d) (by rw [upName_eq]; simp [pre7, Lib.toUpperA, hexes_length, hd])
  have U1 := up_any (nameOf d) hnl2 (ascii_name d)
  have L1 := low_any (nameOf d) hnl2 (ascii_name d)
  rw [low_name] at L1
  have T1 := trim_any (Lib.toUpperA (nameOf d)) [83, 72, 65, 50, 53, 54, 58]
  have CA := cany_any (hexes d) (by rw [hexes_length, hd]; decide) (fun c hc => by obtain ⟨n, hn, rfl⟩ := mem_hexes d c hc; exact ascii_hex n hn)
  have c1 := run_cat (P := Tryd.prog) (nameOf d) [48] (by rw [hnl]; decide)
  have c2 := run_cat (P := Tryd.prog) [115, 104, 97, 50, 53, 54, 58] (Lib.trimPrefix (Lib.toUpperA (nameOf d)) [83, 72, 65, 50, 53, 54, 58]) (by
    have := upName_eq d
    have h2 := congrArg List.length this
    simp only [upName, List.length_append, pre7, Lib.toUpperA, List.length_map, hexes_length, hd, List.length_cons, List.length_nil] at h2 ⊢; omega)
  rw [show [115, 104, 97, 50, 53, 54, 58] ++ Lib.trimPrefix (Lib.toUpperA (nameOf d)) [83, 72, 65, 50, 53, 54, 58] = upName d from rfl] at c2
  have x70 := extK (nameOf d) 70
  have hmax : max (70 : Int) 0 = 70 := by decide
  have UP := up_parse d hd
  have DR := nameOf_drop d
  have hneq := neqDig d hd
  have HP1 := Keep.keep P1; have HP2 := Keep.keep P2; have HP3 := Keep.keep P3; have HP4 := Keep.keep P4
  have HU := Keep.keep U1; have HL := Keep.keep L1; have HT := Keep.keep T1; have HC := Keep.keep CA
  have HUP := Keep.keep UP; have HDR := Keep.keep DR
  have x7 : ByteArray.extract ⟨(nameOf d).toArray⟩ 7 71 = ⟨(hexes d).toArray⟩ := by
    apply ByteArray.ext; apply Array.ext'
    rw [Lib.extract_data, ← DR, ← hnl]
    show List.take _ (List.drop 7 (nameOf d)) = List.drop 7 (nameOf d)
    exact List.take_of_length_le (by simp)
  have hmin : min (7 : Int) 71 = 7 := by decide
  have hcd : (bcells d).toArray.size = 32 := by simp [bcells, hd]
  have hcz : (bcells (List.replicate 32 0)).toArray.size = 32 := zeros_cells
  have hpu : (bcells (parseD (upName d))).toArray.size = 32 := by simp [bcells, parseD_length]
  have o1 := all_oneCell_toArray (bcells_one d)
  have o2 := all_oneCell_toArray (bcells_one (List.replicate 32 0))
  have o3 := all_oneCell_toArray (bcells_one (parseD (upName d)))
  have SD := Keep.keep hcd; have SZ := Keep.keep hcz; have SU := Keep.keep hpu; have OD := Keep.keep o1; have OZ := Keep.keep o2; have OU := Keep.keep o3
  have HK := Keep.keep (fun w' => konst (w' := w') hK hH)
  clear P1 P2 P3 P4 U1 L1 T1 CA UP DR hcd hcz hpu o1 o2 o3 hK hH hnl2
  generalize hexes d = hx at *
  generalize parseE (upName d) = ue at *
  generalize (bcells (parseD (upName d))).toArray = cu at *
  generalize upName d = un at *
  generalize Lib.trimPrefix (Lib.toUpperA (nameOf d)) [83, 72, 65, 50, 53, 54, 58] = tr at *
  generalize Lib.toUpperA (nameOf d) = tu at *
  generalize (bcells d).toArray = cd at *
  generalize nameOf d = nm at *
  have c1' := Keep.keep c1
  go_enter Tryd.func7, Tryd.ntmps7
  go_wp2_with (with_reducible refine arm_stopL ?_)
  refine Stopped.out ?_
  refine wpList_world (R := fun w2 => Hp NoM w w2 [rowA w.heap.size 24 cd]) ((Hp.begin _ w).newRow _ _) ?_
  intro w1 H1
  refine arm_loadRow (H1.out.row 0 rfl) aggA32 SD.out rfl ?_
  simp only [Act.put, List.setIfInBounds_toArray, List.set_cons_succ, List.set_cons_zero]
  go_wp2_with fail
  refine (NA.out w1).mono ?_
  rintro e w2 ⟨rfl, hb2⟩
  have H2 := Keep.keep (H1.out.call hb2); clear hb2
  go_wp2_with fail
  refine (HP1.out w2).mono ?_
  rintro e w3 ⟨rfl, hb3⟩
  have H3 := Keep.keep (H2.out.call hb3); clear hb3
  go_wp2_with (first | ((with_reducible refine arm_storeRow (Row.new w3 25 _) aggDig2 ?_ SD.out OD.out ?_ ?_ ?_); (focus rfl); (focus rfl); (focus rfl); simp only [Act.put, World.setRow_alloc_new]))
  refine calls_world (R := fun w4 => Hp NoM w w4 [rowA w.heap.size 24 cd, rowA w3.heap.size 25 cd]) (H3.out.newRow _ _) ?_
  intro w4 H4
  generalize w3.heap.size = B3 at *
  refine (HP2.out w4).mono ?_
  rintro e w5 ⟨rfl, hb5⟩
  have H5 := Keep.keep (H4.out.call hb5); clear hb5
  generalize (bcells (List.replicate 32 0)).toArray = cz at *
  go_wp2_with (first | ((with_reducible refine arm_storeRow (Row.new w5 25 _) aggDig2 ?_ SZ.out OZ.out ?_ ?_ ?_); (focus rfl); (focus rfl); (focus rfl); simp only [Act.put, World.setRow_alloc_new]))
  refine calls_world (R := fun w4 => Hp NoM w w4 [rowA w.heap.size 24 cd, rowA B3 25 cd]) (H5.out.alloc _) ?_
  intro w6 H6
  refine (HP3.out w6).mono ?_
  rintro e w7 ⟨rfl, hb7⟩
  have H7 := Keep.keep (H6.out.call hb7); clear hb7
  go_wp2_with (first | ((with_reducible refine arm_storeRow (Row.new w7 25 _) aggDig2 ?_ SZ.out OZ.out ?_ ?_ ?_); (focus rfl); (focus rfl); (focus rfl); simp only [Act.put, World.setRow_alloc_new]))
  refine calls_world (R := fun w4 => Hp NoM w w4 [rowA w.heap.size 24 cd, rowA B3 25 cd]) (H7.out.alloc _) ?_
  intro w8 H8
  refine (HU.out w8).mono ?_
  rintro e w9 ⟨rfl, hb9⟩
  have H9 := Keep.keep (H8.out.call hb9); clear hb9
  go_wp2_with fail
  refine (HT.out w9).mono ?_
  rintro e w9' ⟨rfl, rfl⟩
  go_wp2_with fail
  refine (HP4.out w9).mono ?_
  rintro e w10 ⟨rfl, hb10⟩
  have H10 := Keep.keep (H9.out.call hb10); clear hb10
  generalize hcb : Lib.containsAny hx [97, 98, 99, 100, 101, 102] = cb at *
  have hue : (ue == 0) = !cb := HUP.out
  have H11 := Keep.keep (H10.out.newRow 25 cu)
  have R0 := Keep.keep (H11.out.row 0 rfl); have R1 := Keep.keep (H11.out.row 1 rfl)
  clear hcb
  cases cb
  all_goals
    simp only [Bool.not_true, Bool.not_false] at hue
    go_wp2_with (first | ((with_reducible refine arm_storeRow (Row.new w10 25 _) aggDig2 ?_ SU.out OU.out ?_ ?_ ?_); (focus rfl); (focus rfl); (focus rfl); simp only [Act.put, World.setRow_alloc_new]) | ((with_reducible refine arm_loadRowG ?_ R1.out aggDig2 SD.out ?_ ?_); (focus rfl); (focus rfl); simp only [Act.put, List.setIfInBounds_toArray, List.set_cons_succ, List.set_cons_zero]) | ((with_reducible refine arm_loadRowG ?_ R0.out aggA32 SD.out ?_ ?_); (focus rfl); (focus rfl); simp only [Act.put, List.setIfInBounds_toArray, List.set_cons_succ, List.set_cons_zero]))
    refine (HL.out _).mono ?_
    rintro e w12 ⟨rfl, hb12⟩
    have H12 := Keep.keep (H11.out.call hb12); clear hb12
    go_wp2_with fail
    refine (HC.out w12).mono ?_
    rintro e w13 ⟨rfl, hb13⟩
    have H13 := Keep.keep (H12.out.call hb13); clear hb13
    go_wp2_with fail
    refine (HP5.out w13).mono ?_
    rintro e w14 ⟨rfl, hb14⟩
    have H14 := Keep.keep (H13.out.call hb14); clear hb14
    rcases HC5.out with ⟨hz, hn⟩ | ⟨hz, hn⟩
    · rw [hz]
      have HN := Keep.keep hn; clear hz hn
      generalize hct : (bcells (parseD t)).toArray = ct at *
      go_wp2_with (first | ((with_reducible refine arm_storeRow (Row.new w14 25 _) aggDig2 ?_ HS5.out HO5.out ?_ ?_ ?_); (focus rfl); (focus rfl); (focus rfl); simp only [Act.put, World.setRow_alloc_new]) | ((with_reducible refine arm_stopLG ?_ ?_); (focus rfl)))
      refine StoppedG.out ?_
      refine wpList_world (R := fun w4 => Hp NoM w w4 [rowA w.heap.size 24 cd, rowA B3 25 cd, rowA w10.heap.size 25 cu, rowA w14.heap.size 25 ct]) (H14.out.newRow _ _) ?_
      intro w15 H15
      generalize w14.heap.size = B14 at *
      refine arm_loadRowG rfl (H15.out.row 3 rfl) aggDig2 HS5.out rfl ?_
      simp only [Act.put, List.setIfInBounds_toArray, List.set_cons_succ, List.set_cons_zero]
      go_wp2_with fail
      refine (HN5.out w15).mono ?_
      rintro e w16 ⟨rfl, hb16⟩
      rw [HN.out]
      have H16 := Keep.keep (H15.out.call hb16).below; clear hb16
      go_wp2_with fail
      refine (wakes_any w16 (HK.out w16 H16.out).1 (HK.out w16 H16.out).2).mono ?_
      rintro e w17 ⟨rfl, hb17⟩
      have H17 := Keep.keep (H16.out.trans (hb17.mono H16.out.size)); clear hb17
      go_wp2_with fail
      go_ret
      exact ⟨rfl, H17.out⟩
    · rw [hz, hn]
      have hq : ∀ w, (binOp .eql 25 (.agg (bcells (List.replicate 32 0)).toArray) (.agg #[Value.int .u8 0, Value.int .u8 0, Value.int .u8 0, Value.int .u8 0, Value.int .u8 0, Value.int .u8 0, Value.int .u8 0, Value.int .u8 0, Value.int .u8 0, Value.int .u8 0, Value.int .u8 0, Value.int .u8 0, Value.int .u8 0, Value.int .u8 0, Value.int .u8 0, Value.int .u8 0, Value.int .u8 0, Value.int .u8 0, Value.int .u8 0, Value.int .u8 0, Value.int .u8 0, Value.int .u8 0, Value.int .u8 0, Value.int .u8 0, Value.int .u8 0, Value.int .u8 0, Value.int .u8 0, Value.int .u8 0, Value.int .u8 0, Value.int .u8 0, Value.int .u8 0, Value.int .u8 0])).run Tryd.prog w = .ok (.bool true) w := HQZ.out
      have HS6 := Keep.keep zeros_cells
      have HO6 := Keep.keep (all_oneCell_toArray (bcells_one (List.replicate 32 0)))
      clear hz hn
      generalize (bcells (List.replicate 32 0)).toArray = c0 at *
      go_wp2_with (first | ((with_reducible refine arm_storeRow (Row.new w14 25 _) aggDig2 ?_ HS6.out HO6.out ?_ ?_ ?_); (focus rfl); (focus rfl); (focus rfl); simp only [Act.put, World.setRow_alloc_new]) | ((with_reducible refine arm_stopLG ?_ ?_); (focus rfl)))
      refine StoppedG.out ?_
      refine wpList_world (R := fun w4 => Hp NoM w w4 [rowA w.heap.size 24 cd, rowA B3 25 cd, rowA w10.heap.size 25 cu, rowA w14.heap.size 25 c0]) (H14.out.newRow _ _) ?_
      intro w15 H15
      generalize w14.heap.size = B14 at *
      refine arm_loadRowG rfl (H15.out.row 3 rfl) aggDig2 HS6.out rfl ?_
      simp only [Act.put, List.setIfInBounds_toArray, List.set_cons_succ, List.set_cons_zero]
      go_wp2_with fail
      refine (wakes_any w15 (HK.out w15 H15.out.below).1 (HK.out w15 H15.out.below).2).mono ?_
      rintro e w17 ⟨rfl, hb17⟩
      have H17 := Keep.keep (H15.out.call hb17).below; clear hb17
      go_wp2_with fail
      go_ret
      exact ⟨rfl, H17.out⟩
end Go.Proofs.YtofficleahalaaaDoor
