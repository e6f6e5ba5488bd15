/- ShaNames: names of digests, and digests of texts, are the document's. -/
import Derived.Test.YtofficleahalaaaDoorShaSums
import Derived.Test.YtofficleahalaaaDoorShaRParse
import Derived.Test.YtofficleahalaaaDoorQCls
namespace Go.Proofs.YtofficleahalaaaDoor
open Go.RowKit
theorem extK (l : List UInt8) (k : Nat) : ByteArray.extract ⟨l.toArray⟩ 0 k = ⟨(l.take k).toArray⟩ := by
  apply ByteArray.ext
  apply Array.ext'
  rw [Lib.extract_data]; simp
set_option maxHeartbeats 1000000 in
set_option maxRecDepth 100000 in
theorem names_any (d l : List UInt8) (hd : d.length = 32) (hl : l.length ≤ 9223372036854775807) (w : World) (hK : Consts w) (hH : Begins w) :
    Calls Tryd.prog 5 #[.agg (bcells d).toArray, .string ⟨l.toArray⟩] w fun e w' => e = .returned (.bool true) ∧ Below w.heap.size w w' := by
  have hlen : min (l.length : Int) 100 = ((min l.length 100 : Nat) : Int) := by omega
  have hk : min l.length 100 ≤ l.length := by omega
  have hex := extK l (min l.length 100)
  have hsm : (l.take (min l.length 100)).length ≤ 140737488355328 := by simp; omega
  have HP := Keep.keep (parse_any (l.take (min l.length 100)) hsm)
  have HRP := Keep.keep (rparse_any (l.take (min l.length 100)) hsm)
  have hdl := parseD_length (l.take (min l.length 100))
  have hln := hl
  clear hsm
  generalize parseE (l.take (min l.length 100)) = pe at *
  generalize parseD (l.take (min l.length 100)) = pd at *
  generalize l.take (min l.length 100) = t at *
  have heq := eqDig pd hdl
  have hsz : (bcells pd).toArray.size = 32 := by simp [bcells, hdl]
  have h1c := all_oneCell_toArray (bcells_one pd)
  have hszd : (bcells d).toArray.size = 32 := by simp [bcells, hd]
  have HNA := Keep.keep (name_any d hd); have HRN := Keep.keep (rname_any d hd)
  have HSZ := Keep.keep hsz; have H1C := Keep.keep h1c; have HSZD := Keep.keep hszd
  have HK := Keep.keep (fun w' => konst (w' := w') hK hH)
  clear hsz h1c hszd hK hH hdl
  generalize (bcells pd).toArray = cp at *
  generalize (bcells d).toArray = cd at *
  generalize min l.length 100 = k at *
  generalize nameOf d = nm at *
  go_enter Tryd.func5, Tryd.ntmps5
  go_wp2_with fail
  refine calls_world (R := fun w2 => Hp NoM w w2 [rowA w.heap.size 24 cd]) ((Hp.begin _ w).newRow _ _) ?_
  intro w1 H1
  refine (HP.out w1).mono ?_
  rintro e w2 ⟨rfl, hb2⟩
  have H2 := Keep.keep (H1.out.call hb2); clear hb2
  go_wp2_with (first | ((with_reducible refine arm_storeRow (Row.new w2 25 _) aggDig2 ?_ HSZ.out H1C.out ?_ ?_ ?_); (focus rfl); (focus rfl); (focus rfl); simp only [Act.put, World.setRow_alloc_new]))
  refine calls_world (R := fun w3 => Hp NoM w w3 [rowA w.heap.size 24 cd, rowA w2.heap.size 25 cp]) (H2.out.newRow _ _) ?_
  intro w3 H3
  generalize w2.heap.size = B2 at *
  refine (HRP.out w3).mono ?_
  rintro e w4 ⟨rfl, hb4⟩
  have H4 := Keep.keep (H3.out.call hb4); clear hb4
  go_wp2_with (first | ((with_reducible refine arm_storeRow (Row.new w4 24 _) aggA32 ?_ HSZ.out H1C.out ?_ ?_ ?_); (focus rfl); (focus rfl); (focus rfl); simp only [Act.put, World.setRow_alloc_new]))
  refine wp_world (R := fun w5 => Hp NoM w w5 [rowA w.heap.size 24 cd, rowA B2 25 cp, rowA w4.heap.size 24 cp]) (H4.out.newRow _ _) ?_
  intro w5 H5
  generalize w4.heap.size = B4 at *
  refine wp_region_cls (fun w' => Below w5.heap.size w5 w') (by kernel_rfl) (by kernel_rfl) (Below.refl _ _).drew ?_
  have HNA' := Keep.keep (fun (w1 : World) (_ : Below w5.heap.size w5 w1) => HNA.out w1)
  have HRN' := Keep.keep (fun (w1 : World) (_ : Below w5.heap.size w5 w1) => HRN.out w1)
  have HWA := Keep.keep (fun (w1 : World) (hb : Below w5.heap.size w5 w1) => wakes_any w1 (HK.out w1 ((H5.out.call hb).below)).1 (HK.out w1 ((H5.out.call hb).below)).2)
  repeat (first
    | ((with_reducible refine cls_loadRow ?_ (fun w1 hw1 => (H5.out.call hw1).row 0 rfl) aggA32 HSZD.out ?_ ?_); (focus rfl); (focus rfl); simp only [Act.put, List.setIfInBounds_toArray, List.set_cons_succ, List.set_cons_zero])
    | ((with_reducible refine cls_loadRow ?_ (fun w1 hw1 => (H5.out.call hw1).row 1 rfl) aggDig2 HSZ.out ?_ ?_); (focus rfl); (focus rfl); simp only [Act.put, List.setIfInBounds_toArray, List.set_cons_succ, List.set_cons_zero])
    | ((with_reducible refine cls_loadRow ?_ (fun w1 hw1 => (H5.out.call hw1).row 2 rfl) aggA32 HSZ.out ?_ ?_); (focus rfl); (focus rfl); simp only [Act.put, List.setIfInBounds_toArray, List.set_cons_succ, List.set_cons_zero])
    | ((with_reducible refine cls_call (f := 21) ?_ (Go.Proofs.enters_of Tryd.func21 (by kernel_rfl) rfl) ?_ (fun w1 hw1 => (HNA'.out w1 hw1).mono (fun e w2 he => ⟨he.1, hw1.trans (he.2.mono hw1.size)⟩)) ?_); (focus rfl); (focus (first | exact Array.map_empty | (simp only [List.map_toArray, List.map_cons, List.map_nil]; rfl))); simp only [Act.put, List.setIfInBounds_toArray, List.set_cons_succ, List.set_cons_zero])
    | ((with_reducible refine cls_call (f := 22) ?_ (Go.Proofs.enters_of Tryd.func22 (by kernel_rfl) rfl) ?_ (fun w1 hw1 => (HRN'.out w1 hw1).mono (fun e w2 he => ⟨he.1, hw1.trans (he.2.mono hw1.size)⟩)) ?_); (focus rfl); (focus (first | exact Array.map_empty | (simp only [List.map_toArray, List.map_cons, List.map_nil]; rfl))); simp only [Act.put, List.setIfInBounds_toArray, List.set_cons_succ, List.set_cons_zero])
    | ((with_reducible refine cls_call (f := 12) ?_ (Go.Proofs.enters_of Tryd.func12 (by kernel_rfl) rfl) ?_ (fun w1 hw1 => (HWA.out w1 hw1).mono (fun e w2 he => ⟨he.1, hw1.trans (he.2.mono hw1.size)⟩)) ?_); (focus rfl); (focus (first | exact Array.map_empty | (simp only [List.map_toArray, List.map_cons, List.map_nil]; rfl))); simp only [Act.put, List.setIfInBounds_toArray, List.set_cons_succ, List.set_cons_zero])
    | (first | go_big_quiet_step (fail) | (go_big_quiet_want; go_big_quiet_op; (refine ⟨_, fun _ _ => rfl, ?_⟩); go_big_quiet_on)))
  (refine wpQuiet_nil ?_); intro w6 hw6
  have HB6 := Keep.keep ((H5.out.call hw6).below); clear hw6
  go_wp2_with fail
  go_ret
  exact ⟨rfl, HB6.out⟩
end Go.Proofs.YtofficleahalaaaDoor
