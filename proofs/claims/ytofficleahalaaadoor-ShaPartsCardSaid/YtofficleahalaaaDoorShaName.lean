/- NAMES OF DIGESTS. -/
import Derived.Test.YtofficleahalaaaDoorBld
namespace Go.Proofs.YtofficleahalaaaDoor
open Go.RowKit
theorem calls_world {P : Program} {f : FuncId} {args : Array Value} {W : World} {Q : Ending → World → Prop} {R : World → Prop} (h : R W) (k : ∀ w2, Keep (R w2) → Calls P f args w2 Q) : Calls P f args W Q := k W ⟨h⟩
theorem bcells_byte (c : UInt8) : [Value.int .u8 (c.toNat : Int)] = bcells [c] := rfl
def hexDigit (n : Nat) : UInt8 := if n < 10 then UInt8.ofNat (48 + n) else UInt8.ofNat (87 + n)
def hexOf (c : UInt8) : List UInt8 := [hexDigit (c.toNat / 16), hexDigit (c.toNat % 16)]
def hexes (d : List UInt8) : List UInt8 := d.flatMap hexOf
def nameOf (d : List UInt8) : List UInt8 := [115, 104, 97, 50, 53, 54, 58] ++ hexes d
def hexL : List UInt8 := [48, 49, 50, 51, 52, 53, 54, 55, 56, 57, 97, 98, 99, 100, 101, 102]
theorem hexL_get : ∀ n, n < 16 → hexL[n]? = some (hexDigit n) := by decide
theorem hexL_idx (n : Nat) (h : n < 16) (h' : n < (⟨#[48, 49, 50, 51, 52, 53, 54, 55, 56, 57, 97, 98, 99, 100, 101, 102]⟩ : ByteArray).size) : (⟨#[48, 49, 50, 51, 52, 53, 54, 55, 56, 57, 97, 98, 99, 100, 101, 102]⟩ : ByteArray)[n]'h' = hexDigit n := by
  have h2 := hexL_get n h
  obtain ⟨h3, h4⟩ := List.getElem?_eq_some_iff.1 h2
  rw [← h4]
  rfl
theorem hexL_part : ∀ n, n < 16 → (hexL.drop n).take 1 = [hexDigit n] := by decide
theorem run_hex_slice (i : Int) (n : Nat) (hi : i = (n : Int)) (h : n < 16) (w : World) : (Instr.slice 9 (.string ⟨#[48, 49, 50, 51, 52, 53, 54, 55, 56, 57, 97, 98, 99, 100, 101, 102]⟩) (some (.int .u8 i)) (some (.int .u8 (i + 1))) none).run Tryd.prog w = .ok (.string ⟨#[hexDigit n]⟩) w := by
  subst hi
  have := run_slice_str (P := Tryd.prog) (T := 9) Tryd.underlying9 hexL .u8 .u8 (n : Int) ((n : Int) + 1) (by omega) (by omega) (by simp [hexL]; omega) w
  rw [show ((n : Int) + 1).toNat - (n : Int).toNat = 1 by omega, Int.toNat_natCast, hexL_part n h] at this
  exact this
theorem hexes_length (d : List UInt8) : (hexes d).length = 2 * d.length := by
  induction d with
  | nil => rfl
  | cons c d ih => simp only [hexes, List.flatMap_cons, List.length_append, List.length_cons] at ih ⊢; rw [ih]; simp [hexOf]; omega
theorem hexes_take (d : List UInt8) (i : Nat) (h : i < d.length) : hexes (d.take (i + 1)) = hexes (d.take i) ++ hexOf d[i] := by
  rw [List.take_succ_eq_append_getElem h, hexes, List.flatMap_append]; simp [hexes]
theorem aggDig2 : AggTy Tryd.prog 25 32 := ⟨⟨_, Tryd.underlying25, rfl⟩, by kernel_rfl⟩
theorem and15 (x : Nat) (h : x < 256) : bits BinOp.and IntKind.u8 (x : Int) 15 = ((x % 16 : Nat) : Int) := by
  have := u8_and_nat x 15 h (by decide)
  rw [show ((15 : Nat) : Int) = 15 from rfl] at this
  rw [this, show (15 : Nat) = 2 ^ 4 - 1 from rfl, Nat.and_two_pow_sub_one_eq_mod]
set_option maxHeartbeats 1000000 in
set_option maxRecDepth 100000 in
theorem name_any (d : List UInt8) (hd : d.length = 32) (w : World) :
    Calls Tryd.prog 21 #[.agg (bcells d).toArray] w fun e w' => e = .returned (.string ⟨(nameOf d).toArray⟩) ∧ Below w.heap.size w w' := by
  have hcs : ∀ i (h : i < d.length), (bcells d).toArray[i]? = some (.int .u8 (d[i].toNat : Int)) := fun i h => by simpa using bcells_get d i h
  have hsz : (bcells d).toArray.size = 32 := by simp [bcells, hd]
  have HCS := Keep.keep hcs; have HSZ := Keep.keep hsz; have HD := Keep.keep hd
  clear hcs hsz hd
  generalize (bcells d).toArray = cs at *
  go_enter Tryd.func21, Tryd.ntmps21
  go_wp2_with fail
  refine calls_world (R := fun w2 => Row w2 w.heap.size 25 cs ∧ IsB (w.heap.size + 1) [] w2 ∧ Below w.heap.size w w2) ⟨(Row.new w _ _).old _, ?_, ((Below.refl _ _).alloc (Nat.le_refl _) _).alloc (by simp) _⟩ ?_
  · have := Lib.fresh_isBuilder 69 5 (w.alloc (.cells cs 25))
    simpa [IsB, bcells] using this
  intro w2 H2
  have hsz2 : w.heap.size + 2 ≤ w2.heap.size := by
    rcases H2.out.2.1 with h | h
    · have := h.lt; omega
    · have := h.lt; omega
  refine (bld_WriteString _ _ _ _ w2 H2.out.2.1 (by simp [bcells]; decide) (by omega)).mono ?_
  rintro e w3 ⟨rfl, hb3, hbl3⟩
  have hr3 := H2.out.1.below hbl3 (by omega)
  have HB3 := Keep.keep hb3; have HL3 := Keep.keep hbl3; have HR3 := Keep.keep hr3
  clear hb3 hbl3 hr3
  go_wp2_with (first | ((with_reducible refine arm_loadRow HR3.out aggDig2 HSZ.out ?_ ?_); (focus rfl); simp only [Act.put, List.setIfInBounds_toArray, List.set_cons_succ, List.set_cons_zero]))
  go_loopw [8] (fun t wr => ∃ i : Nat, i ≤ 32 ∧ t = .int .i64 i ∧ Lib.BuilderAt 69 5 (w.heap.size + 1) (w.heap.size + 1) (.pointer (some ⟨w.heap.size + 1, 0, none⟩)) (bcells ([115, 104, 97, 50, 53, 54, 58] ++ hexes (d.take i))) wr ∧ Below (w.heap.size + 1) w2 wr) (fun t _ => 32 - (intOf t).toNat)
  case atStart => exact ⟨0, by omega, rfl, HB3.out, HL3.out⟩
  case round =>
    obtain ⟨i, hi, rfl, hb, hbl⟩ := hrel
    have HB := Keep.keep hb; have HBL := Keep.keep hbl; clear hb hbl
    by_cases hi32 : i < 32
    · have hid : i < d.length := by rw [HD.out]; exact hi32
      have hix := run_index_agg (P := Tryd.prog) Tryd.underlying25 Tryd.underlying5 rfl (by kernel_rfl) cs .i64 i hi32 _ (HCS.out i hid)
      have hst := hexes_take d i hid
      have hx := d[i].toNat_lt
      rw [show hexOf d[i] = [hexDigit (d[i].toNat / 16)] ++ [hexDigit (d[i].toNat % 16)] from rfl] at hst
      generalize d[i].toNat = x at *
      have e15 := and15 x hx
      have HST := Keep.keep hst; clear hst
      have hlen : ([115, 104, 97, 50, 53, 54, 58] ++ hexes (d.take i)).length = 7 + 2 * i := by simp [hexes_length, HD.out]; omega
      generalize hpp : ([115, 104, 97, 50, 53, 54, 58] : List UInt8) ++ hexes (d.take i) = pp at *
      have HPP := Keep.keep hpp; clear hpp
      have HLEN := Keep.keep hlen; clear hlen
      have hsz := HB.out.lt
      go_wp2_with fail
      rw [hexL_idx (x / 16) (by omega)]
      refine (bld_WriteByte _ _ _ _ wr (.inr HB.out) (by rw [bcells_length, HLEN.out]; omega) (by omega)).mono ?_
      rintro e w4 ⟨rfl, hb4, hbl4⟩
      rw [bcells_byte, ← bcells_append] at hb4
      have hsz4 := hb4.lt
      have HB4 := Keep.keep hb4; have HL4 := Keep.keep hbl4; clear hb4 hbl4
      go_wp2_with fail
      rw [hexL_idx (x % 16) (by omega)]
      refine (bld_WriteByte _ _ _ _ w4 (.inr HB4.out) (by rw [bcells_length, List.length_append, HLEN.out]; simp; omega) (by omega)).mono ?_
      rintro e w5 ⟨rfl, hb5, hbl5⟩
      rw [bcells_byte, ← bcells_append] at hb5
      have HB5 := Keep.keep hb5; have HL5 := Keep.keep hbl5; clear hb5 hbl5
      go_wp2_with fail
      refine ⟨⟨i + 1, by omega, by go_num, ?_, (HBL.out.trans HL4.out).trans HL5.out⟩, by simp [intOf]; omega⟩
      rw [HST.out, ← List.append_assoc, HPP.out]
      simpa [List.append_assoc] using HB5.out
    · obtain rfl : i = 32 := by omega
      have hsz := HB.out.lt
      have hfin : [115, 104, 97, 50, 53, 54, 58] ++ hexes (d.take 32) = nameOf d := by rw [List.take_of_length_le (by rw [HD.out]; omega)]; rfl
      have HFIN := Keep.keep hfin
      clear hfin
      go_wp2_with fail
      refine (Tryd.Builder_String_any _ _ _ wr (.inr HB.out) (by omega)).mono ?_
      rintro e w6 ⟨rfl, hbl6⟩
      rw [HFIN.out]
      have HL6 := Keep.keep hbl6; clear hbl6
      go_wp2_with fail
      go_ret
      exact ⟨rfl, H2.out.2.2.trans ((HBL.out.trans HL6.out).mono (by omega))⟩
set_option maxHeartbeats 1000000 in
set_option maxRecDepth 100000 in
theorem rname_any (d : List UInt8) (hd : d.length = 32) (w : World) :
    Calls Tryd.prog 22 #[.agg (bcells d).toArray] w fun e w' => e = .returned (.string ⟨(nameOf d).toArray⟩) ∧ Below w.heap.size w w' := by
  have hcs : ∀ i (h : i < d.length), (bcells d).toArray[i]? = some (.int .u8 (d[i].toNat : Int)) := fun i h => by simpa using bcells_get d i h
  have HCS := Keep.keep hcs; have HD := Keep.keep hd
  clear hcs hd
  generalize (bcells d).toArray = cs at *
  go_enter Tryd.func22, Tryd.ntmps22
  go_wp2_with fail
  go_loopw [3, 4] (fun s t wr => ∃ i : Nat, i ≤ 32 ∧ t = .int .i64 i ∧ s = .string ⟨([115, 104, 97, 50, 53, 54, 58] ++ hexes (d.take i)).toArray⟩ ∧ Hp NoM w wr [rowA w.heap.size 24 cs]) (fun _ t _ => 32 - (intOf t).toNat)
  case atStart => exact ⟨0, by omega, rfl, by rfl, (Hp.begin _ w).newRow _ _⟩
  case round =>
    obtain ⟨i, hi, rfl, rfl, hs⟩ := hrel
    have HS := Keep.keep hs; clear hs
    by_cases hi32 : i < 32
    · have hid : i < d.length := by rw [HD.out]; exact hi32
      have hcell := (HS.out.row 0 rfl).cell (HCS.out i hid)
      have hst := hexes_take d i hid
      have hx := d[i].toNat_lt
      rw [show hexOf d[i] = [hexDigit (d[i].toNat / 16)] ++ [hexDigit (d[i].toNat % 16)] from rfl] at hst
      generalize d[i].toNat = x at *
      have HST := Keep.keep hst; clear hst
      have hlen : ([115, 104, 97, 50, 53, 54, 58] ++ hexes (d.take i)).length = 7 + 2 * i := by simp [hexes_length, HD.out]; omega
      generalize hpp : ([115, 104, 97, 50, 53, 54, 58] : List UInt8) ++ hexes (d.take i) = pp at *
      have HPP := Keep.keep hpp; clear hpp
      have HLEN := Keep.keep hlen; clear hlen
      have q1 := IntWalk.u8_in ((x : Int) / 16) (by omega)
      have q2 := IntWalk.u8_in ((x : Int) / 16 + 1) (by omega)
      have q3 := IntWalk.u8_in ((x : Int) % 16) (by omega)
      have q4 := IntWalk.u8_in ((x : Int) % 16 + 1) (by omega)
      have a1 := run_cat (P := Tryd.prog) pp [hexDigit (x / 16)] (by rw [HLEN.out]; simp; omega)
      have a2 := run_cat (P := Tryd.prog) (pp ++ [hexDigit (x / 16)]) [hexDigit (x % 16)] (by rw [List.length_append, HLEN.out]; simp; omega)
      have s1 := run_hex_slice ((x : Int) / 16) (x / 16) (by omega) (by omega)
      have s2 := run_hex_slice ((x : Int) % 16) (x % 16) (by omega) (by omega)
      go_wp2_with fail
      go_quiet (fail)
      go_wp2_with fail
      refine ⟨⟨i + 1, by omega, by go_num, ?_, by repeat (first | exact HS.out | apply Hp.drewN)⟩, by simp [intOf]; omega⟩
      rw [HST.out, ← List.append_assoc, HPP.out]; rfl
    · obtain rfl : i = 32 := by omega
      have hfin : [115, 104, 97, 50, 53, 54, 58] ++ hexes (d.take 32) = nameOf d := by rw [List.take_of_length_le (by rw [HD.out]; omega)]; rfl
      rw [hfin]
      clear hfin
      go_wp2_with fail
      go_ret
      exact ⟨rfl, HS.out.below⟩
end Go.Proofs.YtofficleahalaaaDoor
