/- BLOCKS: Check, Seal, Zero. -/
import Derived.Test.YtohballfhhndbaaDoorFldSum
import Derived.Test.YtohballfhhndbaaDoorFldWakes
namespace Go.Proofs.YtohballfhhndbaaDoor
open Go.RowKit
def magic1 : List UInt8 := [117, 115, 116, 97, 114, 0]
def magic2 : List UInt8 := [117, 115, 116, 97, 114, 32]
/-- what Check tells -/
def checkS (l : List UInt8) : Int :=
  if (numS (fldL l (148, 8))).2 != 0 || (fldL l (257, 6) != magic1 && fldL l (257, 6) != magic2) then 5 else if (numS (fldL l (148, 8))).1 != sumS l then 21 else 0
set_option maxHeartbeats 4000000 in
set_option maxRecDepth 100000 in
theorem check_any (S : Nat) (e : TypeId) (l : List UInt8) (hl : l.length = 512) (B : Nat) (w : World) (hF : Flds B w) (hB : B ≤ w.heap.size) (hS : BlkAt w S e l) :
    Calls Tryd.prog 21 #[.pointer (some ⟨S, 0, none⟩)] w fun e' w' => e' = .returned (.int .i64 (checkS l)) ∧ Below w.heap.size w w' := by
  have HP1 := Keep.keep (part_is S [99, 104, 107, 115, 117, 109] (by decide) 148 8 (by decide) B w hF)
  have HP2 := Keep.keep (fun wx (h : Below w.heap.size w wx) => part_is S [109, 97, 103, 105, 99] (by decide) 257 6 (by decide) B wx (hF.on (h.mono hB)))
  have HSM := Keep.keep (fun wx (h : Below w.heap.size w wx) => sum_any S e l hl B wx (hF.on (h.mono hB)) (Nat.le_trans hB h.size) (hS.below h hS.lt))
  have HR1 : Keep (∀ wx, Below w.heap.size w wx → Reads wx (· < wx.heap.size) (.slice (some ⟨S, 148, none⟩) 8 (512 - 148)) (fldL l (148, 8))) := ⟨fun wx h => ((hS.reads hl (N := (· < w.heap.size)) hS.lt 148 8 (512 - 148) (by omega) (by omega) (by omega)).below h (fun b hb => hb)).mono (fun b hb => Nat.lt_of_lt_of_le hb h.size)⟩
  have HR2 : Keep (∀ wx, Below w.heap.size w wx → Reads wx (· < wx.heap.size) (.slice (some ⟨S, 257, none⟩) 6 (512 - 257)) (fldL l (257, 6))) := ⟨fun wx h => ((hS.reads hl (N := (· < w.heap.size)) hS.lt 257 6 (512 - 257) (by omega) (by omega) (by omega)).below h (fun b hb => hb)).mono (fun b hb => Nat.lt_of_lt_of_le hb h.size)⟩
  have hf8 : (fldL l (148, 8)).length ≤ 1000 := by simp [fldL]; omega
  have HN := Keep.keep (fun wx (h : Below w.heap.size w wx) => num_any _ _ wx (HR1.out wx h) (by omega))
  have HE : Keep (checkS l = if (numS (fldL l (148, 8))).2 != 0 || (fldL l (257, 6) != magic1 && fldL l (257, 6) != magic2) then 5 else if (numS (fldL l (148, 8))).1 != sumS l then 21 else 0) := ⟨rfl⟩
  generalize (numS (fldL l (148, 8))).1 = n at *
  generalize (numS (fldL l (148, 8))).2 = en at *
  generalize fldL l (257, 6) = mg at *
  generalize sumS l = sm at *
  simp only [bne] at HE
  obtain ⟨b1, hmg1⟩ : ∃ b, (mg == magic1) = b := ⟨_, rfl⟩
  obtain ⟨b2, hmg2⟩ : ∃ b, (mg == magic2) = b := ⟨_, rfl⟩
  obtain ⟨b0, hen⟩ : ∃ b, (en == 0) = b := ⟨_, rfl⟩
  obtain ⟨b3, hns⟩ : ∃ b, (n == sm) = b := ⟨_, rfl⟩
  simp only [hmg1, hmg2, hen, hns] at HE
  have hm1 : (mg == [117, 115, 116, 97, 114, 0]) = b1 := hmg1
  have hm2 : (mg == [117, 115, 116, 97, 114, 32]) = b2 := hmg2
  have henb : (en != 0) = !b0 := by unfold bne; rw [hen]
  have hnsb : (n != sm) = !b3 := by unfold bne; rw [hns]
  clear hF hB hS hmg1 hmg2 hf8 HR1
  go_enter Tryd.func21, Tryd.ntmps21
  go_wp2_with fail
  refine HP1.out.mono ?_
  rintro e' w1 ⟨rfl, hb1⟩
  have HB1 := Keep.keep hb1
  clear hb1 HP1
  go_wp2_with fail
  refine (HN.out _ HB1.out).mono ?_
  rintro e' w1' ⟨rfl, rfl⟩
  go_wp2_with fail
  refine (HP2.out _ HB1.out).mono ?_
  rintro e' w2 ⟨rfl, hb2⟩
  have HB2 := Keep.keep (HB1.out.trans (hb2.mono HB1.out.size))
  clear hb2 HB1 HP2 HN
  have hcv := run_string_of (HR2.out w2 HB2.out)
  have HS2 := Keep.keep (HSM.out w2 HB2.out)
  clear HR2 HSM
  cases b0 with
  | false =>
    have HX : Keep (checkS l = 5) := ⟨by rw [HE.out]; rfl⟩
    go_wp2_with fail
    go_ret
    exact ⟨by rw [HX.out]; rfl, HB2.out⟩
  | true =>
  cases b1 with
  | true =>
    go_wp2_with fail
    refine HS2.out.mono ?_
    rintro e' w3 ⟨rfl, hb3⟩
    have HB3 := Keep.keep (HB2.out.trans (hb3.mono HB2.out.size))
    clear hb3
    cases b3 with
    | true =>
      have HX : Keep (checkS l = 0) := ⟨by rw [HE.out]; rfl⟩
      go_wp2_with fail
      go_ret
      exact ⟨by rw [HX.out]; rfl, HB3.out⟩
    | false =>
      have HX : Keep (checkS l = 21) := ⟨by rw [HE.out]; rfl⟩
      go_wp2_with fail
      go_ret
      exact ⟨by rw [HX.out]; rfl, HB3.out⟩
  | false =>
  cases b2 with
  | false =>
    have HX : Keep (checkS l = 5) := ⟨by rw [HE.out]; rfl⟩
    go_wp2_with fail
    go_ret
    exact ⟨by rw [HX.out]; rfl, HB2.out⟩
  | true =>
    go_wp2_with fail
    refine HS2.out.mono ?_
    rintro e' w3 ⟨rfl, hb3⟩
    have HB3 := Keep.keep (HB2.out.trans (hb3.mono HB2.out.size))
    clear hb3
    cases b3 with
    | true =>
      have HX : Keep (checkS l = 0) := ⟨by rw [HE.out]; rfl⟩
      go_wp2_with fail
      go_ret
      exact ⟨by rw [HX.out]; rfl, HB3.out⟩
    | false =>
      have HX : Keep (checkS l = 21) := ⟨by rw [HE.out]; rfl⟩
      go_wp2_with fail
      go_ret
      exact ⟨by rw [HX.out]; rfl, HB3.out⟩
theorem zc_any (c : UInt8) (w : World) : Calls Tryd.prog 42 #[.int .u8 (c.toNat : Int)] w fun e w' => e = .returned (.bool (c != 0)) ∧ w = w' := by
  have hx : ((c.toNat : Int) == 0) = (c == 0) := by
    rw [Bool.eq_iff_iff, beq_iff_eq, beq_iff_eq]
    constructor
    · intro e; exact UInt8.toNat_inj.1 (by show c.toNat = 0; omega)
    · rintro rfl; rfl
  have hx2 : ((c.toNat : Int) != 0) = (c != 0) := by unfold bne; rw [hx]
  generalize (c != 0) = b at *
  clear hx
  go_enter Tryd.func42, Tryd.ntmps42
  go_wp2_with fail
  go_ret
  exact ⟨rfl, rfl⟩
theorem ent_zc : ∀ args w, (callFunc 42 args).run Tryd.prog w = .ok (.enter 42 args) w := enters_of Tryd.func42 (by kernel_rfl) rfl
set_option maxHeartbeats 1000000 in
set_option maxRecDepth 100000 in
theorem ifuncB_any (v : Value) (l : List UInt8) (w : World) (hr : Reads w (· < w.heap.size) v l) (hl : l.length ≤ 1000000) :
    Calls Tryd.prog 54 #[v, .func (.func 42) #[] #[]] w fun e w' => (∃ i : Int, e = .returned (.int .i64 i) ∧ decide (0 ≤ i) = l.any (· != 0)) ∧ w = w' := by
  obtain ⟨a, cap, rfl, hcap, hmx, h3⟩ := hr.shape
  have HR := Keep.keep hr; have H3 := Keep.keep h3
  unfold maxLen at hmx
  clear hr h3
  go_enter Tryd.func54, Tryd.ntmps54
  go_wp2_with fail
  go_loopg [5, 8] l.length (fun g _ u8 wx => ∃ k : Nat, k + g = l.length ∧ u8 = .int .i64 (k : Int) ∧ (∀ j, (hj : j < k) → (hl : j < l.length) → l[j] = 0) ∧ w = wx)
  case atStart => exact ⟨0, by omega, rfl, fun j hj => by omega, rfl⟩
  case round =>
    obtain ⟨k, hkg, rfl, hno, rfl⟩ := hrel
    have HNO := Keep.keep hno
    clear hno
    cases gk with
    | zero =>
      obtain rfl : k = l.length := by omega
      go_wp2_with fail
      go_ret
      refine ⟨⟨-1, rfl, ?_⟩, rfl⟩
      have : l.any (· != 0) = false := by
        rw [List.any_eq_false]
        intro x hx
        obtain ⟨j, hj, rfl⟩ := List.mem_iff_getElem.1 hx
        simp [HNO.out j hj hj]
      rw [this]; rfl
    | succ g =>
      have hk : k < l.length := by omega
      rcases H3.out with ⟨_, h3⟩ | ⟨b, off, rfl, hbl⟩
      · omega
      have hcell := HR.out.cell b off _ _ rfl k hk
      have HC := Keep.keep (zc_any l[k] w)
      have HSTEP : Keep (l[k] = 0 → ∀ j, (hj : j < k + 1) → (hl : j < l.length) → l[j] = 0) := ⟨fun he j hj hl => by
        rcases Nat.lt_succ_iff_lt_or_eq.1 hj with h | rfl
        · exact HNO.out j h hl
        · exact he⟩
      have hent := ent_zc
      cases hz : l[k] == 0 with
      | true =>
        have hz0 : l[k] = 0 := beq_iff_eq.1 hz
        have HST := Keep.keep (HSTEP.out hz0)
        rw [hz0] at HC hcell
        rw [show ((0 : UInt8) != 0) = false from rfl] at HC
        clear HSTEP hz0 hz
        go_wp2_with fail
        refine HC.out.mono ?_
        rintro e w1 ⟨rfl, rfl⟩
        go_wp2_with fail
        go_roundg g
        case measure => omega
        case rel => exact ⟨k + 1, by omega, by simp, HST.out, rfl⟩
      | false =>
        have HA : Keep (l.any (· != 0) = true) := ⟨List.any_eq_true.2 ⟨_, List.getElem_mem hk, by simpa using hz⟩⟩
        rw [show (l[k] != 0) = true by unfold bne; rw [hz]; rfl] at HC
        clear HSTEP hz
        generalize l[k] = c at *
        go_wp2_with fail
        refine HC.out.mono ?_
        rintro e w1 ⟨rfl, rfl⟩
        go_wp2_with fail
        go_ret
        exact ⟨⟨_, rfl, by rw [HA.out]; exact decide_eq_true (by omega)⟩, rfl⟩
set_option maxHeartbeats 1000000 in
theorem cfuncB_any (v : Value) (l : List UInt8) (w : World) (hr : Reads w (· < w.heap.size) v l) (hl : l.length ≤ 1000000) :
    Calls Tryd.prog 41 #[v, .func (.func 42) #[] #[]] w fun e w' => e = .returned (.bool (l.any (· != 0))) ∧ w = w' := by
  have HI := Keep.keep (ifuncB_any v l w hr hl)
  obtain ⟨a, cap, rfl, -⟩ := hr.shape
  generalize l.any (· != 0) = b at *
  clear hr
  go_enter Tryd.func41, Tryd.ntmps41
  go_wp2_with fail
  refine HI.out.mono ?_
  rintro e w1 ⟨⟨i, rfl, hi⟩, rfl⟩
  go_wp2_with fail
  go_ret
  exact ⟨rfl, rfl⟩
theorem sliceAt_all (S : Nat) (w : World) : (Instr.sliceAt 37 (.pointer (some ⟨S, 0, none⟩)) none none none).run Tryd.prog w = .ok (.slice (some ⟨S, 0, none⟩) 512 512) w := by
  have hl : Tryd.prog.arrayLen 37 = 512 := by kernel_rfl
  have he : Tryd.prog.elem 37 = 5 := by kernel_rfl
  have hs : ∀ w, (sizeOf 5).run Tryd.prog w = .ok 1 w := fun w => by kernel_rfl
  rw [run_sliceAt_array_all w 37 ⟨S, 0, none⟩ (by rw [hl, he]; exact Tryd.underlying37), hl, he, hs]
  simp [Result.andThen, slicedAt, Addr.add_mid]
set_option maxHeartbeats 1000000 in
theorem zero_any (S : Nat) (e : TypeId) (l : List UInt8) (hl : l.length = 512) (w : World) (hS : BlkAt w S e l) :
    Calls Tryd.prog 26 #[.pointer (some ⟨S, 0, none⟩)] w fun e' w' => e' = .returned (.bool (!l.any (· != 0))) ∧ w = w' := by
  have hrd := hS.reads hl (N := (· < w.heap.size)) hS.lt 0 512 512 (by omega) (by omega) (by omega)
  rw [List.drop_zero, List.take_of_length_le (by omega)] at hrd
  have HC := Keep.keep (cfuncB_any _ l w hrd (by omega))
  have hsl := sliceAt_all S
  generalize l.any (· != 0) = b at *
  clear hS hrd
  go_enter Tryd.func26, Tryd.ntmps26
  go_wp2_with fail
  refine HC.out.mono ?_
  rintro e' w1 ⟨rfl, rfl⟩
  go_wp2_with fail
  go_ret
  exact ⟨rfl, rfl⟩
end Go.Proofs.YtohballfhhndbaaDoor
