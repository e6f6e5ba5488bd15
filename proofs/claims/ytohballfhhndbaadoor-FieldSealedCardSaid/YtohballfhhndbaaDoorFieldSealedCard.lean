/- FieldSealed: WHATEVER THE INPUT, the law returns true and its arguments read as they did. Its conditions: the row's own cells; the tables of strconv, math/bits and unicode/utf8, and the package's table of fields, hold what the program's text lays (the card ties them). -/
import Derived.Test.YtohballfhhndbaaDoorFieldSealed
import Derived.Test.YtohballfhhndbaaDoorFldLaid
namespace Go.Proofs.YtohballfhhndbaaDoor.sFieldSealed
open Go.ChangeShapes Go.WideShapes Go.ChangeAt Go.RowKit
def witnessArgs : Array Value := #[.agg (Array.replicate 512 (.int .u8 0)), .int .u16 0, .int .u8 0]
def witnessData (H : Type) : List (DataW H) := [.agg (List.replicate 512 (.lit (.int .u8 0))), .lit (.int .u16 0), .lit (.int .u8 0)]
theorem noStandIn (j : Nat) (t : TypeId) (ht : (#[35, 42, 5] : Array TypeId)[j]? = some t) : Tryd.prog.wantsStandIn t = false := by
  have h : t = 35 ∨ t = 42 ∨ t = 5 := by simpa using Array.mem_of_getElem? ht
  rcases h with h | h | h
  · rw [h]; exact (show Tryd.prog.wantsStandIn 35 = false by kernel_rfl)
  · rw [h]; exact (show Tryd.prog.wantsStandIn 42 = false by kernel_rfl)
  · rw [h]; exact (show Tryd.prog.wantsStandIn 5 = false by kernel_rfl)
set_option maxRecDepth 100000 in
theorem contract (H : Type) (enc : TypeId × Value → H) (W : World) (base : Nat) (args : Array Value) (ds gs : List (DataW H)) (before : List MemPlace)
    (hval : ∀ (j : Nat) t v, Tryd.f5.params[j]? = some t → args[j]? = some v → Value.okWide Tryd.prog W .any base t v)
    (hW : DataW.Whole enc Tryd.prog Tryd.f5.params.toList Rows.fieldSealedSpec.vars false W args.toList ds gs before) (hL : laidMetH Tryd.prog Rows.fieldSealedRow.laid W) :
    Calls Tryd.prog 5 args W fun e W' => ∃ v, e = .returned v ∧ Rows.fieldSealedSpec.post enc Tryd.prog Tryd.f5 false true false false W args v W' := by
  have hW' := hW
  obtain ⟨p, q, hA, hV, rfl, hfz, hnd⟩ := hW
  rw [Tryd.params5] at hA hval
  obtain ⟨v0, v1, v2, d0, d1, d2, p0, p1, p2, hargs, rfl, rfl, h0, h1, h2⟩ := trodAll_three hA
  obtain rfl : args = #[v0, v1, v2] := by cases args; simp_all
  obtain ⟨rfl, rfl⟩ := trodVars_none hV
  obtain ⟨l, hl, rfl⟩ := okBytes Tryd.underlying35 Tryd.underlying5 (by kernel_rfl) (by kernel_rfl) (hval 0 35 v0 rfl rfl)
  obtain ⟨n, rfl, hn⟩ := okU16 Tryd.underlying42 (hval 1 42 v1 rfl rfl)
  obtain ⟨m, rfl, hm⟩ := okU8 Tryd.underlying5 (hval 2 5 v2 rfl rfl)
  have hk := tz_of_vars (by obtain ⟨ps, hlv, _⟩ := hL; exact ⟨ps, hlv⟩)
  have hfl := flds_of_laid hL (by simp [Rows.fieldSealedRow])
  have hmc : ((UInt8.ofNat m).toNat : Int) = (m : Int) := by simp; omega
  have hcall := sealed_any l hl n hn (UInt8.ofNat m) W.heap.size W hfl hk (Nat.le_refl _)
  rw [hmc] at hcall
  refine hcall.mono fun e W' ⟨he, hb⟩ => ?_
  subst he
  exact ⟨_, rfl, law_post hW' hb (by rw [Tryd.params5]; intro t ht
                                     have h : t = 35 ∨ t = 42 ∨ t = 5 := by simpa using ht
                                     rcases h with rfl | rfl | rfl
                                     · exact ⟨by kernel_rfl, of_decide_eq_true (by kernel_rfl)⟩
                                     · exact ⟨by kernel_rfl, of_decide_eq_true (by kernel_rfl)⟩
                                     · exact ⟨by kernel_rfl, of_decide_eq_true (by kernel_rfl)⟩) rfl (tb := 4) rfl Tryd.underlying4 rfl⟩
theorem laid_met (os : Os) : laidMet Tryd.prog Rows.fieldSealedRow.laid ((laidWorld os).forCall (fun _ _ => 0) ⟨#[], witnessArgs, []⟩).memory :=
  laidMet_of_run' 8 (by kernel_rfl) (by kernel_rfl)
theorem reads (os : Os) {H : Type} (enc : TypeId × Value → H) : ∃ places, DataW.whole enc Tryd.prog ((laidWorld os).forCall (fun _ _ => 0) ⟨#[], witnessArgs, []⟩).memory Tryd.f5.params.toList Rows.fieldSealedSpec.vars false witnessArgs.toList 8 = some (witnessData H, [], places) :=
  ⟨[], by kernel_rfl⟩
set_option maxRecDepth 100000 in
theorem lifted (os : Os) (started : os.Started) (H : Type) (enc : TypeId × Value → H) (F : Stop.Interp) :
    ReturnsInHanded {} Tryd.checked os 5 .any ((OpenSpec.ofChange Rows.fieldSealedSpec).preRow enc Tryd.prog Tryd.f5 Rows.fieldSealedRow.domain false Rows.fieldSealedRow.laid) (((OpenSpec.ofChange Rows.fieldSealedSpec).at F).post enc Tryd.prog Tryd.f5 false true false false) := by
  obtain ⟨places, hx⟩ := reads os enc
  refine returnsInHanded_of_row (C := Tryd.checked) (s := OpenSpec.ofChange Rows.fieldSealedSpec) own started (by kernel_rfl) Tryd.func5
    (witness_row_atRef (enc := enc) (C := Tryd.checked) false (laidWorld os) witnessArgs rfl (by kernel_rfl) (by kernel_rfl) (by kernel_rfl)
      (OpenSpec.preRow_of_cond 8 hx (by kernel_rfl) (fun k hk => by cases hk) (by kernel_rfl) (laid_met os))) ?_
  intro W base args ds gs before hval hW _ _ _ hL _ _
  exact contract H enc W base args ds gs before hval hW hL
theorem said : Rows.FieldSealedSaid :=
  OpenClaim.holds_of_cond 5 Tryd.f5 rfl rfl rfl rfl rfl rfl rfl ⟨rfl, rfl, rfl, rfl, rfl⟩ rfl rfl rfl rfl rfl (by kernel_rfl) Tryd.func5 (by kernel_rfl)
    (of_decide_eq_true (by kernel_rfl)) (by unfold Func.isWrapper; first | (rw [if_pos (by decide +kernel)]; kernel_rfl) | (rw [if_neg (by decide +kernel)]; exact ⟨rfl, rfl⟩))
    (fun os started H enc _ F => by rw [OpenClaim.pre_eq_preRow]; exact lifted os started H enc F)
/-- No parameter wants a stand-in; the program's own looks are off: what the card asks. -/
theorem plain (f : FuncId) (fn : Func) (hf : Tryd.pinned.checked.prog.funcNamed Rows.fieldSealedRow.func = some f) (hfn : Tryd.pinned.checked.prog.funcs[f]? = some fn) :
    false = Tryd.pinned.checked.prog.looks [] ∧ ∀ (j : Nat) t, fn.params[j]? = some t → Tryd.pinned.checked.prog.wantsStandIn t = false := by
  obtain rfl : f = 5 := Option.some.inj ((show Tryd.prog.funcNamed Rows.fieldSealedRow.func = some 5 by kernel_rfl).symm.trans hf) |>.symm
  obtain rfl : fn = Tryd.f5 := (Option.some.inj (Tryd.func5.symm.trans hfn)).symm
  refine ⟨by kernel_rfl, fun j t ht => ?_⟩
  rw [Tryd.params5] at ht
  exact noStandIn j t ht
/-- THE CARD -/
theorem card : Rows.FieldSealedCardSaid :=
  Claim7.holds_tied_plain_at .later [] _ _ _ _ said (fun _ h => by cases h) (by kernel_rfl) (fun _ h => by cases h) fieldSealed_row_tie rfl ⟨rfl, rfl⟩ (by kernel_rfl) rfl plain (by kernel_rfl)
end Go.Proofs.YtohballfhhndbaaDoor.sFieldSealed
