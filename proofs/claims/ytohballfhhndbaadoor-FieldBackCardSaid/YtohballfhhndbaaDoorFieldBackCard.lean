/- FieldBack: WHATEVER THE INPUT, the law returns true and its arguments read as they did. Its conditions: the row's own cells; the tables of strconv, math/bits and unicode/utf8, and the package's table of fields, hold what the program's text lays (the card ties them). -/
import Derived.Test.YtohballfhhndbaaDoorFieldBack
import Derived.Test.YtohballfhhndbaaDoorFldLaid
namespace Go.Proofs.YtohballfhhndbaaDoor.sFieldBack
open Go.ChangeShapes Go.WideShapes Go.ChangeAt Go.RowKit
def witnessArgs : Array Value := #[.int .i64 0, .int .u8 0, .string ⟨#[]⟩]
def witnessData (H : Type) : List (DataW H) := [.lit (.int .i64 0), .lit (.int .u8 0), .lit (.string [])]
theorem noStandIn (j : Nat) (t : TypeId) (ht : (#[2, 5, 9] : Array TypeId)[j]? = some t) : Tryd.prog.wantsStandIn t = false := by
  have h : t = 2 ∨ t = 5 ∨ t = 9 := by simpa using Array.mem_of_getElem? ht
  rcases h with h | h | h
  · rw [h]; exact (show Tryd.prog.wantsStandIn 2 = false by kernel_rfl)
  · rw [h]; exact (show Tryd.prog.wantsStandIn 5 = false by kernel_rfl)
  · rw [h]; exact (show Tryd.prog.wantsStandIn 9 = false by kernel_rfl)
set_option maxRecDepth 100000 in
theorem contract (H : Type) (enc : TypeId × Value → H) (W : World) (base : Nat) (args : Array Value) (ds gs : List (DataW H)) (before : List MemPlace)
    (hval : ∀ (j : Nat) t v, Tryd.f8.params[j]? = some t → args[j]? = some v → Value.okWide Tryd.prog W .any base t v)
    (hW : DataW.Whole enc Tryd.prog Tryd.f8.params.toList Rows.fieldBackSpec.vars false W args.toList ds gs before) (hL : laidMetH Tryd.prog Rows.fieldBackRow.laid W) :
    Calls Tryd.prog 8 args W fun e W' => ∃ v, e = .returned v ∧ Rows.fieldBackSpec.post enc Tryd.prog Tryd.f8 false true false false W args v W' := by
  have hW' := hW
  obtain ⟨p, q, hA, hV, rfl, hfz, hnd⟩ := hW
  rw [Tryd.params8] at hA hval
  obtain ⟨v0, v1, v2, d0, d1, d2, p0, p1, p2, hargs, rfl, rfl, h0, h1, h2⟩ := trodAll_three hA
  obtain rfl : args = #[v0, v1, v2] := by cases args; simp_all
  obtain ⟨rfl, rfl⟩ := trodVars_none hV
  obtain ⟨n, rfl, hn0, hn1⟩ := okI64 Tryd.underlying2 (hval 0 2 v0 rfl rfl)
  obtain ⟨m, rfl, hm⟩ := okU8 Tryd.underlying5 (hval 1 5 v1 rfl rfl)
  obtain ⟨l, rfl, hl⟩ := okStr Tryd.underlying9 (hval 2 9 v2 rfl rfl)
  have hk := tz_of_vars (by obtain ⟨ps, hlv, _⟩ := hL; exact ⟨ps, hlv⟩)
  refine (fieldback_any n hn0 hn1 m l W.heap.size W (Nat.le_refl _) hk).mono fun e W' ⟨he, hb⟩ => ?_
  subst he
  exact ⟨_, rfl, law_post hW' hb (by rw [Tryd.params8]; intro t ht
                                     have h : t = 2 ∨ t = 5 ∨ t = 9 := by simpa using ht
                                     rcases h with rfl | rfl | rfl
                                     · exact ⟨by kernel_rfl, of_decide_eq_true (by kernel_rfl)⟩
                                     · exact ⟨by kernel_rfl, of_decide_eq_true (by kernel_rfl)⟩
                                     · exact ⟨by kernel_rfl, of_decide_eq_true (by kernel_rfl)⟩) rfl (tb := 4) rfl Tryd.underlying4 rfl⟩
theorem laid_met (os : Os) : laidMet Tryd.prog Rows.fieldBackRow.laid ((laidWorld os).forCall (fun _ _ => 0) ⟨#[], witnessArgs, []⟩).memory :=
  laidMet_of_run' 8 (by kernel_rfl) (by kernel_rfl)
theorem reads (os : Os) {H : Type} (enc : TypeId × Value → H) : ∃ places, DataW.whole enc Tryd.prog ((laidWorld os).forCall (fun _ _ => 0) ⟨#[], witnessArgs, []⟩).memory Tryd.f8.params.toList Rows.fieldBackSpec.vars false witnessArgs.toList 8 = some (witnessData H, [], places) :=
  ⟨[], by kernel_rfl⟩
set_option maxRecDepth 100000 in
theorem lifted (os : Os) (started : os.Started) (H : Type) (enc : TypeId × Value → H) (F : Stop.Interp) :
    ReturnsInHanded {} Tryd.checked os 8 .any ((OpenSpec.ofChange Rows.fieldBackSpec).preRow enc Tryd.prog Tryd.f8 Rows.fieldBackRow.domain false Rows.fieldBackRow.laid) (((OpenSpec.ofChange Rows.fieldBackSpec).at F).post enc Tryd.prog Tryd.f8 false true false false) := by
  obtain ⟨places, hx⟩ := reads os enc
  refine returnsInHanded_of_row (C := Tryd.checked) (s := OpenSpec.ofChange Rows.fieldBackSpec) own started (by kernel_rfl) Tryd.func8
    (witness_row_atRef (enc := enc) (C := Tryd.checked) false (laidWorld os) witnessArgs rfl (by kernel_rfl) (by kernel_rfl) (by kernel_rfl)
      (OpenSpec.preRow_of_cond 8 hx (by kernel_rfl) (fun k hk => by cases hk) (by kernel_rfl) (laid_met os))) ?_
  intro W base args ds gs before hval hW _ _ _ hL _ _
  exact contract H enc W base args ds gs before hval hW hL
theorem said : Rows.FieldBackSaid :=
  OpenClaim.holds_of_cond 8 Tryd.f8 rfl rfl rfl rfl rfl rfl rfl ⟨rfl, rfl, rfl, rfl, rfl⟩ rfl rfl rfl rfl rfl (by kernel_rfl) Tryd.func8 (by kernel_rfl)
    (of_decide_eq_true (by kernel_rfl)) (by unfold Func.isWrapper; first | (rw [if_pos (by decide +kernel)]; kernel_rfl) | (rw [if_neg (by decide +kernel)]; exact ⟨rfl, rfl⟩))
    (fun os started H enc _ F => by rw [OpenClaim.pre_eq_preRow]; exact lifted os started H enc F)
/-- No parameter wants a stand-in; the program's own looks are off: what the card asks. -/
theorem plain (f : FuncId) (fn : Func) (hf : Tryd.pinned.checked.prog.funcNamed Rows.fieldBackRow.func = some f) (hfn : Tryd.pinned.checked.prog.funcs[f]? = some fn) :
    false = Tryd.pinned.checked.prog.looks [] ∧ ∀ (j : Nat) t, fn.params[j]? = some t → Tryd.pinned.checked.prog.wantsStandIn t = false := by
  obtain rfl : f = 8 := Option.some.inj ((show Tryd.prog.funcNamed Rows.fieldBackRow.func = some 8 by kernel_rfl).symm.trans hf) |>.symm
  obtain rfl : fn = Tryd.f8 := (Option.some.inj (Tryd.func8.symm.trans hfn)).symm
  refine ⟨by kernel_rfl, fun j t ht => ?_⟩
  rw [Tryd.params8] at ht
  exact noStandIn j t ht
/-- THE CARD -/
theorem card : Rows.FieldBackCardSaid :=
  Claim7.holds_tied_plain_at .later [] _ _ _ _ said (fun _ h => by cases h) (by kernel_rfl) (fun _ h => by cases h) fieldBack_row_tie rfl ⟨rfl, rfl⟩ (by kernel_rfl) rfl plain (by kernel_rfl)
end Go.Proofs.YtohballfhhndbaaDoor.sFieldBack
