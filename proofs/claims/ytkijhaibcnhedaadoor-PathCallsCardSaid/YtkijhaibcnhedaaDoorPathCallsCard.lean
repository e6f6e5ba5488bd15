/- PathCalls: WHATEVER THE INPUT, the law returns true and its arguments read as they did. Its conditions: the row's own cells; the tables of unicode/utf8, and the package's table of classes, hold what the program's text lays; the world has the program's shape (the card ties them). -/
import Derived.Test.YtkijhaibcnhedaaDoorPathCalls
import Derived.Test.YtkijhaibcnhedaaDoorPathLaid
namespace Go.Proofs.YtkijhaibcnhedaaDoor.sPathCalls
open Go.ChangeShapes Go.WideShapes Go.ChangeAt Go.RowKit
def witnessArgs : Array Value := #[.string ⟨#[]⟩, .string ⟨#[]⟩]
def witnessData (H : Type) : List (DataW H) := [.lit (.string []), .lit (.string [])]
theorem noStandIn (j : Nat) (t : TypeId) (ht : (#[9, 9] : Array TypeId)[j]? = some t) : Tryd.prog.wantsStandIn t = false := by
  obtain rfl : t = 9 := by simpa using Array.mem_of_getElem? ht
  kernel_rfl
set_option maxRecDepth 100000 in
theorem contract (H : Type) (enc : TypeId × Value → H) (W : World) (base : Nat) (args : Array Value) (ds gs : List (DataW H)) (before : List MemPlace)
    (hval : ∀ (j : Nat) t v, Tryd.f5.params[j]? = some t → args[j]? = some v → Value.okWide Tryd.prog W .any base t v)
    (hW : DataW.Whole enc Tryd.prog Tryd.f5.params.toList Rows.pathCallsSpec.vars false W args.toList ds gs before) (hL : laidMetH Tryd.prog Rows.pathCallsRow.laid W) (hsh : W.ShapedOpen Tryd.prog) :
    Calls Tryd.prog 5 args W fun e W' => ∃ v, e = .returned v ∧ Rows.pathCallsSpec.post enc Tryd.prog Tryd.f5 false true false false W args v W' := by
  have hW' := hW
  obtain ⟨p, q, hA, hV, rfl, hfz, hnd⟩ := hW
  rw [Tryd.params5] at hA hval
  obtain ⟨v0, v1, d0, d1, p0, p1, hargs, rfl, rfl, h0, h1⟩ := trodAll_two hA
  obtain rfl : args = #[v0, v1] := by cases args; simp_all
  obtain ⟨rfl, rfl⟩ := trodVars_none hV
  obtain ⟨l, rfl, hl⟩ := okStr Tryd.underlying9 (hval 0 9 v0 rfl rfl)
  obtain ⟨m, rfl, hm⟩ := okStr Tryd.underlying9 (hval 1 9 v1 rfl rfl)
  refine (calls_any l m hl hm W.heap.size W (Nat.le_refl _) (mx_of_shape hsh) (cls_of_laid hL (by simp [Rows.pathCallsRow]))).mono fun e W' ⟨he, hb⟩ => ?_
  subst he
  exact ⟨_, rfl, law_post hW' hb (by rw [Tryd.params5]; intro t ht; obtain rfl : t = 9 := by simpa using ht
                                     exact ⟨by kernel_rfl, of_decide_eq_true (by kernel_rfl)⟩) rfl (tb := 4) rfl Tryd.underlying4 rfl⟩
theorem laid_met (os : Os) : laidMetH Tryd.prog Rows.pathCallsRow.laid ((laidWorld os).forCall (fun _ _ => 0) ⟨#[], witnessArgs, []⟩).memory :=
  laidMetH_of_parts3 (fuel := 8) (laidMet_of_run' 8 (by kernel_rfl) (by kernel_rfl)) (by kernel_rfl) (by kernel_rfl)
theorem reads (os : Os) {H : Type} (enc : TypeId × Value → H) : ∃ places, DataW.whole enc Tryd.prog ((laidWorld os).forCall (fun _ _ => 0) ⟨#[], witnessArgs, []⟩).memory Tryd.f5.params.toList Rows.pathCallsSpec.vars false witnessArgs.toList 8 = some (witnessData H, [], places) :=
  ⟨[], by kernel_rfl⟩
set_option maxRecDepth 100000 in
theorem lifted (os : Os) (started : os.Started) (H : Type) (enc : TypeId × Value → H) (F : Stop.Interp) :
    ReturnsInHanded {} Tryd.checked os 5 .any ((OpenSpec.ofChange Rows.pathCallsSpec).preRow enc Tryd.prog Tryd.f5 Rows.pathCallsRow.domain false Rows.pathCallsRow.laid) (((OpenSpec.ofChange Rows.pathCallsSpec).at F).post enc Tryd.prog Tryd.f5 false true false false) := by
  obtain ⟨places, hx⟩ := reads os enc
  refine returnsInHanded_of_row (C := Tryd.checked) (s := OpenSpec.ofChange Rows.pathCallsSpec) own started (by kernel_rfl) Tryd.func5
    (witness_row_atRef (enc := enc) (C := Tryd.checked) false (laidWorld os) witnessArgs rfl (by kernel_rfl) (by kernel_rfl) (by kernel_rfl)
      (OpenSpec.preRow_of_cond 8 hx (by kernel_rfl) (fun k hk => by cases hk) (by kernel_rfl) (laid_met os))) ?_
  intro W base args ds gs before hval hW _ _ _ hL hsh _
  exact contract H enc W base args ds gs before hval hW hL hsh
theorem said : Rows.PathCallsSaid :=
  OpenClaim.holds_of_cond 5 Tryd.f5 rfl rfl rfl rfl rfl rfl rfl ⟨rfl, rfl, rfl, rfl, rfl⟩ rfl rfl rfl rfl rfl (by kernel_rfl) Tryd.func5 (by kernel_rfl)
    (of_decide_eq_true (by kernel_rfl)) (by unfold Func.isWrapper; first | (rw [if_pos (by decide +kernel)]; kernel_rfl) | (rw [if_neg (by decide +kernel)]; exact ⟨rfl, rfl⟩))
    (fun os started H enc _ F => by rw [OpenClaim.pre_eq_preRow]; exact lifted os started H enc F)
/-- No parameter wants a stand-in; the program's own looks are off: what the card asks. -/
theorem plain (f : FuncId) (fn : Func) (hf : Tryd.pinned.checked.prog.funcNamed Rows.pathCallsRow.func = some f) (hfn : Tryd.pinned.checked.prog.funcs[f]? = some fn) :
    false = Tryd.pinned.checked.prog.looks [] ∧ ∀ (j : Nat) t, fn.params[j]? = some t → Tryd.pinned.checked.prog.wantsStandIn t = false := by
  obtain rfl : f = 5 := Option.some.inj ((show Tryd.prog.funcNamed Rows.pathCallsRow.func = some 5 by kernel_rfl).symm.trans hf) |>.symm
  obtain rfl : fn = Tryd.f5 := (Option.some.inj (Tryd.func5.symm.trans hfn)).symm
  refine ⟨by kernel_rfl, fun j t ht => ?_⟩
  rw [Tryd.params5] at ht
  exact noStandIn j t ht
/-- THE CARD -/
theorem card : Rows.PathCallsCardSaid :=
  Claim7.holds_tied_plain_at .later [] _ _ _ _ said (fun _ h => by cases h) (by kernel_rfl) (fun _ h => by cases h) pathCalls_row_tie rfl ⟨rfl, rfl⟩ (by kernel_rfl) rfl plain (by kernel_rfl)
end Go.Proofs.YtkijhaibcnhedaaDoor.sPathCalls
