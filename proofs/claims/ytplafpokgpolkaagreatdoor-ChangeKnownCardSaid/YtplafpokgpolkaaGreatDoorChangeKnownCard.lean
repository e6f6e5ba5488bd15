/- ChangeKnown: WHATEVER THE INPUT, the law returns true and its arguments read as they did. Its conditions: the row's own cells; the tables of unicode/utf8, of the paths' classes and of the kinds' types hold what the program's text lays; the world has the program's shape (the card ties them). -/
import Derived.Test.YtplafpokgpolkaaGreatDoorP1
import Derived.Test.YtplafpokgpolkaaGreatDoorP2
import Derived.Test.YtplafpokgpolkaaGreatDoorP3
import Derived.Test.YtplafpokgpolkaaGreatDoorP4
import Derived.Test.YtplafpokgpolkaaGreatDoorP5
import Derived.Test.YtplafpokgpolkaaGreatDoorP6
import Derived.Test.YtplafpokgpolkaaGreatDoorP7
import Derived.Test.YtplafpokgpolkaaGreatDoorP8
import Derived.Test.YtplafpokgpolkaaGreatDoorW1
import Derived.Test.YtplafpokgpolkaaGreatDoorW2
import Derived.Test.YtplafpokgpolkaaGreatDoorW3
import Derived.Test.YtplafpokgpolkaaGreatDoorW4
import Derived.Test.YtplafpokgpolkaaGreatDoorW5
import Derived.Test.YtplafpokgpolkaaGreatDoorW6
import Derived.Test.YtplafpokgpolkaaGreatDoorW7
import Derived.Test.YtplafpokgpolkaaGreatDoorV1
import Derived.Test.YtplafpokgpolkaaGreatDoorV2
namespace Go.Proofs.YtplafpokgpolkaaGreatDoor.sChangeKnown
open Go.ChangeShapes Go.WideShapes Go.ChangeAt Go.RowKit
def witnessArgs : Array Value := #[]
def witnessData (H : Type) : List (DataW H) := []
theorem noStandIn (j : Nat) (t : TypeId) (ht : (#[] : Array TypeId)[j]? = some t) : Tryz.prog.wantsStandIn t = false := by
  simp at ht
set_option maxRecDepth 100000 in
theorem contract (H : Type) (enc : TypeId × Value → H) (W : World) (base : Nat) (args : Array Value) (ds gs : List (DataW H)) (before : List MemPlace)
    (_hval : ∀ (j : Nat) t v, Tryz.f3.params[j]? = some t → args[j]? = some v → Value.okWide Tryz.prog W .any base t v)
    (hW : DataW.Whole enc Tryz.prog Tryz.f3.params.toList Rows.changeKnownSpec.vars false W args.toList ds gs before) (hL : laidMetH Tryz.prog Rows.changeKnownRow.laid W) (hsh : W.ShapedOpen Tryz.prog) :
    Calls Tryz.prog 3 args W fun e W' => ∃ v, e = .returned v ∧ Rows.changeKnownSpec.post enc Tryz.prog Tryz.f3 false true false false W args v W' := by
  have hW' := hW
  obtain ⟨p, q, hA, hV, rfl, hfz, hnd⟩ := hW
  rw [Tryz.params3] at hA
  obtain ⟨rfl, rfl, rfl⟩ := trodAll_none hA
  obtain ⟨rfl, rfl⟩ := trodVars_none hV
  refine (cknown_any W.heap.size W (tabs_of hL hsh (by simp [Rows.changeKnownRow]) (by simp [Rows.changeKnownRow]))).mono fun e W' ⟨he, hb⟩ => ?_
  subst he
  exact ⟨_, rfl, law_post hW' hb (by rw [Tryz.params3]; intro t ht; simp at ht) rfl (tb := 4) rfl Tryz.underlying4 rfl⟩
theorem laid_met (os : Os) : laidMetH Tryz.prog Rows.changeKnownRow.laid ((laidWorld os).forCall (fun _ _ => 0) ⟨#[], witnessArgs, []⟩).memory :=
  laidMetH_of_parts3 (fuel := 8) (laidMet_of_run' 8 (by kernel_rfl) (by kernel_rfl)) (by kernel_rfl) (by kernel_rfl)
theorem reads (os : Os) {H : Type} (enc : TypeId × Value → H) : ∃ places, DataW.whole enc Tryz.prog ((laidWorld os).forCall (fun _ _ => 0) ⟨#[], witnessArgs, []⟩).memory Tryz.f3.params.toList Rows.changeKnownSpec.vars false witnessArgs.toList 8 = some (witnessData H, [], places) :=
  ⟨[], by kernel_rfl⟩
set_option maxRecDepth 100000 in
theorem lifted (os : Os) (started : os.Started) (H : Type) (enc : TypeId × Value → H) (F : Stop.Interp) :
    ReturnsInHanded {} Tryz.checked os 3 .any ((OpenSpec.ofChange Rows.changeKnownSpec).preRow enc Tryz.prog Tryz.f3 Rows.changeKnownRow.domain false Rows.changeKnownRow.laid) (((OpenSpec.ofChange Rows.changeKnownSpec).at F).post enc Tryz.prog Tryz.f3 false true false false) := by
  obtain ⟨places, hx⟩ := reads os enc
  refine returnsInHanded_of_row (C := Tryz.checked) (s := OpenSpec.ofChange Rows.changeKnownSpec) own started (by kernel_rfl) Tryz.func3
    (witness_row_atRef (enc := enc) (C := Tryz.checked) false (laidWorld os) witnessArgs rfl (by kernel_rfl) (by kernel_rfl) (by kernel_rfl)
      (OpenSpec.preRow_of_cond 8 hx (by kernel_rfl) (fun k hk => by cases hk) (by kernel_rfl) (laid_met os))) ?_
  intro W base args ds gs before hval hW _ _ _ hL hsh _
  exact contract H enc W base args ds gs before hval hW hL hsh
theorem said : Rows.ChangeKnownSaid :=
  OpenClaim.holds_of_cond 3 Tryz.f3 rfl rfl rfl rfl rfl rfl rfl ⟨rfl, rfl, rfl, rfl, rfl⟩ rfl rfl rfl rfl rfl (by kernel_rfl) Tryz.func3 (by kernel_rfl)
    (of_decide_eq_true (by kernel_rfl)) (by unfold Func.isWrapper; first | (rw [if_pos (by decide +kernel)]; kernel_rfl) | (rw [if_neg (by decide +kernel)]; exact ⟨rfl, rfl⟩))
    (fun os started H enc _ F => by rw [OpenClaim.pre_eq_preRow]; exact lifted os started H enc F)
/-- No parameter wants a stand-in; the program's own looks are off: what the card asks. -/
theorem plain (f : FuncId) (fn : Func) (hf : Tryz.pinned.checked.prog.funcNamed Rows.changeKnownRow.func = some f) (hfn : Tryz.pinned.checked.prog.funcs[f]? = some fn) :
    false = Tryz.pinned.checked.prog.looks [] ∧ ∀ (j : Nat) t, fn.params[j]? = some t → Tryz.pinned.checked.prog.wantsStandIn t = false := by
  obtain rfl : f = 3 := Option.some.inj ((show Tryz.prog.funcNamed Rows.changeKnownRow.func = some 3 by kernel_rfl).symm.trans hf) |>.symm
  obtain rfl : fn = Tryz.f3 := (Option.some.inj (Tryz.func3.symm.trans hfn)).symm
  refine ⟨by kernel_rfl, fun j t ht => ?_⟩
  rw [Tryz.params3] at ht
  exact noStandIn j t ht
/-- THE CARD -/
theorem card : Rows.ChangeKnownCardSaid :=
  Claim7.holds_tied_plain_at .later [] _ _ _ _ said (fun _ h => by cases h) (by kernel_rfl) (fun _ h => by cases h) changeKnown_row_tie rfl ⟨rfl, rfl⟩ (by kernel_rfl) rfl plain (by kernel_rfl)
end Go.Proofs.YtplafpokgpolkaaGreatDoor.sChangeKnown
