/- ChangeApplies: WHATEVER THE INPUT, the law returns true and its arguments read as they did. Its conditions: the row's own cells; the tables of unicode/utf8, of the paths' classes and of the kinds' types hold what the program's text lays; the world has the program's shape (the card ties them). -/
import Derived.Test.YtplafpokgpolkaaGreatDoorP1
import Derived.Test.YtplafpokgpolkaaGreatDoorP2
import Derived.Test.YtplafpokgpolkaaGreatDoorP3
import Derived.Test.YtplafpokgpolkaaGreatDoorP4
import Derived.Test.YtplafpokgpolkaaGreatDoorP5
import Derived.Test.YtplafpokgpolkaaGreatDoorP6
import Derived.Test.YtplafpokgpolkaaGreatDoorP7
import Derived.Test.YtplafpokgpolkaaGreatDoorP8
import Derived.Test.YtplafpokgpolkaaGreatDoorW1
import Derived.Test.YtplafpokgpolkaaGreatDoorW2
import Derived.Test.YtplafpokgpolkaaGreatDoorW3
import Derived.Test.YtplafpokgpolkaaGreatDoorW4
import Derived.Test.YtplafpokgpolkaaGreatDoorW5
import Derived.Test.YtplafpokgpolkaaGreatDoorW6
import Derived.Test.YtplafpokgpolkaaGreatDoorW7
import Derived.Test.YtplafpokgpolkaaGreatDoorW8
import Derived.Test.YtplafpokgpolkaaGreatDoorW9
import Derived.Test.YtplafpokgpolkaaGreatDoorW10
namespace Go.Proofs.YtplafpokgpolkaaGreatDoor.sChangeApplies
open Go.ChangeShapes Go.WideShapes Go.ChangeAt Go.RowKit
def witnessArgs : Array Value := #[.slice none 0 0, .agg #[.slice none 0 0, .bool false], .agg #[.slice none 0 0, .bool false]]
def witnessData (H : Type) : List (DataW H) := [.nil, .agg [.nil, .lit (.bool false)], .agg [.nil, .lit (.bool false)]]
theorem noStandIn (j : Nat) (t : TypeId) (ht : (#[35, 52, 52] : Array TypeId)[j]? = some t) : Tryz.prog.wantsStandIn t = false := by
  have := Array.mem_of_getElem? ht
  simp only [List.mem_toArray, List.mem_cons, List.not_mem_nil, or_false] at this
  rcases this with rfl | rfl | rfl
  · exact (show Tryz.prog.wantsStandIn 35 = false by kernel_rfl)
  · exact (show Tryz.prog.wantsStandIn 52 = false by kernel_rfl)
  · exact (show Tryz.prog.wantsStandIn 52 = false by kernel_rfl)
theorem mbs_of_trod {H : Type} {enc : TypeId × Value → H} {W : World} {fuel : Nat} {x : DataW H × List MemPlace} {v : Value} (hf : DataW.trod enc Tryz.prog W 0 (fun _ => true) true fuel 35 [v] = some x) :
    ∃ l : List Mv, Mbs W (· < W.heap.size) (· < W.heap.size) v l ∧ ∀ a ∈ l, Kb a.1 := by
  obtain ⟨l, h1, h2⟩ := slice_of_trod (α := Mv) (k := 9) Tryz.underlying35 (by kernel_rfl) (by decide) (fun y => (mcell y).toList) mcell_len (fun y => NdR W (· < W.heap.size) y.1.2 y.2.1 y.2.2 ∧ Kb y.1) mcells mcells_length (fun l j i h hi => by rw [mcells_get l j i h hi]; simp) (fun n cs y h => mb_of_trod h) hf
  exact ⟨l, ⟨h1, fun a ha => (h2 a ha).1⟩, fun a ha => (h2 a ha).2⟩
set_option maxRecDepth 100000 in
theorem opened_layer {H : Type} {enc : TypeId × Value → H} {W : World} {r : Reach} {base : Nat} {v : Value} {d : DataW H} {ps : List MemPlace} (hok : Value.okWide Tryz.prog W r base 52 v) (h0 : DataW.Trod enc Tryz.prog W 0 (fun _ => true) true 52 v d ps) :
    ∃ (v0 : Value) (b : Bool) (l : List Mv), v = .agg #[v0, .bool b] ∧ MbL W v0 l ∧ ∀ a ∈ l, Kb a.1 := by
  obtain ⟨cs, rfl, hsz⟩ := okWide_struct Tryz.underlying52 hok
  obtain ⟨fuel, hf⟩ := h0
  replace hf : DataW.trod enc Tryz.prog W 0 (fun _ => true) true fuel 52 cs.toList = some (d, ps) := hf
  obtain ⟨xs, k, -, -, hlen, hxs, hg⟩ := DataW.trod_struct Tryz.underlying52 hf
  have c2 : Tryz.prog.cellsOf 52 = 2 := by kernel_rfl
  have cM : Tryz.prog.cellsOf 35 = 1 := by kernel_rfl
  have cB : Tryz.prog.cellsOf 4 = 1 := by kernel_rfl
  rw [c2] at hlen
  obtain ⟨v0, v1, hcs⟩ : ∃ v0 v1, cs.toList = [v0, v1] := by
    match cs.toList, hlen with
    | [v0, v1], _ => exact ⟨v0, v1, rfl⟩
  obtain ⟨y0, y1, rfl⟩ : ∃ y0 y1, xs = [y0, y1] := by
    match xs, hxs with
    | [v0, v1], _ => exact ⟨v0, v1, rfl⟩
  have g0 := hg 0 _ rfl
  have g1 := hg 1 _ rfl
  rw [hcs] at g0 g1
  simp only [List.getElem_toArray, List.getElem_cons_succ, List.getElem_cons_zero, cM, cB, List.drop_succ_cons, List.drop_zero, List.take_succ_cons, List.take_zero, List.getElem?_cons_zero, List.getElem?_cons_succ] at g0 g1
  obtain ⟨l, h1, h2⟩ := mbs_of_trod g0
  obtain ⟨b, hb, _⟩ := DataW.trod_bool Tryz.underlying4 g1
  injection hb with hb _
  subst hb
  exact ⟨v0, b, l, by rw [show cs = #[v0, .bool b] from Array.toList_inj.1 hcs], h1, h2⟩
set_option maxRecDepth 100000 in
theorem contract (H : Type) (enc : TypeId × Value → H) (W : World) (base : Nat) (args : Array Value) (ds gs : List (DataW H)) (before : List MemPlace)
    (hval : ∀ (j : Nat) t v, Tryz.f5.params[j]? = some t → args[j]? = some v → Value.okWide Tryz.prog W .any base t v)
    (hW : DataW.Whole enc Tryz.prog Tryz.f5.params.toList Rows.changeAppliesSpec.vars false W args.toList ds gs before) (hL : laidMetH Tryz.prog Rows.changeAppliesRow.laid W) (hsh : W.ShapedOpen Tryz.prog) :
    Calls Tryz.prog 5 args W fun e W' => ∃ v, e = .returned v ∧ Rows.changeAppliesSpec.post enc Tryz.prog Tryz.f5 false true false false W args v W' := by
  have hW' := hW
  obtain ⟨p, q, hA, hV, rfl, hfz, hnd⟩ := hW
  rw [Tryz.params5] at hA hval
  obtain ⟨v0, v1, v2, d0, d1, d2, p0, p1, p2, hargs, rfl, rfl, h0, h1, h2⟩ := trodAll_three hA
  obtain rfl : args = #[v0, v1, v2] := by cases args; simp_all
  obtain ⟨rfl, rfl⟩ := trodVars_none hV
  obtain ⟨l0, hl0, hk0⟩ := opened_mbs (hval 0 35 v0 rfl rfl) h0
  obtain ⟨va, ga, la, rfl, hla, hka⟩ := opened_layer (hval 1 52 v1 rfl rfl) h1
  obtain ⟨vb, gb, lb, rfl, hlb, hkb⟩ := opened_layer (hval 2 52 v2 rfl rfl) h2
  refine (applies_any W.heap.size v0 va vb ga gb l0 la lb W (tabs_of hL hsh (by simp [Rows.changeAppliesRow]) (by simp [Rows.changeAppliesRow])) hl0 hk0 hla hka hlb hkb).mono fun e W' ⟨he, hb⟩ => ?_
  subst he
  exact ⟨_, rfl, law_post hW' hb (by rw [Tryz.params5]; intro t ht
                                     have ht : t ∈ [35, 52, 52] := ht
                                     simp only [List.mem_cons, List.not_mem_nil, or_false] at ht
                                     rcases ht with rfl | rfl | rfl <;> exact ⟨by kernel_rfl, of_decide_eq_true (by kernel_rfl)⟩) rfl (tb := 4) rfl Tryz.underlying4 rfl⟩
theorem laid_met (os : Os) : laidMetH Tryz.prog Rows.changeAppliesRow.laid ((laidWorld os).forCall (fun _ _ => 0) ⟨#[], witnessArgs, []⟩).memory :=
  laidMetH_of_parts3 (fuel := 8) (laidMet_of_run' 8 (by kernel_rfl) (by kernel_rfl)) (by kernel_rfl) (by kernel_rfl)
theorem reads (os : Os) {H : Type} (enc : TypeId × Value → H) : ∃ places, DataW.whole enc Tryz.prog ((laidWorld os).forCall (fun _ _ => 0) ⟨#[], witnessArgs, []⟩).memory Tryz.f5.params.toList Rows.changeAppliesSpec.vars false witnessArgs.toList 8 = some (witnessData H, [], places) :=
  ⟨[], by kernel_rfl⟩
set_option maxRecDepth 100000 in
theorem lifted (os : Os) (started : os.Started) (H : Type) (enc : TypeId × Value → H) (F : Stop.Interp) :
    ReturnsInHanded {} Tryz.checked os 5 .any ((OpenSpec.ofChange Rows.changeAppliesSpec).preRow enc Tryz.prog Tryz.f5 Rows.changeAppliesRow.domain false Rows.changeAppliesRow.laid) (((OpenSpec.ofChange Rows.changeAppliesSpec).at F).post enc Tryz.prog Tryz.f5 false true false false) := by
  obtain ⟨places, hx⟩ := reads os enc
  refine returnsInHanded_of_row (C := Tryz.checked) (s := OpenSpec.ofChange Rows.changeAppliesSpec) own started (by kernel_rfl) Tryz.func5
    (witness_row_atRef (enc := enc) (C := Tryz.checked) false (laidWorld os) witnessArgs rfl (by kernel_rfl) (by kernel_rfl) (by kernel_rfl)
      (OpenSpec.preRow_of_cond 8 hx (by kernel_rfl) (fun k hk => by cases hk) (by kernel_rfl) (laid_met os))) ?_
  intro W base args ds gs before hval hW _ _ _ hL hsh _
  exact contract H enc W base args ds gs before hval hW hL hsh
theorem said : Rows.ChangeAppliesSaid :=
  OpenClaim.holds_of_cond 5 Tryz.f5 rfl rfl rfl rfl rfl rfl rfl ⟨rfl, rfl, rfl, rfl, rfl⟩ rfl rfl rfl rfl rfl (by kernel_rfl) Tryz.func5 (by kernel_rfl)
    (of_decide_eq_true (by kernel_rfl)) (by unfold Func.isWrapper; first | (rw [if_pos (by decide +kernel)]; kernel_rfl) | (rw [if_neg (by decide +kernel)]; exact ⟨rfl, rfl⟩))
    (fun os started H enc _ F => by rw [OpenClaim.pre_eq_preRow]; exact lifted os started H enc F)
/-- No parameter wants a stand-in; the program's own looks are off: what the card asks. -/
theorem plain (f : FuncId) (fn : Func) (hf : Tryz.pinned.checked.prog.funcNamed Rows.changeAppliesRow.func = some f) (hfn : Tryz.pinned.checked.prog.funcs[f]? = some fn) :
    false = Tryz.pinned.checked.prog.looks [] ∧ ∀ (j : Nat) t, fn.params[j]? = some t → Tryz.pinned.checked.prog.wantsStandIn t = false := by
  obtain rfl : f = 5 := Option.some.inj ((show Tryz.prog.funcNamed Rows.changeAppliesRow.func = some 5 by kernel_rfl).symm.trans hf) |>.symm
  obtain rfl : fn = Tryz.f5 := (Option.some.inj (Tryz.func5.symm.trans hfn)).symm
  refine ⟨by kernel_rfl, fun j t ht => ?_⟩
  rw [Tryz.params5] at ht
  exact noStandIn j t ht
/-- THE CARD -/
theorem card : Rows.ChangeAppliesCardSaid :=
  Claim7.holds_tied_plain_at .later [] _ _ _ _ said (fun _ h => by cases h) (by kernel_rfl) (fun _ h => by cases h) changeApplies_row_tie rfl ⟨rfl, rfl⟩ (by kernel_rfl) rfl plain (by kernel_rfl)
end Go.Proofs.YtplafpokgpolkaaGreatDoor.sChangeApplies
