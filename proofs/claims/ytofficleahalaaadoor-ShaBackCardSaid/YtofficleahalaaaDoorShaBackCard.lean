/- ShaBack: WHATEVER THE INPUT, the law returns true and its arguments read as they did. Its conditions: the row's own cells; the two tables of sha hold what the program's text lays (the card ties them). -/
import Derived.Test.YtofficleahalaaaDoorShaBack
import Derived.Test.YtofficleahalaaaDoorShaLaid
import Derived.Lib.LaidCaseMet
import Derived.Lib.LaidU8
import Derived.PinnedBridge
import Derived.Deep.DeepWitnessRowRef
namespace Go.Proofs.YtofficleahalaaaDoor.sShaBack
open Go.ChangeShapes Go.WideShapes Go.ChangeAt Go.RowKit
def witnessArgs : Array Value := #[.agg (Array.replicate 32 (.int .u8 0)), .string ⟨#[]⟩]
def witnessData (H : Type) : List (DataW H) := [.agg (List.replicate 32 (.lit (.int .u8 0))), .lit (.string [])]
theorem noStandIn (j : Nat) (t : TypeId) (ht : (#[24, 9] : Array TypeId)[j]? = some t) : Tryd.prog.wantsStandIn t = false := by
  have h : t = 24 ∨ t = 9 := by simpa using Array.mem_of_getElem? ht
  rcases h with h | h
  · rw [h]; exact (show Tryd.prog.wantsStandIn 24 = false by kernel_rfl)
  · rw [h]; exact (show Tryd.prog.wantsStandIn 9 = false by kernel_rfl)
set_option maxRecDepth 100000 in
theorem contract (H : Type) (enc : TypeId × Value → H) (W : World) (base : Nat) (args : Array Value) (ds gs : List (DataW H)) (before : List MemPlace)
    (hval : ∀ (j : Nat) t v, Tryd.f7.params[j]? = some t → args[j]? = some v → Value.okWide Tryd.prog W .any base t v)
    (hW : DataW.Whole enc Tryd.prog Tryd.f7.params.toList Rows.shaBackSpec.vars false W args.toList ds gs before) (hL : laidMetH Tryd.prog Rows.shaBackRow.laid W) :
    Calls Tryd.prog 7 args W fun e W' => ∃ v, e = .returned v ∧ Rows.shaBackSpec.post enc Tryd.prog Tryd.f7 false true false false W args v W' := by
  have hW' := hW
  obtain ⟨p, q, hA, hV, rfl, hfz, hnd⟩ := hW
  rw [Tryd.params7] at hA hval
  obtain ⟨v0, v1, d0, d1, p0, p1, hargs, rfl, rfl, h0, h1⟩ := trodAll_two hA
  obtain rfl : args = #[v0, v1] := by cases args; simp_all
  obtain ⟨rfl, rfl⟩ := trodVars_none hV
  obtain ⟨d, hd, rfl⟩ := okBytes Tryd.underlying24 Tryd.underlying5 (by kernel_rfl) (by kernel_rfl) (hval 0 24 v0 rfl rfl)
  obtain ⟨l, rfl, hl⟩ := okStr Tryd.underlying9 (hval 1 9 v1 rfl rfl)
  have hk : Consts W ∧ Begins W := by
    obtain ⟨ps, hlv, _⟩ := hL
    exact sha_of_vars (laid_drop ⟨ps, hlv⟩)
  refine (back_any d l hd hl W hk.1 hk.2).mono fun e W' ⟨he, hb⟩ => ?_
  subst he
  exact ⟨_, rfl, law_post hW' hb (by rw [Tryd.params7]; intro t ht
                                     have h : t = 24 ∨ t = 9 := by simpa using ht
                                     rcases h with rfl | rfl
                                     · exact ⟨by kernel_rfl, of_decide_eq_true (by kernel_rfl)⟩
                                     · exact ⟨by kernel_rfl, of_decide_eq_true (by kernel_rfl)⟩) rfl (tb := 4) rfl Tryd.underlying4 rfl⟩
/-- A WORLD FOR THE WITNESS: all five variables laid -/
noncomputable def laidWorld5 (os : Os) : World :=
  let N := (World.settled Tryd.prog os).heap.size
  let w0 := World.holding Tryd.prog os ⟨#[.cells Lib.caseCells5 (Tryd.lays203_ren.t 208)], #[], []⟩
  let h1 := Array.modify w0.heap 5 (layRow ((List.range 16).flatMap fun i => [Value.int .u8 (Lib.accLo i), Value.int .u8 (Lib.accHi i)]).toArray)
  let h2 := Array.modify h1 1 (layRow (words Ks))
  let h3 := Array.modify h2 0 (layRow (words H0s))
  let h4 := Array.modify h3 3 (layRow #[.slice (some ⟨N, 0, none⟩) 336 336])
  let h5 := Array.modify h4 4 (layRow (Lib.firstTab.map fun z => Value.int .u8 z).toArray)
  { w0 with heap := h5 }
theorem laid_met (os : Os) : laidMet Tryd.prog Rows.shaBackRow.laid ((laidWorld5 os).forCall (fun _ _ => 0) ⟨#[], witnessArgs, []⟩).memory := by
  have h := laidMet_with_case (P := Tryd.prog) (ρ := Tryd.lays203_ren) (w := ((laidWorld5 os).forCall (fun _ _ => 0) ⟨#[], witnessArgs, []⟩).memory) { Tryd.lays203 with } Tryd.lays203.t206 ⟨by kernel_rfl, by kernel_rfl, by kernel_rfl, by kernel_rfl, by kernel_rfl, by kernel_rfl⟩
    (l := (Rows.shaBackRow.laid.take 3) ++ [((Rows.shaBackRow.laid.getD 4 default).1, Lib.firstData)])
    10 (by kernel_rfl) (by kernel_rfl) (by kernel_rfl) ((World.settled Tryd.prog default).heap.size) (Tryd.lays203_ren.t 208) (of_decide_eq_true (by kernel_rfl)) (by kernel_rfl) (by kernel_rfl) (by kernel_rfl)
  have h2 := laid_swap (Rows.shaBackRow.laid.take 3) [((Rows.shaBackRow.laid.getD 4 default).1, Lib.firstData)] [("unicode.CaseRanges", Lib.caseData)] (by rw [← List.append_assoc]; exact h)
  have e1 : Rows.shaBackRow.laid = Rows.shaBackRow.laid.take 3 ++ ([("unicode.CaseRanges", Pinned.caseRanges)] ++ [((Rows.shaBackRow.laid.getD 4 default).1, Pinned.utf8First)]) := rfl
  rw [Pinned.caseRanges_eq, Pinned.utf8First_eq] at e1
  rw [e1]
  exact h2
theorem reads (os : Os) {H : Type} (enc : TypeId × Value → H) : ∃ places, DataW.whole enc Tryd.prog ((laidWorld5 os).forCall (fun _ _ => 0) ⟨#[], witnessArgs, []⟩).memory Tryd.f7.params.toList Rows.shaBackSpec.vars false witnessArgs.toList 8 = some (witnessData H, [], places) :=
  ⟨[], by kernel_rfl⟩
set_option maxRecDepth 100000 in
theorem lifted (os : Os) (started : os.Started) (H : Type) (enc : TypeId × Value → H) (F : Stop.Interp) :
    ReturnsInHanded {} Tryd.checked os 7 .any ((OpenSpec.ofChange Rows.shaBackSpec).preRow enc Tryd.prog Tryd.f7 Rows.shaBackRow.domain false Rows.shaBackRow.laid) (((OpenSpec.ofChange Rows.shaBackSpec).at F).post enc Tryd.prog Tryd.f7 false true false false) := by
  obtain ⟨places, hx⟩ := reads os enc
  refine returnsInHanded_of_row (C := Tryd.checked) (s := OpenSpec.ofChange Rows.shaBackSpec) own started (by kernel_rfl) Tryd.func7
    (witness_row_atRef (enc := enc) (C := Tryd.checked) false (laidWorld5 os) witnessArgs rfl (by kernel_rfl) (by kernel_rfl) (by kernel_rfl)
      (OpenSpec.preRow_of_cond 8 hx (by kernel_rfl) (fun k hk => by cases hk) (by kernel_rfl) (laid_met os))) ?_
  intro W base args ds gs before hval hW _ _ _ hL _ _
  exact contract H enc W base args ds gs before hval hW hL
theorem said : Rows.ShaBackSaid :=
  OpenClaim.holds_of_cond 7 Tryd.f7 rfl rfl rfl rfl rfl rfl rfl ⟨rfl, rfl, rfl, rfl, rfl⟩ rfl rfl rfl rfl rfl (by kernel_rfl) Tryd.func7 (by kernel_rfl)
    (of_decide_eq_true (by kernel_rfl)) (by unfold Func.isWrapper; first | (rw [if_pos (by decide +kernel)]; kernel_rfl) | (rw [if_neg (by decide +kernel)]; exact ⟨rfl, rfl⟩))
    (fun os started H enc _ F => by rw [OpenClaim.pre_eq_preRow]; exact lifted os started H enc F)
/-- No parameter wants a stand-in; the program's own looks are off: what the card asks. -/
theorem plain (f : FuncId) (fn : Func) (hf : Tryd.pinned.checked.prog.funcNamed Rows.shaBackRow.func = some f) (hfn : Tryd.pinned.checked.prog.funcs[f]? = some fn) :
    false = Tryd.pinned.checked.prog.looks [] ∧ ∀ (j : Nat) t, fn.params[j]? = some t → Tryd.pinned.checked.prog.wantsStandIn t = false := by
  obtain rfl : f = 7 := Option.some.inj ((show Tryd.prog.funcNamed Rows.shaBackRow.func = some 7 by kernel_rfl).symm.trans hf) |>.symm
  obtain rfl : fn = Tryd.f7 := (Option.some.inj (Tryd.func7.symm.trans hfn)).symm
  refine ⟨by kernel_rfl, fun j t ht => ?_⟩
  rw [Tryd.params7] at ht
  exact noStandIn j t ht
/-- THE CARD -/
theorem card : Rows.ShaBackCardSaid :=
  Claim7.holds_tied_plain_at .later [] _ _ _ _ said (fun _ h => by cases h) (by kernel_rfl) (fun _ h => by cases h) shaBack_row_tie rfl ⟨rfl, rfl⟩ (by kernel_rfl) rfl plain (by kernel_rfl)
end Go.Proofs.YtofficleahalaaaDoor.sShaBack
