/- path.Class, Whiteout, Opaque. -/
import Derived.Test.YtkijhaibcnhedaaDoorPathClean
import Derived.Test.YtkijhaibcnhedaaDoorPathMap
namespace Go.Proofs.YtkijhaibcnhedaaDoor
open Go.RowKit
def whiteB : List UInt8 := [46, 119, 104, 46]
def markB : List UInt8 := [46, 119, 104, 46, 46, 119, 104, 46, 46, 111, 112, 113]
def tableB : List UInt8 := [46, 119, 104, 46, 46, 119, 104, 46, 116, 111, 99]
def dirP (p : List UInt8) : List UInt8 := p.take (cutAt p)
/-- the class of a last name -/
def lastC (b : List UInt8) : Nat := if b == markB then 3 else if whiteB.isPrefixOf b then 2 else 1
/-- a slash at the end is left out -/
def trimSl (d : List UInt8) : List UInt8 := if ([47] : List UInt8).isSuffixOf d then d.take (d.length - 1) else d
/-- the target, by the class -/
def tgtC (c : Nat) (d b : List UInt8) : List UInt8 := if c = 1 then d ++ b else if c = 2 then d ++ b.drop 4 else trimSl d
/-- Class -/
def classP (p : List UInt8) : Int × List UInt8 :=
  if p == tableB then (4, []) else
  if !mayP (tgtC (lastC (baseP p)) (dirP p) (baseP p)) || (lastC (baseP p) != 3 && (tgtC (lastC (baseP p)) (dirP p) (baseP p)).isEmpty) || (lastC (baseP p) == 2 && !mayN ((baseP p).drop 4)) || dirP p == [47] then (0, [])
  else ((lastC (baseP p) : Int), tgtC (lastC (baseP p)) (dirP p) (baseP p))
theorem last_any (b : List UInt8) (w : World) : Calls Tryd.prog 44 #[.string ⟨b.toArray⟩] w fun e w' => e = .returned (.int .i64 (lastC b : Int)) ∧ w = w' := by
  have HP : Keep (∀ w, Calls Tryd.prog 17 #[.string ⟨b.toArray⟩, .string ⟨#[46, 119, 104, 46]⟩] w fun e w' => e = .returned (.bool (whiteB.isPrefixOf b)) ∧ w' = w) := ⟨fun w => Tryd.strings_HasPrefix _ _ w⟩
  unfold lastC
  generalize whiteB.isPrefixOf b = b2 at *
  have hm : (b == markB) = (b == [46, 119, 104, 46, 46, 119, 104, 46, 46, 111, 112, 113]) := rfl
  rw [hm]
  generalize h1 : (b == [46, 119, 104, 46, 46, 119, 104, 46, 46, 111, 112, 113]) = b1
  clear hm
  cases b1 with
  | true =>
    go_enter Tryd.func44, Tryd.ntmps44
    go_wp2_with fail
    go_ret
    exact ⟨rfl, rfl⟩
  | false =>
    go_enter Tryd.func44, Tryd.ntmps44
    go_wp2_with fail
    refine (HP.out _).mono ?_
    rintro e w' ⟨rfl, rfl⟩
    cases b2 with
    | true =>
      go_wp2_with fail
      go_ret
      exact ⟨rfl, rfl⟩
    | false =>
      go_wp2_with fail
      go_ret
      exact ⟨rfl, rfl⟩
theorem c1_any (d b : List UInt8) (h : d.length + b.length ≤ 1000000000) (w : World) : Calls Tryd.prog 110 #[.string ⟨d.toArray⟩, .string ⟨b.toArray⟩] w fun e w' => e = .returned (.string ⟨(d ++ b).toArray⟩) ∧ w = w' := by
  have hc := run_cat (P := Tryd.prog) d b (by omega)
  generalize d ++ b = q at *
  go_enter Tryd.func110, Tryd.ntmps110
  go_wp2_with fail
  go_ret
  exact ⟨rfl, rfl⟩
theorem c2_any (d b : List UInt8) (h : d.length + b.length ≤ 1000000000) (h4 : 4 ≤ b.length) (w : World) : Calls Tryd.prog 111 #[.string ⟨d.toArray⟩, .string ⟨b.toArray⟩] w fun e w' => e = .returned (.string ⟨(d ++ b.drop 4).toArray⟩) ∧ w = w' := by
  have hk := run_slice_from (P := Tryd.prog) Tryd.underlying9 b .i64 4 h4
  have hk2 : ∀ w, (Instr.slice 9 (.string ⟨b.toArray⟩) (some (.int .i64 4)) none none).run Tryd.prog w = .ok (.string ⟨(b.drop 4).toArray⟩) w := hk
  have hc := run_cat (P := Tryd.prog) d (b.drop 4) (by simp; omega)
  clear hk
  generalize d ++ b.drop 4 = q at *
  generalize b.drop 4 = bd at *
  go_enter Tryd.func111, Tryd.ntmps111
  go_wp2_with fail
  go_ret
  exact ⟨rfl, rfl⟩
theorem c3_any (d b : List UInt8) (h : d.length ≤ 1000000000) (w : World) : Calls Tryd.prog 112 #[.string ⟨d.toArray⟩, .string ⟨b.toArray⟩] w fun e w' => e = .returned (.string ⟨(trimSl d).toArray⟩) ∧ w = w' := by
  have HT : Keep (∀ w, Calls Tryd.prog 45 #[.string ⟨d.toArray⟩, .string ⟨#[47]⟩] w fun e w' => e = .returned (.string ⟨(trimSl d).toArray⟩) ∧ w' = w) := ⟨fun w => Tryd.strings_TrimSuffix ⟨d.toArray⟩ ⟨#[47]⟩ w (by show d.length ≤ _; omega)⟩
  generalize trimSl d = q at *
  go_enter Tryd.func112, Tryd.ntmps112
  go_wp2_with fail
  refine (HT.out _).mono ?_
  rintro e w' ⟨rfl, rfl⟩
  go_wp2_with fail
  go_ret
  exact ⟨rfl, rfl⟩
theorem trim_base (p : List UInt8) : Lib.trimSuffix p (baseP p) = dirP p := by
  have h1 : Lib.hasSuffix p (baseP p) = true := by
    show (baseP p).isSuffixOf p = true
    rw [List.isSuffixOf_iff_suffix]
    exact List.drop_suffix _ _
  have hl : p.length - (baseP p).length = cutAt p := by
    have := cutAt_le p
    unfold baseP
    rw [List.length_drop]; omega
  unfold Lib.trimSuffix
  rw [if_pos h1, hl]; rfl
end Go.Proofs.YtkijhaibcnhedaaDoor
