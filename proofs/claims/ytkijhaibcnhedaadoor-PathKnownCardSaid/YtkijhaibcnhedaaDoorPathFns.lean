/- path: Split, MayName, Parent, Base, Under. -/
import Derived.Test.YtkijhaibcnhedaaDoorPathSpec
import Derived.Test.YtkijhaibcnhedaaDoorIAny
import Derived.Test.YtkijhaibcnhedaaDoorGen2
import Derived.Test.YtkijhaibcnhedaaDoorSlStr
namespace Go.Proofs.YtkijhaibcnhedaaDoor
open Go.RowKit
/-- blocks laid since w -/
abbrev NewIn (w w' : World) (b : Nat) : Prop := w.heap.size ≤ b ∧ b < w'.heap.size
def strV (l : List UInt8) : Value := .string ⟨l.toArray⟩
/-- v, a []string, reads as the names l -/
abbrev RdS (w : World) (N : Nat → Prop) (v : Value) (l : List (List UInt8)) : Prop := RdV w N 1 v l.length (l.map strV)
/-- .. and is the call's own -/
abbrev OwnS (w : World) (base : Nat) (v : Value) (l : List (List UInt8)) : Prop := w.ownsRow base 9 1 v l.length (l.map strV)
/-- internal/bytealg.MaxLen holds some int -/
structure Mx (B : Nat) (w : World) : Prop where
  lt : 1 < B
  ex : ∃ m, w.cell? ⟨1, 0, none⟩ = some (.int .i64 m)
theorem Mx.on {B : Nat} {w w' : World} (h : Mx B w) (hb : Below B w w') : Mx B w' := by
  obtain ⟨m, hm⟩ := h.ex
  exact ⟨h.lt, m, by rw [hb.cell (p := ⟨1, 0, none⟩) h.lt]; exact hm⟩
theorem slS : SlK Tryd.prog 22 9 (strV []) 1 16 := SlK.mk' Tryd.underlying22 (by kernel_rfl) rfl (by decide)
theorem bne_nil (l : List UInt8) : (l == []) = l.isEmpty := by cases l <;> rfl
theorem ssplit_any (l : List UInt8) (hl : l.length ≤ 1000000) (B : Nat) (w : World) (hB : B ≤ w.heap.size) (hM : Mx B w) :
    Calls Tryd.prog 41 #[.string ⟨l.toArray⟩, .string ⟨#[47]⟩] w fun e w' => ∃ v, e = .returned v ∧ (∃ b, v = .slice (some ⟨b, 0, none⟩) (spl l).length (spl l).length) ∧ OwnS w' w.heap.size v (spl l) ∧ Below w.heap.size w w' := by
  obtain ⟨m, hm⟩ := hM.ex
  refine (Tryd.strings_Split ⟨l.toArray⟩ ⟨#[47]⟩ m w (by show l.length < _; omega) hm (by decide)).mono ?_
  rintro e w' ⟨rfl, rfl⟩
  have hn := spl_length l
  rw [splitB_spl, count_spl, List.map_map]
  refine ⟨_, rfl, ⟨_, rfl⟩, ?_, (Below.refl _ _).alloc (Nat.le_refl _) _⟩
  exact ownsV_new 9 ((spl l).map strV) 1 (spl l).length _ _ rfl (Nat.le_refl _) (by simp) (by unfold maxLen; omega)
set_option maxHeartbeats 1000000 in
theorem split_any (l : List UInt8) (hl : l.length ≤ 1000000) (B : Nat) (w : World) (hB : B ≤ w.heap.size) (hM : Mx B w) :
    Calls Tryd.prog 12 #[.string ⟨l.toArray⟩] w fun e w' => ∃ v, e = .returned v ∧ OwnS w' w.heap.size v (splitP l) ∧ Below w.heap.size w w' := by
  have HS := Keep.keep (ssplit_any l hl B w hB hM)
  have heq := bne_nil l
  clear hM
  cases hl0 : l.isEmpty with
  | true =>
    have hs : splitP l = [] := by cases l with | nil => rfl | cons c l => cases hl0
    rw [hl0] at heq
    rw [hs]
    clear hs hl0
    go_enter Tryd.func12, Tryd.ntmps12
    go_wp2_with fail
    go_ret
    exact ⟨_, rfl, World.ownsRow_nil _ _ _ _, Below.refl _ _⟩
  | false =>
    have hs : splitP l = spl l := by cases l with | nil => cases hl0 | cons c l => rfl
    rw [hl0] at heq
    rw [hs]
    clear hs hl0
    go_enter Tryd.func12, Tryd.ntmps12
    go_wp2_with fail
    refine HS.out.mono ?_
    rintro e w1 ⟨v, rfl, ⟨b, rfl⟩, ho, hb⟩
    have HO := Keep.keep ho; have HB := Keep.keep hb
    clear ho hb
    go_wp2_with fail
    go_ret
    exact ⟨_, rfl, HO.out, HB.out⟩
set_option maxHeartbeats 1000000 in
set_option maxRecDepth 100000 in
theorem mayname_any (s : List UInt8) (hs : s.length ≤ 1000000) (w : World) :
    Calls Tryd.prog 8 #[.string ⟨s.toArray⟩] w fun e w' => e = .returned (.bool (mayN s)) ∧ Below w.heap.size w w' := by
  have HC := Keep.keep (fun w => cany_any s [47, 0] (by decide) (by decide) (by decide) (by omega) w)
  have HP := Keep.keep (fun w => Tryd.strings_HasPrefix ⟨s.toArray⟩ ⟨#[46, 119, 104, 46]⟩ w)
  have e1 := bne_nil s
  have e2 : decide ((s.length : Int) ≤ 251) = decide (s.length ≤ 251) := by simp only [decide_eq_decide]; omega
  have e5 : s.any (([47, 0] : List UInt8).contains ·) = s.any (fun c => c == 47 || c == 0) := by
    congr 1; funext c; simp [List.contains, List.elem]
    cases c == 47 <;> cases c == 0 <;> rfl
  have e6 : Lib.hasPrefix (⟨s.toArray⟩ : ByteArray).data.toList (⟨#[46, 119, 104, 46]⟩ : ByteArray).data.toList = ([46, 119, 104, 46] : List UInt8).isPrefixOf s := rfl
  rw [e5] at HC
  rw [e6] at HP
  unfold mayN
  simp only [bne]
  generalize s.isEmpty = b1 at *
  generalize decide (s.length ≤ 251) = b2 at *
  generalize e3 : (s == [46]) = b3 at *
  generalize e4 : (s == [46, 46]) = b4 at *
  generalize (s.any fun c => c == 47 || c == 0) = b5 at *
  generalize ([46, 119, 104, 46] : List UInt8).isPrefixOf s = b6 at *
  clear e5 e6
  cases b1 with
  | true =>
    go_enter Tryd.func8, Tryd.ntmps8
    go_wp2_with fail
    go_ret
    exact ⟨rfl, Below.refl _ _⟩
  | false =>
  cases b2 with
  | false =>
    go_enter Tryd.func8, Tryd.ntmps8
    go_wp2_with fail
    go_ret
    exact ⟨rfl, Below.refl _ _⟩
  | true =>
  cases b3 with
  | true =>
    go_enter Tryd.func8, Tryd.ntmps8
    go_wp2_with fail
    go_ret
    exact ⟨rfl, Below.refl _ _⟩
  | false =>
  cases b4 with
  | true =>
    go_enter Tryd.func8, Tryd.ntmps8
    go_wp2_with fail
    go_ret
    exact ⟨rfl, Below.refl _ _⟩
  | false =>
  cases b5 with
  | true =>
    go_enter Tryd.func8, Tryd.ntmps8
    go_wp2_with fail
    refine (HC.out _).mono ?_
    rintro e w1 ⟨rfl, hb1⟩
    go_wp2_with fail
    go_ret
    exact ⟨rfl, hb1⟩
  | false =>
    go_enter Tryd.func8, Tryd.ntmps8
    go_wp2_with fail
    refine (HC.out _).mono ?_
    rintro e w1 ⟨rfl, hb1⟩
    have HB := Keep.keep hb1
    clear hb1
    go_wp2_with fail
    refine (HP.out _).mono ?_
    rintro e w2 ⟨rfl, rfl⟩
    go_wp2_with fail
    go_ret
    exact ⟨rfl, HB.out⟩
set_option maxHeartbeats 1000000 in
theorem parent_any (p : List UInt8) (hp : p.length ≤ 1000000) (w : World) :
    Calls Tryd.prog 13 #[.string ⟨p.toArray⟩] w fun e w' => e = .returned (.string ⟨(parentP p).toArray⟩) ∧ w = w' := by
  have HL := Keep.keep (fun w => Tryd.strings_LastIndexByte ⟨p.toArray⟩ 47 (by show p.length < _; omega) w)
  rw [lastIndexByte_cut] at HL
  have hle := cutAt_le p
  have hk := run_slice_to (P := Tryd.prog) Tryd.underlying9 p .i64 (cutAt p - 1) (by omega)
  rw [show p.take (cutAt p - 1) = parentP p from rfl] at hk
  have hm : max ((cutAt p : Int) - 1) 0 = ((cutAt p - 1 : Nat) : Int) := by omega
  generalize cutAt p - 1 = n at *
  generalize (cutAt p : Int) - 1 = t at *
  generalize parentP p = q at *
  clear hle
  go_enter Tryd.func13, Tryd.ntmps13
  go_wp2_with fail
  refine (HL.out _).mono ?_
  rintro e w1 ⟨rfl, rfl⟩
  go_wp2_with fail
  go_ret
  exact ⟨rfl, rfl⟩
set_option maxHeartbeats 1000000 in
theorem base_any (p : List UInt8) (hp : p.length ≤ 1000000) (w : World) :
    Calls Tryd.prog 14 #[.string ⟨p.toArray⟩] w fun e w' => e = .returned (.string ⟨(baseP p).toArray⟩) ∧ w = w' := by
  have HL := Keep.keep (fun w => Tryd.strings_LastIndexByte ⟨p.toArray⟩ 47 (by show p.length < _; omega) w)
  rw [lastIndexByte_cut] at HL
  have hle := cutAt_le p
  have hk := run_slice_from (P := Tryd.prog) Tryd.underlying9 p .i64 (cutAt p) (by omega)
  rw [show p.drop (cutAt p) = baseP p from rfl] at hk
  have hm : (cutAt p : Int) - 1 + 1 = ((cutAt p : Nat) : Int) := by omega
  have hr : -1 ≤ (cutAt p : Int) - 1 ∧ (cutAt p : Int) - 1 ≤ 1000000 := by omega
  generalize (cutAt p : Int) - 1 = t at *
  generalize cutAt p = n at *
  generalize baseP p = q at *
  clear hle
  go_enter Tryd.func14, Tryd.ntmps14
  go_wp2_with fail
  refine (HL.out _).mono ?_
  rintro e w1 ⟨rfl, rfl⟩
  go_wp2_with fail
  go_ret
  exact ⟨rfl, rfl⟩
set_option maxHeartbeats 1000000 in
theorem under_any (d p : List UInt8) (hd : d.length ≤ 1000000) (w : World) :
    Calls Tryd.prog 15 #[.string ⟨d.toArray⟩, .string ⟨p.toArray⟩] w fun e w' => e = .returned (.bool (underP d p)) ∧ w = w' := by
  have HP : Keep (∀ w, Calls Tryd.prog 17 #[.string ⟨p.toArray⟩, .string ⟨(d ++ [47]).toArray⟩] w fun e w' => e = .returned (.bool ((d ++ [47]).isPrefixOf p)) ∧ w' = w) := ⟨fun w => Tryd.strings_HasPrefix _ _ w⟩
  have e1 := bne_nil p
  have e2 := bne_nil d
  have hc := run_cat (P := Tryd.prog) d [47] (by simp; omega)
  unfold underP
  generalize p.isEmpty = b1 at *
  generalize d.isEmpty = b2 at *
  generalize (d ++ [47]).isPrefixOf p = b3 at *
  generalize d ++ [47] = q at *
  cases b1 with
  | true =>
    go_enter Tryd.func15, Tryd.ntmps15
    go_wp2_with fail
    go_ret
    exact ⟨rfl, rfl⟩
  | false =>
  cases b2 with
  | true =>
    go_enter Tryd.func15, Tryd.ntmps15
    go_wp2_with fail
    go_ret
    exact ⟨rfl, rfl⟩
  | false =>
    go_enter Tryd.func15, Tryd.ntmps15
    go_wp2_with fail
    refine (HP.out _).mono ?_
    rintro e w2 ⟨rfl, rfl⟩
    go_wp2_with fail
    go_ret
    exact ⟨rfl, rfl⟩
end Go.Proofs.YtkijhaibcnhedaaDoor
