/- PARTS OF ONE PROOF, set in one file: PathClass, PathClassB, Node, TarTyp, QCell, TarMay, TarMayB, PathPartsL, PathWh. Each part tells its own conditions. -/
import Derived.Maps.Keyed
import Derived.Lib.LaidU8
import Derived.Deep.MidRow
import Derived.Test.YtphgmkhbhboklaaGreatDoorP1
import Derived.Test.YtphgmkhbhboklaaGreatDoorP3
/- path.Class, Whiteout, Opaque. -/
namespace Go.Proofs.YtphgmkhbhboklaaGreatDoor
open Go.RowKit
def whiteB : List UInt8 := [46, 119, 104, 46]
def markB : List UInt8 := [46, 119, 104, 46, 46, 119, 104, 46, 46, 111, 112, 113]
def tableB : List UInt8 := [46, 119, 104, 46, 46, 119, 104, 46, 116, 111, 99]
def dirP (p : List UInt8) : List UInt8 := p.take (cutAt p)
/-- the class of a last name -/
def lastC (b : List UInt8) : Nat := if b == markB then 3 else if whiteB.isPrefixOf b then 2 else 1
/-- a slash at the end is left out -/
def trimSl (d : List UInt8) : List UInt8 := if ([47] : List UInt8).isSuffixOf d then d.take (d.length - 1) else d
/-- the target, by the class -/
def tgtC (c : Nat) (d b : List UInt8) : List UInt8 := if c = 1 then d ++ b else if c = 2 then d ++ b.drop 4 else trimSl d
/-- Class -/
def classP (p : List UInt8) : Int × List UInt8 :=
  if p == tableB then (4, []) else
  if !mayP (tgtC (lastC (baseP p)) (dirP p) (baseP p)) || (lastC (baseP p) != 3 && (tgtC (lastC (baseP p)) (dirP p) (baseP p)).isEmpty) || (lastC (baseP p) == 2 && !mayN ((baseP p).drop 4)) || dirP p == [47] then (0, [])
  else ((lastC (baseP p) : Int), tgtC (lastC (baseP p)) (dirP p) (baseP p))
theorem last_any (b : List UInt8) (w : World) : Calls Tryz.prog 67 #[.string ⟨b.toArray⟩] w fun e w' => e = .returned (.int .i64 (lastC b : Int)) ∧ w = w' := by
  have HP : Keep (∀ w, Calls Tryz.prog 66 #[.string ⟨b.toArray⟩, .string ⟨#[46, 119, 104, 46]⟩] w fun e w' => e = .returned (.bool (whiteB.isPrefixOf b)) ∧ w' = w) := ⟨fun w => Tryz.strings_HasPrefix _ _ w⟩
  unfold lastC
  generalize whiteB.isPrefixOf b = b2 at *
  have hm : (b == markB) = (b == [46, 119, 104, 46, 46, 119, 104, 46, 46, 111, 112, 113]) := rfl
  rw [hm]
  generalize h1 : (b == [46, 119, 104, 46, 46, 119, 104, 46, 46, 111, 112, 113]) = b1
  clear hm
  cases b1 with
  | true =>
    go_enter Tryz.func67, Tryz.ntmps67
    go_wp2_with fail
    go_ret
    exact ⟨rfl, rfl⟩
  | false =>
    go_enter Tryz.func67, Tryz.ntmps67
    go_wp2_with fail
    refine (HP.out _).mono ?_
    rintro e w' ⟨rfl, rfl⟩
    cases b2 with
    | true =>
      go_wp2_with fail
      go_ret
      exact ⟨rfl, rfl⟩
    | false =>
      go_wp2_with fail
      go_ret
      exact ⟨rfl, rfl⟩
theorem c1_any (d b : List UInt8) (h : d.length + b.length ≤ 1000000000) (w : World) : Calls Tryz.prog 155 #[.string ⟨d.toArray⟩, .string ⟨b.toArray⟩] w fun e w' => e = .returned (.string ⟨(d ++ b).toArray⟩) ∧ w = w' := by
  have hc := run_cat (P := Tryz.prog) d b (by omega)
  generalize d ++ b = q at *
  go_enter Tryz.func155, Tryz.ntmps155
  go_wp2_with fail
  go_ret
  exact ⟨rfl, rfl⟩
theorem c2_any (d b : List UInt8) (h : d.length + b.length ≤ 1000000000) (h4 : 4 ≤ b.length) (w : World) : Calls Tryz.prog 156 #[.string ⟨d.toArray⟩, .string ⟨b.toArray⟩] w fun e w' => e = .returned (.string ⟨(d ++ b.drop 4).toArray⟩) ∧ w = w' := by
  have hk := run_slice_from (P := Tryz.prog) Tryz.underlying9 b .i64 4 h4
  have hk2 : ∀ w, (Instr.slice 9 (.string ⟨b.toArray⟩) (some (.int .i64 4)) none none).run Tryz.prog w = .ok (.string ⟨(b.drop 4).toArray⟩) w := hk
  have hc := run_cat (P := Tryz.prog) d (b.drop 4) (by simp; omega)
  clear hk
  generalize d ++ b.drop 4 = q at *
  generalize b.drop 4 = bd at *
  go_enter Tryz.func156, Tryz.ntmps156
  go_wp2_with fail
  go_ret
  exact ⟨rfl, rfl⟩
theorem c3_any (d b : List UInt8) (h : d.length ≤ 1000000000) (w : World) : Calls Tryz.prog 157 #[.string ⟨d.toArray⟩, .string ⟨b.toArray⟩] w fun e w' => e = .returned (.string ⟨(trimSl d).toArray⟩) ∧ w = w' := by
  have HT : Keep (∀ w, Calls Tryz.prog 68 #[.string ⟨d.toArray⟩, .string ⟨#[47]⟩] w fun e w' => e = .returned (.string ⟨(trimSl d).toArray⟩) ∧ w' = w) := ⟨fun w => Tryz.strings_TrimSuffix ⟨d.toArray⟩ ⟨#[47]⟩ w (by show d.length ≤ _; omega)⟩
  generalize trimSl d = q at *
  go_enter Tryz.func157, Tryz.ntmps157
  go_wp2_with fail
  refine (HT.out _).mono ?_
  rintro e w' ⟨rfl, rfl⟩
  go_wp2_with fail
  go_ret
  exact ⟨rfl, rfl⟩
theorem trim_base (p : List UInt8) : Lib.trimSuffix p (baseP p) = dirP p := by
  have h1 : Lib.hasSuffix p (baseP p) = true := by
    show (baseP p).isSuffixOf p = true
    rw [List.isSuffixOf_iff_suffix]
    exact List.drop_suffix _ _
  have hl : p.length - (baseP p).length = cutAt p := by
    have := cutAt_le p
    unfold baseP
    rw [List.length_drop]; omega
  unfold Lib.trimSuffix
  rw [if_pos h1, hl]; rfl
end Go.Proofs.YtphgmkhbhboklaaGreatDoor
/- path.Class: the walk, class by class. -/
namespace Go.Proofs.YtphgmkhbhboklaaGreatDoor
open Go.RowKit
theorem dir_base (p : List UInt8) : dirP p ++ baseP p = p := List.take_append_drop _ _
set_option maxHeartbeats 4000000 in
set_option maxRecDepth 100000 in
theorem class_1 (p : List UInt8) (hp : p.length ≤ 1000000) (B : Nat) (w : World) (hB : B ≤ w.heap.size) (hM : Mx B w) (hC : Cls B w) (ht : (p == tableB) = false) (hc : lastC (baseP p) = 1) :
    Calls Tryz.prog 39 #[.string ⟨p.toArray⟩] w fun e w' => e = .returned (.tuple #[.int .i64 (classP p).1, .string ⟨(classP p).2.toArray⟩]) ∧ Below w.heap.size w w' := by
  have HBA := Keep.keep (fun w => base_any p hp w)
  have HLA := Keep.keep (fun w => last_any (baseP p) w)
  have HTR : Keep (∀ w, Calls Tryz.prog 68 #[.string ⟨p.toArray⟩, .string ⟨(baseP p).toArray⟩] w fun e w' => e = .returned (.string ⟨(dirP p).toArray⟩) ∧ w' = w) := ⟨fun w => by
    have h := Tryz.strings_TrimSuffix ⟨p.toArray⟩ ⟨(baseP p).toArray⟩ w (by show p.length ≤ _; omega)
    rw [show Lib.trimSuffix (⟨p.toArray⟩ : ByteArray).data.toList (⟨(baseP p).toArray⟩ : ByteArray).data.toList = dirP p from trim_base p] at h
    exact h⟩
  have hlen : (dirP p).length + (baseP p).length = p.length := by rw [← List.length_append, dir_base]
  have htab : (p == [46, 119, 104, 46, 46, 119, 104, 46, 116, 111, 99]) = false := ht
  have HE : Keep (classP p = if !mayP (tgtC 1 (dirP p) (baseP p)) || ((1 : Nat) != 3 && (tgtC 1 (dirP p) (baseP p)).isEmpty) || ((1 : Nat) == 2 && !mayN ((baseP p).drop 4)) || dirP p == [47] then (0, []) else (1, tgtC 1 (dirP p) (baseP p))) := ⟨by
    unfold classP
    rw [ht, hc]; rfl⟩
  rw [hc] at HLA
  obtain ⟨bm, hcell, hlook⟩ := hC.look 1 (by decide) (by decide)
  have hlk : (Instr.lookup 101 (.map (some bm)) (.int .i64 1) false).run Tryz.prog w = .ok (.func (.func 155) #[] #[]) w := hlook
  have HCF := Keep.keep (fun w => c1_any (dirP p) (baseP p) (by omega) w)
  rw [show dirP p ++ baseP p = tgtC 1 (dirP p) (baseP p) from rfl] at HCF
  have htl : (tgtC 1 (dirP p) (baseP p)).length ≤ 1000000 := by show (dirP p ++ baseP p).length ≤ _; simp; omega
  have HMY := Keep.keep (fun wx (h : Below w.heap.size w wx) => may_any (tgtC 1 (dirP p) (baseP p)) htl B wx (Nat.le_trans hB h.size) (hM.on (h.mono hB)))
  have hbn := bne_nil (tgtC 1 (dirP p) (baseP p))
  generalize hd47 : (dirP p == [47]) = b4 at *
  generalize tgtC 1 (dirP p) (baseP p) = t at *
  generalize mayP t = b1 at *
  generalize t.isEmpty = b2 at *
  generalize classP p = out at *
  generalize dirP p = d at *
  generalize baseP p = bs at *
  clear hM hC hlen ht hc hlook htl
  go_enter Tryz.func39, Tryz.ntmps39
  go_wp2_with fail
  refine (HBA.out _).mono ?_
  rintro e w' ⟨rfl, rfl⟩
  go_wp2_with fail
  refine (HLA.out _).mono ?_
  rintro e w' ⟨rfl, rfl⟩
  go_wp2_with fail
  refine (HTR.out _).mono ?_
  rintro e w' ⟨rfl, rfl⟩
  go_wp2_with fail
  refine (HCF.out _).mono ?_
  rintro e w' ⟨rfl, rfl⟩
  go_wp2_with fail
  refine (HMY.out _ (Below.refl _ _)).mono ?_
  rintro e w1 ⟨rfl, hb1⟩
  have HB1 := Keep.keep hb1
  clear hb1 hlk hcell
  cases b1 with
  | false =>
    have HX : Keep (out = (0, [])) := ⟨by rw [HE.out]; rfl⟩
    go_wp2_with fail
    go_ret2
    exact ⟨by rw [HX.out]; rfl, HB1.out⟩
  | true =>
  cases b2 with
  | true =>
    have HX : Keep (out = (0, [])) := ⟨by rw [HE.out]; rfl⟩
    go_wp2_with fail
    go_ret2
    exact ⟨by rw [HX.out]; rfl, HB1.out⟩
  | false =>
  cases b4 with
  | true =>
    have HX : Keep (out = (0, [])) := ⟨by rw [HE.out]; rfl⟩
    go_wp2_with fail
    go_ret2
    exact ⟨by rw [HX.out]; rfl, HB1.out⟩
  | false =>
    have HX : Keep (out = (1, t)) := ⟨by rw [HE.out]; rfl⟩
    go_wp2_with fail
    go_ret2
    exact ⟨by rw [HX.out]; rfl, HB1.out⟩
set_option maxHeartbeats 4000000 in
set_option maxRecDepth 100000 in
theorem class_2 (p : List UInt8) (hp : p.length ≤ 1000000) (B : Nat) (w : World) (hB : B ≤ w.heap.size) (hM : Mx B w) (hC : Cls B w) (ht : (p == tableB) = false) (hc : lastC (baseP p) = 2) :
    Calls Tryz.prog 39 #[.string ⟨p.toArray⟩] w fun e w' => e = .returned (.tuple #[.int .i64 (classP p).1, .string ⟨(classP p).2.toArray⟩]) ∧ Below w.heap.size w w' := by
  have HBA := Keep.keep (fun w => base_any p hp w)
  have HLA := Keep.keep (fun w => last_any (baseP p) w)
  have HTR : Keep (∀ w, Calls Tryz.prog 68 #[.string ⟨p.toArray⟩, .string ⟨(baseP p).toArray⟩] w fun e w' => e = .returned (.string ⟨(dirP p).toArray⟩) ∧ w' = w) := ⟨fun w => by
    have h := Tryz.strings_TrimSuffix ⟨p.toArray⟩ ⟨(baseP p).toArray⟩ w (by show p.length ≤ _; omega)
    rw [show Lib.trimSuffix (⟨p.toArray⟩ : ByteArray).data.toList (⟨(baseP p).toArray⟩ : ByteArray).data.toList = dirP p from trim_base p] at h
    exact h⟩
  have hlen : (dirP p).length + (baseP p).length = p.length := by rw [← List.length_append, dir_base]
  have htab : (p == [46, 119, 104, 46, 46, 119, 104, 46, 116, 111, 99]) = false := ht
  have HE : Keep (classP p = if !mayP (tgtC 2 (dirP p) (baseP p)) || ((2 : Nat) != 3 && (tgtC 2 (dirP p) (baseP p)).isEmpty) || ((2 : Nat) == 2 && !mayN ((baseP p).drop 4)) || dirP p == [47] then (0, []) else (2, tgtC 2 (dirP p) (baseP p))) := ⟨by
    unfold classP
    rw [ht, hc]; rfl⟩
  rw [hc] at HLA
  obtain ⟨bm, hcell, hlook⟩ := hC.look 2 (by decide) (by decide)
  have hlk : (Instr.lookup 101 (.map (some bm)) (.int .i64 2) false).run Tryz.prog w = .ok (.func (.func 156) #[] #[]) w := hlook
  have h4 : 4 ≤ (baseP p).length := by
    unfold lastC at hc
    split at hc
    · omega
    · split at hc
      · rename_i h
        have := (List.isPrefixOf_iff_prefix.1 h).length_le
        simpa [whiteB] using this
      · omega
  have hk4 := run_slice_from (P := Tryz.prog) Tryz.underlying9 (baseP p) .i64 4 h4
  have hkb : ∀ w, (Instr.slice 9 (.string ⟨(baseP p).toArray⟩) (some (.int .i64 4)) none none).run Tryz.prog w = .ok (.string ⟨((baseP p).drop 4).toArray⟩) w := hk4
  have HCF := Keep.keep (fun w => c2_any (dirP p) (baseP p) (by omega) h4 w)
  have HMN := Keep.keep (fun w => mayname_any ((baseP p).drop 4) (by simp; omega) w)
  rw [show dirP p ++ (baseP p).drop 4 = tgtC 2 (dirP p) (baseP p) from rfl] at HCF
  have htl : (tgtC 2 (dirP p) (baseP p)).length ≤ 1000000 := by show (dirP p ++ (baseP p).drop 4).length ≤ _; simp; omega
  clear hk4
  have HMY := Keep.keep (fun wx (h : Below w.heap.size w wx) => may_any (tgtC 2 (dirP p) (baseP p)) htl B wx (Nat.le_trans hB h.size) (hM.on (h.mono hB)))
  have hbn := bne_nil (tgtC 2 (dirP p) (baseP p))
  generalize hd47 : (dirP p == [47]) = b4 at *
  generalize tgtC 2 (dirP p) (baseP p) = t at *
  generalize mayP t = b1 at *
  generalize t.isEmpty = b2 at *
  generalize classP p = out at *
  generalize mayN ((baseP p).drop 4) = b3 at *
  generalize (baseP p).drop 4 = bd at *
  generalize dirP p = d at *
  generalize baseP p = bs at *
  clear hM hC hlen ht hc hlook htl h4
  go_enter Tryz.func39, Tryz.ntmps39
  go_wp2_with fail
  refine (HBA.out _).mono ?_
  rintro e w' ⟨rfl, rfl⟩
  go_wp2_with fail
  refine (HLA.out _).mono ?_
  rintro e w' ⟨rfl, rfl⟩
  go_wp2_with fail
  refine (HTR.out _).mono ?_
  rintro e w' ⟨rfl, rfl⟩
  go_wp2_with fail
  refine (HCF.out _).mono ?_
  rintro e w' ⟨rfl, rfl⟩
  go_wp2_with fail
  refine (HMY.out _ (Below.refl _ _)).mono ?_
  rintro e w1 ⟨rfl, hb1⟩
  have HB1 := Keep.keep hb1
  clear hb1 hlk hcell
  cases b1 with
  | false =>
    have HX : Keep (out = (0, [])) := ⟨by rw [HE.out]; rfl⟩
    go_wp2_with fail
    go_ret2
    exact ⟨by rw [HX.out]; rfl, HB1.out⟩
  | true =>
  cases b2 with
  | true =>
    have HX : Keep (out = (0, [])) := ⟨by rw [HE.out]; rfl⟩
    go_wp2_with fail
    go_ret2
    exact ⟨by rw [HX.out]; rfl, HB1.out⟩
  | false =>
  go_wp2_with fail
  refine (HMN.out _).mono ?_
  rintro e w2 ⟨rfl, hb2⟩
  have HB2 := Keep.keep (HB1.out.trans (hb2.mono HB1.out.size))
  clear hb2
  cases b3 with
  | false =>
    have HX : Keep (out = (0, [])) := ⟨by rw [HE.out]; rfl⟩
    go_wp2_with fail
    go_ret2
    exact ⟨by rw [HX.out]; rfl, HB2.out⟩
  | true =>
  cases b4 with
  | true =>
    have HX : Keep (out = (0, [])) := ⟨by rw [HE.out]; rfl⟩
    go_wp2_with fail
    go_ret2
    exact ⟨by rw [HX.out]; rfl, HB2.out⟩
  | false =>
    have HX : Keep (out = (2, t)) := ⟨by rw [HE.out]; rfl⟩
    go_wp2_with fail
    go_ret2
    exact ⟨by rw [HX.out]; rfl, HB2.out⟩
set_option maxHeartbeats 4000000 in
set_option maxRecDepth 100000 in
theorem class_3 (p : List UInt8) (hp : p.length ≤ 1000000) (B : Nat) (w : World) (hB : B ≤ w.heap.size) (hM : Mx B w) (hC : Cls B w) (ht : (p == tableB) = false) (hc : lastC (baseP p) = 3) :
    Calls Tryz.prog 39 #[.string ⟨p.toArray⟩] w fun e w' => e = .returned (.tuple #[.int .i64 (classP p).1, .string ⟨(classP p).2.toArray⟩]) ∧ Below w.heap.size w w' := by
  have HBA := Keep.keep (fun w => base_any p hp w)
  have HLA := Keep.keep (fun w => last_any (baseP p) w)
  have HTR : Keep (∀ w, Calls Tryz.prog 68 #[.string ⟨p.toArray⟩, .string ⟨(baseP p).toArray⟩] w fun e w' => e = .returned (.string ⟨(dirP p).toArray⟩) ∧ w' = w) := ⟨fun w => by
    have h := Tryz.strings_TrimSuffix ⟨p.toArray⟩ ⟨(baseP p).toArray⟩ w (by show p.length ≤ _; omega)
    rw [show Lib.trimSuffix (⟨p.toArray⟩ : ByteArray).data.toList (⟨(baseP p).toArray⟩ : ByteArray).data.toList = dirP p from trim_base p] at h
    exact h⟩
  have hlen : (dirP p).length + (baseP p).length = p.length := by rw [← List.length_append, dir_base]
  have htab : (p == [46, 119, 104, 46, 46, 119, 104, 46, 116, 111, 99]) = false := ht
  have HE : Keep (classP p = if !mayP (tgtC 3 (dirP p) (baseP p)) || ((3 : Nat) != 3 && (tgtC 3 (dirP p) (baseP p)).isEmpty) || ((3 : Nat) == 2 && !mayN ((baseP p).drop 4)) || dirP p == [47] then (0, []) else (3, tgtC 3 (dirP p) (baseP p))) := ⟨by
    unfold classP
    rw [ht, hc]; rfl⟩
  rw [hc] at HLA
  obtain ⟨bm, hcell, hlook⟩ := hC.look 3 (by decide) (by decide)
  have hlk : (Instr.lookup 101 (.map (some bm)) (.int .i64 3) false).run Tryz.prog w = .ok (.func (.func 157) #[] #[]) w := hlook
  have HCF := Keep.keep (fun w => c3_any (dirP p) (baseP p) (by omega) w)
  rw [show trimSl (dirP p) = tgtC 3 (dirP p) (baseP p) from rfl] at HCF
  have htl : (tgtC 3 (dirP p) (baseP p)).length ≤ 1000000 := by
    show (trimSl (dirP p)).length ≤ _
    unfold trimSl
    split
    · rw [List.length_take]; omega
    · omega
  have HMY := Keep.keep (fun wx (h : Below w.heap.size w wx) => may_any (tgtC 3 (dirP p) (baseP p)) htl B wx (Nat.le_trans hB h.size) (hM.on (h.mono hB)))
  have hbn := bne_nil (tgtC 3 (dirP p) (baseP p))
  generalize hd47 : (dirP p == [47]) = b4 at *
  generalize tgtC 3 (dirP p) (baseP p) = t at *
  generalize mayP t = b1 at *
  generalize t.isEmpty = b2 at *
  generalize classP p = out at *
  generalize dirP p = d at *
  generalize baseP p = bs at *
  clear hM hC hlen ht hc hlook htl
  go_enter Tryz.func39, Tryz.ntmps39
  go_wp2_with fail
  refine (HBA.out _).mono ?_
  rintro e w' ⟨rfl, rfl⟩
  go_wp2_with fail
  refine (HLA.out _).mono ?_
  rintro e w' ⟨rfl, rfl⟩
  go_wp2_with fail
  refine (HTR.out _).mono ?_
  rintro e w' ⟨rfl, rfl⟩
  go_wp2_with fail
  refine (HCF.out _).mono ?_
  rintro e w' ⟨rfl, rfl⟩
  go_wp2_with fail
  refine (HMY.out _ (Below.refl _ _)).mono ?_
  rintro e w1 ⟨rfl, hb1⟩
  have HB1 := Keep.keep hb1
  clear hb1 hlk hcell
  cases b1 with
  | false =>
    have HX : Keep (out = (0, [])) := ⟨by rw [HE.out]; rfl⟩
    go_wp2_with fail
    go_ret2
    exact ⟨by rw [HX.out]; rfl, HB1.out⟩
  | true =>
  cases b4 with
  | true =>
    have HX : Keep (out = (0, [])) := ⟨by rw [HE.out]; rfl⟩
    go_wp2_with fail
    go_ret2
    exact ⟨by rw [HX.out]; rfl, HB1.out⟩
  | false =>
    have HX : Keep (out = (3, t)) := ⟨by rw [HE.out]; rfl⟩
    go_wp2_with fail
    go_ret2
    exact ⟨by rw [HX.out]; rfl, HB1.out⟩
set_option maxHeartbeats 4000000 in
theorem class_any (p : List UInt8) (hp : p.length ≤ 1000000) (B : Nat) (w : World) (hB : B ≤ w.heap.size) (hM : Mx B w) (hC : Cls B w) :
    Calls Tryz.prog 39 #[.string ⟨p.toArray⟩] w fun e w' => e = .returned (.tuple #[.int .i64 (classP p).1, .string ⟨(classP p).2.toArray⟩]) ∧ Below w.heap.size w w' := by
  cases ht : p == tableB with
  | true =>
    have HE : Keep (classP p = (4, [])) := ⟨by unfold classP; rw [ht]; rfl⟩
    have htab : (p == [46, 119, 104, 46, 46, 119, 104, 46, 116, 111, 99]) = true := ht
    clear hM hC ht
    go_enter Tryz.func39, Tryz.ntmps39
    go_wp2_with fail
    go_ret2
    exact ⟨by rw [HE.out]; rfl, Below.refl _ _⟩
  | false =>
    have h : lastC (baseP p) = 1 ∨ lastC (baseP p) = 2 ∨ lastC (baseP p) = 3 := by
      unfold lastC
      split
      · simp
      · split <;> simp
    rcases h with h | h | h
    · exact class_1 p hp B w hB hM hC ht h
    · exact class_2 p hp B w hB hM hC ht h
    · exact class_3 p hp B w hB hM hC ht h
end Go.Proofs.YtphgmkhbhboklaaGreatDoor
/- NODES AND MEMBERS, plainly; how they lie in memory. -/
namespace Go.Proofs.YtphgmkhbhboklaaGreatDoor
open Go.RowKit
abbrev R2 := Tx × Tx
structure Nd where
  kind : Int
  mode : Int
  uid : Int
  gid : Int
  time : Int
  attrs : List R2
  data : Tx
  link : Tx
abbrev Mb := Tx × Nd
/-- attributes, as cells -/
def rcells (l : List R2) : List Value := l.flatMap fun p => [strV p.1, strV p.2]
theorem rcells_cons (p : R2) (l : List R2) : rcells (p :: l) = strV p.1 :: strV p.2 :: rcells l := rfl
theorem rcells_append (l m : List R2) : rcells (l ++ m) = rcells l ++ rcells m := by simp [rcells]
theorem rcells_length : ∀ l : List R2, (rcells l).length = l.length * 2
  | [] => rfl
  | p :: l => by rw [rcells_cons]; simp [rcells_length l]; omega
theorem rcells_get : ∀ (l : List R2) (j : Nat) (h : j < l.length), (rcells l)[j * 2]? = some (strV l[j].1) ∧ (rcells l)[j * 2 + 1]? = some (strV l[j].2)
  | p :: l, 0, _ => ⟨rfl, rfl⟩
  | p :: l, j + 1, h => by
    have := rcells_get l j (by simpa using h)
    rw [rcells_cons]
    have e : (j + 1) * 2 = j * 2 + 2 := by omega
    rw [e]
    simpa using this
theorem rcells_one (l : List R2) : ∀ u ∈ rcells l, u.oneCell' = true := by
  intro u hu
  simp only [rcells, List.mem_flatMap, List.mem_cons, List.not_mem_nil, or_false] at hu
  obtain ⟨p, _, rfl | rfl⟩ := hu <;> rfl
/-- a node's cells; its attributes and its bytes are slices -/
def ndC (n : Nd) (av dv : Value) : Array Value := #[.int .i64 n.kind, .int .u32 n.mode, .int .u32 n.uid, .int .u32 n.gid, .int .i64 n.time, av, dv, strV n.link]
def mbC (m : Mb) (av dv : Value) : Array Value := #[strV m.1, .int .i64 m.2.kind, .int .u32 m.2.mode, .int .u32 m.2.uid, .int .u32 m.2.gid, .int .i64 m.2.time, av, dv, strV m.2.link]
/-- the slices of a node read as they should; their blocks are of N -/
structure NdR (w : World) (N : Nat → Prop) (n : Nd) (av dv : Value) : Prop where
  at_ : RdV w N 2 av n.attrs.length (rcells n.attrs)
  dt : Reads w N dv n.data
theorem NdR.mono {w : World} {N N' : Nat → Prop} {n : Nd} {av dv : Value} (h : NdR w N n av dv) (hN : ∀ b, N b → N' b) : NdR w N' n av dv := ⟨h.at_.mono hN, h.dt.mono hN⟩
theorem NdR.chg {M N : Nat → Prop} {w w' : World} {B : Nat} {n : Nd} {av dv : Value} (h : NdR w N n av dv) (hb : Chg M B w w') (hN : ∀ b, N b → b < B ∧ ¬ M b) : NdR w' N n av dv := ⟨h.at_.chg hb hN, h.dt.chg hb hN⟩
theorem NdR.below {N : Nat → Prop} {w w' : World} {B : Nat} {n : Nd} {av dv : Value} (h : NdR w N n av dv) (hb : Below B w w') (hN : ∀ b, N b → b < B) : NdR w' N n av dv := ⟨h.at_.below hb hN, h.dt.below hb hN⟩
/-- what is no longer than a million -/
structure Sm (m : Mb) : Prop where
  p : m.1.length ≤ 400000
  l : m.2.link.length ≤ 1000000
  d : m.2.data.length ≤ 1000000
  a : m.2.attrs.length ≤ 1000000
  n : ∀ x ∈ m.2.attrs, x.1.length ≤ 1000000 ∧ x.2.length ≤ 1000000
  k : -9223372036854775808 ≤ m.2.kind ∧ m.2.kind ≤ 9223372036854775807
/-- an attribute, at its place, that may not be -/
def badA (l : List R2) (k : Nat) : Bool :=
  match l[k]? with
  | none => false
  | some a => (a.1 == []) || decide (242 < a.1.length) || a.1.any ([0, 61, 10].contains ·) || (match k with | 0 => false | j + 1 => (match l[j]? with | some b => decide (a.1 ≤ b.1) | none => false))
def mayA (l : List R2) : Bool := (List.range l.length).all (fun k => !badA l k) && decide (l.length ≤ 16)
def mayL (s : Tx) (is : Bool) : Bool := if is then (s != []) && decide (s.length ≤ 4096) && !decide ((0 : UInt8) ∈ s) else s == []
/-- tar.May -/
def mayT (m : Mb) : Bool := decide (¬ (classP m.1).1 = 0) && decide (1 ≤ m.2.kind ∧ m.2.kind ≤ 4) && decide (m.2.mode ≤ 4095) && mayA m.2.attrs && mayL m.2.link (decide (m.2.kind = 3)) && decide (m.2.data.length ≤ 16777216) && (decide (m.2.kind = 2) || decide (m.2.data.length = 0))
/-- tree.May -/
def mayM (m : Mb) : Bool := decide ((classP m.1).1 = 1) && mayT m
end Go.Proofs.YtphgmkhbhboklaaGreatDoor
/- THE TABLE OF KINDS' TYPES, as the rows list it; what it tells at a kind. -/
namespace Go.Proofs.YtphgmkhbhboklaaGreatDoor
open Go.ChangeShapes Go.WideShapes Go.ChangeAt Go.RowKit
def kindT (k : Int) : Nat := if k = 1 then 53 else if k = 2 then 48 else if k = 3 then 50 else if k = 4 then 54 else 0
/-- the world holds the table -/
def Typ (B : Nat) (w : World) : Prop := ∃ b, b < B ∧ 1 < B ∧ w.cell? ⟨1, 0, none⟩ = some (.map (some b)) ∧ ∃ (es : Array MapEntry) (clock : Nat) (R : Value → Option (DataW Unit × List MemPlace)),
  w.heap[b]? = some (.map es clock) ∧ WideElems.Fit Tryz.prog 3 R es clock ∧ DataW.map ((es.toList.map (WideElems.rg Tryz.prog 3 R)).foldr DataW.insert []) = Rows.laid_portolan_tar_types ∧
  ∀ v c ps, R v = some (.lit (.int .u8 c), ps) → v = .int .u8 c
theorem Typ.on {B : Nat} {w w' : World} (h : Typ B w) (hb : Below B w w') : Typ B w' := by
  obtain ⟨b, h1, h2, h3, es, clock, R, h4, h5⟩ := h
  exact ⟨b, h1, h2, by rw [hb.cell (p := ⟨1, 0, none⟩) h2]; exact h3, es, clock, R, by rw [hb.block b h1]; exact h4, h5⟩
theorem zeroU8 (w : World) : (zeroValue 5).run Tryz.prog w = .ok (.int .u8 0) w := by kernel_rfl
theorem atKey_types (k : Int) (z : DataW Unit) : (Rows.laid_portolan_tar_types : DataW Unit).atKey (.int .i64 k) z = if kindT k = 0 then z else .lit (.int .u8 (kindT k : Int)) := by
  unfold Rows.laid_portolan_tar_types DataW.atKey kindT
  simp only [List.find?_cons, Lit.sameKey]
  by_cases h1 : k = 1
  · subst h1; rfl
  · by_cases h2 : k = 2
    · subst h2; rfl
    · by_cases h3 : k = 3
      · subst h3; rfl
      · by_cases h4 : k = 4
        · subst h4; rfl
        · simp [h1, h2, h3, h4, Ne.symm h1, Ne.symm h2, Ne.symm h3, Ne.symm h4]
theorem Typ.look {B : Nat} {w : World} (h : Typ B w) (k : Int) (hk : -9223372036854775808 ≤ k ∧ k ≤ 9223372036854775807) : ∃ b, w.cell? ⟨1, 0, none⟩ = some (.map (some b)) ∧
    (Instr.lookup 102 (.map (some b)) (.int .i64 k) false).run Tryz.prog w = .ok (.int .u8 (kindT k : Int)) w := by
  obtain ⟨b, h1, h2, h3, es, clock, R, h4, h5, h6, h7⟩ := h
  refine ⟨b, h3, ?_⟩
  have hwf : (Lit.int .i64 k).wf = true := by
    have e1 : IntKind.i64.min = -9223372036854775808 := rfl
    have e2 : IntKind.i64.max = 9223372036854775807 := rfl
    simp only [Lit.wf, e1, e2, Bool.and_eq_true, decide_eq_true_eq]; exact hk
  have hkey : keyOf Tryz.prog 3 (.int .i64 k) = some (.int .i64 k) := Maps.keyOf_int_mk Tryz.underlying3 hwf
  rcases Maps.fit_look false (Maps.int_keyed Tryz.underlying3) Tryz.underlying102 (zeroU8 w) h4 h5 hkey with ⟨h8, -, h9⟩ | ⟨e0, y, -, -, h8, h9, h10, -⟩
  · rw [h8]
    rw [h6] at h9
    have ha := h9 .nil
    rw [atKey_types] at ha
    by_cases hp : kindT k = 0
    · rw [hp]; rfl
    · rw [if_neg hp] at ha; cases ha
  · rw [h8]
    rw [h6] at h10
    have ha := h10 .nil
    have hb := h10 (.agg [])
    rw [atKey_types] at ha hb
    by_cases hp : kindT k = 0
    · rw [if_pos hp] at ha hb; rw [← ha] at hb; cases hb
    · rw [if_neg hp] at ha
      obtain ⟨y1, y2⟩ := y
      simp only at ha
      subst ha
      rw [h7 _ _ y2 h9]
      rfl
set_option maxRecDepth 100000 in
theorem typ_of_laid {W : World} {l : List (String × DataW Unit)} (hL : laidMet Tryz.prog l W) (hm : ("portolan/tar.types", Rows.laid_portolan_tar_types) ∈ l) : Typ W.heap.size W := by
  obtain ⟨g, t, cs, fuel, p, hg, ht, hvar, hd⟩ := Lib.laidMet.reads hL hm
  obtain rfl : 1 = g := Option.some.inj ((show Tryz.prog.globalNamed "portolan/tar.types" = some 1 by kernel_rfl).symm.trans hg)
  obtain rfl : 102 = t := Option.some.inj ((show (Tryz.prog.globals[1]?).map (·.type) = some 102 by kernel_rfl).symm.trans ht)
  have hcell : W.cell? ⟨1, 0, none⟩ = cs[0]? ∧ 1 < W.heap.size := by
    unfold World.var? at hvar
    rw [hg] at hvar
    simp only [Option.bind_some] at hvar
    cases hw : W.heap[1]? with
    | none => simp [hw] at hvar
    | some o =>
      cases o <;> simp [hw] at hvar
      subst hvar
      exact ⟨by simp [World.cell?, hw], (Array.getElem?_eq_some_iff.1 hw).1⟩
  rcases WideElems.open_map Tryz.underlying102 hd with ⟨_, hx⟩ | ⟨b, es, clock, n, rfl, hcs, hb, _, hF, hx⟩
  · injection hx with hx _; cases hx
  · refine ⟨b, (Array.getElem?_eq_some_iff.1 hb).1, hcell.2, ?_, es, clock, _, hb, hF, ?_, ?_⟩
    · rw [hcell.1, ← Array.getElem?_toList, hcs]; rfl
    · injection hx with hx _; exact hx.symm
    · intro v c ps hR
      unfold WideElems.elemAt at hR
      split at hR
      · rename_i hf
        obtain ⟨m, hm, he, _⟩ := DataW.trod_int Tryz.underlying5 hR
        injection he with he _
        injection he with he
        injection he with _ he
        subst he
        cases v with
        | agg cc => simp [Value.formed, Tryz.underlying5] at hf
        | tuple cc => simp [Value.formed] at hf
        | int k n => simpa [Value.cells] using hm
        | _ => simp [Value.cells] at hm
      · cases hR
end Go.Proofs.YtphgmkhbhboklaaGreatDoor
/- CELLS THAT ARE READ in a class walk. -/
namespace Go.Proofs.YtphgmkhbhboklaaGreatDoor
open Go.RowKit
section
variable {P : Program} {ops : Array Oper} {rest : List Oper} {a : Act} {C : World → Prop} {Q : Act → Prop} {tp : TypeId} {dst : Option Tmp} {pos : String} {after : Array Edge} {g : Option (Nat × Bool)}
/-- ARM: one plain cell is read -/
theorem cls_cell {b o : Nat} {ty : TypeId} {u : Value} {x : Operand} (hwt : Region.wanted (⟨dst, .load ty x, tp, pos, after, g⟩ : Oper) (yielded ops a.tmps) = true)
    (hc : ∀ w, C w → w.cell? ⟨b, o, none⟩ = some u) (hd : ∀ w, (isAgg ty).run P w = .ok false w) (hx : a.eval x = .pointer (some ⟨b, o, none⟩))
    (h : wpQuiet P ops C Q rest (a.put dst u)) : wpQuiet P ops C Q (⟨dst, .load ty x, tp, pos, after, g⟩ :: rest) a :=
  cls_op hwt (fun w hw => run_loadCell hd (hc w hw) hx) h
/-- ARM: an aggregate in the middle of a row is read -/
theorem cls_agg {b o : Nat} {ty : TypeId} {cs : List Value} {d : TypeDesc} {x : Operand} (hwt : Region.wanted (⟨dst, .load ty x, tp, pos, after, g⟩ : Oper) (yielded ops a.tmps) = true)
    (hc : ∀ w, C w → ∀ (j : Nat) (v : Value), cs[j]? = some v → w.cell? ⟨b, o + j, none⟩ = some v) (hu : P.underlying ty = some d) (hd : d.isRow = true) (hi : (P.info? ty).map (·.size) = some cs.length) (hx : a.eval x = .pointer (some ⟨b, o, none⟩))
    (h : wpQuiet P ops C Q rest (a.put dst (.agg cs.toArray))) : wpQuiet P ops C Q (⟨dst, .load ty x, tp, pos, after, g⟩ :: rest) a := by
  refine cls_op hwt (fun w hw => ?_) h
  have hl := run_loadAt_mid (P := P) w b o ty cs d (hc w hw) hu hd hi
  unfold execOp
  simp only [hx, Sem.run_bind, Sem.run_pure, Result.andThen_ok, hl]
end
end Go.Proofs.YtphgmkhbhboklaaGreatDoor
/- tar.mayLink, tar.mayAttrs, tar.May; tree.May. -/
namespace Go.Proofs.YtphgmkhbhboklaaGreatDoor
open Go.RowKit
theorem aggN : AggTy Tryz.prog 30 8 := ⟨⟨_, Tryz.underlying30, rfl⟩, by kernel_rfl⟩
theorem aggM : AggTy Tryz.prog 32 9 := ⟨⟨_, Tryz.underlying32, rfl⟩, by kernel_rfl⟩
theorem aggA : AggTy Tryz.prog 85 2 := ⟨⟨_, Tryz.underlying85, rfl⟩, by kernel_rfl⟩
theorem idx_neg (l : List UInt8) (c : UInt8) : decide (Lib.indexByte l c < 0) = !decide (c ∈ l) := by
  cases hc : decide (c ∈ l) with
  | false =>
    have : ∀ x ∈ l, x ≠ c := by
      intro x hx e
      subst e
      simp [hx] at hc
    rw [indexByte_no l c this]; rfl
  | true =>
    have hm : c ∈ l := by simpa using hc
    have : ¬ Lib.indexByte l c < 0 := by
      intro h
      have h1 := Lib.indexByte_ge l c
      have h2 : Lib.indexByte l c = -1 := by omega
      obtain ⟨k, hk, he⟩ := List.getElem_of_mem hm
      exact Lib.indexByte_none h2 k (by rw [List.getElem?_eq_getElem hk, he])
    simp [this]
set_option maxHeartbeats 400000 in
theorem mayl_any (s : Tx) (is : Bool) (w : World) :
    Calls Tryz.prog 72 #[.string ⟨s.toArray⟩, .bool is] w fun e w' => e = .returned (.bool (mayL s is)) ∧ w = w' := by
  have HI := Keep.keep (fun w => Tryz.strings_IndexByte ⟨s.toArray⟩ 0 w)
  have hx : decide (Lib.indexByte s 0 < 0) = !decide ((0 : UInt8) ∈ s) := idx_neg s 0
  cases is with
  | false =>
    go_enter Tryz.func72, Tryz.ntmps72
    go_wp2_with fail
    go_ret
    refine ⟨?_, rfl⟩
    cases s <;> rfl
  | true =>
    by_cases hs : s = []
    · subst hs
      go_enter Tryz.func72, Tryz.ntmps72
      go_wp2_with fail
      go_ret
      exact ⟨rfl, rfl⟩
    · have he : s.isEmpty = false := by simpa using hs
      have hz : mayL s true = (decide (s.length ≤ 4096) && !decide ((0 : UInt8) ∈ s)) := by
        have : (s != []) = true := by simpa using hs
        simp only [mayL, this, if_true, Bool.true_and]
      have HZ := Keep.keep hz
      clear hz hs
      by_cases hl : s.length ≤ 4096
      · have hd : decide ((s.length : Int) ≤ 4096) = true := decide_eq_true (by omega)
        have hdn : decide (s.length ≤ 4096) = true := decide_eq_true hl
        go_enter Tryz.func72, Tryz.ntmps72
        go_wp2_with fail
        refine (HI.out w).mono ?_
        rintro e w1 ⟨rfl, rfl⟩
        go_wp2_with fail
        go_ret
        refine ⟨?_, rfl⟩
        rw [HZ.out, hdn, Bool.true_and]
        rfl
      · have hd : decide ((s.length : Int) ≤ 4096) = false := decide_eq_false (by omega)
        have hdn : decide (s.length ≤ 4096) = false := decide_eq_false hl
        go_enter Tryz.func72, Tryz.ntmps72
        go_wp2_with fail
        go_ret
        refine ⟨?_, rfl⟩
        rw [HZ.out, hdn, Bool.false_and]
        rfl
theorem load2 {P : Program} {w : World} {b o : Nat} {ty : TypeId} {d : TypeDesc} {u v : Value} (h1 : w.cell? ⟨b, o, none⟩ = some u) (h2 : w.cell? ⟨b, o + 1, none⟩ = some v) (hu : P.underlying ty = some d) (hd : d.isRow = true) (hi : (P.info? ty).map (·.size) = some 2) :
    (Instr.loadAt ty (.pointer (some ⟨b, o, none⟩))).run P w = .ok (.agg #[u, v]) w :=
  run_loadAt_mid (P := P) w b o ty [u, v] d (fun j z hj => by
    match j, hj with
    | 0, hj => injection hj with hj; subst hj; exact h1
    | 1, hj => injection hj with hj; subst hj; exact h2
    | (j + 2), hj => simp at hj) hu hd hi
/-- an attribute's two cells -/
theorem attr_cells {w : World} {N : Nat → Prop} {l : List R2} {b off n cap : Nat} (h : RdV w N 2 (.slice (some ⟨b, off, none⟩) n cap) l.length (rcells l)) {k : Nat} (hk : k < l.length) :
    w.cell? ⟨b, off + k * 2, none⟩ = some (strV l[k].1) ∧ w.cell? ⟨b, off + k * 2 + 1, none⟩ = some (strV l[k].2) := by
  obtain ⟨h1, h2⟩ := rcells_get l k hk
  exact ⟨h.cell b off _ _ rfl _ _ h1, by rw [Nat.add_assoc]; exact h.cell b off _ _ rfl _ _ h2⟩
theorem mayA_bad {l : List R2} {k : Nat} (hk : k < l.length) (h : badA l k = true) : mayA l = false := by
  unfold mayA
  have : (List.range l.length).all (fun k => !badA l k) = false := by
    rw [List.all_eq_false]
    exact ⟨k, by simpa using hk, by simp [h]⟩
  rw [this]; rfl
theorem mayA_ok {l : List R2} (h : ∀ k, k < l.length → badA l k = false) : mayA l = decide (l.length ≤ 16) := by
  unfold mayA
  have : (List.range l.length).all (fun k => !badA l k) = true := by
    rw [List.all_eq_true]
    intro k hk
    simp [h k (by simpa using hk)]
  rw [this]; rfl
set_option maxHeartbeats 1000000 in
set_option maxRecDepth 100000 in
theorem maya_any (av : Value) (l : List R2) (hl : l.length ≤ 1000000) (hn : ∀ x ∈ l, x.1.length ≤ 1000000 ∧ x.2.length ≤ 1000000) (w : World) (hr : RdV w (· < w.heap.size) 2 av l.length (rcells l)) :
    Calls Tryz.prog 71 #[av] w fun e w' => e = .returned (.bool (mayA l)) ∧ Below w.heap.size w w' := by
  obtain ⟨a, cap, rfl, h1, h2, h3⟩ := hr.shape
  have HR := Keep.keep hr; have HN := Keep.keep hn; have H3 := Keep.keep h3
  clear hr hn h3
  unfold maxLen at h2
  obtain ⟨n, hnl⟩ : ∃ n, l.length = n := ⟨_, rfl⟩
  have HL := Keep.keep hnl
  rw [hnl] at hl h1 ⊢
  clear hnl
  go_enter Tryz.func71, Tryz.ntmps71
  go_wp2_with fail
  go_loopg [3, 4, 7] n (fun g _ _ u7 wx => ∃ k : Nat, k + g = n ∧ u7 = .int .i64 (k : Int) ∧ Below w.heap.size w wx ∧ ∀ j, j < k → badA l j = false)
  case atStart => exact ⟨0, by omega, rfl, Below.refl _ _, fun j hj => by omega⟩
  case round =>
    obtain ⟨k, hkg, rfl, hb, hok⟩ := hrel
    have HB := Keep.keep hb; have HOK := Keep.keep hok
    clear hb hok
    by_cases hk : k < n
    · have hd : decide ((k : Int) < (n : Int)) = true := decide_eq_true (by omega)
      have hkl : k < l.length := by rw [HL.out]; exact hk
      obtain ⟨b, off, rfl, hbl⟩ : ∃ b off, a = some ⟨b, off, none⟩ ∧ b < w.heap.size := by
        rcases H3.out with h | ⟨b, off, h, hb⟩
        · omega
        · exact ⟨b, off, h, hb⟩
      have hr2 := HR.out.below HB.out (fun b hb => hb)
      obtain ⟨ca, cb⟩ := attr_cells hr2 hkl
      have HR2 := Keep.keep hr2
      have hsm := HN.out _ (List.getElem_mem hkl)
      obtain ⟨x, hx⟩ : ∃ x, l[k] = x := ⟨_, rfl⟩
      have HX : Keep (l[k]? = some x) := ⟨by rw [List.getElem?_eq_getElem hkl, hx]⟩
      rw [hx] at hsm ca cb
      have HBA : Keep (badA l k = ((x.1 == []) || decide (242 < x.1.length) || x.1.any ([0, 61, 10].contains ·) || (match k with | 0 => false | j + 1 => (match l[j]? with | some b => decide (x.1 ≤ b.1) | none => false)))) := ⟨by
        unfold badA; (rw [HX.out]) <;> rfl⟩
      have HCA := Keep.keep (fun w => cany_any x.1 [0, 61, 10] (by decide) (by decide) (by decide) (by have := hsm.1; omega) w)
      obtain ⟨bc, hbc⟩ : ∃ bc, (x.1.any ([0, 61, 10].contains ·)) = bc := ⟨_, rfl⟩
      simp only [hbc] at HCA
      rw [hbc] at HBA
      clear hbc
      clear hr2 hx
      unfold strV at ca cb
      go_upto_region 4 with fail
      refine wp_world (R := fun w2 => Row w2 wr.heap.size 85 #[strV x.1, strV x.2] ∧ Below w.heap.size w w2) ⟨?_, ?_⟩ ?_
      · exact Row.new _ _ _
      · exact HB.out.alloc HB.out.size _
      intro w2 H2
      have hrow := H2.out.1
      clear ca cb
      have ca := hrow.cell (i := 0) rfl
      generalize wr.heap.size = T at *
      unfold strV at ca
      have HC1 : Keep (∀ wx, Below w2.heap.size w2 wx → wx.cell? ⟨T, 0, none⟩ = some (.string ⟨x.1.toArray⟩)) := ⟨fun wx h => by rw [h.cell (p := ⟨T, 0, none⟩) hrow.lt]; exact ca⟩
      have HCA' := Keep.keep (fun (wx : World) (_ : Below w2.heap.size w2 wx) => HCA.out wx)
      have HFIN : Keep (∀ w3, Below w2.heap.size w2 w3 → Below w.heap.size w w3) := ⟨fun w3 h => H2.out.2.trans (h.mono H2.out.2.size)⟩
      have hxl := hsm.1
      clear hrow ca
      by_cases e1 : x.1 = []
      · have he : x.1.isEmpty = true := by rw [e1]; rfl
        have HCP : Keep (∀ wx, Below w2.heap.size w2 wx → wx.cell? ⟨T, 0, none⟩ = some (.string ⟨x.1.toArray⟩)) := HC1
        have HBAD : Keep (badA l k = true) := ⟨by rw [HBA.out, e1]; rfl⟩
        refine wp_region_cls (fun w' => Below w2.heap.size w2 w') (by kernel_rfl) (by kernel_rfl) (Below.refl _ _).drew ?_
        repeat (first
          | ((with_reducible refine cls_cell ?_ HC1.out (run_isAgg_plain Tryz.underlying9 rfl) ?_ ?_); (focus rfl); (focus rfl); simp only [Act.put, List.setIfInBounds_toArray, List.set_cons_succ, List.set_cons_zero])
          | ((with_reducible refine cls_cell ?_ HCP.out (run_isAgg_plain Tryz.underlying9 rfl) ?_ ?_); (focus rfl); (focus rfl); simp only [Act.put, List.setIfInBounds_toArray, List.set_cons_succ, List.set_cons_zero])
          | ((with_reducible refine cls_call (f := 93) ?_ (Go.Proofs.enters_of Tryz.func93 (by kernel_rfl) rfl) ?_ (fun w1 hw1 => (HCA'.out w1 hw1).mono (fun e w2 he => ⟨he.1, hw1.trans (he.2.mono hw1.size)⟩)) ?_); (focus rfl); (focus (first | exact Array.map_empty | (simp only [List.map_toArray, List.map_cons, List.map_nil]; rfl))); simp only [Act.put, List.setIfInBounds_toArray, List.set_cons_succ, List.set_cons_zero])
          | (first | go_big_quiet_step (fail) | (go_big_quiet_want; go_big_quiet_op; (refine ⟨_, fun _ _ => rfl, ?_⟩); go_big_quiet_on)))
        (refine wpQuiet_nil ?_); intro w3 hw3
        go_wp2_with fail
        go_ret
        exact ⟨by rw [mayA_bad hkl HBAD.out]; rfl, HFIN.out w3 hw3⟩
      · have he : x.1.isEmpty = false := by simpa using e1
        have hne : (x.1 == []) = false := by simpa using e1
        have HCP0 := HC1
        by_cases e2 : 242 < x.1.length
        · have hd2 : decide ((242 : Int) < (x.1.length : Int)) = true := decide_eq_true (by omega)
          have HCP := HC1
          have HBAD : Keep (badA l k = true) := ⟨by rw [HBA.out, hne, decide_eq_true e2]; rfl⟩
          refine wp_region_cls (fun w' => Below w2.heap.size w2 w') (by kernel_rfl) (by kernel_rfl) (Below.refl _ _).drew ?_
          repeat (first
            | ((with_reducible refine cls_cell ?_ HC1.out (run_isAgg_plain Tryz.underlying9 rfl) ?_ ?_); (focus rfl); (focus rfl); simp only [Act.put, List.setIfInBounds_toArray, List.set_cons_succ, List.set_cons_zero])
            | ((with_reducible refine cls_cell ?_ HCP.out (run_isAgg_plain Tryz.underlying9 rfl) ?_ ?_); (focus rfl); (focus rfl); simp only [Act.put, List.setIfInBounds_toArray, List.set_cons_succ, List.set_cons_zero])
            | ((with_reducible refine cls_call (f := 93) ?_ (Go.Proofs.enters_of Tryz.func93 (by kernel_rfl) rfl) ?_ (fun w1 hw1 => (HCA'.out w1 hw1).mono (fun e w2 he => ⟨he.1, hw1.trans (he.2.mono hw1.size)⟩)) ?_); (focus rfl); (focus (first | exact Array.map_empty | (simp only [List.map_toArray, List.map_cons, List.map_nil]; rfl))); simp only [Act.put, List.setIfInBounds_toArray, List.set_cons_succ, List.set_cons_zero])
            | (first | go_big_quiet_step (fail) | (go_big_quiet_want; go_big_quiet_op; (refine ⟨_, fun _ _ => rfl, ?_⟩); go_big_quiet_on)))
          (refine wpQuiet_nil ?_); intro w3 hw3
          go_wp2_with fail
          go_ret
          exact ⟨by rw [mayA_bad hkl HBAD.out]; rfl, HFIN.out w3 hw3⟩
        · have hd2 : decide ((242 : Int) < (x.1.length : Int)) = false := decide_eq_false (by omega)
          cases bc with
          | true =>
            have HCP := HC1
            have HBAD : Keep (badA l k = true) := ⟨by rw [HBA.out, hne, decide_eq_false e2]; rfl⟩
            refine wp_region_cls (fun w' => Below w2.heap.size w2 w') (by kernel_rfl) (by kernel_rfl) (Below.refl _ _).drew ?_
            repeat (first
              | ((with_reducible refine cls_cell ?_ HC1.out (run_isAgg_plain Tryz.underlying9 rfl) ?_ ?_); (focus rfl); (focus rfl); simp only [Act.put, List.setIfInBounds_toArray, List.set_cons_succ, List.set_cons_zero])
              | ((with_reducible refine cls_cell ?_ HCP.out (run_isAgg_plain Tryz.underlying9 rfl) ?_ ?_); (focus rfl); (focus rfl); simp only [Act.put, List.setIfInBounds_toArray, List.set_cons_succ, List.set_cons_zero])
              | ((with_reducible refine cls_call (f := 93) ?_ (Go.Proofs.enters_of Tryz.func93 (by kernel_rfl) rfl) ?_ (fun w1 hw1 => (HCA'.out w1 hw1).mono (fun e w2 he => ⟨he.1, hw1.trans (he.2.mono hw1.size)⟩)) ?_); (focus rfl); (focus (first | exact Array.map_empty | (simp only [List.map_toArray, List.map_cons, List.map_nil]; rfl))); simp only [Act.put, List.setIfInBounds_toArray, List.set_cons_succ, List.set_cons_zero])
              | (first | go_big_quiet_step (fail) | (go_big_quiet_want; go_big_quiet_op; (refine ⟨_, fun _ _ => rfl, ?_⟩); go_big_quiet_on)))
            (refine wpQuiet_nil ?_); intro w3 hw3
            go_wp2_with fail
            go_ret
            exact ⟨by rw [mayA_bad hkl HBAD.out]; rfl, HFIN.out w3 hw3⟩
          | false =>
            cases k with
            | zero =>
              have HCP := HC1
              have HGOOD : Keep (badA l 0 = false) := ⟨by rw [HBA.out, hne, decide_eq_false e2]; rfl⟩
              refine wp_region_cls (fun w' => Below w2.heap.size w2 w') (by kernel_rfl) (by kernel_rfl) (Below.refl _ _).drew ?_
              repeat (first
                | ((with_reducible refine cls_cell ?_ HC1.out (run_isAgg_plain Tryz.underlying9 rfl) ?_ ?_); (focus rfl); (focus rfl); simp only [Act.put, List.setIfInBounds_toArray, List.set_cons_succ, List.set_cons_zero])
                | ((with_reducible refine cls_cell ?_ HCP.out (run_isAgg_plain Tryz.underlying9 rfl) ?_ ?_); (focus rfl); (focus rfl); simp only [Act.put, List.setIfInBounds_toArray, List.set_cons_succ, List.set_cons_zero])
                | ((with_reducible refine cls_call (f := 93) ?_ (Go.Proofs.enters_of Tryz.func93 (by kernel_rfl) rfl) ?_ (fun w1 hw1 => (HCA'.out w1 hw1).mono (fun e w2 he => ⟨he.1, hw1.trans (he.2.mono hw1.size)⟩)) ?_); (focus rfl); (focus (first | exact Array.map_empty | (simp only [List.map_toArray, List.map_cons, List.map_nil]; rfl))); simp only [Act.put, List.setIfInBounds_toArray, List.set_cons_succ, List.set_cons_zero])
                | (first | go_big_quiet_step (fail) | (go_big_quiet_want; go_big_quiet_op; (refine ⟨_, fun _ _ => rfl, ?_⟩); go_big_quiet_on)))
              (refine wpQuiet_nil ?_); intro w3 hw3
              go_wp2_with fail
              obtain ⟨g, rfl⟩ : ∃ g, gk = g + 1 := ⟨gk - 1, by omega⟩
              go_roundg g
              case measure => omega
              case rel => exact ⟨1, by omega, by simp, HFIN.out w3 hw3, fun j hj => by
                by_cases e : j = 0
                · rw [e]; exact HGOOD.out
                · exact HOK.out j (by omega)⟩
            | succ j =>
              have hjl : j < l.length := by omega
              have HCP : Keep (∀ wx, Below w2.heap.size w2 wx → wx.cell? ⟨b, off + j * 2, none⟩ = some (.string ⟨l[j].1.toArray⟩)) := ⟨fun wx h => (attr_cells (HR.out.below (H2.out.2.trans (h.mono H2.out.2.size)) (fun b hb => hb)) hjl).1⟩
              have hlj : l[j]? = some l[j] := List.getElem?_eq_getElem hjl
              have HLE : Keep (badA l (j + 1) = decide (x.1 ≤ l[j].1)) := ⟨by rw [HBA.out, hne, decide_eq_false e2]; simp only [hlj]; rfl⟩
              clear hlj
              have hys := (HN.out _ (List.getElem_mem hjl)).1
              generalize l[j].1 = y at *
              have hk1 : ((j + 1 : Nat) : Int) - 1 = (j : Int) := by omega
              have hk2 : (j : Int) + 1 - 1 = (j : Int) := by omega
              have hk0 : decide ((0 : Int) < ((j + 1 : Nat) : Int)) = true := decide_eq_true (by omega)
              have hk3 : decide ((0 : Int) < (j : Int) + 1) = true := decide_eq_true (by omega)
              refine wp_region_cls (fun w' => Below w2.heap.size w2 w') (by kernel_rfl) (by kernel_rfl) (Below.refl _ _).drew ?_
              repeat (first
                | ((with_reducible refine cls_cell ?_ HC1.out (run_isAgg_plain Tryz.underlying9 rfl) ?_ ?_); (focus rfl); (focus rfl); simp only [Act.put, List.setIfInBounds_toArray, List.set_cons_succ, List.set_cons_zero])
                | ((with_reducible refine cls_cell ?_ HCP.out (run_isAgg_plain Tryz.underlying9 rfl) ?_ ?_); (focus rfl); (focus rfl); simp only [Act.put, List.setIfInBounds_toArray, List.set_cons_succ, List.set_cons_zero])
                | ((with_reducible refine cls_call (f := 93) ?_ (Go.Proofs.enters_of Tryz.func93 (by kernel_rfl) rfl) ?_ (fun w1 hw1 => (HCA'.out w1 hw1).mono (fun e w2 he => ⟨he.1, hw1.trans (he.2.mono hw1.size)⟩)) ?_); (focus rfl); (focus (first | exact Array.map_empty | (simp only [List.map_toArray, List.map_cons, List.map_nil]; rfl))); simp only [Act.put, List.setIfInBounds_toArray, List.set_cons_succ, List.set_cons_zero])
                | (first | go_big_quiet_step (fail) | (go_big_quiet_want; go_big_quiet_op; (refine ⟨_, fun _ _ => rfl, ?_⟩); go_big_quiet_on)))
              have hbl : Op.bytesLess y x.1 = !decide (x.1 ≤ y) := by rw [less_lt, ← decide_not]; exact decide_eq_decide.2 List.not_le.symm
              (refine wpQuiet_nil ?_); intro w3 hw3
              cases hxy : decide (x.1 ≤ y) with
              | true =>
                have HBAD : Keep (badA l (j + 1) = true) := ⟨by rw [HLE.out, hxy]⟩
                replace hbl : Op.bytesLess y x.1 = false := by rw [hbl, hxy]; rfl
                clear hxy
                simp only [hbl, Bool.not_false]
                go_wp2_with fail
                go_ret
                exact ⟨by rw [mayA_bad hkl HBAD.out]; rfl, HFIN.out w3 hw3⟩
              | false =>
                have HGOOD : Keep (badA l (j + 1) = false) := ⟨by rw [HLE.out, hxy]⟩
                replace hbl : Op.bytesLess y x.1 = true := by rw [hbl, hxy]; rfl
                clear hxy
                simp only [hbl, Bool.not_true]
                go_wp2_with fail
                obtain ⟨g, rfl⟩ : ∃ g, gk = g + 1 := ⟨gk - 1, by omega⟩
                go_roundg g
                case measure => omega
                case rel => exact ⟨j + 1 + 1, by omega, by simp, HFIN.out w3 hw3, fun i hi => by
                  by_cases e : i = j + 1
                  · rw [e]; exact HGOOD.out
                  · exact HOK.out i (by omega)⟩
    · have hd : decide ((k : Int) < (n : Int)) = false := decide_eq_false (by omega)
      have HOUT : Keep (mayA l = decide (n ≤ 16)) := ⟨by rw [mayA_ok (fun j hj => HOK.out j (by rw [HL.out] at hj; omega)), HL.out]⟩
      have hd16 : decide ((n : Int) ≤ 16) = decide (n ≤ 16) := decide_eq_decide.2 (by omega)
      go_wp2_with fail
      go_ret
      exact ⟨by rw [HOUT.out, ← hd16]; rfl, HB.out⟩
end Go.Proofs.YtphgmkhbhboklaaGreatDoor
/- tar.May; tree.May. -/
namespace Go.Proofs.YtphgmkhbhboklaaGreatDoor
open Go.RowKit
theorem kindT_zero (k : Int) : ((kindT k : Int) == 0) = !decide (1 ≤ k ∧ k ≤ 4) := by
  unfold kindT
  by_cases h1 : k = 1
  · subst h1; rfl
  · by_cases h2 : k = 2
    · subst h2; rfl
    · by_cases h3 : k = 3
      · subst h3; rfl
      · by_cases h4 : k = 4
        · subst h4; rfl
        · have : ¬ (1 ≤ k ∧ k ≤ 4) := by omega
          simp [h1, h2, h3, h4, this]
set_option maxHeartbeats 2000000 in
set_option maxRecDepth 100000 in
theorem may_any' (m : Mb) (av dv : Value) (hsm : Sm m) (B : Nat) (w : World) (hB : B ≤ w.heap.size) (hM : Mx B w) (hC : Cls B w) (hT : Typ B w) (hr : NdR w (· < w.heap.size) m.2 av dv) :
    Calls Tryz.prog 40 #[.agg (mbC m av dv)] w fun e w' => e = .returned (.bool (mayT m)) ∧ Below w.heap.size w w' := by
  obtain ⟨p, nd⟩ := m
  obtain ⟨kind, mode, uid, gid, time, attrs, data, link⟩ := nd
  obtain ⟨sp, sl, sd, sa, sn, sk⟩ := hsm
  simp only at sp sl sd sa sn sk
  obtain ⟨ra, rd⟩ := hr
  simp only at ra rd
  have HCL : Keep (∀ wx, Below w.heap.size w wx → Calls Tryz.prog 39 #[.string ⟨p.toArray⟩] wx fun e w' => e = .returned (.tuple #[.int .i64 (classP p).1, .string ⟨(classP p).2.toArray⟩]) ∧ Below wx.heap.size wx w') :=
    ⟨fun wx h => class_any p (by omega) B wx (Nat.le_trans hB h.size) (hM.on (h.mono hB)) (hC.on (h.mono hB))⟩
  have HMA : Keep (∀ wx, Below w.heap.size w wx → Calls Tryz.prog 71 #[av] wx fun e w' => e = .returned (.bool (mayA attrs)) ∧ Below wx.heap.size wx w') :=
    ⟨fun wx h => maya_any av attrs sa sn wx ((ra.below h (fun b hb => hb)).mono (fun b hb => Nat.lt_of_lt_of_le hb h.size))⟩
  have HML : Keep (∀ (wx : World) is, Calls Tryz.prog 72 #[.string ⟨link.toArray⟩, .bool is] wx fun e w' => e = .returned (.bool (mayL link is)) ∧ wx = w') := ⟨fun wx is => mayl_any link is wx⟩
  have HTY : Keep (∀ wx, Below w.heap.size w wx → ∃ b, wx.cell? ⟨1, 0, none⟩ = some (.map (some b)) ∧ (Instr.lookup 102 (.map (some b)) (.int .i64 kind) false).run Tryz.prog wx = .ok (.int .u8 (kindT kind : Int)) wx) := ⟨fun wx h => (hT.on (h.mono hB)).look kind sk⟩
  have HKZ := Keep.keep (kindT_zero kind)
  obtain ⟨ad, cd, hdv, hd1, hd2, -⟩ := rd.shape
  obtain ⟨aa, ca, hav, ha1, ha2, -⟩ := ra.shape
  have HMT : Keep (mayT (p, ⟨kind, mode, uid, gid, time, attrs, data, link⟩) = (decide (¬ (classP p).1 = 0) && decide (1 ≤ kind ∧ kind ≤ 4) && decide (mode ≤ 4095) && mayA attrs && mayL link (decide (kind = 3)) && decide (data.length ≤ 16777216) && (decide (kind = 2) || decide (data.length = 0)))) := ⟨rfl⟩
  generalize hmt : mayT (p, ⟨kind, mode, uid, gid, time, attrs, data, link⟩) = mt at *
  clear hmt ra rd hM hC hT hB
  generalize classP p = cp at *
  obtain ⟨cl, tg⟩ := cp
  generalize mayA attrs = ma at *
  unfold mbC strV
  simp only at HCL HMT ⊢
  go_enter Tryz.func40, Tryz.ntmps40
  go_wp2_with fail
  refine calls_at (R := fun w1 => Hp NoM w w1 [rowA w.heap.size 32 #[.string ⟨p.toArray⟩, .int .i64 kind, .int .u32 mode, .int .u32 uid, .int .u32 gid, .int .i64 time, av, dv, .string ⟨link.toArray⟩]]) ?_ ?_
  · subst hdv hav
    exact (Hp.begin NoM w).newRow _ _
  intro w1 H1
  refine (HCL.out w1 H1.out.below).mono ?_
  rintro e w2 ⟨rfl, hb2⟩
  have H2 := Keep.keep (H1.out.call hb2)
  have hrow := H2.out.row 0 rfl
  have c1 := hrow.cell (i := 1) rfl
  have c2 := hrow.cell (i := 2) rfl
  have c3 := hrow.cell (i := 3) rfl
  have c4 := hrow.cell (i := 4) rfl
  have c5 := hrow.cell (i := 5) rfl
  have c6 := hrow.cell (i := 6) rfl
  have c7 := hrow.cell (i := 7) rfl
  have c8 := hrow.cell (i := 8) rfl
  clear hrow hb2 H1
  subst hdv hav
  go_upto_region 3 with fail
  refine wp_world (R := fun w3 => Hp NoM w w3 [rowA w.heap.size 32 #[.string ⟨p.toArray⟩, .int .i64 kind, .int .u32 mode, .int .u32 uid, .int .u32 gid, .int .i64 time, .slice aa attrs.length ca, .slice ad data.length cd, .string ⟨link.toArray⟩],
    rowA w2.heap.size 30 #[.int .i64 kind, .int .u32 mode, .int .u32 uid, .int .u32 gid, .int .i64 time, .slice aa attrs.length ca, .slice ad data.length cd, .string ⟨link.toArray⟩]]) ?_ ?_
  · exact H2.out.newRow _ _
  intro w3 H3
  clear c1 c2 c3 c4 c5 c6 c7 c8
  have hrow := H3.out.row 1 rfl
  generalize w2.heap.size = T at *
  have c0 := hrow.cell (i := 0) rfl
  have c1 := hrow.cell (i := 1) rfl
  have c5 := hrow.cell (i := 5) rfl
  have c6 := hrow.cell (i := 6) rfl
  have c7 := hrow.cell (i := 7) rfl
  obtain ⟨bt, hct, hlk⟩ := HTY.out w3 H3.out.below
  clear hrow
  have HK0 := HKZ.out
  have HW : Keep (Below w.heap.size w w3) := ⟨H3.out.below⟩
  have hkz := HK0
  by_cases z0 : cl = 0
  · have hz0 : (cl == 0) = true := by rw [z0]; rfl
    have e0 : decide (¬ cl = 0) = false := by simp [z0]
    clear z0 hkz HK0
    go_wp2_with fail
    go_ret
    exact ⟨by rw [HMT.out, e0]; rfl, HW.out⟩
  have hz0 : (cl == 0) = false := by simpa using z0
  have e0 : decide (¬ cl = 0) = true := by simp [z0]
  clear z0
  by_cases z1 : 1 ≤ kind ∧ kind ≤ 4
  rotate_left
  · have e1 : decide (1 ≤ kind ∧ kind ≤ 4) = false := decide_eq_false z1
    rw [e1] at hkz HK0
    have hk1 : ((kindT kind : Int) == 0) = true := HK0
    clear hkz HK0 z1
    go_wp2_with fail
    go_ret
    exact ⟨by rw [HMT.out, e0, e1]; rfl, HW.out⟩
  have e1 : decide (1 ≤ kind ∧ kind ≤ 4) = true := decide_eq_true z1
  rw [e1] at hkz HK0
  have hk1 : ((kindT kind : Int) == 0) = false := HK0
  clear hkz HK0
  by_cases z2 : mode ≤ 4095
  rotate_left
  · have e2 : decide (mode ≤ 4095) = false := decide_eq_false z2
    have hm2 : decide (4095 < mode) = true := decide_eq_true (by omega)
    clear z2 z1
    go_wp2_with fail
    go_ret
    exact ⟨by rw [HMT.out, e0, e1, e2]; rfl, HW.out⟩
  have e2 : decide (mode ≤ 4095) = true := decide_eq_true z2
  have hm2 : decide (4095 < mode) = false := decide_eq_false (by omega)
  clear z2 z1
  have E := Keep.keep (And.intro e0 (And.intro e1 e2))
  clear e0 e1 e2
  go_wp2_with fail
  refine (HMA.out w3 HW.out).mono ?_
  rintro e w4 ⟨rfl, hb4⟩
  have H4 := Keep.keep (H3.out.call hb4)
  have HW4 := Keep.keep H4.out.below
  have hrow := H4.out.row 1 rfl
  clear c0 c1 c5 c6 c7 hct hlk hb4
  have c0 := hrow.cell (i := 0) rfl
  have c6 := hrow.cell (i := 6) rfl
  have c7 := hrow.cell (i := 7) rfl
  clear hrow
  cases ma with
  | false =>
    go_wp2_with fail
    go_ret
    exact ⟨by rw [HMT.out, E.out.1, E.out.2.1, E.out.2.2]; rfl, HW4.out⟩
  | true =>
    have h3 : (kind == 3) = decide (kind = 3) := by rw [Bool.eq_iff_iff]; simp
    have H3L := Keep.keep (HML.out w4 (decide (kind = 3)))
    obtain ⟨s3, hs3⟩ : ∃ s3, decide (kind = 3) = s3 := ⟨_, rfl⟩
    rw [hs3] at h3 H3L HMT
    clear hs3 HML
    obtain ⟨ml, hml⟩ : ∃ ml, mayL link s3 = ml := ⟨_, rfl⟩
    rw [hml] at H3L HMT
    clear hml
    go_wp2_with fail
    refine H3L.out.mono ?_
    rintro e w5 ⟨rfl, rfl⟩
    cases ml with
    | false =>
      go_wp2_with fail
      go_ret
      exact ⟨by rw [HMT.out, E.out.1, E.out.2.1, E.out.2.2]; rfl, HW4.out⟩
    | true =>
      have HM2 : Keep (mt = (decide (data.length ≤ 16777216) && (decide (kind = 2) || decide (data.length = 0)))) := ⟨by rw [HMT.out, E.out.1, E.out.2.1, E.out.2.2]; rfl⟩
      have hdl : decide ((data.length : Int) ≤ 16777216) = true := decide_eq_true (by omega)
      have hdn : decide (data.length ≤ 16777216) = true := decide_eq_true (by omega)
      have h2 : (kind == 2) = decide (kind = 2) := by rw [Bool.eq_iff_iff]; simp
      obtain ⟨s2, hs2⟩ : ∃ s2, decide (kind = 2) = s2 := ⟨_, rfl⟩
      have hz : ((data.length : Int) == 0) = decide (data.length = 0) := by rw [Bool.eq_iff_iff]; simp
      obtain ⟨z, hz2⟩ : ∃ z, decide (data.length = 0) = z := ⟨_, rfl⟩
      rw [hs2] at h2 HM2
      rw [hz2] at hz HM2
      rw [hdn] at HM2
      clear hs2 hz2 hdn HMT
      cases s2 <;> cases z
      all_goals
        go_wp2_with fail
        go_ret
        exact ⟨by rw [HM2.out]; rfl, HW4.out⟩
set_option maxHeartbeats 1000000 in
set_option maxRecDepth 100000 in
theorem tmay_any (m : Mb) (av dv : Value) (hsm : Sm m) (B : Nat) (w : World) (hB : B ≤ w.heap.size) (hM : Mx B w) (hC : Cls B w) (hT : Typ B w) (hr : NdR w (· < w.heap.size) m.2 av dv) :
    Calls Tryz.prog 17 #[.agg (mbC m av dv)] w fun e w' => e = .returned (.bool (mayM m)) ∧ Below w.heap.size w w' := by
  have HCL : Keep (∀ wx, Below w.heap.size w wx → Calls Tryz.prog 39 #[.string ⟨m.1.toArray⟩] wx fun e w' => e = .returned (.tuple #[.int .i64 (classP m.1).1, .string ⟨(classP m.1).2.toArray⟩]) ∧ Below wx.heap.size wx w') :=
    ⟨fun wx h => class_any m.1 (by have := hsm.p; omega) B wx (Nat.le_trans hB h.size) (hM.on (h.mono hB)) (hC.on (h.mono hB))⟩
  have HTM : Keep (∀ wx, Below w.heap.size w wx → Calls Tryz.prog 40 #[.agg (mbC m av dv)] wx fun e w' => e = .returned (.bool (mayT m)) ∧ Below wx.heap.size wx w') :=
    ⟨fun wx h => may_any' m av dv hsm B wx (Nat.le_trans hB h.size) (hM.on (h.mono hB)) (hC.on (h.mono hB)) (hT.on (h.mono hB)) ((hr.below h (fun b hb => hb)).mono (fun b hb => Nat.lt_of_lt_of_le hb h.size))⟩
  have HMM : Keep (mayM m = (decide ((classP m.1).1 = 1) && mayT m)) := ⟨rfl⟩
  obtain ⟨ad, cd, hdv, -⟩ := hr.dt.shape
  obtain ⟨aa, ca, hav, -⟩ := hr.at_.shape
  obtain ⟨p, nd⟩ := m
  obtain ⟨kind, mode, uid, gid, time, attrs, data, link⟩ := nd
  clear hr hM hC hT hB hsm
  simp only at hdv hav
  subst hdv hav
  have HMC : Keep (mbC (p, ⟨kind, mode, uid, gid, time, attrs, data, link⟩) (.slice aa attrs.length ca) (.slice ad data.length cd) = #[.string ⟨p.toArray⟩, .int .i64 kind, .int .u32 mode, .int .u32 uid, .int .u32 gid, .int .i64 time, .slice aa attrs.length ca, .slice ad data.length cd, .string ⟨link.toArray⟩]) := ⟨rfl⟩
  rw [HMC.out] at HTM ⊢
  generalize mayM (p, ⟨kind, mode, uid, gid, time, attrs, data, link⟩) = mm at *
  generalize mayT (p, ⟨kind, mode, uid, gid, time, attrs, data, link⟩) = mt at *
  simp only at HCL HMM
  generalize classP p = cp at *
  obtain ⟨cl, tg⟩ := cp
  simp only at HCL HMM
  go_enter Tryz.func17, Tryz.ntmps17
  go_wp2_with fail
  refine calls_at (R := fun w1 => Hp NoM w w1 [rowA w.heap.size 32 #[.string ⟨p.toArray⟩, .int .i64 kind, .int .u32 mode, .int .u32 uid, .int .u32 gid, .int .i64 time, .slice aa attrs.length ca, .slice ad data.length cd, .string ⟨link.toArray⟩]]) ((Hp.begin NoM w).newRow _ _) ?_
  intro w1 H1
  refine (HCL.out w1 H1.out.below).mono ?_
  rintro e w2 ⟨rfl, hb2⟩
  have H2 := Keep.keep (H1.out.call hb2)
  have HW := Keep.keep H2.out.below
  have HRW := Keep.keep (H2.out.row 0 rfl)
  have HSZ : Keep ((#[.string ⟨p.toArray⟩, .int .i64 kind, .int .u32 mode, .int .u32 uid, .int .u32 gid, .int .i64 time, .slice aa attrs.length ca, .slice ad data.length cd, .string ⟨link.toArray⟩] : Array Value).size = 9) := ⟨rfl⟩
  clear hb2 H1
  by_cases z0 : cl = 1
  · have hz0 : (cl == 1) = true := by rw [z0]; rfl
    have e0 : decide (cl = 1) = true := decide_eq_true z0
    rw [e0] at HMM
    clear z0 e0
    go_wp2_with (first | ((with_reducible refine arm_loadRow HRW.out aggM HSZ.out ?_ ?_); (focus rfl); simp only [Act.put, List.setIfInBounds_toArray, List.set_cons_succ, List.set_cons_zero]) | ((with_reducible refine arm_loadRowG ?_ HRW.out aggM HSZ.out ?_ ?_); (focus rfl); (focus rfl); simp only [Act.put, List.setIfInBounds_toArray, List.set_cons_succ, List.set_cons_zero]))
    refine (HTM.out w2 HW.out).mono ?_
    rintro e w3 ⟨rfl, hb3⟩
    have HW3 := Keep.keep (HW.out.trans (hb3.mono HW.out.size))
    clear hb3
    go_wp2_with fail
    go_ret
    exact ⟨by rw [HMM.out]; rfl, HW3.out⟩
  · have hz0 : (cl == 1) = false := by simpa using z0
    have e0 : decide (cl = 1) = false := decide_eq_false z0
    rw [e0] at HMM
    clear z0 e0
    go_wp2_with fail
    go_ret
    exact ⟨by rw [HMM.out]; rfl, HW.out⟩
end Go.Proofs.YtphgmkhbhboklaaGreatDoor
/- PATHS: plain facts on parents, bases and what is above. -/
namespace Go.Proofs.YtphgmkhbhboklaaGreatDoor
theorem cutAt_noSl : ∀ {a : List UInt8}, (∀ x ∈ a, x ≠ 47) → cutAt a = 0
  | [], _ => rfl
  | c :: a, h => by
    rw [cutAt, cutAt_noSl (fun x hx => h x (by simp [hx])), if_neg (by omega), if_neg (h c (by simp))]
theorem cutAt_app : ∀ (a b : List UInt8), (∀ x ∈ b, x ≠ 47) → cutAt (a ++ 47 :: b) = a.length + 1
  | [], b, h => by rw [List.nil_append, cutAt, cutAt_noSl h, if_neg (by omega), if_pos rfl]; rfl
  | c :: a, b, h => by
    rw [List.cons_append, cutAt, cutAt_app a b h, if_pos (by omega)]; rfl
theorem joinS_snoc : ∀ (l : List (List UInt8)) (b : List UInt8), l ≠ [] → joinS (l ++ [b]) = joinS l ++ 47 :: b
  | [], _, h => absurd rfl h
  | [x], b, _ => rfl
  | x :: y :: r, b, _ => by
    have ih := joinS_snoc (y :: r) b (by simp)
    rw [List.cons_append] at ih
    show x ++ 47 :: joinS (y :: (r ++ [b])) = (x ++ 47 :: joinS (y :: r)) ++ 47 :: b
    rw [ih]; simp
theorem parent_joinS {l : List (List UInt8)} {b : List UInt8} (hl : l ≠ []) (hb : ∀ x ∈ b, x ≠ 47) : parentP (joinS (l ++ [b])) = joinS l ∧ baseP (joinS (l ++ [b])) = b := by
  rw [joinS_snoc l b hl]
  unfold parentP baseP
  rw [cutAt_app _ _ hb]
  constructor
  · rw [Nat.add_sub_cancel, List.take_left]
  · rw [show (joinS l).length + 1 = (joinS l ++ [47]).length by simp, show joinS l ++ 47 :: b = (joinS l ++ [47]) ++ b by simp, List.drop_left]
theorem parent_one {b : List UInt8} (hb : ∀ x ∈ b, x ≠ 47) : parentP b = [] ∧ baseP b = b := by
  unfold parentP baseP
  rw [cutAt_noSl hb]; simp
theorem joinP_two (a b : List UInt8) : joinP [a, b] = if a = [] then b else if b = [] then a else a ++ 47 :: b := by
  cases a with
  | nil => cases b <;> rfl
  | cons c a => cases b <;> rfl
/-- what is above, from the left: p what stands before -/
def abvR (p : List UInt8) : List UInt8 → List (List UInt8)
  | [] => []
  | c :: l => if c = 47 then p :: abvR (p ++ [c]) l else abvR (p ++ [c]) l
theorem abvR_eq : ∀ (l p : List UInt8), abvR p l = (List.range l.length).filterMap fun i => if l[i]? = some 47 then some (p ++ l.take i) else none
  | [], p => rfl
  | c :: l, p => by
    rw [abvR, List.length_cons, List.range_succ_eq_map, List.filterMap_cons]
    have h1 : ((List.range l.length).map Nat.succ).filterMap (fun i => if (c :: l)[i]? = some 47 then some (p ++ (c :: l).take i) else none) = abvR (p ++ [c]) l := by
      rw [List.filterMap_map, abvR_eq l (p ++ [c])]
      congr 1
      funext i
      simp
    simp only [List.getElem?_cons_zero, Option.some.injEq, List.take_zero, List.append_nil]
    by_cases h : c = 47
    · rw [if_pos h, if_pos h, h1]
    · rw [if_neg h, if_neg h, h1]
theorem aboveP_eq (p : List UInt8) : aboveP p = abvR [] p := by rw [abvR_eq]; unfold aboveP; simp
theorem abvR_noSl : ∀ (a p l : List UInt8), (∀ x ∈ a, x ≠ 47) → abvR p (a ++ l) = abvR (p ++ a) l
  | [], p, l, _ => by simp
  | c :: a, p, l, h => by
    rw [List.cons_append, abvR, if_neg (h c (by simp)), abvR_noSl a _ l (fun x hx => h x (by simp [hx]))]
    simp
/-- what is above a path, of its names -/
def pres (q : List (List UInt8)) : List (List UInt8) → List (List UInt8)
  | [] => []
  | [_] => []
  | x :: y :: r => joinS (q ++ [x]) :: pres (q ++ [x]) (y :: r)
theorem abvR_pres : ∀ (l q : List (List UInt8)) (p : List UInt8), NoSl l → (q = [] → p = []) → (q ≠ [] → p = joinS q ++ [47]) → abvR p (joinS l) = pres q l
  | [], q, p, _, _, _ => by simp [joinS, abvR, pres]
  | [x], q, p, hn, _, _ => by
    have h := abvR_noSl x p [] (fun c hc => hn x (by simp) c hc)
    rw [List.append_nil] at h
    rw [joinS, h]; rfl
  | x :: y :: r, q, p, hn, h1, h2 => by
    have hx : p ++ x = joinS (q ++ [x]) := by
      by_cases hq : q = []
      · subst hq; rw [h1 rfl]; rfl
      · rw [h2 hq, joinS_snoc q x hq]; simp
    rw [joinS, abvR_noSl x p _ (fun c hc => hn x (by simp) c hc), abvR, if_pos rfl, hx, pres, abvR_pres (y :: r) (q ++ [x]) _ (fun z hz => hn z (by simp [hz])) (by simp) (fun _ => rfl)]
theorem aboveP_pres {l : List (List UInt8)} (hn : NoSl l) : aboveP (joinS l) = pres [] l := by
  rw [aboveP_eq]; exact abvR_pres l [] [] hn (fun _ => rfl) (fun h => absurd rfl h)
theorem pres_length : ∀ (l q : List (List UInt8)), (pres q l).length = l.length - 1
  | [], _ => rfl
  | [_], _ => rfl
  | x :: y :: r, q => by rw [pres, List.length_cons, pres_length (y :: r)]; simp
theorem pres_get : ∀ (l q : List (List UInt8)) (i : Nat), i + 1 < l.length → (pres q l)[i]? = some (joinS (q ++ l.take (i + 1)))
  | [], _, _, h => by simp at h
  | [_], _, i, h => by simp at h
  | x :: y :: r, q, 0, _ => by simp [pres]
  | x :: y :: r, q, i + 1, h => by
    rw [pres, List.getElem?_cons_succ, pres_get (y :: r) (q ++ [x]) i (by simpa using h)]
    simp
/-- a beginning is less -/
theorem bytesLess_pre : ∀ (a b : List UInt8), b ≠ [] → Op.bytesLess a (a ++ b) = true
  | [], b, h => by cases b with | nil => exact absurd rfl h | cons c b => rfl
  | c :: a, b, h => by
    have ih := bytesLess_pre a b h
    simp [Op.bytesLess, ih]
/-- names that a tree may have, none of them empty, no slash -/
theorem mayN_ne {s : List UInt8} (h : mayN s = true) : s ≠ [] ∧ ∀ c ∈ s, c ≠ 47 := by
  unfold mayN at h
  simp only [Bool.and_eq_true, Bool.not_eq_true', List.any_eq_false, Bool.or_eq_true, beq_iff_eq, not_or] at h
  refine ⟨fun e => ?_, fun c hc => (h.1.2 c hc).1⟩
  rw [e] at h
  simp at h
theorem filter_ne {l : List (List UInt8)} (h : l.all mayN = true) : l.filter (fun x => !x.isEmpty) = l := by
  rw [List.filter_eq_self]
  intro x hx
  have := (mayN_ne (List.all_eq_true.1 h x hx)).1
  cases x with
  | nil => exact absurd rfl this
  | cons c x => rfl
theorem noSl_of_may {l : List (List UInt8)} (h : l.all mayN = true) : NoSl l := fun x hx c hc => (mayN_ne (List.all_eq_true.1 h x hx)).2 c hc
theorem joinP_may {l : List (List UInt8)} (h : l.all mayN = true) : joinP l = joinS l := by unfold joinP; rw [filter_ne h]
theorem joinS_eq_nil {l : List (List UInt8)} (h : l.all mayN = true) (he : joinS l = []) : l = [] := by
  cases l with
  | nil => rfl
  | cons x r =>
    have hx := (mayN_ne (List.all_eq_true.1 h x (by simp))).1
    cases r with
    | nil => exact absurd he hx
    | cons y r => rw [joinS] at he; simp at he
theorem splitP_joinS {l : List (List UInt8)} (h : l.all mayN = true) : splitP (joinS l) = l := by
  unfold splitP
  by_cases he : joinS l = []
  · rw [if_pos he, joinS_eq_nil h he]
  · rw [if_neg he]
    have hl : l ≠ [] := fun e => he (by rw [e]; rfl)
    exact spl_joinS l hl (noSl_of_may h)
theorem mayP_joinS {l : List (List UInt8)} (h : l.all mayN = true) (h1 : (joinS l).length ≤ 4080) (h2 : l.length < 255) : mayP (joinS l) = true := by
  unfold mayP
  rw [splitP_joinS h, h, decide_eq_true h1, decide_eq_true h2]; rfl
theorem joinS_append : ∀ (a b : List (List UInt8)), a ≠ [] → b ≠ [] → joinS (a ++ b) = joinS a ++ 47 :: joinS b
  | [], _, h, _ => absurd rfl h
  | [x], b, _, hb => by rw [List.singleton_append, joinS_cons x hb]; rfl
  | x :: y :: r, b, _, hb => by
    have ih := joinS_append (y :: r) b (by simp) hb
    rw [List.cons_append] at ih
    show x ++ 47 :: joinS (y :: (r ++ b)) = (x ++ 47 :: joinS (y :: r)) ++ 47 :: joinS b
    rw [ih]; simp
/-- the path, its parent and its base -/
theorem parts_join {l : List (List UInt8)} (h : l.all mayN = true) : joinP [parentP (joinS l), baseP (joinS l)] = joinS l := by
  have hn := noSl_of_may h
  rcases List.eq_nil_or_concat l with rfl | ⟨a, b, rfl⟩
  · rfl
  · rw [List.concat_eq_append] at h hn ⊢
    have hb : ∀ x ∈ b, x ≠ 47 := fun c hc => hn b (by simp) c hc
    have hbn : b ≠ [] := (mayN_ne (List.all_eq_true.1 h b (by simp))).1
    by_cases ha : a = []
    · subst ha
      rw [List.nil_append]
      show joinP [parentP b, baseP b] = b
      rw [(parent_one hb).1, (parent_one hb).2, joinP_two, if_pos rfl]
    · obtain ⟨h1, h2⟩ := parent_joinS ha hb
      have haj : joinS a ≠ [] := fun e => ha (joinS_eq_nil (by rw [List.all_append] at h; simp only [Bool.and_eq_true] at h; exact h.1) e)
      rw [h1, h2, joinP_two, if_neg haj, if_neg hbn, joinS_snoc a b ha]
theorem under_self (p : List UInt8) : underP p p = false := by
  unfold underP
  have : (p ++ [47]).isPrefixOf p = false := by
    cases h : (p ++ [47]).isPrefixOf p with
    | false => rfl
    | true =>
      have := (List.isPrefixOf_iff_prefix.1 h).length_le
      rw [List.length_append, List.length_singleton] at this
      omega
  rw [this]
  cases p.isEmpty <;> rfl
theorem under_nil (p : List UInt8) : underP [] p = !p.isEmpty := by unfold underP; simp
/-- one of those above, and the next one -/
structure Abv (p d x : List UInt8) : Prop where
  par : parentP x = d
  und : underP d p = true
  may : mayP d = true
  less : Op.bytesLess d x = true
  nun : underP p d = false
theorem abv_at {l : List (List UInt8)} (h : l.all mayN = true) (h1 : (joinS l).length ≤ 4080) (h2 : l.length < 255) (i : Nat) (hi : i + 1 < l.length) : Abv (joinS l) (joinS (l.take (i + 1))) (joinS (l.take (i + 2))) := by
  have ht : (l.take (i + 1)).all mayN = true := by
    rw [List.all_eq_true] at h ⊢
    exact fun x hx => h x (List.mem_of_mem_take hx)
  have htn : l.take (i + 1) ≠ [] := by
    intro e
    have := congrArg List.length e
    rw [List.length_take, List.length_nil] at this
    omega
  have hdn : l.drop (i + 1) ≠ [] := by
    intro e
    have := congrArg List.length e
    rw [List.length_drop, List.length_nil] at this
    omega
  have hp : joinS l = joinS (l.take (i + 1)) ++ 47 :: joinS (l.drop (i + 1)) := by
    conv => lhs; rw [← List.take_append_drop (i + 1) l]
    exact joinS_append _ _ htn hdn
  have hx : l.take (i + 2) = l.take (i + 1) ++ [l[i + 1]] := List.take_succ_eq_append_getElem hi
  have hb := (mayN_ne (List.all_eq_true.1 h l[i + 1] (List.getElem_mem hi))).2
  have hdj : joinS (l.take (i + 1)) ≠ [] := fun e => htn (joinS_eq_nil ht e)
  refine ⟨?_, ?_, ?_, ?_, ?_⟩
  · rw [hx]; exact (parent_joinS htn hb).1
  · unfold underP
    have hpr : (joinS (l.take (i + 1)) ++ [47]).isPrefixOf (joinS l) = true := by
      rw [List.isPrefixOf_iff_prefix, hp]
      exact ⟨joinS (l.drop (i + 1)), by simp⟩
    rw [hpr]
    have : (joinS l).isEmpty = false := by
      rw [hp]
      cases joinS (l.take (i + 1)) <;> rfl
    rw [this]; simp
  · exact mayP_joinS ht (by rw [hp] at h1; simp at h1; omega) (by rw [List.length_take]; omega)
  · rw [hx, joinS_snoc _ _ htn]
    exact bytesLess_pre _ _ (by simp)
  · unfold underP
    have hpr : (joinS l ++ [47]).isPrefixOf (joinS (l.take (i + 1))) = false := by
      cases h3 : (joinS l ++ [47]).isPrefixOf (joinS (l.take (i + 1))) with
      | false => rfl
      | true =>
        have h4 := (List.isPrefixOf_iff_prefix.1 h3).length_le
        rw [hp, List.length_append, List.length_append, List.length_cons, List.length_singleton] at h4
        omega
    have : (joinS l).isEmpty = false := by
      rw [hp]
      cases joinS (l.take (i + 1)) <;> rfl
    rw [hpr, this]; simp
theorem joinS_take_len : ∀ (l : List (List UInt8)) (j : Nat), (joinS (l.take j)).length ≤ (joinS l).length
  | [], j => by simp [joinS]
  | [x], 0 => by simp [joinS]
  | [x], j + 1 => by simp
  | x :: y :: r, 0 => by simp [joinS]
  | x :: y :: r, 1 => by simp [joinS]
  | x :: y :: r, j + 2 => by
    have ih := joinS_take_len (y :: r) (j + 1)
    rw [List.take_succ_cons] at ih ⊢
    rw [List.take_succ_cons, joinS, joinS, List.length_append, List.length_append, List.length_cons, List.length_cons]
    omega
/-- the names that the law takes -/
def cut60 (s : List UInt8) : List UInt8 := s.take (min s.length 60)
def sel (names : List (List UInt8)) (k : Nat) : List (List UInt8) := ((names.take (min k 40)).map cut60).filter mayN
theorem sel_succ (names : List (List UInt8)) (k : Nat) (hk : k < names.length) : sel names (k + 1) = if k < 40 ∧ mayN (cut60 names[k]) = true then sel names k ++ [cut60 names[k]] else sel names k := by
  unfold sel
  by_cases h : k < 40
  · rw [show min (k + 1) 40 = k + 1 by omega, show min k 40 = k by omega, List.take_succ_eq_append_getElem hk, List.map_append, List.filter_append]
    by_cases hm : mayN (cut60 names[k]) = true
    · rw [if_pos ⟨h, hm⟩]; simp [hm]
    · rw [if_neg (fun e => hm e.2)]; simp [hm]
  · rw [show min (k + 1) 40 = 40 by omega, show min k 40 = 40 by omega, if_neg (fun e => h e.1)]
theorem sel_may (names : List (List UInt8)) (k : Nat) : (sel names k).all mayN = true := by
  rw [List.all_eq_true]; exact fun x hx => (List.mem_filter.1 hx).2
theorem sel_len (names : List (List UInt8)) (k : Nat) : (sel names k).length ≤ 40 := by
  unfold sel
  refine Nat.le_trans (List.length_filter_le _ _) ?_
  rw [List.length_map, List.length_take]; omega
theorem sel_each (names : List (List UInt8)) (k : Nat) : ∀ x ∈ sel names k, x.length ≤ 60 := by
  intro x hx
  obtain ⟨y, _, rfl⟩ := List.mem_map.1 (List.mem_filter.1 hx).1
  unfold cut60; rw [List.length_take]; omega
theorem joinS_bound : ∀ (l : List (List UInt8)), (∀ x ∈ l, x.length ≤ 60) → (joinS l).length ≤ 61 * l.length
  | [], _ => by simp [joinS]
  | [x], h => by have := h x (by simp); show x.length ≤ _; simp; omega
  | x :: y :: r, h => by
    have h1 := h x (by simp)
    have ih := joinS_bound (y :: r) (fun z hz => h z (by simp [hz]))
    rw [joinS, List.length_append, List.length_cons]
    simp only [List.length_cons] at ih ⊢
    omega
theorem sel_join (names : List (List UInt8)) (k : Nat) : (joinS (sel names k)).length ≤ 4080 := by
  have h1 := joinS_bound _ (sel_each names k)
  have h2 := sel_len names k
  omega
end Go.Proofs.YtphgmkhbhboklaaGreatDoor
/- path.Whiteout, Opaque; portolanlaw11.wakes. -/
namespace Go.Proofs.YtphgmkhbhboklaaGreatDoor
open Go.RowKit
def whiteoutP (p : List UInt8) : List UInt8 := if p.isEmpty || !mayP p then [] else joinP [parentP p, whiteB ++ baseP p]
def opaqueP (d : List UInt8) : List UInt8 := if !mayP d then [] else joinP [d, markB]
theorem joinP_two_len (a b : List UInt8) : (joinP [a, b]).length ≤ a.length + b.length + 1 := by
  have h1 := joinS_filter_len (fun x => !x.isEmpty) [a, b] (by simp)
  have h2 : (joinS [a, b]).length = a.length + b.length + 1 := by simp [joinS]; omega
  unfold joinP
  omega
theorem rdS_two (w : World) (a b : List UInt8) : RdS (w.alloc (.cells #[strV a, strV b] 9)) (· < (w.alloc (.cells #[strV a, strV b] 9)).heap.size) (.slice (some ⟨w.heap.size, 0, none⟩) 2 2) [a, b] :=
  RdV.new 9 [strV a, strV b] 1 2 _ rfl rfl (by unfold maxLen; omega) (by simp)
end Go.Proofs.YtphgmkhbhboklaaGreatDoor
