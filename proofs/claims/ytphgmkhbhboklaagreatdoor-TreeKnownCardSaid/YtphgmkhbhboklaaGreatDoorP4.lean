/- PARTS OF ONE PROOF, set in one file: PathClass, PathClassB, Node, TarTyp, QCell, TarMay, Spc, NodeCl, SpcT, NodeClo. Each part tells its own conditions. -/
import Derived.Maps.Keyed
import Derived.Lib.LaidU8
import Derived.Deep.MidRow
import Derived.StillTail
import Derived.Test.YtphgmkhbhboklaaGreatDoorP1
import Derived.Test.YtphgmkhbhboklaaGreatDoorP3
/- path.Class, Whiteout, Opaque. -/
namespace Go.Proofs.YtphgmkhbhboklaaGreatDoor
open Go.RowKit
def whiteB : List UInt8 := [46, 119, 104, 46]
def markB : List UInt8 := [46, 119, 104, 46, 46, 119, 104, 46, 46, 111, 112, 113]
def tableB : List UInt8 := [46, 119, 104, 46, 46, 119, 104, 46, 116, 111, 99]
def dirP (p : List UInt8) : List UInt8 := p.take (cutAt p)
/-- the class of a last name -/
def lastC (b : List UInt8) : Nat := if b == markB then 3 else if whiteB.isPrefixOf b then 2 else 1
/-- a slash at the end is left out -/
def trimSl (d : List UInt8) : List UInt8 := if ([47] : List UInt8).isSuffixOf d then d.take (d.length - 1) else d
/-- the target, by the class -/
def tgtC (c : Nat) (d b : List UInt8) : List UInt8 := if c = 1 then d ++ b else if c = 2 then d ++ b.drop 4 else trimSl d
/-- Class -/
def classP (p : List UInt8) : Int × List UInt8 :=
  if p == tableB then (4, []) else
  if !mayP (tgtC (lastC (baseP p)) (dirP p) (baseP p)) || (lastC (baseP p) != 3 && (tgtC (lastC (baseP p)) (dirP p) (baseP p)).isEmpty) || (lastC (baseP p) == 2 && !mayN ((baseP p).drop 4)) || dirP p == [47] then (0, [])
  else ((lastC (baseP p) : Int), tgtC (lastC (baseP p)) (dirP p) (baseP p))
theorem last_any (b : List UInt8) (w : World) : Calls Tryz.prog 67 #[.string ⟨b.toArray⟩] w fun e w' => e = .returned (.int .i64 (lastC b : Int)) ∧ w = w' := by
  have HP : Keep (∀ w, Calls Tryz.prog 66 #[.string ⟨b.toArray⟩, .string ⟨#[46, 119, 104, 46]⟩] w fun e w' => e = .returned (.bool (whiteB.isPrefixOf b)) ∧ w' = w) := ⟨fun w => Tryz.strings_HasPrefix _ _ w⟩
  unfold lastC
  generalize whiteB.isPrefixOf b = b2 at *
  have hm : (b == markB) = (b == [46, 119, 104, 46, 46, 119, 104, 46, 46, 111, 112, 113]) := rfl
  rw [hm]
  generalize h1 : (b == [46, 119, 104, 46, 46, 119, 104, 46, 46, 111, 112, 113]) = b1
  clear hm
  cases b1 with
  | true =>
    go_enter Tryz.func67, Tryz.ntmps67
    go_wp2_with fail
    go_ret
    exact ⟨rfl, rfl⟩
  | false =>
    go_enter Tryz.func67, Tryz.ntmps67
    go_wp2_with fail
    refine (HP.out _).mono ?_
    rintro e w' ⟨rfl, rfl⟩
    cases b2 with
    | true =>
      go_wp2_with fail
      go_ret
      exact ⟨rfl, rfl⟩
    | false =>
      go_wp2_with fail
      go_ret
      exact ⟨rfl, rfl⟩
theorem c1_any (d b : List UInt8) (h : d.length + b.length ≤ 1000000000) (w : World) : Calls Tryz.prog 155 #[.string ⟨d.toArray⟩, .string ⟨b.toArray⟩] w fun e w' => e = .returned (.string ⟨(d ++ b).toArray⟩) ∧ w = w' := by
  have hc := run_cat (P := Tryz.prog) d b (by omega)
  generalize d ++ b = q at *
  go_enter Tryz.func155, Tryz.ntmps155
  go_wp2_with fail
  go_ret
  exact ⟨rfl, rfl⟩
theorem c2_any (d b : List UInt8) (h : d.length + b.length ≤ 1000000000) (h4 : 4 ≤ b.length) (w : World) : Calls Tryz.prog 156 #[.string ⟨d.toArray⟩, .string ⟨b.toArray⟩] w fun e w' => e = .returned (.string ⟨(d ++ b.drop 4).toArray⟩) ∧ w = w' := by
  have hk := run_slice_from (P := Tryz.prog) Tryz.underlying9 b .i64 4 h4
  have hk2 : ∀ w, (Instr.slice 9 (.string ⟨b.toArray⟩) (some (.int .i64 4)) none none).run Tryz.prog w = .ok (.string ⟨(b.drop 4).toArray⟩) w := hk
  have hc := run_cat (P := Tryz.prog) d (b.drop 4) (by simp; omega)
  clear hk
  generalize d ++ b.drop 4 = q at *
  generalize b.drop 4 = bd at *
  go_enter Tryz.func156, Tryz.ntmps156
  go_wp2_with fail
  go_ret
  exact ⟨rfl, rfl⟩
theorem c3_any (d b : List UInt8) (h : d.length ≤ 1000000000) (w : World) : Calls Tryz.prog 157 #[.string ⟨d.toArray⟩, .string ⟨b.toArray⟩] w fun e w' => e = .returned (.string ⟨(trimSl d).toArray⟩) ∧ w = w' := by
  have HT : Keep (∀ w, Calls Tryz.prog 68 #[.string ⟨d.toArray⟩, .string ⟨#[47]⟩] w fun e w' => e = .returned (.string ⟨(trimSl d).toArray⟩) ∧ w' = w) := ⟨fun w => Tryz.strings_TrimSuffix ⟨d.toArray⟩ ⟨#[47]⟩ w (by show d.length ≤ _; omega)⟩
  generalize trimSl d = q at *
  go_enter Tryz.func157, Tryz.ntmps157
  go_wp2_with fail
  refine (HT.out _).mono ?_
  rintro e w' ⟨rfl, rfl⟩
  go_wp2_with fail
  go_ret
  exact ⟨rfl, rfl⟩
theorem trim_base (p : List UInt8) : Lib.trimSuffix p (baseP p) = dirP p := by
  have h1 : Lib.hasSuffix p (baseP p) = true := by
    show (baseP p).isSuffixOf p = true
    rw [List.isSuffixOf_iff_suffix]
    exact List.drop_suffix _ _
  have hl : p.length - (baseP p).length = cutAt p := by
    have := cutAt_le p
    unfold baseP
    rw [List.length_drop]; omega
  unfold Lib.trimSuffix
  rw [if_pos h1, hl]; rfl
end Go.Proofs.YtphgmkhbhboklaaGreatDoor
/- path.Class: the walk, class by class. -/
namespace Go.Proofs.YtphgmkhbhboklaaGreatDoor
open Go.RowKit
theorem dir_base (p : List UInt8) : dirP p ++ baseP p = p := List.take_append_drop _ _
set_option maxHeartbeats 4000000 in
set_option maxRecDepth 100000 in
theorem class_1 (p : List UInt8) (hp : p.length ≤ 1000000) (B : Nat) (w : World) (hB : B ≤ w.heap.size) (hM : Mx B w) (hC : Cls B w) (ht : (p == tableB) = false) (hc : lastC (baseP p) = 1) :
    Calls Tryz.prog 39 #[.string ⟨p.toArray⟩] w fun e w' => e = .returned (.tuple #[.int .i64 (classP p).1, .string ⟨(classP p).2.toArray⟩]) ∧ Below w.heap.size w w' := by
  have HBA := Keep.keep (fun w => base_any p hp w)
  have HLA := Keep.keep (fun w => last_any (baseP p) w)
  have HTR : Keep (∀ w, Calls Tryz.prog 68 #[.string ⟨p.toArray⟩, .string ⟨(baseP p).toArray⟩] w fun e w' => e = .returned (.string ⟨(dirP p).toArray⟩) ∧ w' = w) := ⟨fun w => by
    have h := Tryz.strings_TrimSuffix ⟨p.toArray⟩ ⟨(baseP p).toArray⟩ w (by show p.length ≤ _; omega)
    rw [show Lib.trimSuffix (⟨p.toArray⟩ : ByteArray).data.toList (⟨(baseP p).toArray⟩ : ByteArray).data.toList = dirP p from trim_base p] at h
    exact h⟩
  have hlen : (dirP p).length + (baseP p).length = p.length := by rw [← List.length_append, dir_base]
  have htab : (p == [46, 119, 104, 46, 46, 119, 104, 46, 116, 111, 99]) = false := ht
  have HE : Keep (classP p = if !mayP (tgtC 1 (dirP p) (baseP p)) || ((1 : Nat) != 3 && (tgtC 1 (dirP p) (baseP p)).isEmpty) || ((1 : Nat) == 2 && !mayN ((baseP p).drop 4)) || dirP p == [47] then (0, []) else (1, tgtC 1 (dirP p) (baseP p))) := ⟨by
    unfold classP
    rw [ht, hc]; rfl⟩
  rw [hc] at HLA
  obtain ⟨bm, hcell, hlook⟩ := hC.look 1 (by decide) (by decide)
  have hlk : (Instr.lookup 101 (.map (some bm)) (.int .i64 1) false).run Tryz.prog w = .ok (.func (.func 155) #[] #[]) w := hlook
  have HCF := Keep.keep (fun w => c1_any (dirP p) (baseP p) (by omega) w)
  rw [show dirP p ++ baseP p = tgtC 1 (dirP p) (baseP p) from rfl] at HCF
  have htl : (tgtC 1 (dirP p) (baseP p)).length ≤ 1000000 := by show (dirP p ++ baseP p).length ≤ _; simp; omega
  have HMY := Keep.keep (fun wx (h : Below w.heap.size w wx) => may_any (tgtC 1 (dirP p) (baseP p)) htl B wx (Nat.le_trans hB h.size) (hM.on (h.mono hB)))
  have hbn := bne_nil (tgtC 1 (dirP p) (baseP p))
  generalize hd47 : (dirP p == [47]) = b4 at *
  generalize tgtC 1 (dirP p) (baseP p) = t at *
  generalize mayP t = b1 at *
  generalize t.isEmpty = b2 at *
  generalize classP p = out at *
  generalize dirP p = d at *
  generalize baseP p = bs at *
  clear hM hC hlen ht hc hlook htl
  go_enter Tryz.func39, Tryz.ntmps39
  go_wp2_with fail
  refine (HBA.out _).mono ?_
  rintro e w' ⟨rfl, rfl⟩
  go_wp2_with fail
  refine (HLA.out _).mono ?_
  rintro e w' ⟨rfl, rfl⟩
  go_wp2_with fail
  refine (HTR.out _).mono ?_
  rintro e w' ⟨rfl, rfl⟩
  go_wp2_with fail
  refine (HCF.out _).mono ?_
  rintro e w' ⟨rfl, rfl⟩
  go_wp2_with fail
  refine (HMY.out _ (Below.refl _ _)).mono ?_
  rintro e w1 ⟨rfl, hb1⟩
  have HB1 := Keep.keep hb1
  clear hb1 hlk hcell
  cases b1 with
  | false =>
    have HX : Keep (out = (0, [])) := ⟨by rw [HE.out]; rfl⟩
    go_wp2_with fail
    go_ret2
    exact ⟨by rw [HX.out]; rfl, HB1.out⟩
  | true =>
  cases b2 with
  | true =>
    have HX : Keep (out = (0, [])) := ⟨by rw [HE.out]; rfl⟩
    go_wp2_with fail
    go_ret2
    exact ⟨by rw [HX.out]; rfl, HB1.out⟩
  | false =>
  cases b4 with
  | true =>
    have HX : Keep (out = (0, [])) := ⟨by rw [HE.out]; rfl⟩
    go_wp2_with fail
    go_ret2
    exact ⟨by rw [HX.out]; rfl, HB1.out⟩
  | false =>
    have HX : Keep (out = (1, t)) := ⟨by rw [HE.out]; rfl⟩
    go_wp2_with fail
    go_ret2
    exact ⟨by rw [HX.out]; rfl, HB1.out⟩
set_option maxHeartbeats 4000000 in
set_option maxRecDepth 100000 in
theorem class_2 (p : List UInt8) (hp : p.length ≤ 1000000) (B : Nat) (w : World) (hB : B ≤ w.heap.size) (hM : Mx B w) (hC : Cls B w) (ht : (p == tableB) = false) (hc : lastC (baseP p) = 2) :
    Calls Tryz.prog 39 #[.string ⟨p.toArray⟩] w fun e w' => e = .returned (.tuple #[.int .i64 (classP p).1, .string ⟨(classP p).2.toArray⟩]) ∧ Below w.heap.size w w' := by
  have HBA := Keep.keep (fun w => base_any p hp w)
  have HLA := Keep.keep (fun w => last_any (baseP p) w)
  have HTR : Keep (∀ w, Calls Tryz.prog 68 #[.string ⟨p.toArray⟩, .string ⟨(baseP p).toArray⟩] w fun e w' => e = .returned (.string ⟨(dirP p).toArray⟩) ∧ w' = w) := ⟨fun w => by
    have h := Tryz.strings_TrimSuffix ⟨p.toArray⟩ ⟨(baseP p).toArray⟩ w (by show p.length ≤ _; omega)
    rw [show Lib.trimSuffix (⟨p.toArray⟩ : ByteArray).data.toList (⟨(baseP p).toArray⟩ : ByteArray).data.toList = dirP p from trim_base p] at h
    exact h⟩
  have hlen : (dirP p).length + (baseP p).length = p.length := by rw [← List.length_append, dir_base]
  have htab : (p == [46, 119, 104, 46, 46, 119, 104, 46, 116, 111, 99]) = false := ht
  have HE : Keep (classP p = if !mayP (tgtC 2 (dirP p) (baseP p)) || ((2 : Nat) != 3 && (tgtC 2 (dirP p) (baseP p)).isEmpty) || ((2 : Nat) == 2 && !mayN ((baseP p).drop 4)) || dirP p == [47] then (0, []) else (2, tgtC 2 (dirP p) (baseP p))) := ⟨by
    unfold classP
    rw [ht, hc]; rfl⟩
  rw [hc] at HLA
  obtain ⟨bm, hcell, hlook⟩ := hC.look 2 (by decide) (by decide)
  have hlk : (Instr.lookup 101 (.map (some bm)) (.int .i64 2) false).run Tryz.prog w = .ok (.func (.func 156) #[] #[]) w := hlook
  have h4 : 4 ≤ (baseP p).length := by
    unfold lastC at hc
    split at hc
    · omega
    · split at hc
      · rename_i h
        have := (List.isPrefixOf_iff_prefix.1 h).length_le
        simpa [whiteB] using this
      · omega
  have hk4 := run_slice_from (P := Tryz.prog) Tryz.underlying9 (baseP p) .i64 4 h4
  have hkb : ∀ w, (Instr.slice 9 (.string ⟨(baseP p).toArray⟩) (some (.int .i64 4)) none none).run Tryz.prog w = .ok (.string ⟨((baseP p).drop 4).toArray⟩) w := hk4
  have HCF := Keep.keep (fun w => c2_any (dirP p) (baseP p) (by omega) h4 w)
  have HMN := Keep.keep (fun w => mayname_any ((baseP p).drop 4) (by simp; omega) w)
  rw [show dirP p ++ (baseP p).drop 4 = tgtC 2 (dirP p) (baseP p) from rfl] at HCF
  have htl : (tgtC 2 (dirP p) (baseP p)).length ≤ 1000000 := by show (dirP p ++ (baseP p).drop 4).length ≤ _; simp; omega
  clear hk4
  have HMY := Keep.keep (fun wx (h : Below w.heap.size w wx) => may_any (tgtC 2 (dirP p) (baseP p)) htl B wx (Nat.le_trans hB h.size) (hM.on (h.mono hB)))
  have hbn := bne_nil (tgtC 2 (dirP p) (baseP p))
  generalize hd47 : (dirP p == [47]) = b4 at *
  generalize tgtC 2 (dirP p) (baseP p) = t at *
  generalize mayP t = b1 at *
  generalize t.isEmpty = b2 at *
  generalize classP p = out at *
  generalize mayN ((baseP p).drop 4) = b3 at *
  generalize (baseP p).drop 4 = bd at *
  generalize dirP p = d at *
  generalize baseP p = bs at *
  clear hM hC hlen ht hc hlook htl h4
  go_enter Tryz.func39, Tryz.ntmps39
  go_wp2_with fail
  refine (HBA.out _).mono ?_
  rintro e w' ⟨rfl, rfl⟩
  go_wp2_with fail
  refine (HLA.out _).mono ?_
  rintro e w' ⟨rfl, rfl⟩
  go_wp2_with fail
  refine (HTR.out _).mono ?_
  rintro e w' ⟨rfl, rfl⟩
  go_wp2_with fail
  refine (HCF.out _).mono ?_
  rintro e w' ⟨rfl, rfl⟩
  go_wp2_with fail
  refine (HMY.out _ (Below.refl _ _)).mono ?_
  rintro e w1 ⟨rfl, hb1⟩
  have HB1 := Keep.keep hb1
  clear hb1 hlk hcell
  cases b1 with
  | false =>
    have HX : Keep (out = (0, [])) := ⟨by rw [HE.out]; rfl⟩
    go_wp2_with fail
    go_ret2
    exact ⟨by rw [HX.out]; rfl, HB1.out⟩
  | true =>
  cases b2 with
  | true =>
    have HX : Keep (out = (0, [])) := ⟨by rw [HE.out]; rfl⟩
    go_wp2_with fail
    go_ret2
    exact ⟨by rw [HX.out]; rfl, HB1.out⟩
  | false =>
  go_wp2_with fail
  refine (HMN.out _).mono ?_
  rintro e w2 ⟨rfl, hb2⟩
  have HB2 := Keep.keep (HB1.out.trans (hb2.mono HB1.out.size))
  clear hb2
  cases b3 with
  | false =>
    have HX : Keep (out = (0, [])) := ⟨by rw [HE.out]; rfl⟩
    go_wp2_with fail
    go_ret2
    exact ⟨by rw [HX.out]; rfl, HB2.out⟩
  | true =>
  cases b4 with
  | true =>
    have HX : Keep (out = (0, [])) := ⟨by rw [HE.out]; rfl⟩
    go_wp2_with fail
    go_ret2
    exact ⟨by rw [HX.out]; rfl, HB2.out⟩
  | false =>
    have HX : Keep (out = (2, t)) := ⟨by rw [HE.out]; rfl⟩
    go_wp2_with fail
    go_ret2
    exact ⟨by rw [HX.out]; rfl, HB2.out⟩
set_option maxHeartbeats 4000000 in
set_option maxRecDepth 100000 in
theorem class_3 (p : List UInt8) (hp : p.length ≤ 1000000) (B : Nat) (w : World) (hB : B ≤ w.heap.size) (hM : Mx B w) (hC : Cls B w) (ht : (p == tableB) = false) (hc : lastC (baseP p) = 3) :
    Calls Tryz.prog 39 #[.string ⟨p.toArray⟩] w fun e w' => e = .returned (.tuple #[.int .i64 (classP p).1, .string ⟨(classP p).2.toArray⟩]) ∧ Below w.heap.size w w' := by
  have HBA := Keep.keep (fun w => base_any p hp w)
  have HLA := Keep.keep (fun w => last_any (baseP p) w)
  have HTR : Keep (∀ w, Calls Tryz.prog 68 #[.string ⟨p.toArray⟩, .string ⟨(baseP p).toArray⟩] w fun e w' => e = .returned (.string ⟨(dirP p).toArray⟩) ∧ w' = w) := ⟨fun w => by
    have h := Tryz.strings_TrimSuffix ⟨p.toArray⟩ ⟨(baseP p).toArray⟩ w (by show p.length ≤ _; omega)
    rw [show Lib.trimSuffix (⟨p.toArray⟩ : ByteArray).data.toList (⟨(baseP p).toArray⟩ : ByteArray).data.toList = dirP p from trim_base p] at h
    exact h⟩
  have hlen : (dirP p).length + (baseP p).length = p.length := by rw [← List.length_append, dir_base]
  have htab : (p == [46, 119, 104, 46, 46, 119, 104, 46, 116, 111, 99]) = false := ht
  have HE : Keep (classP p = if !mayP (tgtC 3 (dirP p) (baseP p)) || ((3 : Nat) != 3 && (tgtC 3 (dirP p) (baseP p)).isEmpty) || ((3 : Nat) == 2 && !mayN ((baseP p).drop 4)) || dirP p == [47] then (0, []) else (3, tgtC 3 (dirP p) (baseP p))) := ⟨by
    unfold classP
    rw [ht, hc]; rfl⟩
  rw [hc] at HLA
  obtain ⟨bm, hcell, hlook⟩ := hC.look 3 (by decide) (by decide)
  have hlk : (Instr.lookup 101 (.map (some bm)) (.int .i64 3) false).run Tryz.prog w = .ok (.func (.func 157) #[] #[]) w := hlook
  have HCF := Keep.keep (fun w => c3_any (dirP p) (baseP p) (by omega) w)
  rw [show trimSl (dirP p) = tgtC 3 (dirP p) (baseP p) from rfl] at HCF
  have htl : (tgtC 3 (dirP p) (baseP p)).length ≤ 1000000 := by
    show (trimSl (dirP p)).length ≤ _
    unfold trimSl
    split
    · rw [List.length_take]; omega
    · omega
  have HMY := Keep.keep (fun wx (h : Below w.heap.size w wx) => may_any (tgtC 3 (dirP p) (baseP p)) htl B wx (Nat.le_trans hB h.size) (hM.on (h.mono hB)))
  have hbn := bne_nil (tgtC 3 (dirP p) (baseP p))
  generalize hd47 : (dirP p == [47]) = b4 at *
  generalize tgtC 3 (dirP p) (baseP p) = t at *
  generalize mayP t = b1 at *
  generalize t.isEmpty = b2 at *
  generalize classP p = out at *
  generalize dirP p = d at *
  generalize baseP p = bs at *
  clear hM hC hlen ht hc hlook htl
  go_enter Tryz.func39, Tryz.ntmps39
  go_wp2_with fail
  refine (HBA.out _).mono ?_
  rintro e w' ⟨rfl, rfl⟩
  go_wp2_with fail
  refine (HLA.out _).mono ?_
  rintro e w' ⟨rfl, rfl⟩
  go_wp2_with fail
  refine (HTR.out _).mono ?_
  rintro e w' ⟨rfl, rfl⟩
  go_wp2_with fail
  refine (HCF.out _).mono ?_
  rintro e w' ⟨rfl, rfl⟩
  go_wp2_with fail
  refine (HMY.out _ (Below.refl _ _)).mono ?_
  rintro e w1 ⟨rfl, hb1⟩
  have HB1 := Keep.keep hb1
  clear hb1 hlk hcell
  cases b1 with
  | false =>
    have HX : Keep (out = (0, [])) := ⟨by rw [HE.out]; rfl⟩
    go_wp2_with fail
    go_ret2
    exact ⟨by rw [HX.out]; rfl, HB1.out⟩
  | true =>
  cases b4 with
  | true =>
    have HX : Keep (out = (0, [])) := ⟨by rw [HE.out]; rfl⟩
    go_wp2_with fail
    go_ret2
    exact ⟨by rw [HX.out]; rfl, HB1.out⟩
  | false =>
    have HX : Keep (out = (3, t)) := ⟨by rw [HE.out]; rfl⟩
    go_wp2_with fail
    go_ret2
    exact ⟨by rw [HX.out]; rfl, HB1.out⟩
set_option maxHeartbeats 4000000 in
theorem class_any (p : List UInt8) (hp : p.length ≤ 1000000) (B : Nat) (w : World) (hB : B ≤ w.heap.size) (hM : Mx B w) (hC : Cls B w) :
    Calls Tryz.prog 39 #[.string ⟨p.toArray⟩] w fun e w' => e = .returned (.tuple #[.int .i64 (classP p).1, .string ⟨(classP p).2.toArray⟩]) ∧ Below w.heap.size w w' := by
  cases ht : p == tableB with
  | true =>
    have HE : Keep (classP p = (4, [])) := ⟨by unfold classP; rw [ht]; rfl⟩
    have htab : (p == [46, 119, 104, 46, 46, 119, 104, 46, 116, 111, 99]) = true := ht
    clear hM hC ht
    go_enter Tryz.func39, Tryz.ntmps39
    go_wp2_with fail
    go_ret2
    exact ⟨by rw [HE.out]; rfl, Below.refl _ _⟩
  | false =>
    have h : lastC (baseP p) = 1 ∨ lastC (baseP p) = 2 ∨ lastC (baseP p) = 3 := by
      unfold lastC
      split
      · simp
      · split <;> simp
    rcases h with h | h | h
    · exact class_1 p hp B w hB hM hC ht h
    · exact class_2 p hp B w hB hM hC ht h
    · exact class_3 p hp B w hB hM hC ht h
end Go.Proofs.YtphgmkhbhboklaaGreatDoor
/- NODES AND MEMBERS, plainly; how they lie in memory. -/
namespace Go.Proofs.YtphgmkhbhboklaaGreatDoor
open Go.RowKit
abbrev R2 := Tx × Tx
structure Nd where
  kind : Int
  mode : Int
  uid : Int
  gid : Int
  time : Int
  attrs : List R2
  data : Tx
  link : Tx
abbrev Mb := Tx × Nd
/-- attributes, as cells -/
def rcells (l : List R2) : List Value := l.flatMap fun p => [strV p.1, strV p.2]
theorem rcells_cons (p : R2) (l : List R2) : rcells (p :: l) = strV p.1 :: strV p.2 :: rcells l := rfl
theorem rcells_append (l m : List R2) : rcells (l ++ m) = rcells l ++ rcells m := by simp [rcells]
theorem rcells_length : ∀ l : List R2, (rcells l).length = l.length * 2
  | [] => rfl
  | p :: l => by rw [rcells_cons]; simp [rcells_length l]; omega
theorem rcells_get : ∀ (l : List R2) (j : Nat) (h : j < l.length), (rcells l)[j * 2]? = some (strV l[j].1) ∧ (rcells l)[j * 2 + 1]? = some (strV l[j].2)
  | p :: l, 0, _ => ⟨rfl, rfl⟩
  | p :: l, j + 1, h => by
    have := rcells_get l j (by simpa using h)
    rw [rcells_cons]
    have e : (j + 1) * 2 = j * 2 + 2 := by omega
    rw [e]
    simpa using this
theorem rcells_one (l : List R2) : ∀ u ∈ rcells l, u.oneCell' = true := by
  intro u hu
  simp only [rcells, List.mem_flatMap, List.mem_cons, List.not_mem_nil, or_false] at hu
  obtain ⟨p, _, rfl | rfl⟩ := hu <;> rfl
/-- a node's cells; its attributes and its bytes are slices -/
def ndC (n : Nd) (av dv : Value) : Array Value := #[.int .i64 n.kind, .int .u32 n.mode, .int .u32 n.uid, .int .u32 n.gid, .int .i64 n.time, av, dv, strV n.link]
def mbC (m : Mb) (av dv : Value) : Array Value := #[strV m.1, .int .i64 m.2.kind, .int .u32 m.2.mode, .int .u32 m.2.uid, .int .u32 m.2.gid, .int .i64 m.2.time, av, dv, strV m.2.link]
/-- the slices of a node read as they should; their blocks are of N -/
structure NdR (w : World) (N : Nat → Prop) (n : Nd) (av dv : Value) : Prop where
  at_ : RdV w N 2 av n.attrs.length (rcells n.attrs)
  dt : Reads w N dv n.data
theorem NdR.mono {w : World} {N N' : Nat → Prop} {n : Nd} {av dv : Value} (h : NdR w N n av dv) (hN : ∀ b, N b → N' b) : NdR w N' n av dv := ⟨h.at_.mono hN, h.dt.mono hN⟩
theorem NdR.chg {M N : Nat → Prop} {w w' : World} {B : Nat} {n : Nd} {av dv : Value} (h : NdR w N n av dv) (hb : Chg M B w w') (hN : ∀ b, N b → b < B ∧ ¬ M b) : NdR w' N n av dv := ⟨h.at_.chg hb hN, h.dt.chg hb hN⟩
theorem NdR.below {N : Nat → Prop} {w w' : World} {B : Nat} {n : Nd} {av dv : Value} (h : NdR w N n av dv) (hb : Below B w w') (hN : ∀ b, N b → b < B) : NdR w' N n av dv := ⟨h.at_.below hb hN, h.dt.below hb hN⟩
/-- what is no longer than a million -/
structure Sm (m : Mb) : Prop where
  p : m.1.length ≤ 400000
  l : m.2.link.length ≤ 1000000
  d : m.2.data.length ≤ 1000000
  a : m.2.attrs.length ≤ 1000000
  n : ∀ x ∈ m.2.attrs, x.1.length ≤ 1000000 ∧ x.2.length ≤ 1000000
  k : -9223372036854775808 ≤ m.2.kind ∧ m.2.kind ≤ 9223372036854775807
/-- an attribute, at its place, that may not be -/
def badA (l : List R2) (k : Nat) : Bool :=
  match l[k]? with
  | none => false
  | some a => (a.1 == []) || decide (242 < a.1.length) || a.1.any ([0, 61, 10].contains ·) || (match k with | 0 => false | j + 1 => (match l[j]? with | some b => decide (a.1 ≤ b.1) | none => false))
def mayA (l : List R2) : Bool := (List.range l.length).all (fun k => !badA l k) && decide (l.length ≤ 16)
def mayL (s : Tx) (is : Bool) : Bool := if is then (s != []) && decide (s.length ≤ 4096) && !decide ((0 : UInt8) ∈ s) else s == []
/-- tar.May -/
def mayT (m : Mb) : Bool := decide (¬ (classP m.1).1 = 0) && decide (1 ≤ m.2.kind ∧ m.2.kind ≤ 4) && decide (m.2.mode ≤ 4095) && mayA m.2.attrs && mayL m.2.link (decide (m.2.kind = 3)) && decide (m.2.data.length ≤ 16777216) && (decide (m.2.kind = 2) || decide (m.2.data.length = 0))
/-- tree.May -/
def mayM (m : Mb) : Bool := decide ((classP m.1).1 = 1) && mayT m
end Go.Proofs.YtphgmkhbhboklaaGreatDoor
/- THE TABLE OF KINDS' TYPES, as the rows list it; what it tells at a kind. -/
namespace Go.Proofs.YtphgmkhbhboklaaGreatDoor
open Go.ChangeShapes Go.WideShapes Go.ChangeAt Go.RowKit
def kindT (k : Int) : Nat := if k = 1 then 53 else if k = 2 then 48 else if k = 3 then 50 else if k = 4 then 54 else 0
/-- the world holds the table -/
def Typ (B : Nat) (w : World) : Prop := ∃ b, b < B ∧ 1 < B ∧ w.cell? ⟨1, 0, none⟩ = some (.map (some b)) ∧ ∃ (es : Array MapEntry) (clock : Nat) (R : Value → Option (DataW Unit × List MemPlace)),
  w.heap[b]? = some (.map es clock) ∧ WideElems.Fit Tryz.prog 3 R es clock ∧ DataW.map ((es.toList.map (WideElems.rg Tryz.prog 3 R)).foldr DataW.insert []) = Rows.laid_portolan_tar_types ∧
  ∀ v c ps, R v = some (.lit (.int .u8 c), ps) → v = .int .u8 c
theorem Typ.on {B : Nat} {w w' : World} (h : Typ B w) (hb : Below B w w') : Typ B w' := by
  obtain ⟨b, h1, h2, h3, es, clock, R, h4, h5⟩ := h
  exact ⟨b, h1, h2, by rw [hb.cell (p := ⟨1, 0, none⟩) h2]; exact h3, es, clock, R, by rw [hb.block b h1]; exact h4, h5⟩
theorem zeroU8 (w : World) : (zeroValue 5).run Tryz.prog w = .ok (.int .u8 0) w := by kernel_rfl
theorem atKey_types (k : Int) (z : DataW Unit) : (Rows.laid_portolan_tar_types : DataW Unit).atKey (.int .i64 k) z = if kindT k = 0 then z else .lit (.int .u8 (kindT k : Int)) := by
  unfold Rows.laid_portolan_tar_types DataW.atKey kindT
  simp only [List.find?_cons, Lit.sameKey]
  by_cases h1 : k = 1
  · subst h1; rfl
  · by_cases h2 : k = 2
    · subst h2; rfl
    · by_cases h3 : k = 3
      · subst h3; rfl
      · by_cases h4 : k = 4
        · subst h4; rfl
        · simp [h1, h2, h3, h4, Ne.symm h1, Ne.symm h2, Ne.symm h3, Ne.symm h4]
theorem Typ.look {B : Nat} {w : World} (h : Typ B w) (k : Int) (hk : -9223372036854775808 ≤ k ∧ k ≤ 9223372036854775807) : ∃ b, w.cell? ⟨1, 0, none⟩ = some (.map (some b)) ∧
    (Instr.lookup 102 (.map (some b)) (.int .i64 k) false).run Tryz.prog w = .ok (.int .u8 (kindT k : Int)) w := by
  obtain ⟨b, h1, h2, h3, es, clock, R, h4, h5, h6, h7⟩ := h
  refine ⟨b, h3, ?_⟩
  have hwf : (Lit.int .i64 k).wf = true := by
    have e1 : IntKind.i64.min = -9223372036854775808 := rfl
    have e2 : IntKind.i64.max = 9223372036854775807 := rfl
    simp only [Lit.wf, e1, e2, Bool.and_eq_true, decide_eq_true_eq]; exact hk
  have hkey : keyOf Tryz.prog 3 (.int .i64 k) = some (.int .i64 k) := Maps.keyOf_int_mk Tryz.underlying3 hwf
  rcases Maps.fit_look false (Maps.int_keyed Tryz.underlying3) Tryz.underlying102 (zeroU8 w) h4 h5 hkey with ⟨h8, -, h9⟩ | ⟨e0, y, -, -, h8, h9, h10, -⟩
  · rw [h8]
    rw [h6] at h9
    have ha := h9 .nil
    rw [atKey_types] at ha
    by_cases hp : kindT k = 0
    · rw [hp]; rfl
    · rw [if_neg hp] at ha; cases ha
  · rw [h8]
    rw [h6] at h10
    have ha := h10 .nil
    have hb := h10 (.agg [])
    rw [atKey_types] at ha hb
    by_cases hp : kindT k = 0
    · rw [if_pos hp] at ha hb; rw [← ha] at hb; cases hb
    · rw [if_neg hp] at ha
      obtain ⟨y1, y2⟩ := y
      simp only at ha
      subst ha
      rw [h7 _ _ y2 h9]
      rfl
set_option maxRecDepth 100000 in
theorem typ_of_laid {W : World} {l : List (String × DataW Unit)} (hL : laidMet Tryz.prog l W) (hm : ("portolan/tar.types", Rows.laid_portolan_tar_types) ∈ l) : Typ W.heap.size W := by
  obtain ⟨g, t, cs, fuel, p, hg, ht, hvar, hd⟩ := Lib.laidMet.reads hL hm
  obtain rfl : 1 = g := Option.some.inj ((show Tryz.prog.globalNamed "portolan/tar.types" = some 1 by kernel_rfl).symm.trans hg)
  obtain rfl : 102 = t := Option.some.inj ((show (Tryz.prog.globals[1]?).map (·.type) = some 102 by kernel_rfl).symm.trans ht)
  have hcell : W.cell? ⟨1, 0, none⟩ = cs[0]? ∧ 1 < W.heap.size := by
    unfold World.var? at hvar
    rw [hg] at hvar
    simp only [Option.bind_some] at hvar
    cases hw : W.heap[1]? with
    | none => simp [hw] at hvar
    | some o =>
      cases o <;> simp [hw] at hvar
      subst hvar
      exact ⟨by simp [World.cell?, hw], (Array.getElem?_eq_some_iff.1 hw).1⟩
  rcases WideElems.open_map Tryz.underlying102 hd with ⟨_, hx⟩ | ⟨b, es, clock, n, rfl, hcs, hb, _, hF, hx⟩
  · injection hx with hx _; cases hx
  · refine ⟨b, (Array.getElem?_eq_some_iff.1 hb).1, hcell.2, ?_, es, clock, _, hb, hF, ?_, ?_⟩
    · rw [hcell.1, ← Array.getElem?_toList, hcs]; rfl
    · injection hx with hx _; exact hx.symm
    · intro v c ps hR
      unfold WideElems.elemAt at hR
      split at hR
      · rename_i hf
        obtain ⟨m, hm, he, _⟩ := DataW.trod_int Tryz.underlying5 hR
        injection he with he _
        injection he with he
        injection he with _ he
        subst he
        cases v with
        | agg cc => simp [Value.formed, Tryz.underlying5] at hf
        | tuple cc => simp [Value.formed] at hf
        | int k n => simpa [Value.cells] using hm
        | _ => simp [Value.cells] at hm
      · cases hR
end Go.Proofs.YtphgmkhbhboklaaGreatDoor
/- CELLS THAT ARE READ in a class walk. -/
namespace Go.Proofs.YtphgmkhbhboklaaGreatDoor
open Go.RowKit
section
variable {P : Program} {ops : Array Oper} {rest : List Oper} {a : Act} {C : World → Prop} {Q : Act → Prop} {tp : TypeId} {dst : Option Tmp} {pos : String} {after : Array Edge} {g : Option (Nat × Bool)}
/-- ARM: one plain cell is read -/
theorem cls_cell {b o : Nat} {ty : TypeId} {u : Value} {x : Operand} (hwt : Region.wanted (⟨dst, .load ty x, tp, pos, after, g⟩ : Oper) (yielded ops a.tmps) = true)
    (hc : ∀ w, C w → w.cell? ⟨b, o, none⟩ = some u) (hd : ∀ w, (isAgg ty).run P w = .ok false w) (hx : a.eval x = .pointer (some ⟨b, o, none⟩))
    (h : wpQuiet P ops C Q rest (a.put dst u)) : wpQuiet P ops C Q (⟨dst, .load ty x, tp, pos, after, g⟩ :: rest) a :=
  cls_op hwt (fun w hw => run_loadCell hd (hc w hw) hx) h
/-- ARM: an aggregate in the middle of a row is read -/
theorem cls_agg {b o : Nat} {ty : TypeId} {cs : List Value} {d : TypeDesc} {x : Operand} (hwt : Region.wanted (⟨dst, .load ty x, tp, pos, after, g⟩ : Oper) (yielded ops a.tmps) = true)
    (hc : ∀ w, C w → ∀ (j : Nat) (v : Value), cs[j]? = some v → w.cell? ⟨b, o + j, none⟩ = some v) (hu : P.underlying ty = some d) (hd : d.isRow = true) (hi : (P.info? ty).map (·.size) = some cs.length) (hx : a.eval x = .pointer (some ⟨b, o, none⟩))
    (h : wpQuiet P ops C Q rest (a.put dst (.agg cs.toArray))) : wpQuiet P ops C Q (⟨dst, .load ty x, tp, pos, after, g⟩ :: rest) a := by
  refine cls_op hwt (fun w hw => ?_) h
  have hl := run_loadAt_mid (P := P) w b o ty cs d (hc w hw) hu hd hi
  unfold execOp
  simp only [hx, Sem.run_bind, Sem.run_pure, Result.andThen_ok, hl]
end
end Go.Proofs.YtphgmkhbhboklaaGreatDoor
/- tar.mayLink, tar.mayAttrs, tar.May; tree.May. -/
namespace Go.Proofs.YtphgmkhbhboklaaGreatDoor
open Go.RowKit
theorem aggN : AggTy Tryz.prog 30 8 := ⟨⟨_, Tryz.underlying30, rfl⟩, by kernel_rfl⟩
theorem aggM : AggTy Tryz.prog 32 9 := ⟨⟨_, Tryz.underlying32, rfl⟩, by kernel_rfl⟩
theorem aggA : AggTy Tryz.prog 85 2 := ⟨⟨_, Tryz.underlying85, rfl⟩, by kernel_rfl⟩
theorem idx_neg (l : List UInt8) (c : UInt8) : decide (Lib.indexByte l c < 0) = !decide (c ∈ l) := by
  cases hc : decide (c ∈ l) with
  | false =>
    have : ∀ x ∈ l, x ≠ c := by
      intro x hx e
      subst e
      simp [hx] at hc
    rw [indexByte_no l c this]; rfl
  | true =>
    have hm : c ∈ l := by simpa using hc
    have : ¬ Lib.indexByte l c < 0 := by
      intro h
      have h1 := Lib.indexByte_ge l c
      have h2 : Lib.indexByte l c = -1 := by omega
      obtain ⟨k, hk, he⟩ := List.getElem_of_mem hm
      exact Lib.indexByte_none h2 k (by rw [List.getElem?_eq_getElem hk, he])
    simp [this]
set_option maxHeartbeats 400000 in
theorem mayl_any (s : Tx) (is : Bool) (w : World) :
    Calls Tryz.prog 72 #[.string ⟨s.toArray⟩, .bool is] w fun e w' => e = .returned (.bool (mayL s is)) ∧ w = w' := by
  have HI := Keep.keep (fun w => Tryz.strings_IndexByte ⟨s.toArray⟩ 0 w)
  have hx : decide (Lib.indexByte s 0 < 0) = !decide ((0 : UInt8) ∈ s) := idx_neg s 0
  cases is with
  | false =>
    go_enter Tryz.func72, Tryz.ntmps72
    go_wp2_with fail
    go_ret
    refine ⟨?_, rfl⟩
    cases s <;> rfl
  | true =>
    by_cases hs : s = []
    · subst hs
      go_enter Tryz.func72, Tryz.ntmps72
      go_wp2_with fail
      go_ret
      exact ⟨rfl, rfl⟩
    · have he : s.isEmpty = false := by simpa using hs
      have hz : mayL s true = (decide (s.length ≤ 4096) && !decide ((0 : UInt8) ∈ s)) := by
        have : (s != []) = true := by simpa using hs
        simp only [mayL, this, if_true, Bool.true_and]
      have HZ := Keep.keep hz
      clear hz hs
      by_cases hl : s.length ≤ 4096
      · have hd : decide ((s.length : Int) ≤ 4096) = true := decide_eq_true (by omega)
        have hdn : decide (s.length ≤ 4096) = true := decide_eq_true hl
        go_enter Tryz.func72, Tryz.ntmps72
        go_wp2_with fail
        refine (HI.out w).mono ?_
        rintro e w1 ⟨rfl, rfl⟩
        go_wp2_with fail
        go_ret
        refine ⟨?_, rfl⟩
        rw [HZ.out, hdn, Bool.true_and]
        rfl
      · have hd : decide ((s.length : Int) ≤ 4096) = false := decide_eq_false (by omega)
        have hdn : decide (s.length ≤ 4096) = false := decide_eq_false hl
        go_enter Tryz.func72, Tryz.ntmps72
        go_wp2_with fail
        go_ret
        refine ⟨?_, rfl⟩
        rw [HZ.out, hdn, Bool.false_and]
        rfl
theorem load2 {P : Program} {w : World} {b o : Nat} {ty : TypeId} {d : TypeDesc} {u v : Value} (h1 : w.cell? ⟨b, o, none⟩ = some u) (h2 : w.cell? ⟨b, o + 1, none⟩ = some v) (hu : P.underlying ty = some d) (hd : d.isRow = true) (hi : (P.info? ty).map (·.size) = some 2) :
    (Instr.loadAt ty (.pointer (some ⟨b, o, none⟩))).run P w = .ok (.agg #[u, v]) w :=
  run_loadAt_mid (P := P) w b o ty [u, v] d (fun j z hj => by
    match j, hj with
    | 0, hj => injection hj with hj; subst hj; exact h1
    | 1, hj => injection hj with hj; subst hj; exact h2
    | (j + 2), hj => simp at hj) hu hd hi
/-- an attribute's two cells -/
theorem attr_cells {w : World} {N : Nat → Prop} {l : List R2} {b off n cap : Nat} (h : RdV w N 2 (.slice (some ⟨b, off, none⟩) n cap) l.length (rcells l)) {k : Nat} (hk : k < l.length) :
    w.cell? ⟨b, off + k * 2, none⟩ = some (strV l[k].1) ∧ w.cell? ⟨b, off + k * 2 + 1, none⟩ = some (strV l[k].2) := by
  obtain ⟨h1, h2⟩ := rcells_get l k hk
  exact ⟨h.cell b off _ _ rfl _ _ h1, by rw [Nat.add_assoc]; exact h.cell b off _ _ rfl _ _ h2⟩
theorem mayA_bad {l : List R2} {k : Nat} (hk : k < l.length) (h : badA l k = true) : mayA l = false := by
  unfold mayA
  have : (List.range l.length).all (fun k => !badA l k) = false := by
    rw [List.all_eq_false]
    exact ⟨k, by simpa using hk, by simp [h]⟩
  rw [this]; rfl
theorem mayA_ok {l : List R2} (h : ∀ k, k < l.length → badA l k = false) : mayA l = decide (l.length ≤ 16) := by
  unfold mayA
  have : (List.range l.length).all (fun k => !badA l k) = true := by
    rw [List.all_eq_true]
    intro k hk
    simp [h k (by simpa using hk)]
  rw [this]; rfl
set_option maxHeartbeats 1000000 in
set_option maxRecDepth 100000 in
theorem maya_any (av : Value) (l : List R2) (hl : l.length ≤ 1000000) (hn : ∀ x ∈ l, x.1.length ≤ 1000000 ∧ x.2.length ≤ 1000000) (w : World) (hr : RdV w (· < w.heap.size) 2 av l.length (rcells l)) :
    Calls Tryz.prog 71 #[av] w fun e w' => e = .returned (.bool (mayA l)) ∧ Below w.heap.size w w' := by
  obtain ⟨a, cap, rfl, h1, h2, h3⟩ := hr.shape
  have HR := Keep.keep hr; have HN := Keep.keep hn; have H3 := Keep.keep h3
  clear hr hn h3
  unfold maxLen at h2
  obtain ⟨n, hnl⟩ : ∃ n, l.length = n := ⟨_, rfl⟩
  have HL := Keep.keep hnl
  rw [hnl] at hl h1 ⊢
  clear hnl
  go_enter Tryz.func71, Tryz.ntmps71
  go_wp2_with fail
  go_loopg [3, 4, 7] n (fun g _ _ u7 wx => ∃ k : Nat, k + g = n ∧ u7 = .int .i64 (k : Int) ∧ Below w.heap.size w wx ∧ ∀ j, j < k → badA l j = false)
  case atStart => exact ⟨0, by omega, rfl, Below.refl _ _, fun j hj => by omega⟩
  case round =>
    obtain ⟨k, hkg, rfl, hb, hok⟩ := hrel
    have HB := Keep.keep hb; have HOK := Keep.keep hok
    clear hb hok
    by_cases hk : k < n
    · have hd : decide ((k : Int) < (n : Int)) = true := decide_eq_true (by omega)
      have hkl : k < l.length := by rw [HL.out]; exact hk
      obtain ⟨b, off, rfl, hbl⟩ : ∃ b off, a = some ⟨b, off, none⟩ ∧ b < w.heap.size := by
        rcases H3.out with h | ⟨b, off, h, hb⟩
        · omega
        · exact ⟨b, off, h, hb⟩
      have hr2 := HR.out.below HB.out (fun b hb => hb)
      obtain ⟨ca, cb⟩ := attr_cells hr2 hkl
      have HR2 := Keep.keep hr2
      have hsm := HN.out _ (List.getElem_mem hkl)
      obtain ⟨x, hx⟩ : ∃ x, l[k] = x := ⟨_, rfl⟩
      have HX : Keep (l[k]? = some x) := ⟨by rw [List.getElem?_eq_getElem hkl, hx]⟩
      rw [hx] at hsm ca cb
      have HBA : Keep (badA l k = ((x.1 == []) || decide (242 < x.1.length) || x.1.any ([0, 61, 10].contains ·) || (match k with | 0 => false | j + 1 => (match l[j]? with | some b => decide (x.1 ≤ b.1) | none => false)))) := ⟨by
        unfold badA; (rw [HX.out]) <;> rfl⟩
      have HCA := Keep.keep (fun w => cany_any x.1 [0, 61, 10] (by decide) (by decide) (by decide) (by have := hsm.1; omega) w)
      obtain ⟨bc, hbc⟩ : ∃ bc, (x.1.any ([0, 61, 10].contains ·)) = bc := ⟨_, rfl⟩
      simp only [hbc] at HCA
      rw [hbc] at HBA
      clear hbc
      clear hr2 hx
      unfold strV at ca cb
      go_upto_region 4 with fail
      refine wp_world (R := fun w2 => Row w2 wr.heap.size 85 #[strV x.1, strV x.2] ∧ Below w.heap.size w w2) ⟨?_, ?_⟩ ?_
      · exact Row.new _ _ _
      · exact HB.out.alloc HB.out.size _
      intro w2 H2
      have hrow := H2.out.1
      clear ca cb
      have ca := hrow.cell (i := 0) rfl
      generalize wr.heap.size = T at *
      unfold strV at ca
      have HC1 : Keep (∀ wx, Below w2.heap.size w2 wx → wx.cell? ⟨T, 0, none⟩ = some (.string ⟨x.1.toArray⟩)) := ⟨fun wx h => by rw [h.cell (p := ⟨T, 0, none⟩) hrow.lt]; exact ca⟩
      have HCA' := Keep.keep (fun (wx : World) (_ : Below w2.heap.size w2 wx) => HCA.out wx)
      have HFIN : Keep (∀ w3, Below w2.heap.size w2 w3 → Below w.heap.size w w3) := ⟨fun w3 h => H2.out.2.trans (h.mono H2.out.2.size)⟩
      have hxl := hsm.1
      clear hrow ca
      by_cases e1 : x.1 = []
      · have he : x.1.isEmpty = true := by rw [e1]; rfl
        have HCP : Keep (∀ wx, Below w2.heap.size w2 wx → wx.cell? ⟨T, 0, none⟩ = some (.string ⟨x.1.toArray⟩)) := HC1
        have HBAD : Keep (badA l k = true) := ⟨by rw [HBA.out, e1]; rfl⟩
        refine wp_region_cls (fun w' => Below w2.heap.size w2 w') (by kernel_rfl) (by kernel_rfl) (Below.refl _ _).drew ?_
        repeat (first
          | ((with_reducible refine cls_cell ?_ HC1.out (run_isAgg_plain Tryz.underlying9 rfl) ?_ ?_); (focus rfl); (focus rfl); simp only [Act.put, List.setIfInBounds_toArray, List.set_cons_succ, List.set_cons_zero])
          | ((with_reducible refine cls_cell ?_ HCP.out (run_isAgg_plain Tryz.underlying9 rfl) ?_ ?_); (focus rfl); (focus rfl); simp only [Act.put, List.setIfInBounds_toArray, List.set_cons_succ, List.set_cons_zero])
          | ((with_reducible refine cls_call (f := 93) ?_ (Go.Proofs.enters_of Tryz.func93 (by kernel_rfl) rfl) ?_ (fun w1 hw1 => (HCA'.out w1 hw1).mono (fun e w2 he => ⟨he.1, hw1.trans (he.2.mono hw1.size)⟩)) ?_); (focus rfl); (focus (first | exact Array.map_empty | (simp only [List.map_toArray, List.map_cons, List.map_nil]; rfl))); simp only [Act.put, List.setIfInBounds_toArray, List.set_cons_succ, List.set_cons_zero])
          | (first | go_big_quiet_step (fail) | (go_big_quiet_want; go_big_quiet_op; (refine ⟨_, fun _ _ => rfl, ?_⟩); go_big_quiet_on)))
        (refine wpQuiet_nil ?_); intro w3 hw3
        go_wp2_with fail
        go_ret
        exact ⟨by rw [mayA_bad hkl HBAD.out]; rfl, HFIN.out w3 hw3⟩
      · have he : x.1.isEmpty = false := by simpa using e1
        have hne : (x.1 == []) = false := by simpa using e1
        have HCP0 := HC1
        by_cases e2 : 242 < x.1.length
        · have hd2 : decide ((242 : Int) < (x.1.length : Int)) = true := decide_eq_true (by omega)
          have HCP := HC1
          have HBAD : Keep (badA l k = true) := ⟨by rw [HBA.out, hne, decide_eq_true e2]; rfl⟩
          refine wp_region_cls (fun w' => Below w2.heap.size w2 w') (by kernel_rfl) (by kernel_rfl) (Below.refl _ _).drew ?_
          repeat (first
            | ((with_reducible refine cls_cell ?_ HC1.out (run_isAgg_plain Tryz.underlying9 rfl) ?_ ?_); (focus rfl); (focus rfl); simp only [Act.put, List.setIfInBounds_toArray, List.set_cons_succ, List.set_cons_zero])
            | ((with_reducible refine cls_cell ?_ HCP.out (run_isAgg_plain Tryz.underlying9 rfl) ?_ ?_); (focus rfl); (focus rfl); simp only [Act.put, List.setIfInBounds_toArray, List.set_cons_succ, List.set_cons_zero])
            | ((with_reducible refine cls_call (f := 93) ?_ (Go.Proofs.enters_of Tryz.func93 (by kernel_rfl) rfl) ?_ (fun w1 hw1 => (HCA'.out w1 hw1).mono (fun e w2 he => ⟨he.1, hw1.trans (he.2.mono hw1.size)⟩)) ?_); (focus rfl); (focus (first | exact Array.map_empty | (simp only [List.map_toArray, List.map_cons, List.map_nil]; rfl))); simp only [Act.put, List.setIfInBounds_toArray, List.set_cons_succ, List.set_cons_zero])
            | (first | go_big_quiet_step (fail) | (go_big_quiet_want; go_big_quiet_op; (refine ⟨_, fun _ _ => rfl, ?_⟩); go_big_quiet_on)))
          (refine wpQuiet_nil ?_); intro w3 hw3
          go_wp2_with fail
          go_ret
          exact ⟨by rw [mayA_bad hkl HBAD.out]; rfl, HFIN.out w3 hw3⟩
        · have hd2 : decide ((242 : Int) < (x.1.length : Int)) = false := decide_eq_false (by omega)
          cases bc with
          | true =>
            have HCP := HC1
            have HBAD : Keep (badA l k = true) := ⟨by rw [HBA.out, hne, decide_eq_false e2]; rfl⟩
            refine wp_region_cls (fun w' => Below w2.heap.size w2 w') (by kernel_rfl) (by kernel_rfl) (Below.refl _ _).drew ?_
            repeat (first
              | ((with_reducible refine cls_cell ?_ HC1.out (run_isAgg_plain Tryz.underlying9 rfl) ?_ ?_); (focus rfl); (focus rfl); simp only [Act.put, List.setIfInBounds_toArray, List.set_cons_succ, List.set_cons_zero])
              | ((with_reducible refine cls_cell ?_ HCP.out (run_isAgg_plain Tryz.underlying9 rfl) ?_ ?_); (focus rfl); (focus rfl); simp only [Act.put, List.setIfInBounds_toArray, List.set_cons_succ, List.set_cons_zero])
              | ((with_reducible refine cls_call (f := 93) ?_ (Go.Proofs.enters_of Tryz.func93 (by kernel_rfl) rfl) ?_ (fun w1 hw1 => (HCA'.out w1 hw1).mono (fun e w2 he => ⟨he.1, hw1.trans (he.2.mono hw1.size)⟩)) ?_); (focus rfl); (focus (first | exact Array.map_empty | (simp only [List.map_toArray, List.map_cons, List.map_nil]; rfl))); simp only [Act.put, List.setIfInBounds_toArray, List.set_cons_succ, List.set_cons_zero])
              | (first | go_big_quiet_step (fail) | (go_big_quiet_want; go_big_quiet_op; (refine ⟨_, fun _ _ => rfl, ?_⟩); go_big_quiet_on)))
            (refine wpQuiet_nil ?_); intro w3 hw3
            go_wp2_with fail
            go_ret
            exact ⟨by rw [mayA_bad hkl HBAD.out]; rfl, HFIN.out w3 hw3⟩
          | false =>
            cases k with
            | zero =>
              have HCP := HC1
              have HGOOD : Keep (badA l 0 = false) := ⟨by rw [HBA.out, hne, decide_eq_false e2]; rfl⟩
              refine wp_region_cls (fun w' => Below w2.heap.size w2 w') (by kernel_rfl) (by kernel_rfl) (Below.refl _ _).drew ?_
              repeat (first
                | ((with_reducible refine cls_cell ?_ HC1.out (run_isAgg_plain Tryz.underlying9 rfl) ?_ ?_); (focus rfl); (focus rfl); simp only [Act.put, List.setIfInBounds_toArray, List.set_cons_succ, List.set_cons_zero])
                | ((with_reducible refine cls_cell ?_ HCP.out (run_isAgg_plain Tryz.underlying9 rfl) ?_ ?_); (focus rfl); (focus rfl); simp only [Act.put, List.setIfInBounds_toArray, List.set_cons_succ, List.set_cons_zero])
                | ((with_reducible refine cls_call (f := 93) ?_ (Go.Proofs.enters_of Tryz.func93 (by kernel_rfl) rfl) ?_ (fun w1 hw1 => (HCA'.out w1 hw1).mono (fun e w2 he => ⟨he.1, hw1.trans (he.2.mono hw1.size)⟩)) ?_); (focus rfl); (focus (first | exact Array.map_empty | (simp only [List.map_toArray, List.map_cons, List.map_nil]; rfl))); simp only [Act.put, List.setIfInBounds_toArray, List.set_cons_succ, List.set_cons_zero])
                | (first | go_big_quiet_step (fail) | (go_big_quiet_want; go_big_quiet_op; (refine ⟨_, fun _ _ => rfl, ?_⟩); go_big_quiet_on)))
              (refine wpQuiet_nil ?_); intro w3 hw3
              go_wp2_with fail
              obtain ⟨g, rfl⟩ : ∃ g, gk = g + 1 := ⟨gk - 1, by omega⟩
              go_roundg g
              case measure => omega
              case rel => exact ⟨1, by omega, by simp, HFIN.out w3 hw3, fun j hj => by
                by_cases e : j = 0
                · rw [e]; exact HGOOD.out
                · exact HOK.out j (by omega)⟩
            | succ j =>
              have hjl : j < l.length := by omega
              have HCP : Keep (∀ wx, Below w2.heap.size w2 wx → wx.cell? ⟨b, off + j * 2, none⟩ = some (.string ⟨l[j].1.toArray⟩)) := ⟨fun wx h => (attr_cells (HR.out.below (H2.out.2.trans (h.mono H2.out.2.size)) (fun b hb => hb)) hjl).1⟩
              have hlj : l[j]? = some l[j] := List.getElem?_eq_getElem hjl
              have HLE : Keep (badA l (j + 1) = decide (x.1 ≤ l[j].1)) := ⟨by rw [HBA.out, hne, decide_eq_false e2]; simp only [hlj]; rfl⟩
              clear hlj
              have hys := (HN.out _ (List.getElem_mem hjl)).1
              generalize l[j].1 = y at *
              have hk1 : ((j + 1 : Nat) : Int) - 1 = (j : Int) := by omega
              have hk2 : (j : Int) + 1 - 1 = (j : Int) := by omega
              have hk0 : decide ((0 : Int) < ((j + 1 : Nat) : Int)) = true := decide_eq_true (by omega)
              have hk3 : decide ((0 : Int) < (j : Int) + 1) = true := decide_eq_true (by omega)
              refine wp_region_cls (fun w' => Below w2.heap.size w2 w') (by kernel_rfl) (by kernel_rfl) (Below.refl _ _).drew ?_
              repeat (first
                | ((with_reducible refine cls_cell ?_ HC1.out (run_isAgg_plain Tryz.underlying9 rfl) ?_ ?_); (focus rfl); (focus rfl); simp only [Act.put, List.setIfInBounds_toArray, List.set_cons_succ, List.set_cons_zero])
                | ((with_reducible refine cls_cell ?_ HCP.out (run_isAgg_plain Tryz.underlying9 rfl) ?_ ?_); (focus rfl); (focus rfl); simp only [Act.put, List.setIfInBounds_toArray, List.set_cons_succ, List.set_cons_zero])
                | ((with_reducible refine cls_call (f := 93) ?_ (Go.Proofs.enters_of Tryz.func93 (by kernel_rfl) rfl) ?_ (fun w1 hw1 => (HCA'.out w1 hw1).mono (fun e w2 he => ⟨he.1, hw1.trans (he.2.mono hw1.size)⟩)) ?_); (focus rfl); (focus (first | exact Array.map_empty | (simp only [List.map_toArray, List.map_cons, List.map_nil]; rfl))); simp only [Act.put, List.setIfInBounds_toArray, List.set_cons_succ, List.set_cons_zero])
                | (first | go_big_quiet_step (fail) | (go_big_quiet_want; go_big_quiet_op; (refine ⟨_, fun _ _ => rfl, ?_⟩); go_big_quiet_on)))
              have hbl : Op.bytesLess y x.1 = !decide (x.1 ≤ y) := by rw [less_lt, ← decide_not]; exact decide_eq_decide.2 List.not_le.symm
              (refine wpQuiet_nil ?_); intro w3 hw3
              cases hxy : decide (x.1 ≤ y) with
              | true =>
                have HBAD : Keep (badA l (j + 1) = true) := ⟨by rw [HLE.out, hxy]⟩
                replace hbl : Op.bytesLess y x.1 = false := by rw [hbl, hxy]; rfl
                clear hxy
                simp only [hbl, Bool.not_false]
                go_wp2_with fail
                go_ret
                exact ⟨by rw [mayA_bad hkl HBAD.out]; rfl, HFIN.out w3 hw3⟩
              | false =>
                have HGOOD : Keep (badA l (j + 1) = false) := ⟨by rw [HLE.out, hxy]⟩
                replace hbl : Op.bytesLess y x.1 = true := by rw [hbl, hxy]; rfl
                clear hxy
                simp only [hbl, Bool.not_true]
                go_wp2_with fail
                obtain ⟨g, rfl⟩ : ∃ g, gk = g + 1 := ⟨gk - 1, by omega⟩
                go_roundg g
                case measure => omega
                case rel => exact ⟨j + 1 + 1, by omega, by simp, HFIN.out w3 hw3, fun i hi => by
                  by_cases e : i = j + 1
                  · rw [e]; exact HGOOD.out
                  · exact HOK.out i (by omega)⟩
    · have hd : decide ((k : Int) < (n : Int)) = false := decide_eq_false (by omega)
      have HOUT : Keep (mayA l = decide (n ≤ 16)) := ⟨by rw [mayA_ok (fun j hj => HOK.out j (by rw [HL.out] at hj; omega)), HL.out]⟩
      have hd16 : decide ((n : Int) ≤ 16) = decide (n ≤ 16) := decide_eq_decide.2 (by omega)
      go_wp2_with fail
      go_ret
      exact ⟨by rw [HOUT.out, ← hd16]; rfl, HB.out⟩
end Go.Proofs.YtphgmkhbhboklaaGreatDoor
/- A REGION THAT DRAWS ITS ORDER, ONE FACT AN OPERATION: what each operation yields is said of its value and of the world (a predicate that stays true when memory is added); an operation may use what is said of those that it waits for. -/
namespace Go.Proofs.YtphgmkhbhboklaaGreatDoor
open Go.RowKit
/-- what op i waits for -/
theorem waits_of {ops : Array Oper} {i j : Nat} {o : Oper} (ho : ops[i]? = some o) (h : Region.waitsFor .any ops i j = true) : ∃ e ∈ o.after, Region.binds .any e = true ∧ e.on = j := by
  obtain ⟨oj, h1, h2⟩ := Region.waitsFor_spec h
  obtain rfl := Option.some.inj (ho.symm.trans h1)
  exact h2
theorem getD_set_iff {d : Array Bool} {i j : Nat} (h : (d.setIfInBounds i true).getD j false = true) : i = j ∨ d.getD j false = true := by
  by_cases e : i = j
  · exact .inl e
  · right; simpa [Array.getD_eq_getD_getElem?, Array.getElem?_setIfInBounds_ne e] using h
theorem wpOp_dst {P : Program} {ops : Array Oper} {Q : Exit → Act → World → Prop} {K K' : Act → World → Prop} {i : Nat} {a : Act} {w : World} (h : ∀ a w, K a w → K' a w) (hh : wpOp P ops Q i K a w) : wpOp P ops Q i K' a w := wpOp_mono h hh
/-- D: the slots, one an operation; C: the class of worlds; St: what every operation does to the world; T i v w: what is said of operation i's value v in world w -/
theorem wp_region_spcS {P : Program} {ops : Array Oper} {id : Nat} {Q : Exit → Act → World → Prop} {a : Act} {w : World} (D : List Nat) (C : World → Prop) (T : Nat → Value → World → Prop) (St : World → World → Prop) (hm : P.follows .mixedOrders = true)
    (hD : ops.toList.map (·.dst) = D.map some) (hnd : D.Nodup) (hds : ∀ d ∈ D, d < a.tmps.size) (hB : inOrderB ops = true) (h0 : C w.drew)
    (hst : ∀ i v w w', T i v w → C w → St w w' → T i v w')
    (hs : ∀ i, i < ops.size → ∀ a1 w1, Fr a D a1 → C w1 → (∀ j, Region.waitsFor .any ops i j = true → T j (slot a1 (D.getD j 0)) w1) →
      wpOp P ops Q i (fun a2 w2 => ∃ v, a2 = a1.put (some (D.getD i 0)) v ∧ C w2 ∧ St w1 w2 ∧ T i v w2) a1 w1)
    (he : ∀ a1 w1, a1 = D.foldl (fun b d => b.put (some d) (slot a1 d)) a → C w1 → (∀ j, j < ops.size → T j (slot a1 (D.getD j 0)) w1) → Q .normal a1 w1) : (Code.region id ops true).wp P Q a w := by
  have hlen : D.length = ops.size := by have := congrArg List.length hD; simpa using this.symm
  have hmem : ∀ i, i < ops.size → D.getD i 0 ∈ D := fun i hi => by
    rw [List.getD_eq_getElem?_getD, List.getElem?_eq_getElem (by omega)]
    exact List.getElem_mem _
  have hinj : ∀ i j, i < ops.size → j < ops.size → D.getD i 0 = D.getD j 0 → i = j := fun i j hi hj h => by
    rw [List.getD_eq_getElem?_getD, List.getD_eq_getElem?_getD, List.getElem?_eq_getElem (by omega), List.getElem?_eq_getElem (by omega)] at h
    exact (List.getElem_inj hnd).1 h
  refine wp_region_fr D (fun done s w1 => C w1 ∧ ∀ j, j < ops.size → done.getD j false = true → T j (s (D.getD j 0)) w1) hm ⟨h0, fun j hj hd => ?_⟩ ?_ ?_
  · simp [Array.getD_eq_getD_getElem?, hj] at hd
  · intro done a1 w1 hF hI hz hcl i hi
    have hlt := ready_lt hi
    refine wpOp_mono ?_ (hs i hlt a1 w1 hF hI.1 (fun j hj => ?_))
    · rintro a2 w2 ⟨v, rfl, hC2, hb, hT⟩
      refine ⟨hF.put _ (hmem i hlt) v, hC2, fun j hj hd => ?_⟩
      by_cases e : i = j
      · subst e
        rw [slot_put_same _ _ _ (by rw [hF.size]; exact hds _ (hmem i hlt))]
        exact hT
      · have hd' := (getD_set_iff hd).resolve_left e
        rw [slot_put_ne _ _ _ _ (fun e2 => e (hinj i j hlt hj e2))]
        exact hst j _ _ _ (hI.2 j hj hd') hI.1 hb
    · obtain ⟨e, he1, he2, he3⟩ := waits_of (Array.getElem?_eq_getElem hlt) hj
      have hdn := (ready_at hi (Array.getElem?_eq_getElem hlt)).2 e he1 he2
      rw [he3] at hdn
      refine hI.2 j ?_ hdn
      rcases Nat.lt_or_ge j done.size with h | h
      · omega
      · simp [Array.getD_eq_getD_getElem?, Array.getElem?_eq_none h] at hdn
  · intro done a1 w1 ha hI hz hr
    exact he a1 w1 ha hI.1 (fun j hj => hI.2 j hj (all_done hB hz hr j hj))
/-- D: the slots, one an operation; C: the class of worlds; T i v w: what is said of operation i's value v in world w -/
theorem wp_region_spc {P : Program} {ops : Array Oper} {id : Nat} {Q : Exit → Act → World → Prop} {a : Act} {w : World} (D : List Nat) (C : World → Prop) (T : Nat → Value → World → Prop) (hm : P.follows .mixedOrders = true)
    (hD : ops.toList.map (·.dst) = D.map some) (hnd : D.Nodup) (hds : ∀ d ∈ D, d < a.tmps.size) (hB : inOrderB ops = true) (h0 : C w.drew)
    (hst : ∀ i v w w', T i v w → C w → Below w.heap.size w w' → T i v w')
    (hs : ∀ i, i < ops.size → ∀ a1 w1, Fr a D a1 → C w1 → (∀ j, Region.waitsFor .any ops i j = true → T j (slot a1 (D.getD j 0)) w1) →
      wpOp P ops Q i (fun a2 w2 => ∃ v, a2 = a1.put (some (D.getD i 0)) v ∧ C w2 ∧ Below w1.heap.size w1 w2 ∧ T i v w2) a1 w1)
    (he : ∀ a1 w1, a1 = D.foldl (fun b d => b.put (some d) (slot a1 d)) a → C w1 → (∀ j, j < ops.size → T j (slot a1 (D.getD j 0)) w1) → Q .normal a1 w1) : (Code.region id ops true).wp P Q a w :=
  wp_region_spcS D C T (fun w w' => Below w.heap.size w w') hm hD hnd hds hB h0 hst hs he
/-- an operation that yields a value at once -/
theorem spc_val {P : Program} {ops : Array Oper} {Q : Exit → Act → World → Prop} {C : World → Prop} {T : Nat → Value → World → Prop} {i d : Nat} {a1 : Act} {w1 w2 : World} {op : Op} {tp : TypeId} {pos : String} {af : Array Edge} {g : Option (Nat × Bool)} {v : Value}
    (hi : ops[i]? = some ⟨some d, op, tp, pos, af, g⟩) (hg : Region.wanted (⟨some d, op, tp, pos, af, g⟩ : Oper) (yielded ops a1.tmps) = true)
    (hr : (execOp a1.eval (⟨some d, op, tp, pos, af, g⟩ : Oper)).run P w1 = .ok (.value v) w2) (hC : C w2) (hb : Below w1.heap.size w1 w2) (hT : T i v w2) :
    wpOp P ops Q i (fun a2 w2 => ∃ v, a2 = a1.put (some d) v ∧ C w2 ∧ Below w1.heap.size w1 w2 ∧ T i v w2) a1 w1 := by
  unfold wpOp
  rw [hi]
  simp only
  rw [if_pos hg]
  refine .inl ?_
  unfold Oper.wp
  rw [hr]
  exact ⟨v, rfl, hC, hb, hT⟩
/-- an operation that calls -/
theorem spc_call {P : Program} {ops : Array Oper} {Q : Exit → Act → World → Prop} {C : World → Prop} {T : Nat → Value → World → Prop} {i d : Nat} {a1 : Act} {w1 : World} {f : FuncId} {args : Array Operand} {ts : Array TypeId} {tp : TypeId} {pos : String} {af : Array Edge} {g : Option (Nat × Bool)} {vs : Array Value}
    (hi : ops[i]? = some ⟨some d, .call ⟨.value (.func f), args, ts⟩, tp, pos, af, g⟩) (hg : Region.wanted (⟨some d, .call ⟨.value (.func f), args, ts⟩, tp, pos, af, g⟩ : Oper) (yielded ops a1.tmps) = true)
    (hent : Enters P f) (hargs : args.map a1.eval = vs) (hc : Calls P f vs w1 fun e w2 => ∃ v, e = .returned v ∧ C w2 ∧ Below w1.heap.size w1 w2 ∧ T i v w2) :
    wpOp P ops Q i (fun a2 w2 => ∃ v, a2 = a1.put (some d) v ∧ C w2 ∧ Below w1.heap.size w1 w2 ∧ T i v w2) a1 w1 := by
  unfold wpOp
  rw [hi]
  simp only
  rw [if_pos hg]
  refine .inl ?_
  unfold Oper.wp
  have : (execOp a1.eval (⟨some d, .call ⟨.value (.func f), args, ts⟩, tp, pos, af, g⟩ : Oper)).run P w1 = .ok (.enter f vs) w1 := by
    have h1 : a1.eval (.func f) = .func (.func f) #[] #[] := rfl
    unfold execOp
    simp only [resolve, Deferred.ofValue, hargs, h1, invoke, Sem.run_bind, Sem.run_pure, Result.andThen_ok]
    simp [hent vs w1]
  rw [this, Oper.upon_enter]
  refine hc.mono ?_
  rintro e w2 ⟨v, rfl, h⟩
  exact ⟨v, rfl, h⟩
/-- an operation that yields a value at once -/
theorem spcS_val {P : Program} {ops : Array Oper} {Q : Exit → Act → World → Prop} {C : World → Prop} {T : Nat → Value → World → Prop} {St : World → World → Prop} {i d : Nat} {a1 : Act} {w1 w2 : World} {op : Op} {tp : TypeId} {pos : String} {af : Array Edge} {g : Option (Nat × Bool)} {v : Value}
    (hi : ops[i]? = some ⟨some d, op, tp, pos, af, g⟩) (hg : Region.wanted (⟨some d, op, tp, pos, af, g⟩ : Oper) (yielded ops a1.tmps) = true)
    (hr : (execOp a1.eval (⟨some d, op, tp, pos, af, g⟩ : Oper)).run P w1 = .ok (.value v) w2) (hC : C w2) (hb : St w1 w2) (hT : T i v w2) :
    wpOp P ops Q i (fun a2 w2 => ∃ v, a2 = a1.put (some d) v ∧ C w2 ∧ St w1 w2 ∧ T i v w2) a1 w1 := by
  unfold wpOp
  rw [hi]
  simp only
  rw [if_pos hg]
  refine .inl ?_
  unfold Oper.wp
  rw [hr]
  exact ⟨v, rfl, hC, hb, hT⟩
/-- an operation that calls -/
theorem spcS_call {P : Program} {ops : Array Oper} {Q : Exit → Act → World → Prop} {C : World → Prop} {T : Nat → Value → World → Prop} {St : World → World → Prop} {i d : Nat} {a1 : Act} {w1 : World} {f : FuncId} {args : Array Operand} {ts : Array TypeId} {tp : TypeId} {pos : String} {af : Array Edge} {g : Option (Nat × Bool)} {vs : Array Value}
    (hi : ops[i]? = some ⟨some d, .call ⟨.value (.func f), args, ts⟩, tp, pos, af, g⟩) (hg : Region.wanted (⟨some d, .call ⟨.value (.func f), args, ts⟩, tp, pos, af, g⟩ : Oper) (yielded ops a1.tmps) = true)
    (hent : Enters P f) (hargs : args.map a1.eval = vs) (hc : Calls P f vs w1 fun e w2 => ∃ v, e = .returned v ∧ C w2 ∧ St w1 w2 ∧ T i v w2) :
    wpOp P ops Q i (fun a2 w2 => ∃ v, a2 = a1.put (some d) v ∧ C w2 ∧ St w1 w2 ∧ T i v w2) a1 w1 := by
  unfold wpOp
  rw [hi]
  simp only
  rw [if_pos hg]
  refine .inl ?_
  unfold Oper.wp
  have : (execOp a1.eval (⟨some d, .call ⟨.value (.func f), args, ts⟩, tp, pos, af, g⟩ : Oper)).run P w1 = .ok (.enter f vs) w1 := by
    have h1 : a1.eval (.func f) = .func (.func f) #[] #[] := rfl
    unfold execOp
    simp only [resolve, Deferred.ofValue, hargs, h1, invoke, Sem.run_bind, Sem.run_pure, Result.andThen_ok]
    simp [hent vs w1]
  rw [this, Oper.upon_enter]
  refine hc.mono ?_
  rintro e w2 ⟨v, rfl, h⟩
  exact ⟨v, rfl, h⟩
theorem wanted_none {o : Oper} {y : Nat → Option Bool} (h : o.guard = none) : Region.wanted o y = true := by simp [Region.wanted, h]
theorem wanted_of {ops : Array Oper} {o : Oper} {a : Act} {g d : Nat} {b : Bool} (ho : o.guard = some (g, b)) (hog : (ops[g]?).bind (·.dst) = some d) (hv : slot a d = .bool b) : Region.wanted o (yielded ops a.tmps) = true := by
  have h1 : a.tmps[d]? = some (.bool b) := by
    unfold slot at hv
    rcases Nat.lt_or_ge d a.tmps.size with h | h
    · simpa [Array.getD_eq_getD_getElem?, h] using hv
    · simp [Array.getD_eq_getD_getElem?, Array.getElem?_eq_none h, undef] at hv
  have h2 : yielded ops a.tmps g = some b := by simp [yielded, hog, h1]
  simp [Region.wanted, ho, h2]
section
variable {P : Program} {ρ : Operand → Value} {d : Option Tmp} {x y c m n : Operand} {t t1 t2 : TypeId} {pos : String} {af : Array Edge} {g : Option (Nat × Bool)} {w : World}
theorem run_pickT (hc : ρ c = .bool true) : (execOp ρ (⟨d, .pick c x y, t, pos, af, g⟩ : Oper)).run P w = .ok (.value (ρ x)) w := by
  simp [execOp, hc, asBool]
theorem run_pickF (hc : ρ c = .bool false) : (execOp ρ (⟨d, .pick c x y, t, pos, af, g⟩ : Oper)).run P w = .ok (.value (ρ y)) w := by
  simp [execOp, hc, asBool]
theorem run_lenSl {a : Option Addr} {k cap : Nat} {e : TypeId} (hu : P.underlying t1 = some (.slice e)) (hx : ρ x = .slice a k cap) : (execOp ρ (⟨d, .call ⟨.builtin .len, #[x], #[t1]⟩, t, pos, af, g⟩ : Oper)).run P w = .ok (.value (.int .i64 (k : Int))) w := by
  simp [execOp, resolve, invoke, builtin, Builtin.len_, hx, run_underlying hu]
  rfl
theorem run_slB {lo hi mx : Option Operand} {v : Value} (h : (Instr.sliceAt t1 (ρ x) (lo.map ρ) (hi.map ρ) (mx.map ρ)).run P w = .ok v w) : (execOp ρ (⟨d, .slice t1 x lo hi mx, t, pos, af, g⟩ : Oper)).run P w = .ok (.value v) w := by
  simp [execOp, h]
theorem run_mkB {v : Value} {w' : World} (h : (Instr.makeSlice t1 (ρ m) (ρ n)).run P w = .ok v w') : (execOp ρ (⟨d, .makeSlice t1 m n, t, pos, af, g⟩ : Oper)).run P w = .ok (.value v) w' := by
  simp [execOp, h]
end
end Go.Proofs.YtphgmkhbhboklaaGreatDoor
/- slices.Clone of attributes and of bytes; tree.clone. -/
namespace Go.Proofs.YtphgmkhbhboklaaGreatDoor
open Go.RowKit
theorem slAt : SlK Tryz.prog 28 85 (.agg #[.string ⟨#[]⟩, .string ⟨#[]⟩]) 2 32 := SlK.mk' Tryz.underlying28 (by kernel_rfl) rfl (by decide)
theorem slBy : SlTy Tryz.prog 23 5 (.int .u8 0) 1 := SlTy.mk' Tryz.underlying23 (by kernel_rfl) rfl
theorem nilA (p : Addr) (n cap : Nat) (w : World) : (binOp .eql 28 (.slice (some p) n cap) (.slice none 0 0)).run Tryz.prog w = .ok (.bool false) w := by kernel_rfl
theorem nilA' (w : World) : (binOp .eql 28 (.slice none 0 0) (.slice none 0 0)).run Tryz.prog w = .ok (.bool true) w := by kernel_rfl
theorem nilB (p : Addr) (n cap : Nat) (w : World) : (binOp .eql 23 (.slice (some p) n cap) (.slice none 0 0)).run Tryz.prog w = .ok (.bool false) w := by kernel_rfl
theorem nilB' (w : World) : (binOp .eql 23 (.slice none 0 0) (.slice none 0 0)).run Tryz.prog w = .ok (.bool true) w := by kernel_rfl
/-- blocks laid since B -/
def Fresh (B : Nat) (w : World) (b : Nat) : Prop := B ≤ b ∧ b < w.heap.size
theorem Fresh.mono {B B' : Nat} {w w' : World} (hB : B' ≤ B) (hs : w.heap.size ≤ w'.heap.size) (b : Nat) (h : Fresh B w b) : Fresh B' w' b := ⟨Nat.le_trans hB h.1, Nat.lt_of_lt_of_le h.2 hs⟩
set_option maxHeartbeats 1000000 in
set_option maxRecDepth 100000 in
theorem clA_own (v : Value) (l : List R2) (w : World) (hv : RdV w (· < w.heap.size) 2 v l.length (rcells l)) (hl : l.length ≤ 1000000) :
    Calls Tryz.prog 59 #[v] w fun e w' => ∃ v', e = .returned v' ∧ w'.ownsRow w.heap.size 85 2 v' l.length (rcells l) ∧ Below w.heap.size w w' := by
  obtain ⟨a, cap, rfl, h1, h2, h3⟩ := hv.shape
  have HV := Keep.keep hv
  clear hv
  unfold maxLen at h2
  obtain ⟨n, hn⟩ : ∃ n, l.length = n := ⟨_, rfl⟩
  have HN := Keep.keep hn
  rw [hn] at hl h1 HV ⊢
  clear hn
  cases a with
  | none =>
    obtain ⟨rfl, rfl⟩ : n = 0 ∧ cap = 0 := by
      rcases h3 with h3 | ⟨b, off, h3, _⟩
      · omega
      · cases h3
    have hnil := nilA'
    clear h3
    go_enter Tryz.func59, Tryz.ntmps59
    go_wp2_with fail
    go_ret
    have hl0 : l = [] := List.eq_nil_of_length_eq_zero HN.out
    refine ⟨_, rfl, ?_, Below.refl _ _⟩
    rw [hl0]
    exact World.ownsRow_nil _ _ _ _
  | some p =>
    have hnil := nilA p n cap
    clear h3
    go_enter Tryz.func59, Tryz.ntmps59
    go_wp2_with (with_reducible refine arm_stop ?_)
    refine Stopped.out ?_
    refine arm_appendV slAt (m := n) (ownsV_new (base := w.heap.size) 85 [] 2 0 w.heap.size rfl (Nat.le_refl _) rfl (by unfold maxLen; omega)) (HV.out.below ((Below.refl _ _).alloc (Nat.le_refl _) _) (fun b hb => hb)) (rcells_one l) (by unfold maxLen; omega) (by omega) (by simp) rfl rfl ?_
    intro v1 w1 ho hg hb _
    rw [Nat.zero_add, List.nil_append] at ho
    have HO := Keep.keep ho
    have HG : Keep (Below w.heap.size w w1) := ⟨((Below.refl _ _).alloc (Nat.le_refl _) (.cells [].toArray 85)).grown hg (by simp) (fun j hj => by
      simp only [Value.ownBlock, Option.some.injEq] at hj; omega)⟩
    clear ho hg hb
    obtain ⟨a1, c1, hv1, -⟩ := (ownsV_reads HO.out).shape
    subst hv1
    simp only [Act.put, List.setIfInBounds_toArray, List.set_cons_succ, List.set_cons_zero]
    go_wp2_with fail
    go_ret
    exact ⟨_, rfl, HO.out, HG.out⟩
set_option maxHeartbeats 1000000 in
set_option maxRecDepth 100000 in
theorem clB_own (v : Value) (l : Tx) (w : World) (hv : Reads w (· < w.heap.size) v l) (hl : l.length ≤ 16777216) :
    Calls Tryz.prog 60 #[v] w fun e w' => ∃ v', e = .returned v' ∧ Owns w' w.heap.size 5 v' l ∧ Below w.heap.size w w' := by
  obtain ⟨a, cap, rfl, h1, h2, h3⟩ := hv.shape
  have HV := Keep.keep hv
  clear hv
  unfold maxLen at h2
  obtain ⟨n, hn⟩ : ∃ n, l.length = n := ⟨_, rfl⟩
  have HN := Keep.keep hn
  rw [hn] at hl h1 HV ⊢
  clear hn
  cases a with
  | none =>
    obtain ⟨rfl, rfl⟩ : n = 0 ∧ cap = 0 := by
      rcases h3 with h3 | ⟨b, off, h3, _⟩
      · omega
      · cases h3
    have hnil := nilB'
    clear h3
    go_enter Tryz.func60, Tryz.ntmps60
    go_wp2_with fail
    go_ret
    have hl0 : l = [] := List.eq_nil_of_length_eq_zero HN.out
    refine ⟨_, rfl, ?_, Below.refl _ _⟩
    rw [hl0]
    exact Owns.nil _ _ _
  | some p =>
    have hnil := nilB p n cap
    clear h3
    go_enter Tryz.func60, Tryz.ntmps60
    go_wp2_with (with_reducible refine arm_stop ?_)
    refine Stopped.out ?_
    refine arm_append slBy (l := []) (m := l) (ownsV_new (base := w.heap.size) 5 [] 1 0 w.heap.size rfl (Nat.le_refl _) rfl (by unfold maxLen; omega)) (HV.out.below ((Below.refl _ _).alloc (Nat.le_refl _) _) (fun b hb => hb)) (by rw [HN.out, List.length_nil]; omega) (by simp) rfl rfl ?_
    intro v1 w1 ho hg hb
    rw [List.nil_append] at ho
    have HO := Keep.keep ho
    have HG : Keep (Below w.heap.size w w1) := ⟨((Below.refl _ _).alloc (Nat.le_refl _) (.cells [].toArray 5)).grown hg (by simp) (fun j hj => by
      simp only [Value.ownBlock, Option.some.injEq] at hj; omega)⟩
    clear ho hg hb
    obtain ⟨a1, c1, hv1, -⟩ := HO.out.reads.shape
    subst hv1
    simp only [Act.put, List.setIfInBounds_toArray, List.set_cons_succ, List.set_cons_zero]
    go_wp2_with fail
    go_ret
    exact ⟨_, rfl, HO.out, HG.out⟩
theorem clA_any (v : Value) (l : List R2) (w : World) (hv : RdV w (· < w.heap.size) 2 v l.length (rcells l)) (hl : l.length ≤ 1000000) :
    Calls Tryz.prog 59 #[v] w fun e w' => ∃ v', e = .returned v' ∧ RdV w' (Fresh w.heap.size w') 2 v' l.length (rcells l) ∧ Below w.heap.size w w' :=
  (clA_own v l w hv hl).mono (fun _ _ ⟨v', he, ho, hb⟩ => ⟨v', he, (ownsV_reads ho).mono (fun _b hb => ⟨hb.1, hb.2.1⟩), hb⟩)
theorem clB_any (v : Value) (l : Tx) (w : World) (hv : Reads w (· < w.heap.size) v l) (hl : l.length ≤ 16777216) :
    Calls Tryz.prog 60 #[v] w fun e w' => ∃ v', e = .returned v' ∧ Reads w' (Fresh w.heap.size w') v' l ∧ Below w.heap.size w w' :=
  (clB_own v l w hv hl).mono (fun _ _ ⟨v', he, ho, hb⟩ => ⟨v', he, ho.reads.mono (fun _b hb => ⟨hb.1, hb.2.1⟩), hb⟩)
end Go.Proofs.YtphgmkhbhboklaaGreatDoor
/- A REGION THAT DRAWS ITS ORDER: its first n operations in any order, one fact each (as in Spc); then a tail in one forced order, walked as a list. -/
namespace Go.Proofs.YtphgmkhbhboklaaGreatDoor
open Go.RowKit
theorem cnt_set (n i : Nat) (hi : i < n) (p p' : Nat → Bool) (h1 : p i = true) (h2 : p' i = false) (h3 : ∀ j, j ≠ i → p' j = p j) : (List.range n).countP p = (List.range n).countP p' + 1 := by
  induction n with
  | zero => omega
  | succ n ih =>
    rw [List.range_succ, List.countP_append, List.countP_append]
    by_cases e : i = n
    · subst e
      have : (List.range i).countP p = (List.range i).countP p' := List.countP_congr (fun j hj => by
        have : j ≠ i := by have := List.mem_range.1 hj; omega
        rw [h3 j this])
      rw [this]
      simp [h1, h2]
    · rw [ih (by omega)]
      have : p' n = p n := h3 n (fun h => e h.symm)
      simp only [List.countP_cons, this, List.countP_nil]
      omega
def headDone (n m : Nat) : Array Bool := (List.replicate n true ++ List.replicate (m - n) false).toArray
theorem wp_region_spcT {P : Program} {l : List Oper} {id : Nat} {Q : Exit → Act → World → Prop} {a : Act} {w : World} (n : Nat) (D : List Nat) (C : World → Prop) (T : Nat → Value → World → Prop) (St : World → World → Prop) (hm : P.follows .mixedOrders = true)
    (hD : (l.take n).map (·.dst) = D.map some) (hnd : D.Nodup) (hds : ∀ d ∈ D, d < a.tmps.size) (hio : inOrderB l.toArray = true) (hn : n < l.length) (hsk : Region.sinkB .any l.toArray n = true) (hch : Region.chainB .any l.toArray n = true)
    (hsq : Region.seqB .any l.toArray (l.length - n) n (headDone n l.length) = true) (h0 : C w.drew)
    (hst : ∀ i v w w', T i v w → C w → St w w' → T i v w')
    (hs : ∀ i, i < n → ∀ a1 w1, Fr a D a1 → C w1 → (∀ j, j < n → Region.waitsFor .any l.toArray i j = true → T j (slot a1 (D.getD j 0)) w1) →
      wpOp P l.toArray Q i (fun a2 w2 => ∃ v, a2 = a1.put (some (D.getD i 0)) v ∧ C w2 ∧ St w1 w2 ∧ T i v w2) a1 w1)
    (he : ∀ a1 w1, a1 = D.foldl (fun b d => b.put (some d) (slot a1 d)) a → C w1 → (∀ j, j < n → T j (slot a1 (D.getD j 0)) w1) → wpList P l.toArray Q (l.drop n) a1 w1) : (Code.region id l.toArray true).wp P Q a w := by
  have hlen : D.length = n := by have := congrArg List.length hD; simp at this; omega
  have hmem : ∀ i, i < n → D.getD i 0 ∈ D := fun i hi => by
    rw [List.getD_eq_getElem?_getD, List.getElem?_eq_getElem (by omega)]
    exact List.getElem_mem _
  have hinj : ∀ i j, i < n → j < n → D.getD i 0 = D.getD j 0 → i = j := fun i j hi hj h => by
    rw [List.getD_eq_getElem?_getD, List.getD_eq_getElem?_getD, List.getElem?_eq_getElem (by omega), List.getElem?_eq_getElem (by omega)] at h
    exact (List.getElem_inj hnd).1 h
  have hsz : l.toArray.size = l.length := by simp
  have key : ∀ (f : Nat) (done : Array Bool) (a1 : Act) (w1 : World), HeadInv .any l.toArray n done → Fr a D a1 → C w1 → (∀ j, j < n → done.getD j false = true → T j (slot a1 (D.getD j 0)) w1) →
      (List.range n).countP (fun j => !done.getD j false) = f → wpAny P .any l.toArray Q (f + (l.length - n)) done a1 w1 := by
    intro f
    induction f with
    | zero =>
      intro done a1 w1 inv hF hC hT hc
      have hall : ∀ j, j < n → done.getD j false = true := fun j hj => by
        have := List.countP_eq_zero.1 hc j (List.mem_range.2 hj)
        simpa using this
      have hdn : done = headDone n l.length := by
        have hs1 : done.size = l.length := by rw [inv.size, hsz]
        refine Array.ext (by simp [headDone, hs1]; omega) (fun j h1 h2 => ?_)
        have hj2 : j < l.length := by omega
        by_cases hj : j < n
        · have := hall j hj
          rw [Array.getD_eq_getD_getElem?, Array.getElem?_eq_getElem h1] at this
          simp only [Option.getD_some] at this
          rw [this]
          simp [headDone, List.getElem_append, hj]
        · have := inv.tail j (by omega) (by omega)
          rw [Array.getD_eq_getD_getElem?, Array.getElem?_eq_getElem h1] at this
          simp only [Option.getD_some] at this
          rw [this]
          simp [headDone, List.getElem_append, hj]
      have hw := he a1 w1 hF.eq hC (fun j hj => hT j hj (hall j hj))
      have hdl : (l.drop n).length = l.length - n := by simp
      have := wpAny_of_seq (md := .any) (ops := l.toArray) (Q' := Q) (l.drop n) n done a1 w1 (fun j => by simp [List.getElem?_drop]) (by rw [hdl, hdn]; exact hsq) hw
      rw [hdl] at this
      rwa [Nat.zero_add]
    | succ f ih =>
      intro done a1 w1 inv hF hC hT hc
      obtain ⟨j0, hj0, hu0⟩ : ∃ j0, j0 < n ∧ done.getD j0 false = false := by
        have : 0 < (List.range n).countP (fun j => !done.getD j false) := by omega
        obtain ⟨j, hj, hp⟩ := List.countP_pos_iff.1 this
        exact ⟨j, List.mem_range.1 hj, by simpa using hp⟩
      have e : f + 1 + (l.length - n) = (f + (l.length - n)) + 1 := by omega
      rw [e]
      refine ⟨fun hr => ?_, fun i hi => ?_⟩
      · have := all_done hio inv.size hr j0 (by rw [hsz]; omega)
        rw [hu0] at this; cases this
      · have hin : i < n := Nat.lt_of_not_le fun hle => tail_waits hsk hch (by rw [hsz]; exact hn) inv _ j0 rfl hj0 (getD_in (by rw [inv.size, hsz]; omega) hu0) i hle hi
        obtain ⟨hun, oi, hoi, hall⟩ := mem_ready.1 hi
        refine wpOp_mono ?_ (hs i hin a1 w1 hF hC (fun j hjn hj => ?_))
        · rintro a2 w2 ⟨v, rfl, hC2, hb, hTi⟩
          refine ih _ _ _ (inv.set hi hin) (hF.put _ (hmem i hin) v) hC2 (fun j hj hd => ?_) ?_
          · by_cases e : i = j
            · subst e
              rw [slot_put_same _ _ _ (by rw [hF.size]; exact hds _ (hmem i hin))]
              exact hTi
            · have hd' := (getD_set_iff hd).resolve_left e
              rw [slot_put_ne _ _ _ _ (fun e2 => e (hinj i j hin hj e2))]
              exact hst j _ _ _ (hT j hj hd') hC hb
          · have hisz : i < done.size := by rw [inv.size, hsz]; omega
            have := cnt_set n i hin (fun j => !done.getD j false) (fun j => !(done.setIfInBounds i true).getD j false) (by
              have := getD_both hun
              simp [this]) (by simp [Array.getD_eq_getD_getElem?, hisz]) (fun j hj => by
              have : i ≠ j := fun e => hj e.symm
              simp [Array.getD_eq_getD_getElem?, Array.getElem?_setIfInBounds_ne this])
            omega
        · obtain ⟨ed, he1, he2, he3⟩ := waits_of hoi hj
          have hdn := hall ed he1 he2
          rw [he3] at hdn
          exact hT j hjn hdn
  refine wp_region_any hm ?_
  have inv : HeadInv .any l.toArray n (Array.replicate l.toArray.size false) := by
    refine ⟨by simp, fun j oj _ hl => ?_, fun t _ ht => getD_in (by simpa using ht) (getD_replicate_false _ _)⟩
    rw [getD_replicate_false] at hl; cases hl
  have hcn : (List.range n).countP (fun j => !(Array.replicate l.toArray.size false).getD j false) = n := by
    rw [List.countP_eq_length.2 (fun j _ => by rw [getD_replicate_false]; rfl), List.length_range]
  have := key n _ a w.drew inv (Fr.refl a D) h0 (fun j hj hd => by rw [getD_replicate_false] at hd; cases hd) hcn
  rw [show n + (l.length - n) = l.toArray.size by rw [hsz]; omega] at this
  exact this
end Go.Proofs.YtphgmkhbhboklaaGreatDoor
/- tree.clone: a node that lives apart. -/
namespace Go.Proofs.YtphgmkhbhboklaaGreatDoor
open Go.RowKit
def zeroNd : Array Value := #[.int .i64 0, .int .u32 0, .int .u32 0, .int .u32 0, .int .i64 0, .slice none 0 0, .slice none 0 0, .string ⟨#[]⟩]
def clT (n : Nd) (B b0 : Nat) (av dv : Value) : Nat → Value → World → Prop
  | 0, v, _ => v = .pointer (some ⟨b0, 5, none⟩)
  | 1, v, _ => v = av
  | 2, v, w => w.ownsRow B 85 2 v n.attrs.length (rcells n.attrs)
  | 3, v, _ => v = .pointer (some ⟨b0, 6, none⟩)
  | 4, v, _ => v = dv
  | 5, v, w => Owns w B 5 v n.data
  | _, v, _ => v = .pointer (some ⟨b0, 5, none⟩)
theorem clT_stays {n : Nd} {B b0 : Nat} {av dv : Value} (k : Nat) (v : Value) (w w' : World) (h : clT n B b0 av dv k v w) (hb : Below w.heap.size w w') : clT n B b0 av dv k v w' := by
  unfold clT at h ⊢
  split at h
  · exact h
  · exact h
  · exact ownsRow_loc _ _ (fun b hb' => hb.block b (World.ownsRow.lt h b hb').2) h
  · exact h
  · exact h
  · exact ownsRow_loc _ _ (fun b hb' => hb.block b (World.ownsRow.lt h b hb').2) h
  · exact h
/-- a node of one's own: its slices read, and are rows of their types -/
structure NdO (w : World) (N : Nat → Prop) (n : Nd) (av dv : Value) : Prop where
  r : NdR w N n av dv
  ta : ∀ b off m cap, av = .slice (some ⟨b, off, none⟩) m cap → N b ∧ ∃ c, Row w b 85 c
  td : ∀ b off m cap, dv = .slice (some ⟨b, off, none⟩) m cap → N b ∧ ∃ c, Row w b 5 c
theorem NdO.shape {w : World} {N : Nat → Prop} {n : Nd} {av dv : Value} (h : NdO w N n av dv) : ∃ aa la ca ad ld cd, av = .slice aa la ca ∧ dv = .slice ad ld cd := by
  obtain ⟨aa, ca, e1, -⟩ := h.r.at_.shape
  obtain ⟨ad, cd, e2, -⟩ := h.r.dt.shape
  exact ⟨aa, _, ca, ad, _, cd, e1, e2⟩
theorem NdO.mono {w : World} {N N' : Nat → Prop} {n : Nd} {av dv : Value} (h : NdO w N n av dv) (hN : ∀ b, N b → N' b) : NdO w N' n av dv :=
  ⟨h.r.mono hN, fun b off m cap e => ⟨hN b (h.ta b off m cap e).1, (h.ta b off m cap e).2⟩, fun b off m cap e => ⟨hN b (h.td b off m cap e).1, (h.td b off m cap e).2⟩⟩
theorem NdO.below {N : Nat → Prop} {w w' : World} {B : Nat} {n : Nd} {av dv : Value} (h : NdO w N n av dv) (hb : Below B w w') (hN : ∀ b, N b → b < B) : NdO w' N n av dv :=
  ⟨h.r.below hb hN, fun b off m cap e => by
    obtain ⟨h1, c, h2⟩ := h.ta b off m cap e
    exact ⟨h1, c, h2.below hb (hN b h1)⟩, fun b off m cap e => by
    obtain ⟨h1, c, h2⟩ := h.td b off m cap e
    exact ⟨h1, c, h2.below hb (hN b h1)⟩⟩
theorem NdO.chg {M N : Nat → Prop} {w w' : World} {B : Nat} {n : Nd} {av dv : Value} (h : NdO w N n av dv) (hb : Chg M B w w') (hN : ∀ b, N b → b < B ∧ ¬ M b) : NdO w' N n av dv :=
  ⟨h.r.chg hb hN, fun b off m cap e => by
    obtain ⟨h1, c, h2⟩ := h.ta b off m cap e
    exact ⟨h1, c, h2.chg hb (hN b h1).1 (hN b h1).2⟩, fun b off m cap e => by
    obtain ⟨h1, c, h2⟩ := h.td b off m cap e
    exact ⟨h1, c, h2.chg hb (hN b h1).1 (hN b h1).2⟩⟩
theorem owns_typed {w : World} {base k n : Nat} {e : TypeId} {v : Value} {vs : List Value} (h : w.ownsRow base e k v n vs) : ∀ b off m cap, v = .slice (some ⟨b, off, none⟩) m cap → Fresh base w b ∧ ∃ c, Row w b e c := by
  intro b off m cap he
  rcases h.2 with ⟨h1, _⟩ | ⟨g, cap', cur, h1, h2, h3, _⟩
  · rw [h1] at he; cases he
  · rw [h1] at he
    injection he with e1 _ _; injection e1 with e1; injection e1 with e1 _ _; subst e1
    exact ⟨⟨h2, (Array.getElem?_eq_some_iff.1 h3).1⟩, cur, h3⟩
theorem NdO.ofOwn {w : World} {B : Nat} {n : Nd} {av dv : Value} (ha : w.ownsRow B 85 2 av n.attrs.length (rcells n.attrs)) (hd : Owns w B 5 dv n.data) : NdO w (Fresh B w) n av dv :=
  ⟨⟨(ownsV_reads ha).mono (fun _b hb => ⟨hb.1, hb.2.1⟩), hd.reads.mono (fun _b hb => ⟨hb.1, hb.2.1⟩)⟩, owns_typed ha, owns_typed hd⟩
set_option maxHeartbeats 2000000 in
set_option maxRecDepth 100000 in
theorem clone_own (n : Nd) (av dv : Value) (w : World) (hr : NdR w (· < w.heap.size) n av dv) (ha : n.attrs.length ≤ 1000000) (hd : n.data.length ≤ 16777216) :
    Calls Tryz.prog 31 #[.agg (ndC n av dv)] w fun e w' => ∃ av' dv', e = .returned (.agg (ndC n av' dv')) ∧ NdO w' (Fresh w.heap.size w') n av' dv' ∧ Below w.heap.size w w' := by
  have HR := Keep.keep hr
  obtain ⟨aa, ca, hav, -⟩ := hr.at_.shape
  obtain ⟨ad, cd, hdv, -⟩ := hr.dt.shape
  obtain ⟨kind, mode, uid, gid, time, attrs, data, link⟩ := n
  obtain ⟨nd, hnd⟩ : ∃ nd : Nd, (⟨kind, mode, uid, gid, time, attrs, data, link⟩ : Nd) = nd := ⟨_, rfl⟩
  have HND : Keep (nd.attrs = attrs ∧ nd.data = data ∧ (∀ x y, ndC nd x y = #[.int .i64 kind, .int .u32 mode, .int .u32 uid, .int .u32 gid, .int .i64 time, x, y, .string ⟨link.toArray⟩])) := ⟨by subst hnd; exact ⟨rfl, rfl, fun _ _ => rfl⟩⟩
  rw [hnd] at HR ⊢
  rw [HND.out.2.2]
  simp only at hav hdv ha hd
  obtain ⟨la, hla⟩ : ∃ la, attrs.length = la := ⟨_, rfl⟩
  obtain ⟨ld, hld⟩ : ∃ ld, data.length = ld := ⟨_, rfl⟩
  rw [hla] at hav ha; rw [hld] at hdv hd
  have HLA : Keep (nd.attrs.length = la) := ⟨by rw [HND.out.1]; exact hla⟩
  have HLD : Keep (nd.data.length = ld) := ⟨by rw [HND.out.2.1]; exact hld⟩
  clear hr hnd hla hld
  have HAV := Keep.keep hav; have HDV := Keep.keep hdv
  subst hav hdv
  go_enter Tryz.func31, Tryz.ntmps31
  go_upto_region 1 with fail
  refine wp_world (R := fun w1 => Hp NoM w w1 [rowA w.heap.size 30 #[.int .i64 kind, .int .u32 mode, .int .u32 uid, .int .u32 gid, .int .i64 time, .slice aa la ca, .slice ad ld cd, .string ⟨link.toArray⟩], rowA (w.heap.size + 1) 30 zeroNd]) ?_ ?_
  · refine ((Hp.begin NoM w).newRow _ _).newRow' _ _ _ _ (by simp) rfl
  intro w1 H1
  obtain ⟨b0, hb0⟩ : ∃ b0, w.heap.size = b0 := ⟨_, rfl⟩
  have HB0 := Keep.keep hb0
  have hsz1 := (H1.out.row 1 rfl).lt
  rw [hb0] at H1 hsz1 ⊢
  clear hb0
  refine wp_region_spcT 7 [3, 4, 5, 6, 7, 8, 9] (Below w1.heap.size w1) (clT nd w1.heap.size b0 (.slice aa la ca) (.slice ad ld cd)) (fun w w' => Below w.heap.size w w') (by kernel_rfl) rfl (by decide) (by show ∀ d ∈ _, d < 12; decide) (by kernel_rfl) (by decide) (by kernel_rfl) (by kernel_rfl) (by kernel_rfl) (Below.refl _ _).drew (fun i v w w' h _ hb => clT_stays i v w w' h hb) ?_ ?_
  · intro k hk a1 w2 hF hC hT
    have b1 : a1.eval (.tmp 1) = .pointer (some ⟨b0, 0, none⟩) := (hF.same 1 (by decide)).trans rfl
    have HP := H1.out.call hC
    have hkr : Below w2.heap.size w2 w2 := Below.refl _ _
    have HR2 := HR.out.below HP.below (fun b hb => hb)
    have hle : w.heap.size ≤ w2.heap.size := HP.size
    rcases (by omega : k = 0 ∨ k = 1 ∨ k = 2 ∨ k = 3 ∨ k = 4 ∨ k = 5 ∨ k = 6) with rfl | rfl | rfl | rfl | rfl | rfl | rfl
    · exact spcS_val (d := 3) rfl (wanted_none rfl) (run_fieldAddr (m := 0) Tryz.underlying30 rfl (by kernel_rfl) b1) hC hkr rfl
    · have hx : a1.eval (.tmp 3) = .pointer (some ⟨b0, 5, none⟩) := hT 0 (by decide) (by kernel_rfl)
      exact spcS_val (d := 4) rfl (wanted_none rfl) (run_loadCell (run_isAgg_plain Tryz.underlying28 rfl) ((HP.row 0 rfl).cell (i := 5) rfl) hx) hC hkr rfl
    · have hx : a1.eval (.tmp 4) = .slice aa la ca := hT 1 (by decide) (by kernel_rfl)
      refine spcS_call (d := 5) (vs := #[.slice aa la ca]) rfl (wanted_none rfl) (Go.Proofs.enters_of Tryz.func59 (by kernel_rfl) rfl) (by simp [hx]) ?_
      refine (clA_own _ nd.attrs w2 (HR2.at_.mono (fun b hb => Nat.lt_of_lt_of_le hb hle)) (by rw [HLA.out]; exact ha)).mono ?_
      rintro e wz ⟨v', rfl, hv', hb⟩
      exact ⟨_, rfl, hC.trans (hb.mono hC.size), hb, ownsV_mono hv' hC.size⟩
    · exact spcS_val (d := 6) rfl (wanted_none rfl) (run_fieldAddr (m := 0) Tryz.underlying30 rfl (by kernel_rfl) b1) hC hkr rfl
    · have hx : a1.eval (.tmp 6) = .pointer (some ⟨b0, 6, none⟩) := hT 3 (by decide) (by kernel_rfl)
      exact spcS_val (d := 7) rfl (wanted_none rfl) (run_loadCell (run_isAgg_plain Tryz.underlying23 rfl) ((HP.row 0 rfl).cell (i := 6) rfl) hx) hC hkr rfl
    · have hx : a1.eval (.tmp 7) = .slice ad ld cd := hT 4 (by decide) (by kernel_rfl)
      refine spcS_call (d := 8) (vs := #[.slice ad ld cd]) rfl (wanted_none rfl) (Go.Proofs.enters_of Tryz.func60 (by kernel_rfl) rfl) (by simp [hx]) ?_
      refine (clB_own _ nd.data w2 (HR2.dt.mono (fun b hb => Nat.lt_of_lt_of_le hb hle)) (by rw [HLD.out]; exact hd)).mono ?_
      rintro e wz ⟨v', rfl, hv', hb⟩
      exact ⟨_, rfl, hC.trans (hb.mono hC.size), hb, ownsV_mono hv' hC.size⟩
    · exact spcS_val (d := 9) rfl (wanted_none rfl) (run_fieldAddr (m := 0) Tryz.underlying30 rfl (by kernel_rfl) b1) hC hkr rfl
  · intro a1 w2 ha hC hT
    have t5 : w2.ownsRow w1.heap.size 85 2 (slot a1 5) nd.attrs.length (rcells nd.attrs) := hT 2 (by decide)
    have t8 : Owns w2 w1.heap.size 5 (slot a1 8) nd.data := hT 5 (by decide)
    have t9 : slot a1 9 = .pointer (some ⟨b0, 5, none⟩) := hT 6 (by decide)
    simp only [List.foldl_cons, List.foldl_nil, t9] at ha
    have H2 := Keep.keep (H1.out.call hC)
    generalize slot a1 3 = x3 at *
    generalize slot a1 4 = x4 at *
    generalize slot a1 5 = x5 at *
    generalize slot a1 6 = x6 at *
    generalize slot a1 7 = x7 at *
    generalize slot a1 8 = x8 at *
    obtain ⟨a5, c5, hx5, -⟩ := (ownsV_reads t5).shape
    obtain ⟨a8, c8, hx8, -⟩ := t8.reads.shape
    rw [HLA.out] at hx5; rw [HLD.out] at hx8
    have T5 := Keep.keep t5; have T8 := Keep.keep t8
    clear t5 t8 t9 hT
    subst ha
    simp only [List.drop_succ_cons, List.drop_zero]
    simp only [Act.put, List.setIfInBounds_toArray, List.set_cons_succ, List.set_cons_zero]
    subst hx5 hx8
    have hrow := H2.out.row 0 rfl
    have hc5 := hrow.cell (i := 5) rfl
    have hc6 := hrow.cell (i := 6) rfl
    have hf5 := hrow.frozen 5
    have hf6 := hrow.frozen 6
    clear hrow
    go_upto_region 2 with fail
    refine wp_world (R := fun w3 => Hp NoM w w3 [rowA b0 30 #[.int .i64 kind, .int .u32 mode, .int .u32 uid, .int .u32 gid, .int .i64 time, .slice a5 la c5, .slice a8 ld c8, .string ⟨link.toArray⟩], rowA (b0 + 1) 30 zeroNd] ∧ NdO w3 (Fresh w1.heap.size w3) nd (.slice a5 la c5) (.slice a8 ld c8)) ⟨?_, ?_⟩ ?_
    · exact (H2.out.setCell 0 rfl 5 (.slice a5 la c5) rfl).setCell 0 rfl 6 (.slice a8 ld c8) rfl
    · have hch : Chg (fun x => x = b0) w2.heap.size w2 ((w2.setCell ⟨b0, 5, none⟩ (.slice a5 la c5)).setCell ⟨b0, 6, none⟩ (.slice a8 ld c8)) :=
        Chg.setCell (M := fun x => x = b0) (Chg.setCell (M := fun x => x = b0) (.refl _ _ _) (.inr rfl) _) (.inr rfl) _
      exact (NdO.ofOwn T5.out T8.out).chg hch (fun b hb => ⟨hb.2, by have := hb.1; omega⟩) |>.mono (fun b hb => ⟨hb.1, by have := hch.size; have := hb.2; omega⟩)
    intro w3 H3
    have HSZ : Keep ((#[.int .i64 kind, .int .u32 mode, .int .u32 uid, .int .u32 gid, .int .i64 time, .slice a5 la c5, .slice a8 ld c8, .string ⟨link.toArray⟩] : Array Value).size = 8) := ⟨rfl⟩
    have HSZ2 : Keep (zeroNd.size = 8) := ⟨rfl⟩
    have HON : Keep ((#[.int .i64 kind, .int .u32 mode, .int .u32 uid, .int .u32 gid, .int .i64 time, .slice a5 la c5, .slice a8 ld c8, .string ⟨link.toArray⟩] : Array Value).all (·.oneCell') = true) := ⟨by simp [Value.oneCell']⟩
    have HRA := Keep.keep (H3.out.1.row 0 rfl)
    have HRB := Keep.keep (H3.out.1.row 1 rfl)
    clear hc5 hc6 hf5 hf6 H2 T5 T8
    go_wp2_with (first
      | ((with_reducible refine arm_loadRow HRA.out aggN HSZ.out ?_ ?_); (focus rfl); simp only [Act.put, List.setIfInBounds_toArray, List.set_cons_succ, List.set_cons_zero])
      | ((with_reducible refine arm_storeRow HRB.out aggN HSZ2.out HSZ.out HON.out ?_ ?_ ?_); (focus rfl); (focus rfl); simp only [Act.put]))
    refine bodyPost_ret (results_row (p := 2) (ty := 30) rfl (HRB.out.setRow _) aggN HSZ.out rfl) rfl ⟨.slice a5 la c5, .slice a8 ld c8, by rw [HND.out.2.2], ?_, ?_⟩
    · have hch : Chg (fun x => x = b0 + 1) w3.heap.size w3 (w3.setRow (b0 + 1) #[.int .i64 kind, .int .u32 mode, .int .u32 uid, .int .u32 gid, .int .i64 time, .slice a5 la c5, .slice a8 ld c8, .string ⟨link.toArray⟩]) := Chg.setRow (M := fun x => x = b0 + 1) (.refl _ _ _) (.inr rfl) _
      refine (H3.out.2.chg hch (fun b hb => ⟨hb.2, by have := hb.1; omega⟩)).mono (fun b hb => ⟨by have := hb.1; have := HB0.out; omega, by have := hch.size; have := hb.2; omega⟩)
    · have := HB0.out
      exact ((Chg.of_below (M := NoM) H3.out.1.below).setRow (.inl (by omega)) _).below (fun _ _ h => h)
theorem clone_node (n : Nd) (av dv : Value) (w : World) (hr : NdR w (· < w.heap.size) n av dv) (ha : n.attrs.length ≤ 1000000) (hd : n.data.length ≤ 16777216) :
    Calls Tryz.prog 31 #[.agg (ndC n av dv)] w fun e w' => ∃ av' dv', e = .returned (.agg (ndC n av' dv')) ∧ NdR w' (Fresh w.heap.size w') n av' dv' ∧ Below w.heap.size w w' :=
  (clone_own n av dv w hr ha hd).mono (fun _ _ ⟨a, d, he, h, hb⟩ => ⟨a, d, he, h.r, hb⟩)
end Go.Proofs.YtphgmkhbhboklaaGreatDoor
