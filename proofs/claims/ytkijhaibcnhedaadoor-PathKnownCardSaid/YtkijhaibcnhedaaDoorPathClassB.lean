/- path.Class: the walk, class by class. -/
import Derived.Test.YtkijhaibcnhedaaDoorPathClass
namespace Go.Proofs.YtkijhaibcnhedaaDoor
open Go.RowKit
theorem dir_base (p : List UInt8) : dirP p ++ baseP p = p := List.take_append_drop _ _
set_option maxHeartbeats 4000000 in
set_option maxRecDepth 100000 in
theorem class_1 (p : List UInt8) (hp : p.length ≤ 1000000) (B : Nat) (w : World) (hB : B ≤ w.heap.size) (hM : Mx B w) (hC : Cls B w) (ht : (p == tableB) = false) (hc : lastC (baseP p) = 1) :
    Calls Tryd.prog 19 #[.string ⟨p.toArray⟩] w fun e w' => e = .returned (.tuple #[.int .i64 (classP p).1, .string ⟨(classP p).2.toArray⟩]) ∧ Below w.heap.size w w' := by
  have HBA := Keep.keep (fun w => base_any p hp w)
  have HLA := Keep.keep (fun w => last_any (baseP p) w)
  have HTR : Keep (∀ w, Calls Tryd.prog 45 #[.string ⟨p.toArray⟩, .string ⟨(baseP p).toArray⟩] w fun e w' => e = .returned (.string ⟨(dirP p).toArray⟩) ∧ w' = w) := ⟨fun w => by
    have h := Tryd.strings_TrimSuffix ⟨p.toArray⟩ ⟨(baseP p).toArray⟩ w (by show p.length ≤ _; omega)
    rw [show Lib.trimSuffix (⟨p.toArray⟩ : ByteArray).data.toList (⟨(baseP p).toArray⟩ : ByteArray).data.toList = dirP p from trim_base p] at h
    exact h⟩
  have hlen : (dirP p).length + (baseP p).length = p.length := by rw [← List.length_append, dir_base]
  have htab : (p == [46, 119, 104, 46, 46, 119, 104, 46, 116, 111, 99]) = false := ht
  have HE : Keep (classP p = if !mayP (tgtC 1 (dirP p) (baseP p)) || ((1 : Nat) != 3 && (tgtC 1 (dirP p) (baseP p)).isEmpty) || ((1 : Nat) == 2 && !mayN ((baseP p).drop 4)) || dirP p == [47] then (0, []) else (1, tgtC 1 (dirP p) (baseP p))) := ⟨by
    unfold classP
    rw [ht, hc]; rfl⟩
  rw [hc] at HLA
  obtain ⟨bm, hcell, hlook⟩ := hC.look 1 (by decide) (by decide)
  have hlk : (Instr.lookup 48 (.map (some bm)) (.int .i64 1) false).run Tryd.prog w = .ok (.func (.func 110) #[] #[]) w := hlook
  have HCF := Keep.keep (fun w => c1_any (dirP p) (baseP p) (by omega) w)
  rw [show dirP p ++ baseP p = tgtC 1 (dirP p) (baseP p) from rfl] at HCF
  have htl : (tgtC 1 (dirP p) (baseP p)).length ≤ 1000000 := by show (dirP p ++ baseP p).length ≤ _; simp; omega
  have HMY := Keep.keep (fun wx (h : Below w.heap.size w wx) => may_any (tgtC 1 (dirP p) (baseP p)) htl B wx (Nat.le_trans hB h.size) (hM.on (h.mono hB)))
  have hbn := bne_nil (tgtC 1 (dirP p) (baseP p))
  generalize hd47 : (dirP p == [47]) = b4 at *
  generalize tgtC 1 (dirP p) (baseP p) = t at *
  generalize mayP t = b1 at *
  generalize t.isEmpty = b2 at *
  generalize classP p = out at *
  generalize dirP p = d at *
  generalize baseP p = bs at *
  clear hM hC hlen ht hc hlook htl
  go_enter Tryd.func19, Tryd.ntmps19
  go_wp2_with fail
  refine (HBA.out _).mono ?_
  rintro e w' ⟨rfl, rfl⟩
  go_wp2_with fail
  refine (HLA.out _).mono ?_
  rintro e w' ⟨rfl, rfl⟩
  go_wp2_with fail
  refine (HTR.out _).mono ?_
  rintro e w' ⟨rfl, rfl⟩
  go_wp2_with fail
  refine (HCF.out _).mono ?_
  rintro e w' ⟨rfl, rfl⟩
  go_wp2_with fail
  refine (HMY.out _ (Below.refl _ _)).mono ?_
  rintro e w1 ⟨rfl, hb1⟩
  have HB1 := Keep.keep hb1
  clear hb1 hlk hcell
  cases b1 with
  | false =>
    have HX : Keep (out = (0, [])) := ⟨by rw [HE.out]; rfl⟩
    go_wp2_with fail
    go_ret2
    exact ⟨by rw [HX.out]; rfl, HB1.out⟩
  | true =>
  cases b2 with
  | true =>
    have HX : Keep (out = (0, [])) := ⟨by rw [HE.out]; rfl⟩
    go_wp2_with fail
    go_ret2
    exact ⟨by rw [HX.out]; rfl, HB1.out⟩
  | false =>
  cases b4 with
  | true =>
    have HX : Keep (out = (0, [])) := ⟨by rw [HE.out]; rfl⟩
    go_wp2_with fail
    go_ret2
    exact ⟨by rw [HX.out]; rfl, HB1.out⟩
  | false =>
    have HX : Keep (out = (1, t)) := ⟨by rw [HE.out]; rfl⟩
    go_wp2_with fail
    go_ret2
    exact ⟨by rw [HX.out]; rfl, HB1.out⟩
set_option maxHeartbeats 4000000 in
set_option maxRecDepth 100000 in
theorem class_2 (p : List UInt8) (hp : p.length ≤ 1000000) (B : Nat) (w : World) (hB : B ≤ w.heap.size) (hM : Mx B w) (hC : Cls B w) (ht : (p == tableB) = false) (hc : lastC (baseP p) = 2) :
    Calls Tryd.prog 19 #[.string ⟨p.toArray⟩] w fun e w' => e = .returned (.tuple #[.int .i64 (classP p).1, .string ⟨(classP p).2.toArray⟩]) ∧ Below w.heap.size w w' := by
  have HBA := Keep.keep (fun w => base_any p hp w)
  have HLA := Keep.keep (fun w => last_any (baseP p) w)
  have HTR : Keep (∀ w, Calls Tryd.prog 45 #[.string ⟨p.toArray⟩, .string ⟨(baseP p).toArray⟩] w fun e w' => e = .returned (.string ⟨(dirP p).toArray⟩) ∧ w' = w) := ⟨fun w => by
    have h := Tryd.strings_TrimSuffix ⟨p.toArray⟩ ⟨(baseP p).toArray⟩ w (by show p.length ≤ _; omega)
    rw [show Lib.trimSuffix (⟨p.toArray⟩ : ByteArray).data.toList (⟨(baseP p).toArray⟩ : ByteArray).data.toList = dirP p from trim_base p] at h
    exact h⟩
  have hlen : (dirP p).length + (baseP p).length = p.length := by rw [← List.length_append, dir_base]
  have htab : (p == [46, 119, 104, 46, 46, 119, 104, 46, 116, 111, 99]) = false := ht
  have HE : Keep (classP p = if !mayP (tgtC 2 (dirP p) (baseP p)) || ((2 : Nat) != 3 && (tgtC 2 (dirP p) (baseP p)).isEmpty) || ((2 : Nat) == 2 && !mayN ((baseP p).drop 4)) || dirP p == [47] then (0, []) else (2, tgtC 2 (dirP p) (baseP p))) := ⟨by
    unfold classP
    rw [ht, hc]; rfl⟩
  rw [hc] at HLA
  obtain ⟨bm, hcell, hlook⟩ := hC.look 2 (by decide) (by decide)
  have hlk : (Instr.lookup 48 (.map (some bm)) (.int .i64 2) false).run Tryd.prog w = .ok (.func (.func 111) #[] #[]) w := hlook
  have h4 : 4 ≤ (baseP p).length := by
    unfold lastC at hc
    split at hc
    · omega
    · split at hc
      · rename_i h
        have := (List.isPrefixOf_iff_prefix.1 h).length_le
        simpa [whiteB] using this
      · omega
  have hk4 := run_slice_from (P := Tryd.prog) Tryd.underlying9 (baseP p) .i64 4 h4
  have hkb : ∀ w, (Instr.slice 9 (.string ⟨(baseP p).toArray⟩) (some (.int .i64 4)) none none).run Tryd.prog w = .ok (.string ⟨((baseP p).drop 4).toArray⟩) w := hk4
  have HCF := Keep.keep (fun w => c2_any (dirP p) (baseP p) (by omega) h4 w)
  have HMN := Keep.keep (fun w => mayname_any ((baseP p).drop 4) (by simp; omega) w)
  rw [show dirP p ++ (baseP p).drop 4 = tgtC 2 (dirP p) (baseP p) from rfl] at HCF
  have htl : (tgtC 2 (dirP p) (baseP p)).length ≤ 1000000 := by show (dirP p ++ (baseP p).drop 4).length ≤ _; simp; omega
  clear hk4
  have HMY := Keep.keep (fun wx (h : Below w.heap.size w wx) => may_any (tgtC 2 (dirP p) (baseP p)) htl B wx (Nat.le_trans hB h.size) (hM.on (h.mono hB)))
  have hbn := bne_nil (tgtC 2 (dirP p) (baseP p))
  generalize hd47 : (dirP p == [47]) = b4 at *
  generalize tgtC 2 (dirP p) (baseP p) = t at *
  generalize mayP t = b1 at *
  generalize t.isEmpty = b2 at *
  generalize classP p = out at *
  generalize mayN ((baseP p).drop 4) = b3 at *
  generalize (baseP p).drop 4 = bd at *
  generalize dirP p = d at *
  generalize baseP p = bs at *
  clear hM hC hlen ht hc hlook htl h4
  go_enter Tryd.func19, Tryd.ntmps19
  go_wp2_with fail
  refine (HBA.out _).mono ?_
  rintro e w' ⟨rfl, rfl⟩
  go_wp2_with fail
  refine (HLA.out _).mono ?_
  rintro e w' ⟨rfl, rfl⟩
  go_wp2_with fail
  refine (HTR.out _).mono ?_
  rintro e w' ⟨rfl, rfl⟩
  go_wp2_with fail
  refine (HCF.out _).mono ?_
  rintro e w' ⟨rfl, rfl⟩
  go_wp2_with fail
  refine (HMY.out _ (Below.refl _ _)).mono ?_
  rintro e w1 ⟨rfl, hb1⟩
  have HB1 := Keep.keep hb1
  clear hb1 hlk hcell
  cases b1 with
  | false =>
    have HX : Keep (out = (0, [])) := ⟨by rw [HE.out]; rfl⟩
    go_wp2_with fail
    go_ret2
    exact ⟨by rw [HX.out]; rfl, HB1.out⟩
  | true =>
  cases b2 with
  | true =>
    have HX : Keep (out = (0, [])) := ⟨by rw [HE.out]; rfl⟩
    go_wp2_with fail
    go_ret2
    exact ⟨by rw [HX.out]; rfl, HB1.out⟩
  | false =>
  go_wp2_with fail
  refine (HMN.out _).mono ?_
  rintro e w2 ⟨rfl, hb2⟩
  have HB2 := Keep.keep (HB1.out.trans (hb2.mono HB1.out.size))
  clear hb2
  cases b3 with
  | false =>
    have HX : Keep (out = (0, [])) := ⟨by rw [HE.out]; rfl⟩
    go_wp2_with fail
    go_ret2
    exact ⟨by rw [HX.out]; rfl, HB2.out⟩
  | true =>
  cases b4 with
  | true =>
    have HX : Keep (out = (0, [])) := ⟨by rw [HE.out]; rfl⟩
    go_wp2_with fail
    go_ret2
    exact ⟨by rw [HX.out]; rfl, HB2.out⟩
  | false =>
    have HX : Keep (out = (2, t)) := ⟨by rw [HE.out]; rfl⟩
    go_wp2_with fail
    go_ret2
    exact ⟨by rw [HX.out]; rfl, HB2.out⟩
set_option maxHeartbeats 4000000 in
set_option maxRecDepth 100000 in
theorem class_3 (p : List UInt8) (hp : p.length ≤ 1000000) (B : Nat) (w : World) (hB : B ≤ w.heap.size) (hM : Mx B w) (hC : Cls B w) (ht : (p == tableB) = false) (hc : lastC (baseP p) = 3) :
    Calls Tryd.prog 19 #[.string ⟨p.toArray⟩] w fun e w' => e = .returned (.tuple #[.int .i64 (classP p).1, .string ⟨(classP p).2.toArray⟩]) ∧ Below w.heap.size w w' := by
  have HBA := Keep.keep (fun w => base_any p hp w)
  have HLA := Keep.keep (fun w => last_any (baseP p) w)
  have HTR : Keep (∀ w, Calls Tryd.prog 45 #[.string ⟨p.toArray⟩, .string ⟨(baseP p).toArray⟩] w fun e w' => e = .returned (.string ⟨(dirP p).toArray⟩) ∧ w' = w) := ⟨fun w => by
    have h := Tryd.strings_TrimSuffix ⟨p.toArray⟩ ⟨(baseP p).toArray⟩ w (by show p.length ≤ _; omega)
    rw [show Lib.trimSuffix (⟨p.toArray⟩ : ByteArray).data.toList (⟨(baseP p).toArray⟩ : ByteArray).data.toList = dirP p from trim_base p] at h
    exact h⟩
  have hlen : (dirP p).length + (baseP p).length = p.length := by rw [← List.length_append, dir_base]
  have htab : (p == [46, 119, 104, 46, 46, 119, 104, 46, 116, 111, 99]) = false := ht
  have HE : Keep (classP p = if !mayP (tgtC 3 (dirP p) (baseP p)) || ((3 : Nat) != 3 && (tgtC 3 (dirP p) (baseP p)).isEmpty) || ((3 : Nat) == 2 && !mayN ((baseP p).drop 4)) || dirP p == [47] then (0, []) else (3, tgtC 3 (dirP p) (baseP p))) := ⟨by
    unfold classP
    rw [ht, hc]; rfl⟩
  rw [hc] at HLA
  obtain ⟨bm, hcell, hlook⟩ := hC.look 3 (by decide) (by decide)
  have hlk : (Instr.lookup 48 (.map (some bm)) (.int .i64 3) false).run Tryd.prog w = .ok (.func (.func 112) #[] #[]) w := hlook
  have HCF := Keep.keep (fun w => c3_any (dirP p) (baseP p) (by omega) w)
  rw [show trimSl (dirP p) = tgtC 3 (dirP p) (baseP p) from rfl] at HCF
  have htl : (tgtC 3 (dirP p) (baseP p)).length ≤ 1000000 := by
    show (trimSl (dirP p)).length ≤ _
    unfold trimSl
    split
    · rw [List.length_take]; omega
    · omega
  have HMY := Keep.keep (fun wx (h : Below w.heap.size w wx) => may_any (tgtC 3 (dirP p) (baseP p)) htl B wx (Nat.le_trans hB h.size) (hM.on (h.mono hB)))
  have hbn := bne_nil (tgtC 3 (dirP p) (baseP p))
  generalize hd47 : (dirP p == [47]) = b4 at *
  generalize tgtC 3 (dirP p) (baseP p) = t at *
  generalize mayP t = b1 at *
  generalize t.isEmpty = b2 at *
  generalize classP p = out at *
  generalize dirP p = d at *
  generalize baseP p = bs at *
  clear hM hC hlen ht hc hlook htl
  go_enter Tryd.func19, Tryd.ntmps19
  go_wp2_with fail
  refine (HBA.out _).mono ?_
  rintro e w' ⟨rfl, rfl⟩
  go_wp2_with fail
  refine (HLA.out _).mono ?_
  rintro e w' ⟨rfl, rfl⟩
  go_wp2_with fail
  refine (HTR.out _).mono ?_
  rintro e w' ⟨rfl, rfl⟩
  go_wp2_with fail
  refine (HCF.out _).mono ?_
  rintro e w' ⟨rfl, rfl⟩
  go_wp2_with fail
  refine (HMY.out _ (Below.refl _ _)).mono ?_
  rintro e w1 ⟨rfl, hb1⟩
  have HB1 := Keep.keep hb1
  clear hb1 hlk hcell
  cases b1 with
  | false =>
    have HX : Keep (out = (0, [])) := ⟨by rw [HE.out]; rfl⟩
    go_wp2_with fail
    go_ret2
    exact ⟨by rw [HX.out]; rfl, HB1.out⟩
  | true =>
  cases b4 with
  | true =>
    have HX : Keep (out = (0, [])) := ⟨by rw [HE.out]; rfl⟩
    go_wp2_with fail
    go_ret2
    exact ⟨by rw [HX.out]; rfl, HB1.out⟩
  | false =>
    have HX : Keep (out = (3, t)) := ⟨by rw [HE.out]; rfl⟩
    go_wp2_with fail
    go_ret2
    exact ⟨by rw [HX.out]; rfl, HB1.out⟩
set_option maxHeartbeats 4000000 in
theorem class_any (p : List UInt8) (hp : p.length ≤ 1000000) (B : Nat) (w : World) (hB : B ≤ w.heap.size) (hM : Mx B w) (hC : Cls B w) :
    Calls Tryd.prog 19 #[.string ⟨p.toArray⟩] w fun e w' => e = .returned (.tuple #[.int .i64 (classP p).1, .string ⟨(classP p).2.toArray⟩]) ∧ Below w.heap.size w w' := by
  cases ht : p == tableB with
  | true =>
    have HE : Keep (classP p = (4, [])) := ⟨by unfold classP; rw [ht]; rfl⟩
    have htab : (p == [46, 119, 104, 46, 46, 119, 104, 46, 116, 111, 99]) = true := ht
    clear hM hC ht
    go_enter Tryd.func19, Tryd.ntmps19
    go_wp2_with fail
    go_ret2
    exact ⟨by rw [HE.out]; rfl, Below.refl _ _⟩
  | false =>
    have h : lastC (baseP p) = 1 ∨ lastC (baseP p) = 2 ∨ lastC (baseP p) = 3 := by
      unfold lastC
      split
      · simp
      · split <;> simp
    rcases h with h | h | h
    · exact class_1 p hp B w hB hM hC ht h
    · exact class_2 p hp B w hB hM hC ht h
    · exact class_3 p hp B w hB hM hC ht h
end Go.Proofs.YtkijhaibcnhedaaDoor
