/- portolanref11: Whiteout, Opaque, Clean. -/
import Derived.Test.YtkijhaibcnhedaaDoorPathRef2
import Derived.Test.YtkijhaibcnhedaaDoorPathCleanL
namespace Go.Proofs.YtkijhaibcnhedaaDoor
open Go.RowKit
set_option maxHeartbeats 4000000 in
set_option maxRecDepth 100000 in
theorem rwhite_any (p : List UInt8) (hp : p.length ≤ 1000000) (w : World) :
    Calls Tryd.prog 33 #[.string ⟨p.toArray⟩] w fun e w' => e = .returned (.string ⟨(whiteoutP p).toArray⟩) ∧ Below w.heap.size w w' := by
  have HMY := Keep.keep (rmay_any p hp w)
  have HPA := Keep.keep (fun w => rparent_any p hp w)
  have HBA := Keep.keep (fun w => rbase_any p hp w)
  have hbn := bne_nil p
  have hpl : (parentP p).length ≤ p.length := by unfold parentP; simp; omega
  have hbl : (baseP p).length ≤ p.length := by unfold baseP; simp
  have hcat := run_cat (P := Tryd.prog) [46, 119, 104, 46] (baseP p) (by simp; omega)
  rw [show [46, 119, 104, 46] ++ baseP p = whiteB ++ baseP p from rfl] at hcat
  have hwl : (whiteB ++ baseP p).length ≤ p.length + 4 := by simp [whiteB]; omega
  have hjl := joinP_two_len (parentP p) (whiteB ++ baseP p)
  have HE : Keep (whiteoutP p = if p.isEmpty || !mayP p then [] else joinP [parentP p, whiteB ++ baseP p]) := ⟨rfl⟩
  generalize whiteoutP p = out at *
  generalize p.isEmpty = b1 at *
  generalize mayP p = b2 at *
  generalize parentP p = pa at *
  generalize hwb : whiteB ++ baseP p = wb at *
  generalize baseP p = ba at *
  have HJ := Keep.keep (fun v w (h : RdS w (· < w.heap.size) v [pa, wb]) => rjoin_any v [pa, wb] w h (by simp) (by omega))
  clear hwb hpl hbl hwl hjl
  cases b1 with
  | true =>
    have HX : Keep (out = []) := ⟨by rw [HE.out]; rfl⟩
    go_enter Tryd.func33, Tryd.ntmps33
    go_wp2_with fail
    go_ret
    exact ⟨by rw [HX.out]; rfl, Below.refl _ _⟩
  | false =>
  cases b2 with
  | false =>
    have HX : Keep (out = []) := ⟨by rw [HE.out]; rfl⟩
    go_enter Tryd.func33, Tryd.ntmps33
    go_wp2_with fail
    refine HMY.out.mono ?_
    rintro e w1 ⟨rfl, hb1⟩
    go_wp2_with fail
    go_ret
    exact ⟨by rw [HX.out]; rfl, hb1⟩
  | true =>
    have HX : Keep (out = joinP [pa, wb]) := ⟨by rw [HE.out]; rfl⟩
    go_enter Tryd.func33, Tryd.ntmps33
    go_wp2_with fail
    refine HMY.out.mono ?_
    rintro e w1 ⟨rfl, hb1⟩
    have HB1 := Keep.keep hb1
    clear hb1
    go_wp2_with fail
    refine (HPA.out _).mono ?_
    rintro e w1' ⟨rfl, rfl⟩
    go_wp2_with fail
    refine (HBA.out _).mono ?_
    rintro e w1' ⟨rfl, rfl⟩
    go_wp2_with fail
    refine calls_at (R := fun wq => Below w1.heap.size w1 wq ∧ RdS wq (· < wq.heap.size) (.slice (some ⟨w1.heap.size, 0, none⟩) 2 2) [pa, wb]) ⟨(Below.refl _ _).alloc (Nat.le_refl _) _, rdS_two w1 pa wb⟩ ?_
    intro w2 H2
    refine (HJ.out _ w2 H2.out.2).mono ?_
    rintro e w3 ⟨rfl, rfl⟩
    have HB3 := Keep.keep (HB1.out.trans (H2.out.1.mono HB1.out.size))
    go_wp2_with fail
    go_ret
    exact ⟨by rw [HX.out]; rfl, HB3.out⟩
set_option maxHeartbeats 4000000 in
set_option maxRecDepth 100000 in
theorem ropaq_any (p : List UInt8) (hp : p.length ≤ 1000000) (w : World) :
    Calls Tryd.prog 34 #[.string ⟨p.toArray⟩] w fun e w' => e = .returned (.string ⟨(opaqueP p).toArray⟩) ∧ Below w.heap.size w w' := by
  have HMY := Keep.keep (rmay_any p hp w)
  have hjl := joinP_two_len p markB
  have HE : Keep (opaqueP p = if !mayP p then [] else joinP [p, markB]) := ⟨rfl⟩
  have hml : markB.length = 12 := rfl
  generalize opaqueP p = out at *
  generalize mayP p = b2 at *
  have HJ := Keep.keep (fun v w (h : RdS w (· < w.heap.size) v [p, markB]) => rjoin_any v [p, markB] w h (by simp) (by omega))
  clear hjl hml
  cases b2 with
  | false =>
    have HX : Keep (out = []) := ⟨by rw [HE.out]; rfl⟩
    go_enter Tryd.func34, Tryd.ntmps34
    go_wp2_with fail
    refine HMY.out.mono ?_
    rintro e w1 ⟨rfl, hb1⟩
    go_wp2_with fail
    go_ret
    exact ⟨by rw [HX.out]; rfl, hb1⟩
  | true =>
    have HX : Keep (out = joinP [p, markB]) := ⟨by rw [HE.out]; rfl⟩
    go_enter Tryd.func34, Tryd.ntmps34
    go_wp2_with fail
    refine HMY.out.mono ?_
    rintro e w1 ⟨rfl, hb1⟩
    have HB1 := Keep.keep hb1
    clear hb1
    go_wp2_with fail
    refine calls_at (R := fun wq => Below w1.heap.size w1 wq ∧ RdS wq (· < wq.heap.size) (.slice (some ⟨w1.heap.size, 0, none⟩) 2 2) [p, markB]) ⟨(Below.refl _ _).alloc (Nat.le_refl _) _, rdS_two w1 p markB⟩ ?_
    intro w2 H2
    refine (HJ.out _ w2 H2.out.2).mono ?_
    rintro e w3 ⟨rfl, rfl⟩
    have HB3 := Keep.keep (HB1.out.trans (H2.out.1.mono HB1.out.size))
    go_wp2_with fail
    go_ret
    exact ⟨by rw [HX.out]; rfl, HB3.out⟩
/-- the parts that stay, of the cut text -/
abbrev kpt (l : List (List UInt8)) : List (List UInt8) := l.filter keepB
theorem kpt_take {l : List (List UInt8)} {k : Nat} (hk : k < l.length) : kpt (l.take (k + 1)) = if keepB l[k] then kpt (l.take k) ++ [l[k]] else kpt (l.take k) := by
  rw [List.take_succ_eq_append_getElem hk, kpt, List.filter_append]
  by_cases h : keepB l[k] = true
  · rw [List.filter_cons_of_pos h, if_pos h]; rfl
  · rw [List.filter_cons_of_neg h, if_neg h]; simp
theorem kpt_split (p : List UInt8) : keptP p = kpt (splitP p) := by
  unfold splitP
  split
  · rename_i h; subst h; rfl
  · rfl
theorem dots_split (p : List UInt8) : (spl p).contains [46, 46] = (splitP p).contains [46, 46] := by
  unfold splitP
  split
  · rename_i h; subst h; rfl
  · rfl
theorem kpt_joinP (p : List UInt8) : joinP (kpt (splitP p)) = joinS (keptP p) := by
  unfold joinP
  rw [← kpt_split]
  congr 1
  rw [List.filter_eq_self]
  intro x hx
  have := (List.mem_filter.1 hx).2
  cases x with
  | nil => cases this
  | cons c x => rfl
set_option maxHeartbeats 8000000 in
set_option maxRecDepth 100000 in
theorem rclean_any (p : List UInt8) (hp : p.length ≤ 1000000) (w : World) :
    Calls Tryd.prog 23 #[.string ⟨p.toArray⟩] w fun e w' => e = .returned (.tuple #[.string ⟨(cleanP p).1.toArray⟩, .int .i64 (cleanP p).2]) ∧ Below w.heap.size w w' := by
  have HS := Keep.keep (rsplit_any p hp w)
  have HP : Keep (∀ w, Calls Tryd.prog 51 #[.string ⟨p.toArray⟩, .string ⟨#[47]⟩] w fun e w' => e = .returned (.bool (([47] : List UInt8).isPrefixOf p)) ∧ w = w') := ⟨fun w => begins_any p [47] w⟩
  have hln : (splitP p).length ≤ 1000001 := by
    have := spl_length p
    unfold splitP; split
    · simp
    · omega
  have hkj := keptP_join p
  have HE : Keep (cleanP p = if p.contains 0 || ([47] : List UInt8).isPrefixOf p || (splitP p).contains [46, 46] then ([], 30) else if decide (255 < (kpt (splitP p)).length) || decide (4096 < (joinP (kpt (splitP p))).length) || (kpt (splitP p)).any (fun s => decide (255 < s.length)) then ([], 3) else (joinP (kpt (splitP p)), 0)) := ⟨by
    unfold cleanP; rw [dots_split, kpt_joinP, kpt_split]⟩
  have HL : Keep (∀ x ∈ splitP p, x.length ≤ 1000000) := ⟨fun x hx => Nat.le_trans (splitP_mem_len p x hx) hp⟩
  rw [← kpt_joinP] at hkj
  generalize cleanP p = out at *
  generalize ([47] : List UInt8).isPrefixOf p = b2 at *
  generalize splitP p = l at *
  go_enter Tryd.func23, Tryd.ntmps23
  go_wp2_with fail
  refine HS.out.mono ?_
  rintro e w1 ⟨v, rfl, ho, hb⟩
  have HR := Keep.keep ((ownsV_reads ho).mono (N' := (· < w1.heap.size)) (fun b hb => hb.2.1)); have HB := Keep.keep hb
  obtain ⟨a, c, rfl, hcap, -, h3⟩ := (ownsV_reads ho).shape
  have H3 := Keep.keep h3
  clear ho hb h3 HS
  go_wp2_with fail
  go_loopg [5] p.length (fun g u5 wx => ∃ k : Nat, k + g = p.length ∧ u5 = .int .i64 (k : Int) ∧ (∀ j, (hj : j < k) → (hl : j < p.length) → p[j] ≠ 0) ∧ w1 = wx)
  case atStart => exact ⟨0, by omega, rfl, fun j hj => by omega, rfl⟩
  case round =>
    obtain ⟨k, hkg, rfl, hno, rfl⟩ := hrel
    have HNO := Keep.keep hno
    clear hno
    cases gk with
    | succ g =>
      have hk : k < p.length := by omega
      have hidx := run_index_str (P := Tryd.prog) Tryd.underlying9 ⟨p.toArray⟩ .i64 k p[k] (by simp [hk])
      have hgi : (⟨p.toArray⟩ : ByteArray)[k]'(hk) = p[k] := rfl
      by_cases h0 : p[k] = 0
      · have HX : Keep (out = ([], 30)) := ⟨by
          have : p.contains 0 = true := List.contains_iff_mem.2 (h0 ▸ List.getElem_mem hk)
          rw [HE.out, this]; rfl⟩
        rw [h0] at hidx hgi
        clear h0 HNO
        go_wp2_with fail
        go_ret2
        exact ⟨by rw [HX.out]; rfl, HB.out⟩
      · have HST : Keep (∀ j, (hj : j < k + 1) → (hl : j < p.length) → p[j] ≠ 0) := ⟨fun j hj hl => by
          rcases Nat.lt_succ_iff_lt_or_eq.1 hj with h | rfl
          · exact HNO.out j h hl
          · exact h0⟩
        have hn0 : ((p[k].toNat : Int) == 0) = false := by
          rw [beq_eq_false_iff_ne]; intro e; exact h0 (UInt8.toNat_inj.1 (by show p[k].toNat = 0; omega))
        clear h0 HNO
        generalize p[k] = c at *
        go_wp2_with fail
        go_roundg g
        case measure => omega
        case rel => exact ⟨k + 1, by omega, by simp, HST.out, rfl⟩
    | zero =>
      obtain rfl : k = p.length := by omega
      have HZ : Keep (p.contains 0 = false) := ⟨by
        cases h : p.contains 0 with
        | false => rfl
        | true =>
          obtain ⟨j, hj, e⟩ := List.mem_iff_getElem.1 (List.contains_iff_mem.1 h)
          exact absurd e (HNO.out j hj hj)⟩
      rw [HZ.out] at HE
      clear HNO HZ
      cases b2 with
      | true =>
        have HX : Keep (out = ([], 30)) := ⟨by rw [HE.out]; rfl⟩
        go_wp2_with fail
        refine (HP.out _).mono ?_
        rintro e w1' ⟨rfl, rfl⟩
        go_wp2_with fail
        go_ret2
        exact ⟨by rw [HX.out]; rfl, HB.out⟩
      | false =>
      go_wp2_with fail
      refine (HP.out _).mono ?_
      rintro e w1' ⟨rfl, rfl⟩
      go_wp2_with fail
      go_loopg [6, 7, 8] l.length (fun g u6 u7 u8 wx => ∃ k : Nat, k + g = l.length ∧ u8 = .int .i64 (k : Int) ∧ u7 = .bool ((kpt (l.take k)).any fun s => decide (255 < s.length)) ∧ (l.take k).contains [46, 46] = false ∧ Hp NoM w1 wx [slA w1.heap.size 9 1 u6 (kpt (l.take k)).length ((kpt (l.take k)).map strV)])
      case atStart => exact ⟨0, by omega, rfl, rfl, rfl, (Hp.begin NoM w1).nilS _ _ _⟩
      case round =>
        obtain ⟨k, hkg, rfl, rfl, hdt, hH⟩ := hrel
        have HH := Keep.keep hH; have HDT := Keep.keep hdt
        have hown := hH.sl 0 rfl
        obtain ⟨a3, c3, rfl, -⟩ := (ownsV_reads hown).shape
        have HO := Keep.keep hown
        clear hH hown hdt
        cases gk with
        | zero =>
          obtain rfl : k = l.length := by omega
          have htk : l.take l.length = l := List.take_length
          have HD : Keep (l.contains [46, 46] = false) := ⟨by rw [← HDT.out, htk]⟩
          rw [HD.out] at HE
          have HRD : Keep (RdS wr (· < wr.heap.size) (.slice a3 (kpt l).length c3) (kpt l)) := ⟨by
            have := ownsV_reads HO.out
            rw [htk] at this
            exact this.mono (fun b hb => hb.2.1)⟩
          have hkl : (kpt l).length ≤ l.length := List.length_filter_le _ _
          have HJ := Keep.keep (rjoin_any _ (kpt l) wr HRD.out (by omega) (by omega))
          have HB2 := Keep.keep (HB.out.trans (HH.out.below.mono HB.out.size))
          have hq1 : decide ((255 : Int) < ((kpt l).length : Int)) = decide (255 < (kpt l).length) := by simp only [decide_eq_decide]; omega
          have hq2 : decide ((4096 : Int) < ((joinP (kpt l)).length : Int)) = decide (4096 < (joinP (kpt l)).length) := by simp only [decide_eq_decide]; omega
          rw [htk]
          generalize decide (255 < (kpt l).length) = b4 at *
          generalize decide (4096 < (joinP (kpt l)).length) = b5 at *
          generalize (kpt l).any (fun s => decide (255 < s.length)) = b6 at *
          clear htk HDT HD HRD HO HH hkl
          cases b6 with
          | true =>
            have HX : Keep (out = ([], 3)) := ⟨by rw [HE.out]; cases b4 <;> cases b5 <;> rfl⟩
            go_wp2_with fail
            refine HJ.out.mono ?_
            rintro e w1' ⟨rfl, rfl⟩
            go_wp2_with fail
            go_ret2
            exact ⟨by rw [HX.out]; rfl, HB2.out⟩
          | false =>
          cases b4 with
          | true =>
            have HX : Keep (out = ([], 3)) := ⟨by rw [HE.out]; rfl⟩
            go_wp2_with fail
            refine HJ.out.mono ?_
            rintro e w1' ⟨rfl, rfl⟩
            go_wp2_with fail
            go_ret2
            exact ⟨by rw [HX.out]; rfl, HB2.out⟩
          | false =>
          cases b5 with
          | true =>
            have HX : Keep (out = ([], 3)) := ⟨by rw [HE.out]; rfl⟩
            go_wp2_with fail
            refine HJ.out.mono ?_
            rintro e w1' ⟨rfl, rfl⟩
            go_wp2_with fail
            go_ret2
            exact ⟨by rw [HX.out]; rfl, HB2.out⟩
          | false =>
            have HX : Keep (out = (joinP (kpt l), 0)) := ⟨by rw [HE.out]; rfl⟩
            go_wp2_with fail
            refine HJ.out.mono ?_
            rintro e w1' ⟨rfl, rfl⟩
            go_wp2_with fail
            go_ret2
            exact ⟨by rw [HX.out]; rfl, HB2.out⟩
        | succ g =>
          have hk : k < l.length := by omega
          rcases H3.out with ⟨_, h3⟩ | ⟨b, off, rfl, hbl⟩
          · omega
          have hcell := (HR.out.below HH.out.below (fun b hb => hb)).cell b off _ _ rfl k (strV l[k]) (by simp [hk])
          have HCL : Keep (∀ wq, Below w1.heap.size w1 wq → wq.cell? ⟨b, off + k, none⟩ = some (strV l[k])) := ⟨fun wq hq => (HR.out.below hq (fun b hb => hb)).cell b off _ _ rfl k (strV l[k]) (by simp [hk])⟩
          have hft := kpt_take hk
          have hfl : (kpt (l.take k)).length ≤ l.length := Nat.le_trans (List.length_filter_le _ _) (by rw [List.length_take]; omega)
          have heq := bne_nil l[k]
          have HIN : Keep (l[k] ∈ l) := ⟨List.getElem_mem hk⟩
          have hxl := HL.out _ HIN.out
          have HDN : Keep ((l.take (k + 1)).contains [46, 46] = (l[k] == [46, 46])) := ⟨by
            rw [List.take_succ_eq_append_getElem hk, Bool.eq_iff_iff]
            have h1 := HDT.out
            constructor
            · intro h
              rcases List.mem_append.1 (List.contains_iff_mem.1 h) with h | h
              · rw [List.contains_iff_mem.2 h] at h1; cases h1
              · rw [List.mem_singleton.1 h]; exact beq_self_eq_true _
            · intro h
              rw [← beq_iff_eq.1 h]
              exact List.contains_iff_mem.2 (List.mem_append_right _ (List.mem_singleton.2 rfl))⟩
          have hq3 : decide ((255 : Int) < (l[k].length : Int)) = decide (255 < l[k].length) := by simp only [decide_eq_decide]; omega
          generalize l[k] = x at *
          unfold strV at hcell
          cases hdd : x == [46, 46] with
          | true =>
            have HX : Keep (out = ([], 30)) := ⟨by
              have : l.contains [46, 46] = true := List.contains_iff_mem.2 (beq_iff_eq.1 hdd ▸ HIN.out)
              rw [HE.out, this]; rfl⟩
            have HB2 := Keep.keep (HB.out.trans (HH.out.below.mono HB.out.size))
            clear HDN HIN HO HH HDT hft hfl hxl
            go_wp2_with fail
            go_ret2
            exact ⟨by rw [HX.out]; rfl, HB2.out⟩
          | false =>
          rw [hdd] at HDN
          have hkeep : keepB x = !(x.isEmpty || x == [46]) := rfl
          cases hem : x.isEmpty with
          | true =>
            rw [hem] at heq hkeep
            rw [show keepB x = false from hkeep, if_neg (by decide)] at hft
            have HFT := Keep.keep hft
            clear hft hfl hem hkeep HIN hxl
            go_wp2_with fail
            go_roundg g
            case measure => omega
            case rel => exact ⟨k + 1, by omega, by simp, by rw [HFT.out], HDN.out, by rw [HFT.out]; exact HH.out⟩
          | false =>
          rw [hem] at heq hkeep
          cases h46 : x == [46] with
          | true =>
            rw [h46] at hkeep
            rw [show keepB x = false from hkeep, if_neg (by decide)] at hft
            have HFT := Keep.keep hft
            clear hft hfl hem hkeep HIN hxl
            go_wp2_with fail
            go_roundg g
            case measure => omega
            case rel => exact ⟨k + 1, by omega, by simp, by rw [HFT.out], HDN.out, by rw [HFT.out]; exact HH.out⟩
          | false =>
            rw [h46] at hkeep
            rw [show keepB x = true from hkeep, if_pos rfl] at hft
            have HAN : Keep ((kpt (l.take (k + 1))).any (fun s => decide (255 < s.length)) = ((kpt (l.take k)).any (fun s => decide (255 < s.length)) || decide (255 < x.length))) := ⟨by rw [hft, List.any_append]; simp⟩
            have HFT := Keep.keep hft
            clear hft hem hkeep HIN hxl
            generalize (kpt (l.take k)).any (fun s => decide (255 < s.length)) = lb at *
            generalize decide (255 < x.length) = xb at *
            go_wp2_with (with_reducible refine arm_stop ?_)
            refine Stopped.out ?_
            refine arm_appendV slS ((HH.out.alloc _).sl 0 rfl) (RdV.new (N := fun _ => True) 9 [strV x] 1 1 _ rfl rfl (by unfold maxLen; omega) trivial) (by simp [strV, Value.oneCell']) (by unfold maxLen; omega) (by omega) (by simp; have := HH.out.size; omega) rfl rfl ?_
            intro v' w' ho hg hb _
            have HG := Keep.keep ((HH.out.alloc _).grow 0 rfl hg ho hb)
            have hcl2 := HCL.out _ HG.out.below
            unfold strV at hcl2
            obtain ⟨a4, c4, rfl, -⟩ := (ownsV_reads ho).shape
            clear ho hg hb
            simp only [Act.put, List.setIfInBounds_toArray, List.set_cons_succ, List.set_cons_zero]
            cases lb with
            | true =>
              go_wp2_with fail
              go_roundg g
              case measure => omega
              case rel => exact ⟨k + 1, by omega, by simp, by rw [HAN.out]; rfl, HDN.out, by rw [HFT.out, List.length_append, List.map_append]; exact HG.out⟩
            | false =>
              go_wp2_with fail
              go_roundg g
              case measure => omega
              case rel => exact ⟨k + 1, by omega, by simp, by rw [HAN.out]; rfl, HDN.out, by rw [HFT.out, List.length_append, List.map_append]; exact HG.out⟩
end Go.Proofs.YtkijhaibcnhedaaDoor
