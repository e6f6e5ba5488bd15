/- PathParts: a path is its parts. -/
import Derived.Test.YtkijhaibcnhedaaDoorPathWakes
import Derived.Test.YtkijhaibcnhedaaDoorPathPartsL
namespace Go.Proofs.YtkijhaibcnhedaaDoor
open Go.RowKit
set_option maxHeartbeats 8000000 in
set_option maxRecDepth 100000 in
theorem parts_any (v : Value) (names : List (List UInt8)) (B : Nat) (w : World) (hB : B ≤ w.heap.size) (hM : Mx B w) (hC : Cls B w) (hr : RdS w (· < w.heap.size) v names) (hn : names.length ≤ 9223372036854775807) (hx : ∀ q ∈ names, q.length ≤ 9223372036854775807) :
    Calls Tryd.prog 3 #[v] w fun e w' => e = .returned (.bool true) ∧ Below w.heap.size w w' := by
  obtain ⟨a, cap, rfl, hcap, hmx, h3⟩ := hr.shape
  have HR := Keep.keep hr; have H3 := Keep.keep h3; have HM := Keep.keep hM; have HC := Keep.keep hC; have HB := Keep.keep hB; have HX := Keep.keep hx
  clear hr h3 hmx hM hC hB hx
  go_enter Tryd.func3, Tryd.ntmps3
  go_wp2_with fail
  go_loopg [3, 4, 5, 13] names.length (fun g u3 _ _ u13 wx => ∃ k : Nat, k + g = names.length ∧ u13 = .int .i64 (k : Int) ∧ Hp NoM w wx [slA w.heap.size 9 1 u3 (sel names k).length ((sel names k).map strV)])
  case atStart => exact ⟨0, by omega, rfl, by simpa [sel] using (Hp.begin NoM w).nilS w.heap.size 9 1⟩
  case round =>
    obtain ⟨k, hkg, rfl, hH⟩ := hrel
    have HH := Keep.keep hH
    have hown := hH.sl 0 rfl
    obtain ⟨a3, c3, rfl, -⟩ := (ownsV_reads hown).shape
    have HO := Keep.keep hown
    clear hH hown
    cases gk with
    | zero =>
      obtain rfl : k = names.length := by omega
      have hlm := sel_may names names.length
      have hlj := sel_join names names.length
      have hll := sel_len names names.length
      generalize sel names names.length = l at *
      have HRD : Keep (RdS wr (· < wr.heap.size) (.slice a3 l.length c3) l) := ⟨(ownsV_reads HO.out).mono (fun b hb => hb.2.1)⟩
      have hjp := joinP_may hlm
      have HJ := Keep.keep (join_any _ l wr HRD.out (by omega) (by rw [hjp]; omega))
      rw [hjp] at HJ
      have HABV := Keep.keep (fun i hi => abv_at hlm hlj (by omega) i hi)
      have HTK : Keep (∀ j, (joinS (l.take j)).length ≤ 4080) := ⟨fun j => by
        have h1 := joinS_take_len l j
        omega⟩
      have HPR : Keep (aboveP (joinS l) = pres [] l) := ⟨aboveP_pres (noSl_of_may hlm)⟩
      have hmy := mayP_joinS hlm hlj (by omega)
      have hsp := splitP_joinS hlm
      have hpj := parts_join hlm
      have hus := under_self (joinS l)
      have hun := under_nil (joinS l)
      obtain ⟨p, hjs⟩ : ∃ p, joinS l = p := ⟨_, rfl⟩
      have HJS := Keep.keep hjs
      rw [hjs] at HJ HPR hmy hsp hpj hus hun hlj HABV
      have HB1 := Keep.keep HH.out.below
      have HMAY : Keep (∀ wx, Below w.heap.size w wx → _) := ⟨fun wx (h : Below w.heap.size w wx) => may_any p (by omega) B wx (Nat.le_trans HB.out h.size) (HM.out.on (h.mono HB.out))⟩
      rw [hmy] at HMAY
      have HSPL : Keep (∀ wx, Below w.heap.size w wx → _) := ⟨fun wx (h : Below w.heap.size w wx) => split_any p (by omega) B wx (Nat.le_trans HB.out h.size) (HM.out.on (h.mono HB.out))⟩
      rw [hsp] at HSPL
      have HPAR := Keep.keep (fun wx => parent_any p (by omega) wx)
      have HBAS := Keep.keep (fun wx => base_any p (by omega) wx)
      have HJ2 : Keep (∀ v wx, RdS wx (· < wx.heap.size) v [parentP p, baseP p] → _) := ⟨fun v wx (h : RdS wx (· < wx.heap.size) v [parentP p, baseP p]) => join_any v [parentP p, baseP p] wx h (by simp) (by rw [hpj]; omega)⟩
      rw [hpj] at HJ2
      have HUS : Keep (∀ wx, _) := ⟨fun wx => under_any p p (by omega) wx⟩
      rw [hus] at HUS
      have HUN : Keep (∀ wx, _) := ⟨fun wx => under_any [] p (by simp) wx⟩
      rw [hun] at HUN
      have hpp : (p == p) = true := beq_self_eq_true p
      have hbn := bne_nil p
      generalize parentP p = pa at *
      generalize baseP p = ba at *
      clear hjp hmy hsp hpj hus hun hjs hlm
      go_wp2_with fail
      refine HJ.out.mono ?_
      rintro e w2 ⟨rfl, hb2⟩
      have HB2 := Keep.keep (HB1.out.trans (hb2.mono HB1.out.size))
      have HRD2 := Keep.keep ((HRD.out.below hb2 (fun b hb => hb)).mono (N' := (· < w2.heap.size)) (fun b hb => Nat.lt_of_lt_of_le hb hb2.size))
      clear hb2 HJ HRD
      go_wp2_with fail
      refine (HMAY.out _ HB2.out).mono ?_
      rintro e w3 ⟨rfl, hb3⟩
      have HB3 := Keep.keep (HB2.out.trans (hb3.mono HB2.out.size))
      have HRD3 := Keep.keep ((HRD2.out.below hb3 (fun b hb => hb)).mono (N' := (· < w3.heap.size)) (fun b hb => Nat.lt_of_lt_of_le hb hb3.size))
      clear hb3 HMAY HRD2
      go_wp2_with fail
      refine (HSPL.out _ HB3.out).mono ?_
      rintro e w4 ⟨v4, rfl, ho4, hb4⟩
      have HB4 := Keep.keep (HB3.out.trans (hb4.mono HB3.out.size))
      have HRD4 := Keep.keep ((HRD3.out.below hb4 (fun b hb => hb)).mono (N' := (· < w4.heap.size)) (fun b hb => Nat.lt_of_lt_of_le hb hb4.size))
      have HRS4 := Keep.keep ((ownsV_reads ho4).mono (N' := (· < w4.heap.size)) (fun b hb => hb.2.1))
      obtain ⟨a4, c4, rfl, -⟩ := (ownsV_reads ho4).shape
      clear ho4 hb4 HSPL HRD3
      go_wp2_with fail
      refine (sequal_any _ _ _ _ w4 HRS4.out HRD4.out (by omega) (by omega)).mono ?_
      rintro e w5 ⟨rfl, hb5⟩
      have HB5 := Keep.keep (HB4.out.trans (hb5.mono HB4.out.size))
      clear hb5 HRS4 HRD4
      rw [decide_eq_true rfl]
      go_wp2_with fail
      refine (HPAR.out _).mono ?_
      rintro e w5' ⟨rfl, rfl⟩
      go_wp2_with fail
      refine (HBAS.out _).mono ?_
      rintro e w5' ⟨rfl, rfl⟩
      go_wp2_with fail
      refine calls_at (R := fun wq => Below w5.heap.size w5 wq ∧ RdS wq (· < wq.heap.size) (.slice (some ⟨w5.heap.size, 0, none⟩) 2 2) [pa, ba]) ⟨(Below.refl _ _).alloc (Nat.le_refl _) _, rdS_two w5 pa ba⟩ ?_
      intro w6 H6
      refine (HJ2.out _ w6 H6.out.2).mono ?_
      rintro e w8 ⟨rfl, hb8⟩
      have HB8 := Keep.keep (HB5.out.trans ((H6.out.1.trans (hb8.mono H6.out.1.size)).mono HB5.out.size))
      clear hb8 HJ2 H6
      go_wp2_with fail
      refine (HUS.out _).mono ?_
      rintro e w8' ⟨rfl, rfl⟩
      generalize hpe : p.isEmpty = pe at *
      have HPE := Keep.keep hpe
      clear hpe
      cases pe with
      | false =>
        go_wp2_with fail
        refine (HUN.out _).mono ?_
        rintro e w8' ⟨rfl, rfl⟩
        go_wp2_with fail
        refine (above_any p (by omega) w8).mono ?_
        rintro e w9 ⟨v7, rfl, ho7, hb9⟩
        rw [HPR.out] at ho7
        have HB9 := Keep.keep (HB8.out.trans (hb9.mono HB8.out.size))
        have HRA := Keep.keep ((ownsV_reads ho7).mono (N' := (· < w9.heap.size)) (fun b hb => hb.2.1))
        obtain ⟨a7, c7, hv7, hcap7, -, h37⟩ := (ownsV_reads ho7).shape
        rw [pres_length] at hv7 hcap7
        have HCAP7 := Keep.keep hcap7
        have H37 := Keep.keep h37
        subst hv7
        clear ho7 hb9 h37 hcap7
        have hmx : max ((l.length : Int) - 1) 0 = ((l.length - 1 : Nat) : Int) := by omega
        have hn40 : l.length - 1 ≤ 40 := by omega
        have hpl := pres_length l []
        generalize hnn : l.length - 1 = n at *
        have HNN := Keep.keep hnn
        clear hnn
        go_wp2_with fail
        go_loopg [8, 9, 10, 81] n (fun g _ _ _ u81 wx => ∃ i : Nat, i + g = n ∧ u81 = .int .i64 (i : Int) ∧ Below w9.heap.size w9 wx)
        case atStart => exact ⟨0, by omega, rfl, Below.refl _ _⟩
        case round =>
          obtain ⟨i, hig, rfl, hbw⟩ := hrel
          have HBW := Keep.keep hbw
          have HBX := Keep.keep (HB9.out.trans (hbw.mono HB9.out.size))
          clear hbw
          cases gk with
          | zero =>
            obtain rfl : i = n := by omega
            go_wp2_with fail
            refine (wakes_any B _ (Nat.le_trans HB.out HBX.out.size) (HM.out.on (HBX.out.mono HB.out)) (HC.out.on (HBX.out.mono HB.out))).mono ?_
            rintro e w10 ⟨rfl, hb10⟩
            have HB10 := Keep.keep (HBX.out.trans (hb10.mono HBX.out.size))
            clear hb10
            go_wp2_with fail
            go_ret
            exact ⟨rfl, HB10.out⟩
          | succ g =>
            have hi : i < n := by omega
            have hil : i + 1 < l.length := by have := HNN.out; omega
            have HA := Keep.keep (HABV.out i hil)
            rcases H37.out with ⟨_, h37⟩ | ⟨b7, o7, rfl, -⟩
            · have := HCAP7.out; omega
            have hg1 : (pres [] l)[i]? = some (joinS (l.take (i + 1))) := pres_get l [] i hil
            have hcell := (HRA.out.below HBW.out (fun b hb => hb)).cell b7 o7 _ _ rfl i (strV (joinS (l.take (i + 1)))) (by rw [List.getElem?_map, hg1]; rfl)
            have HNX : Keep (joinS (l.take (i + 2)) = if i + 1 < n then joinS (l.take (i + 2)) else p) := ⟨by
              by_cases h : i + 1 < n
              · rw [if_pos h]
              · rw [if_neg h, show i + 2 = l.length by have := HNN.out; omega, List.take_length]; exact HJS.out⟩
            have hcell2 : i + 1 < n → wr.cell? ⟨b7, o7 + (i + 1), none⟩ = some (strV (joinS (l.take (i + 2)))) := fun h => by
              have hg2 : (pres [] l)[i + 1]? = some (joinS (l.take (i + 2))) := pres_get l [] (i + 1) (by have := HNN.out; omega)
              exact (HRA.out.below HBW.out (fun b hb => hb)).cell b7 o7 _ _ rfl (i + 1) (strV (joinS (l.take (i + 2)))) (by rw [List.getElem?_map, hg2]; rfl)
            have HDL : Keep ((joinS (l.take (i + 1))).length ≤ 4080 ∧ (joinS (l.take (i + 2))).length ≤ 4080) := ⟨by
              have h1 := HTK.out (i + 1); have h2 := HTK.out (i + 2); exact ⟨h1, h2⟩⟩
            generalize joinS (l.take (i + 1)) = d at *
            generalize hxx : joinS (l.take (i + 2)) = x at *
            have hdl := HDL.out.1
            have hxl := HDL.out.2
            have hls : Op.bytesLess (⟨d.toArray⟩ : ByteArray).toList (⟨x.toArray⟩ : ByteArray).toList = true := by rw [ByteArray.toList_eq, ByteArray.toList_eq]; exact HA.out.less
            have hls2 : Op.bytesLess d x = true := HA.out.less
            have hdd : (d == d) = true := beq_self_eq_true d
            have hc1 := run_cat (P := Tryd.prog) d [120] (by simp; omega)
            have hc2 := run_cat (P := Tryd.prog) d [120, 47] (by simp; omega)
            have HPA : Keep (∀ w, _) := ⟨fun w => parent_any x (by omega) w⟩
            rw [HA.out.par] at HPA
            have HU1 : Keep (∀ w, _) := ⟨fun w => under_any d p (by omega) w⟩
            rw [HA.out.und] at HU1
            have HU2 : Keep (∀ w, _) := ⟨fun w => under_any (d ++ [120]) p (by simp; omega) w⟩
            have HU3 : Keep (∀ w, _) := ⟨fun w => under_any p d (by omega) w⟩
            rw [HA.out.nun] at HU3
            have HMD : Keep (∀ wx, Below w.heap.size w wx → _) := ⟨fun wx (h : Below w.heap.size w wx) => may_any d (by omega) B wx (Nat.le_trans HB.out h.size) (HM.out.on (h.mono HB.out))⟩
            rw [HA.out.may] at HMD
            have HPX : Keep (∀ w, Calls Tryd.prog 17 #[.string ⟨p.toArray⟩, .string ⟨(d ++ [120, 47]).toArray⟩] w fun e w' => e = .returned (.bool ((d ++ [120, 47]).isPrefixOf p)) ∧ w' = w) := ⟨fun w => Tryd.strings_HasPrefix _ _ w⟩
            have HPU : Keep (underP (d ++ [120]) p = true → (d ++ [120, 47]).isPrefixOf p = true) := ⟨fun h => by
              unfold underP at h
              have he : (d ++ [(120 : UInt8)]).isEmpty = false := by cases d <;> rfl
              rw [he, Bool.false_or, List.append_assoc] at h
              simp only [Bool.and_eq_true] at h
              exact h.2⟩
            unfold strV at hcell hcell2
            generalize d ++ [120] = d1 at *
            generalize d ++ [120, 47] = d2 at *
            generalize underP d1 p = bu at *
            generalize d2.isPrefixOf p = bh at *
            have hn1 : (i : Int) + 1 = ((i + 1 : Nat) : Int) := by omega
            by_cases hin : i + 1 < n
            · have hcl2 := hcell2 hin
              have hdi : decide ((i : Int) + 1 < (n : Int)) = true := decide_eq_true (by omega)
              clear hcell2 hg1 hn1
              go_wp2_with fail
              refine (HPA.out _).mono ?_
              rintro e wr' ⟨rfl, rfl⟩
              go_wp2_with fail
              refine (HU1.out _).mono ?_
              rintro e wr' ⟨rfl, rfl⟩
              go_wp2_with fail
              refine (HMD.out _ HBX.out).mono ?_
              rintro e w11 ⟨rfl, hb11⟩
              have HB11 := Keep.keep (HBW.out.trans (hb11.mono HBW.out.size))
              clear hb11
              go_wp2_with fail
              refine (HU2.out _).mono ?_
              rintro e wr' ⟨rfl, rfl⟩
              cases bu with
              | true =>
                obtain rfl : bh = true := HPU.out rfl
                go_wp2_with fail
                refine (HPX.out _).mono ?_
                rintro e wr' ⟨rfl, rfl⟩
                go_wp2_with fail
                refine (HU3.out _).mono ?_
                rintro e wr'' ⟨rfl, rfl⟩
                go_wp2_with fail
                go_roundg g
                case measure => omega
                case rel => exact ⟨i + 1, by omega, by simp, HB11.out⟩
              | false =>
                go_wp2_with fail
                refine (HU3.out _).mono ?_
                rintro e wr'' ⟨rfl, rfl⟩
                go_wp2_with fail
                go_roundg g
                case measure => omega
                case rel => exact ⟨i + 1, by omega, by simp, HB11.out⟩
            · rw [if_neg hin] at HNX
              have hxp := HNX.out
              have hdi : decide ((i : Int) + 1 < (n : Int)) = false := decide_eq_false (by omega)
              clear hcell2 hg1 hn1
              subst hxp
              go_wp2_with fail
              refine (HPA.out _).mono ?_
              rintro e wr' ⟨rfl, rfl⟩
              go_wp2_with fail
              refine (HU1.out _).mono ?_
              rintro e wr' ⟨rfl, rfl⟩
              go_wp2_with fail
              refine (HMD.out _ HBX.out).mono ?_
              rintro e w11 ⟨rfl, hb11⟩
              have HB11 := Keep.keep (HBW.out.trans (hb11.mono HBW.out.size))
              clear hb11
              go_wp2_with fail
              refine (HU2.out _).mono ?_
              rintro e wr' ⟨rfl, rfl⟩
              cases bu with
              | true =>
                obtain rfl : bh = true := HPU.out rfl
                go_wp2_with fail
                refine (HPX.out _).mono ?_
                rintro e wr' ⟨rfl, rfl⟩
                go_wp2_with fail
                refine (HU3.out _).mono ?_
                rintro e wr'' ⟨rfl, rfl⟩
                go_wp2_with fail
                go_roundg g
                case measure => omega
                case rel => exact ⟨i + 1, by omega, by simp, HB11.out⟩
              | false =>
                go_wp2_with fail
                refine (HU3.out _).mono ?_
                rintro e wr'' ⟨rfl, rfl⟩
                go_wp2_with fail
                go_roundg g
                case measure => omega
                case rel => exact ⟨i + 1, by omega, by simp, HB11.out⟩
      | true =>
        go_wp2_with fail
        refine (above_any p (by omega) w8).mono ?_
        rintro e w9 ⟨v7, rfl, ho7, hb9⟩
        rw [HPR.out] at ho7
        have HB9 := Keep.keep (HB8.out.trans (hb9.mono HB8.out.size))
        have HRA := Keep.keep ((ownsV_reads ho7).mono (N' := (· < w9.heap.size)) (fun b hb => hb.2.1))
        obtain ⟨a7, c7, hv7, hcap7, -, h37⟩ := (ownsV_reads ho7).shape
        rw [pres_length] at hv7 hcap7
        have HCAP7 := Keep.keep hcap7
        have H37 := Keep.keep h37
        subst hv7
        clear ho7 hb9 h37 hcap7
        have hmx : max ((l.length : Int) - 1) 0 = ((l.length - 1 : Nat) : Int) := by omega
        have hn40 : l.length - 1 ≤ 40 := by omega
        have hpl := pres_length l []
        generalize hnn : l.length - 1 = n at *
        have HNN := Keep.keep hnn
        clear hnn
        go_wp2_with fail
        go_loopg [8, 9, 10, 81] n (fun g _ _ _ u81 wx => ∃ i : Nat, i + g = n ∧ u81 = .int .i64 (i : Int) ∧ Below w9.heap.size w9 wx)
        case atStart => exact ⟨0, by omega, rfl, Below.refl _ _⟩
        case round =>
          obtain ⟨i, hig, rfl, hbw⟩ := hrel
          have HBW := Keep.keep hbw
          have HBX := Keep.keep (HB9.out.trans (hbw.mono HB9.out.size))
          clear hbw
          cases gk with
          | zero =>
            obtain rfl : i = n := by omega
            go_wp2_with fail
            refine (wakes_any B _ (Nat.le_trans HB.out HBX.out.size) (HM.out.on (HBX.out.mono HB.out)) (HC.out.on (HBX.out.mono HB.out))).mono ?_
            rintro e w10 ⟨rfl, hb10⟩
            have HB10 := Keep.keep (HBX.out.trans (hb10.mono HBX.out.size))
            clear hb10
            go_wp2_with fail
            go_ret
            exact ⟨rfl, HB10.out⟩
          | succ g =>
            have hi : i < n := by omega
            have hil : i + 1 < l.length := by have := HNN.out; omega
            have HA := Keep.keep (HABV.out i hil)
            rcases H37.out with ⟨_, h37⟩ | ⟨b7, o7, rfl, -⟩
            · have := HCAP7.out; omega
            have hg1 : (pres [] l)[i]? = some (joinS (l.take (i + 1))) := pres_get l [] i hil
            have hcell := (HRA.out.below HBW.out (fun b hb => hb)).cell b7 o7 _ _ rfl i (strV (joinS (l.take (i + 1)))) (by rw [List.getElem?_map, hg1]; rfl)
            have HNX : Keep (joinS (l.take (i + 2)) = if i + 1 < n then joinS (l.take (i + 2)) else p) := ⟨by
              by_cases h : i + 1 < n
              · rw [if_pos h]
              · rw [if_neg h, show i + 2 = l.length by have := HNN.out; omega, List.take_length]; exact HJS.out⟩
            have hcell2 : i + 1 < n → wr.cell? ⟨b7, o7 + (i + 1), none⟩ = some (strV (joinS (l.take (i + 2)))) := fun h => by
              have hg2 : (pres [] l)[i + 1]? = some (joinS (l.take (i + 2))) := pres_get l [] (i + 1) (by have := HNN.out; omega)
              exact (HRA.out.below HBW.out (fun b hb => hb)).cell b7 o7 _ _ rfl (i + 1) (strV (joinS (l.take (i + 2)))) (by rw [List.getElem?_map, hg2]; rfl)
            have HDL : Keep ((joinS (l.take (i + 1))).length ≤ 4080 ∧ (joinS (l.take (i + 2))).length ≤ 4080) := ⟨by
              have h1 := HTK.out (i + 1); have h2 := HTK.out (i + 2); exact ⟨h1, h2⟩⟩
            generalize joinS (l.take (i + 1)) = d at *
            generalize hxx : joinS (l.take (i + 2)) = x at *
            have hdl := HDL.out.1
            have hxl := HDL.out.2
            have hls : Op.bytesLess (⟨d.toArray⟩ : ByteArray).toList (⟨x.toArray⟩ : ByteArray).toList = true := by rw [ByteArray.toList_eq, ByteArray.toList_eq]; exact HA.out.less
            have hls2 : Op.bytesLess d x = true := HA.out.less
            have hdd : (d == d) = true := beq_self_eq_true d
            have hc1 := run_cat (P := Tryd.prog) d [120] (by simp; omega)
            have hc2 := run_cat (P := Tryd.prog) d [120, 47] (by simp; omega)
            have HPA : Keep (∀ w, _) := ⟨fun w => parent_any x (by omega) w⟩
            rw [HA.out.par] at HPA
            have HU1 : Keep (∀ w, _) := ⟨fun w => under_any d p (by omega) w⟩
            rw [HA.out.und] at HU1
            have HU2 : Keep (∀ w, _) := ⟨fun w => under_any (d ++ [120]) p (by simp; omega) w⟩
            have HU3 : Keep (∀ w, _) := ⟨fun w => under_any p d (by omega) w⟩
            rw [HA.out.nun] at HU3
            have HMD : Keep (∀ wx, Below w.heap.size w wx → _) := ⟨fun wx (h : Below w.heap.size w wx) => may_any d (by omega) B wx (Nat.le_trans HB.out h.size) (HM.out.on (h.mono HB.out))⟩
            rw [HA.out.may] at HMD
            have HPX : Keep (∀ w, Calls Tryd.prog 17 #[.string ⟨p.toArray⟩, .string ⟨(d ++ [120, 47]).toArray⟩] w fun e w' => e = .returned (.bool ((d ++ [120, 47]).isPrefixOf p)) ∧ w' = w) := ⟨fun w => Tryd.strings_HasPrefix _ _ w⟩
            have HPU : Keep (underP (d ++ [120]) p = true → (d ++ [120, 47]).isPrefixOf p = true) := ⟨fun h => by
              unfold underP at h
              have he : (d ++ [(120 : UInt8)]).isEmpty = false := by cases d <;> rfl
              rw [he, Bool.false_or, List.append_assoc] at h
              simp only [Bool.and_eq_true] at h
              exact h.2⟩
            unfold strV at hcell hcell2
            generalize d ++ [120] = d1 at *
            generalize d ++ [120, 47] = d2 at *
            generalize underP d1 p = bu at *
            generalize d2.isPrefixOf p = bh at *
            have hn1 : (i : Int) + 1 = ((i + 1 : Nat) : Int) := by omega
            by_cases hin : i + 1 < n
            · have hcl2 := hcell2 hin
              have hdi : decide ((i : Int) + 1 < (n : Int)) = true := decide_eq_true (by omega)
              clear hcell2 hg1 hn1
              go_wp2_with fail
              refine (HPA.out _).mono ?_
              rintro e wr' ⟨rfl, rfl⟩
              go_wp2_with fail
              refine (HU1.out _).mono ?_
              rintro e wr' ⟨rfl, rfl⟩
              go_wp2_with fail
              refine (HMD.out _ HBX.out).mono ?_
              rintro e w11 ⟨rfl, hb11⟩
              have HB11 := Keep.keep (HBW.out.trans (hb11.mono HBW.out.size))
              clear hb11
              go_wp2_with fail
              refine (HU2.out _).mono ?_
              rintro e wr' ⟨rfl, rfl⟩
              cases bu with
              | true =>
                obtain rfl : bh = true := HPU.out rfl
                go_wp2_with fail
                refine (HPX.out _).mono ?_
                rintro e wr' ⟨rfl, rfl⟩
                go_wp2_with fail
                refine (HU3.out _).mono ?_
                rintro e wr'' ⟨rfl, rfl⟩
                go_wp2_with fail
                go_roundg g
                case measure => omega
                case rel => exact ⟨i + 1, by omega, by simp, HB11.out⟩
              | false =>
                go_wp2_with fail
                refine (HU3.out _).mono ?_
                rintro e wr'' ⟨rfl, rfl⟩
                go_wp2_with fail
                go_roundg g
                case measure => omega
                case rel => exact ⟨i + 1, by omega, by simp, HB11.out⟩
            · rw [if_neg hin] at HNX
              have hxp := HNX.out
              have hdi : decide ((i : Int) + 1 < (n : Int)) = false := decide_eq_false (by omega)
              clear hcell2 hg1 hn1
              subst hxp
              go_wp2_with fail
              refine (HPA.out _).mono ?_
              rintro e wr' ⟨rfl, rfl⟩
              go_wp2_with fail
              refine (HU1.out _).mono ?_
              rintro e wr' ⟨rfl, rfl⟩
              go_wp2_with fail
              refine (HMD.out _ HBX.out).mono ?_
              rintro e w11 ⟨rfl, hb11⟩
              have HB11 := Keep.keep (HBW.out.trans (hb11.mono HBW.out.size))
              clear hb11
              go_wp2_with fail
              refine (HU2.out _).mono ?_
              rintro e wr' ⟨rfl, rfl⟩
              cases bu with
              | true =>
                obtain rfl : bh = true := HPU.out rfl
                go_wp2_with fail
                refine (HPX.out _).mono ?_
                rintro e wr' ⟨rfl, rfl⟩
                go_wp2_with fail
                refine (HU3.out _).mono ?_
                rintro e wr'' ⟨rfl, rfl⟩
                go_wp2_with fail
                go_roundg g
                case measure => omega
                case rel => exact ⟨i + 1, by omega, by simp, HB11.out⟩
              | false =>
                go_wp2_with fail
                refine (HU3.out _).mono ?_
                rintro e wr'' ⟨rfl, rfl⟩
                go_wp2_with fail
                go_roundg g
                case measure => omega
                case rel => exact ⟨i + 1, by omega, by simp, HB11.out⟩
    | succ g =>
      have hk : k < names.length := by omega
      rcases H3.out with ⟨_, h3⟩ | ⟨b, off, rfl, hbl⟩
      · omega
      have hcell := (HR.out.below HH.out.below (fun b hb => hb)).cell b off _ _ rfl k (strV names[k]) (by simp [hk])
      have hxl := HX.out names[k] (List.getElem_mem hk)
      have hss := sel_succ names k hk
      have hsl := sel_len names k
      have hkm : min (names[k].length : Int) 60 = ((min names[k].length 60 : Nat) : Int) := by omega
      have hst := run_slice_to (P := Tryd.prog) Tryd.underlying9 names[k] .i64 (min names[k].length 60) (by omega)
      rw [show names[k].take (min names[k].length 60) = cut60 names[k] from rfl] at hst
      have hcl : (cut60 names[k]).length ≤ 1000000 := by unfold cut60; simp; omega
      have HMN := Keep.keep (fun wx => mayname_any (cut60 names[k]) hcl wx)
      generalize cut60 names[k] = x at *
      generalize min names[k].length 60 = xn at *
      generalize names[k] = y at *
      unfold strV at hcell
      by_cases h40 : k < 40
      · have hd : decide ((k : Int) < 40) = true := decide_eq_true (by omega)
        have hd2 : decide (k < 40) = true := decide_eq_true h40
        cases hmay : mayN x with
        | true =>
          rw [hmay] at HMN
          rw [hmay, if_pos ⟨h40, rfl⟩] at hss
          have HS := Keep.keep hss
          clear hss hmay
          go_wp2_with fail
          refine (HMN.out _).mono ?_
          rintro e w2 ⟨rfl, hb2⟩
          have HH2 := Keep.keep (HH.out.call hb2)
          clear hb2
          go_wp2_with (with_reducible refine arm_stop ?_)
          refine Stopped.out ?_
          refine arm_appendV slS ((HH2.out.alloc _).sl 0 rfl) (RdV.new (N := fun _ => True) 9 [strV x] 1 1 _ rfl rfl (by unfold maxLen; omega) trivial) (by simp [strV, Value.oneCell']) (by unfold maxLen; omega) (by omega) (by simp; have := HH2.out.size; omega) rfl rfl ?_
          intro v' w' ho hg hb _
          have HG := Keep.keep ((HH2.out.alloc _).grow 0 rfl hg ho hb)
          obtain ⟨a4, c4, rfl, -⟩ := (ownsV_reads ho).shape
          clear ho hg hb
          simp only [Act.put, List.setIfInBounds_toArray, List.set_cons_succ, List.set_cons_zero]
          go_wp2_with fail
          go_roundg g
          case measure => omega
          case rel => exact ⟨k + 1, by omega, by simp, by rw [HS.out, List.length_append, List.map_append]; exact HG.out⟩
        | false =>
          rw [hmay] at HMN
          rw [hmay, if_neg (fun e => Bool.noConfusion e.2)] at hss
          have HS := Keep.keep hss
          clear hss hmay
          go_wp2_with fail
          refine (HMN.out _).mono ?_
          rintro e w2 ⟨rfl, hb2⟩
          have HH2 := Keep.keep (HH.out.call hb2)
          clear hb2
          go_wp2_with fail
          go_roundg g
          case measure => omega
          case rel => exact ⟨k + 1, by omega, by simp, by rw [HS.out]; exact HH2.out⟩
      · have hd : decide ((k : Int) < 40) = false := decide_eq_false (by omega)
        have hd2 : decide (k < 40) = false := decide_eq_false h40
        rw [if_neg (fun e => h40 e.1)] at hss
        have HS := Keep.keep hss
        clear hss
        go_wp2_with fail
        go_roundg g
        case measure => omega
        case rel => exact ⟨k + 1, by omega, by simp, by rw [HS.out]; exact HH.out⟩
end Go.Proofs.YtkijhaibcnhedaaDoor
