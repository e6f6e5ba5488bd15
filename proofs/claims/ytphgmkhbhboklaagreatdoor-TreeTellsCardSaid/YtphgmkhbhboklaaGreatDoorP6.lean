/- PARTS OF ONE PROOF, set in one file: RMay, Spc, NodeCl, SpcT, NodeClo, SMap, Tree. Each part tells its own conditions. -/
import Derived.StillTail
import Derived.Maps.OwnSet
import Derived.Maps.Range
import Derived.Sort.KeysCollected
import Derived.Test.YtphgmkhbhboklaaGreatDoorP1
import Derived.Test.YtphgmkhbhboklaaGreatDoorP3
import Derived.Test.YtphgmkhbhboklaaGreatDoorP4
import Derived.Test.YtphgmkhbhboklaaGreatDoorP5
/- portolanref12.has, May; portolanref18.May. -/
namespace Go.Proofs.YtphgmkhbhboklaaGreatDoor
open Go.RowKit
set_option maxHeartbeats 1000000 in
set_option maxRecDepth 100000 in
theorem hasb_any (s : Tx) (hsl : s.length ≤ 1000000) (c : UInt8) (cv : Int) (hc : cv = (c.toNat : Int)) (w : World) : Calls Tryz.prog 80 #[.string ⟨s.toArray⟩, .int .u8 cv] w fun e w' => e = .returned (.bool (decide (c ∈ s))) ∧ w = w' := by
  have HC := Keep.keep hc
  clear hc
  go_enter Tryz.func80, Tryz.ntmps80
  go_wp2_with fail
  go_loopg [5] s.length (fun g u3 wx => ∃ k : Nat, k + g = s.length ∧ u3 = .int .i64 (k : Int) ∧ (∀ j, (hj : j < k) → (hl : j < s.length) → s[j] ≠ c) ∧ w = wx)
  case atStart => exact ⟨0, by omega, rfl, fun j hj => by omega, rfl⟩
  case round =>
    obtain ⟨k, hkg, rfl, hno, rfl⟩ := hrel
    have HNO := Keep.keep hno
    clear hno
    cases gk with
    | zero =>
      obtain rfl : k = s.length := by omega
      have HE : Keep (decide (c ∈ s) = false) := ⟨decide_eq_false (fun h => by
        obtain ⟨j, hj, e⟩ := List.mem_iff_getElem.1 h
        exact HNO.out j hj hj e)⟩
      go_wp2_with fail
      go_ret
      exact ⟨by (rw [HE.out]) <;> rfl, rfl⟩
    | succ g =>
      have hk : k < s.length := by omega
      have hidx := run_index_str (P := Tryz.prog) Tryz.underlying9 ⟨s.toArray⟩ .i64 k s[k] (by simp [hk])
      have hgi : (⟨s.toArray⟩ : ByteArray)[k]'(hk) = s[k] := rfl
      by_cases h0 : s[k] = c
      · have hb : ((s[k].toNat : Int) == cv) = true := by rw [HC.out, h0]; exact beq_self_eq_true _
        have HE : Keep (decide (c ∈ s) = true) := ⟨decide_eq_true (h0 ▸ List.getElem_mem hk)⟩
        clear h0 HNO
        generalize s[k] = x at *
        go_wp2_with fail
        go_ret
        exact ⟨by (rw [HE.out]) <;> rfl, rfl⟩
      · have hb : ((s[k].toNat : Int) == cv) = false := by
          rw [HC.out, beq_eq_false_iff_ne]
          intro e
          exact h0 (UInt8.toNat_inj.1 (by omega))
        have HST : Keep (∀ j, (hj : j < k + 1) → (hl : j < s.length) → s[j] ≠ c) := ⟨fun j hj hl => by
          rcases Nat.lt_succ_iff_lt_or_eq.1 hj with h | rfl
          · exact HNO.out j h hl
          · exact h0⟩
        clear h0 HNO
        generalize s[k] = x at *
        go_wp2_with fail
        go_roundg g
        case measure => omega
        case rel => exact ⟨k + 1, by omega, by simp, HST.out, rfl⟩
theorem any_bad (s : Tx) : s.any ([0, 61, 10].contains ·) = (decide ((0 : UInt8) ∈ s) || decide ((61 : UInt8) ∈ s) || decide ((10 : UInt8) ∈ s)) := by
  rw [Bool.eq_iff_iff]
  simp only [List.any_eq_true, Bool.or_eq_true, decide_eq_true_eq, List.contains_cons, beq_iff_eq]
  constructor
  · rintro ⟨x, hx, (h | h | h | h)⟩
    · exact .inl (.inl (h ▸ hx))
    · exact .inl (.inr (h ▸ hx))
    · exact .inr (h ▸ hx)
    · simp at h
  · rintro ((h | h) | h)
    · exact ⟨_, h, .inl rfl⟩
    · exact ⟨_, h, .inr (.inl rfl)⟩
    · exact ⟨_, h, .inr (.inr (.inl rfl))⟩
set_option maxHeartbeats 4000000 in
set_option maxRecDepth 100000 in
theorem rmay12_any (m : Mb) (av dv : Value) (hsm : Sm m) (w : World) (hr : NdR w (· < w.heap.size) m.2 av dv) :
    Calls Tryz.prog 48 #[.agg (mbC m av dv)] w fun e w' => e = .returned (.bool (mayT m)) ∧ Below w.heap.size w w' := by
  obtain ⟨p, nd⟩ := m
  obtain ⟨kind, mode, uid, gid, time, attrs, data, link⟩ := nd
  obtain ⟨sp, sl, sd, sa, sn, sk⟩ := hsm
  simp only at sp sl sd sa sn sk
  obtain ⟨ra, rd⟩ := hr
  simp only at ra rd
  have HCL := Keep.keep (fun wx => rclass_any p sp wx)
  obtain ⟨ad, cd, hdv, hd1, hd2, -⟩ := rd.shape
  obtain ⟨aa, ca, hav, ha1, ha2, ha3⟩ := ra.shape
  have HRA := Keep.keep ra; have HA3 := Keep.keep ha3; have HSN := Keep.keep sn
  unfold maxLen at ha2 hd2
  have HMT : Keep (mayT (p, ⟨kind, mode, uid, gid, time, attrs, data, link⟩) = (decide (¬ (classP p).1 = 0) && decide (1 ≤ kind ∧ kind ≤ 4) && decide (mode ≤ 4095) && mayA attrs && mayL link (decide (kind = 3)) && decide (data.length ≤ 16777216) && (decide (kind = 2) || decide (data.length = 0)))) := ⟨rfl⟩
  have HA16 : Keep (16 < attrs.length → mayA attrs = false) := ⟨fun h => by unfold mayA; rw [decide_eq_false (show ¬ attrs.length ≤ 16 by omega), Bool.and_false]⟩
  have HAOK : Keep ((∀ k, k < attrs.length → badA attrs k = false) → attrs.length ≤ 16 → mayA attrs = true) := ⟨fun h h16 => by rw [mayA_ok h]; exact decide_eq_true h16⟩
  have HABAD : Keep (∀ k, k < attrs.length → badA attrs k = true → mayA attrs = false) := ⟨fun k hk h => mayA_bad hk h⟩
  generalize mayT (p, ⟨kind, mode, uid, gid, time, attrs, data, link⟩) = mt at *
  clear ra rd ha3 sn
  generalize classP p = cp at *
  obtain ⟨cl, tg⟩ := cp
  generalize mayA attrs = ma at *
  unfold mbC strV
  simp only at HCL HMT ⊢
  subst hdv hav
  go_enter Tryz.func48, Tryz.ntmps48
  go_wp2_with fail
  refine calls_at (R := fun w1 => Hp NoM w w1 [rowA w.heap.size 32 #[.string ⟨p.toArray⟩, .int .i64 kind, .int .u32 mode, .int .u32 uid, .int .u32 gid, .int .i64 time, .slice aa attrs.length ca, .slice ad data.length cd, .string ⟨link.toArray⟩]]) ?_ ?_
  · exact (Hp.begin NoM w).newRow _ _
  intro w1 H1
  refine (HCL.out w1).mono ?_
  rintro e w2 ⟨rfl, hb2⟩
  have H2 := Keep.keep (H1.out.call hb2)
  have hrow := H2.out.row 0 rfl
  have c1 := hrow.cell (i := 1) rfl
  have c2 := hrow.cell (i := 2) rfl
  have c3 := hrow.cell (i := 3) rfl
  have c4 := hrow.cell (i := 4) rfl
  have c5 := hrow.cell (i := 5) rfl
  have c6 := hrow.cell (i := 6) rfl
  have c7 := hrow.cell (i := 7) rfl
  have c8 := hrow.cell (i := 8) rfl
  clear hrow hb2 H1
  go_upto_region 3 with fail
  refine wp_world (R := fun w3 => Hp NoM w w3 [rowA w.heap.size 32 #[.string ⟨p.toArray⟩, .int .i64 kind, .int .u32 mode, .int .u32 uid, .int .u32 gid, .int .i64 time, .slice aa attrs.length ca, .slice ad data.length cd, .string ⟨link.toArray⟩],
    rowA w2.heap.size 30 #[.int .i64 kind, .int .u32 mode, .int .u32 uid, .int .u32 gid, .int .i64 time, .slice aa attrs.length ca, .slice ad data.length cd, .string ⟨link.toArray⟩]]) ?_ ?_
  · exact H2.out.newRow _ _
  intro w3 H3
  clear c1 c2 c3 c4 c5 c6 c7 c8
  have hrow := H3.out.row 1 rfl
  generalize w2.heap.size = T at *
  have c0 := hrow.cell (i := 0) rfl
  have c1 := hrow.cell (i := 1) rfl
  have c5 := hrow.cell (i := 5) rfl
  have c6 := hrow.cell (i := 6) rfl
  have c7 := hrow.cell (i := 7) rfl
  clear hrow
  have HW : Keep (Below w.heap.size w w3) := ⟨H3.out.below⟩
  have HRA3 := Keep.keep (HRA.out.below H3.out.below (fun b hb => hb))
  clear H2 H3 HCL HRA
  obtain ⟨b0, hb0⟩ : ∃ b, (cl == 0) = b := ⟨_, rfl⟩
  have e0 : decide (¬ cl = 0) = !b0 := by rw [← hb0, Bool.eq_iff_iff]; simp
  obtain ⟨b1, hb1⟩ : ∃ b, decide (kind < 1) = b := ⟨_, rfl⟩
  obtain ⟨b2, hb2⟩ : ∃ b, decide (4 < kind) = b := ⟨_, rfl⟩
  have e1 : decide (1 ≤ kind ∧ kind ≤ 4) = (!b1 && !b2) := by rw [← hb1, ← hb2, Bool.eq_iff_iff]; simp
  obtain ⟨b3, hb3⟩ : ∃ b, decide (4095 < mode) = b := ⟨_, rfl⟩
  have e3 : decide (mode ≤ 4095) = !b3 := by rw [← hb3, Bool.eq_iff_iff]; simp
  obtain ⟨b4, hb4⟩ : ∃ b, decide (16 < attrs.length) = b := ⟨_, rfl⟩
  have hb4i : decide ((16 : Int) < (attrs.length : Int)) = b4 := by rw [← hb4, Bool.eq_iff_iff]; simp; omega
  rw [e0, e1, e3] at HMT
  have H4T : Keep (b4 = true → ma = false) := ⟨fun h => HA16.out (by rw [h] at hb4; exact of_decide_eq_true hb4)⟩
  have H4F : Keep (b4 = false → attrs.length ≤ 16) := ⟨fun h => by rw [h] at hb4; have := of_decide_eq_false hb4; omega⟩
  clear e0 e1 e3 hb4 HA16
  cases b0 with
  | true =>
    go_wp2_with fail
    go_ret
    exact ⟨by rw [HMT.out]; rfl, HW.out⟩
  | false =>
  cases b1 with
  | true =>
    go_wp2_with fail
    go_ret
    exact ⟨by rw [HMT.out]; rfl, HW.out⟩
  | false =>
  cases b2 with
  | true =>
    go_wp2_with fail
    go_ret
    exact ⟨by rw [HMT.out]; rfl, HW.out⟩
  | false =>
  cases b3 with
  | true =>
    go_wp2_with fail
    go_ret
    exact ⟨by rw [HMT.out]; rfl, HW.out⟩
  | false =>
  cases b4 with
  | true =>
    go_wp2_with fail
    go_ret
    exact ⟨by rw [HMT.out, H4T.out (by simp)]; rfl, HW.out⟩
  | false =>
  have HM2 : Keep (mt = (ma && mayL link (decide (kind = 3)) && decide (data.length ≤ 16777216) && (decide (kind = 2) || decide (data.length = 0)))) := ⟨by rw [HMT.out]; rfl⟩
  have H16 := Keep.keep (H4F.out (by simp))
  clear HMT H4T H4F
  go_wp2_with fail
  go_loopg [6, 7] attrs.length (fun g u6 _ wx => ∃ k : Nat, k + g = attrs.length ∧ u6 = .int .i64 (k : Int) ∧ (∀ j, j < k → badA attrs j = false) ∧ w3 = wx)
  case atStart => exact ⟨0, by omega, rfl, fun j hj => by omega, rfl⟩
  case round =>
    obtain ⟨k, hkg, rfl, hok, rfl⟩ := hrel
    have HOK := Keep.keep hok
    clear hok
    cases gk with
    | zero =>
      obtain rfl : k = attrs.length := by omega
      have hma : ma = true := HAOK.out HOK.out H16.out
      subst hma
      have h3 : (kind == 3) = decide (kind = 3) := by rw [Bool.eq_iff_iff]; simp
      have h3n : (kind != 3) = !decide (kind = 3) := by rw [Bool.eq_iff_iff]; simp
      obtain ⟨s3, hs3⟩ : ∃ s3, decide (kind = 3) = s3 := ⟨_, rfl⟩
      have hdl : decide ((data.length : Int) ≤ 16777216) = true := decide_eq_true (by omega)
      have hdn : decide (data.length ≤ 16777216) = true := decide_eq_true (by omega)
      have h2 : (kind == 2) = decide (kind = 2) := by rw [Bool.eq_iff_iff]; simp
      obtain ⟨s2, hs2⟩ : ∃ s2, decide (kind = 2) = s2 := ⟨_, rfl⟩
      have hz : ((data.length : Int) == 0) = decide (data.length = 0) := by rw [Bool.eq_iff_iff]; simp
      obtain ⟨z, hz2⟩ : ∃ z, decide (data.length = 0) = z := ⟨_, rfl⟩
      have hle : (link == []) = link.isEmpty := by cases link <;> rfl
      have hlen : (link != []) = !link.isEmpty := by cases link <;> rfl
      have HHL := Keep.keep (fun wx => hasb_any link sl 0 0 rfl wx)
      rw [hs3] at h3 h3n HM2
      rw [hs2] at h2 HM2
      rw [hz2] at hz HM2
      rw [hdn] at HM2
      have HML : Keep (mayL link s3 = if s3 then !link.isEmpty && decide (link.length ≤ 4096) && !decide ((0 : UInt8) ∈ link) else link.isEmpty) := ⟨by unfold mayL; rw [hlen, hle]⟩
      obtain ⟨ml, hml⟩ : ∃ ml, mayL link s3 = ml := ⟨_, rfl⟩
      rw [hml] at HML HM2
      obtain ⟨le, hlie⟩ : ∃ b, link.isEmpty = b := ⟨_, rfl⟩
      obtain ⟨hz0, hhz⟩ : ∃ b, decide ((0 : UInt8) ∈ link) = b := ⟨_, rfl⟩
      obtain ⟨b5, hb5⟩ : ∃ b, decide (link.length ≤ 4096) = b := ⟨_, rfl⟩
      have hb5i : decide ((4096 : Int) < (link.length : Int)) = !b5 := by rw [← hb5, Bool.eq_iff_iff]; simp; omega
      rw [hlie] at hle hlen
      rw [hlie, hhz, hb5] at HML
      simp only [hhz] at HHL
      clear hs3 hs2 hz2 hdn hml hhz hb5 HOK HAOK HABAD
      cases s3 with
      | false =>
        cases le with
        | false =>
          have HX : Keep (ml = false) := ⟨by rw [HML.out]; rfl⟩
          go_wp2_with fail
          go_ret
          exact ⟨by rw [HM2.out, HX.out]; rfl, HW.out⟩
        | true =>
          have HX : Keep (ml = true) := ⟨by rw [HML.out]; rfl⟩
          cases s2 <;> cases z
          all_goals
            go_wp2_with fail
            go_ret
            exact ⟨by rw [HM2.out, HX.out]; rfl, HW.out⟩
      | true =>
        cases le with
        | true =>
          have HX : Keep (ml = false) := ⟨by rw [HML.out]; rfl⟩
          go_wp2_with fail
          go_ret
          exact ⟨by rw [HM2.out, HX.out]; rfl, HW.out⟩
        | false =>
          cases b5 with
          | false =>
            have HX : Keep (ml = false) := ⟨by rw [HML.out]; rfl⟩
            go_wp2_with fail
            go_ret
            exact ⟨by rw [HM2.out, HX.out]; rfl, HW.out⟩
          | true =>
            go_wp2_with fail
            refine (HHL.out _).mono ?_
            rintro e w4 ⟨rfl, rfl⟩
            cases hz0 with
            | true =>
              have HX : Keep (ml = false) := ⟨by rw [HML.out]; rfl⟩
              go_wp2_with fail
              go_ret
              exact ⟨by rw [HM2.out, HX.out]; rfl, HW.out⟩
            | false =>
              have HX : Keep (ml = true) := ⟨by rw [HML.out]; rfl⟩
              cases s2 <;> cases z
              all_goals
                go_wp2_with fail
                go_ret
                exact ⟨by rw [HM2.out, HX.out]; rfl, HW.out⟩
    | succ g =>
      have hkl : k < attrs.length := by omega
      obtain ⟨b, off, rfl, hbl⟩ : ∃ b off, aa = some ⟨b, off, none⟩ ∧ b < w.heap.size := by
        rcases HA3.out with h | ⟨b, off, h, hb⟩
        · omega
        · exact ⟨b, off, h, hb⟩
      obtain ⟨z1, z2⟩ := attr_cells HRA3.out hkl
      have hsm := (HSN.out _ (List.getElem_mem hkl)).1
      obtain ⟨x, hx⟩ : ∃ x, attrs[k] = x := ⟨_, rfl⟩
      have HX : Keep (attrs[k]? = some x) := ⟨by rw [List.getElem?_eq_getElem hkl, hx]⟩
      rw [hx] at z1 z2 hsm
      have HBA : Keep (badA attrs k = ((x.1 == []) || decide (242 < x.1.length) || (decide ((0 : UInt8) ∈ x.1) || decide ((61 : UInt8) ∈ x.1) || decide ((10 : UInt8) ∈ x.1)) || (match k with | 0 => false | j + 1 => (match attrs[j]? with | some b => decide (x.1 ≤ b.1) | none => false)))) := ⟨by
        rw [← any_bad]; unfold badA; (rw [HX.out]) <;> rfl⟩
      have HBX : Keep (badA attrs k = true → ma = false) := ⟨HABAD.out k hkl⟩
      have HST : Keep (badA attrs k = false → ∀ j, j < k + 1 → badA attrs j = false) := ⟨fun h j hj => by
        rcases Nat.lt_succ_iff_lt_or_eq.1 hj with h' | rfl
        · exact HOK.out j h'
        · exact h⟩
      have HPREV : Keep (∀ j, k = j + 1 → ∃ y, attrs[j]? = some y ∧ w3.cell? ⟨b, off + j * 2, none⟩ = some (strV y.1)) := ⟨fun j hj => by
        have hjl : j < attrs.length := by omega
        obtain ⟨y1, -⟩ := attr_cells HRA3.out hjl
        exact ⟨attrs[j], List.getElem?_eq_getElem hjl, y1⟩⟩
      have HH0 := Keep.keep (fun wx => hasb_any x.1 hsm 0 0 rfl wx)
      have HH1 := Keep.keep (fun wx => hasb_any x.1 hsm 61 61 rfl wx)
      have HH2 := Keep.keep (fun wx => hasb_any x.1 hsm 10 10 rfl wx)
      clear hx HX z2 HAOK HABAD HOK
      obtain ⟨xn, xv⟩ := x
      unfold strV at z1
      dsimp only at z1 hsm HBA HH0 HH1 HH2
      have hbe : (xn == []) = xn.isEmpty := by cases xn <;> rfl
      obtain ⟨d0, hd0⟩ : ∃ b, xn.isEmpty = b := ⟨_, rfl⟩
      obtain ⟨d1, hd1⟩ : ∃ b, decide (242 < xn.length) = b := ⟨_, rfl⟩
      have hd1i : decide ((242 : Int) < (xn.length : Int)) = d1 := by rw [← hd1, Bool.eq_iff_iff]; simp; omega
      obtain ⟨d2, hd2⟩ : ∃ b, decide ((0 : UInt8) ∈ xn) = b := ⟨_, rfl⟩
      obtain ⟨d3, hd3⟩ : ∃ b, decide ((61 : UInt8) ∈ xn) = b := ⟨_, rfl⟩
      obtain ⟨d4, hd4⟩ : ∃ b, decide ((10 : UInt8) ∈ xn) = b := ⟨_, rfl⟩
      rw [hd0] at hbe
      simp only [hd2] at HH0
      simp only [hd3] at HH1
      simp only [hd4] at HH2
      rw [hd2, hd3, hd4, hd1, hbe] at HBA
      generalize badA attrs k = bad at *
      clear hd1 hd2 hd3 hd4
      cases d0 with
      | true =>
        have hma := HBX.out (by rw [HBA.out]; rfl)
        have HMA := Keep.keep hma
        clear hma
        go_wp2_with fail
        go_ret
        exact ⟨by rw [HM2.out, HMA.out]; rfl, HW.out⟩
      | false =>
      cases d1 with
      | true =>
        have HMA := Keep.keep (HBX.out (by rw [HBA.out]; rfl))
        go_wp2_with fail
        go_ret
        exact ⟨by rw [HM2.out, HMA.out]; rfl, HW.out⟩
      | false =>
      go_wp2_with fail
      refine (HH0.out _).mono ?_
      rintro e w4 ⟨rfl, rfl⟩
      cases d2 with
      | true =>
        have HMA := Keep.keep (HBX.out (by rw [HBA.out]; rfl))
        go_wp2_with fail
        go_ret
        exact ⟨by rw [HM2.out, HMA.out]; rfl, HW.out⟩
      | false =>
      go_wp2_with fail
      refine (HH1.out _).mono ?_
      rintro e w4 ⟨rfl, rfl⟩
      cases d3 with
      | true =>
        have HMA := Keep.keep (HBX.out (by rw [HBA.out]; rfl))
        go_wp2_with fail
        go_ret
        exact ⟨by rw [HM2.out, HMA.out]; rfl, HW.out⟩
      | false =>
      go_wp2_with fail
      refine (HH2.out _).mono ?_
      rintro e w4 ⟨rfl, rfl⟩
      cases d4 with
      | true =>
        have HMA := Keep.keep (HBX.out (by rw [HBA.out]; rfl))
        go_wp2_with fail
        go_ret
        exact ⟨by rw [HM2.out, HMA.out]; rfl, HW.out⟩
      | false =>
      cases k with
      | zero =>
        have HBF := Keep.keep (HST.out (by rw [HBA.out]; rfl))
        go_wp2_with fail
        go_roundg g
        case measure => omega
        case rel => exact ⟨1, by omega, by simp, HBF.out, rfl⟩
      | succ j =>
        obtain ⟨y, hy, hcy⟩ := HPREV.out j rfl
        obtain ⟨yn, yv⟩ := y
        have HBB : Keep (bad = decide (xn ≤ yn)) := ⟨by rw [HBA.out]; simp only [hy]; rfl⟩
        unfold strV at hcy
        dsimp only at hcy
        have hls := less_lt yn xn
        have hns : (!decide (yn < xn)) = decide (xn ≤ yn) := by rw [Bool.eq_iff_iff]; simp
        have hgt : decide (((j + 1 : Nat) : Int) > 0) = true := decide_eq_true (by omega)
        have hgt2 : decide ((0 : Int) < ((j + 1 : Nat) : Int)) = true := decide_eq_true (by omega)
        have hsub : (((j + 1 : Nat) : Int) - 1) = (j : Int) := by omega
        obtain ⟨d5, hd5⟩ : ∃ b, decide (yn < xn) = b := ⟨_, rfl⟩
        rw [hd5] at hls hns
        rw [← hns] at HBB
        clear hns hd5 hy
        cases d5 with
        | false =>
          have HMA := Keep.keep (HBX.out (by rw [HBB.out]; rfl))
          go_wp2_with fail
          go_ret
          exact ⟨by rw [HM2.out, HMA.out]; rfl, HW.out⟩
        | true =>
          have HBF := Keep.keep (HST.out (by rw [HBB.out]; rfl))
          go_wp2_with fail
          go_roundg g
          case measure => omega
          case rel => exact ⟨j + 1 + 1, by omega, by simp, HBF.out, rfl⟩
set_option maxHeartbeats 1000000 in
set_option maxRecDepth 100000 in
theorem rmay18_any (m : Mb) (av dv : Value) (hsm : Sm m) (w : World) (hr : NdR w (· < w.heap.size) m.2 av dv) :
    Calls Tryz.prog 22 #[.agg (mbC m av dv)] w fun e w' => e = .returned (.bool (mayM m)) ∧ Below w.heap.size w w' := by
  have HCL := Keep.keep (fun wx => rclass_any m.1 hsm.p wx)
  have HTM : Keep (∀ wx, Below w.heap.size w wx → Calls Tryz.prog 48 #[.agg (mbC m av dv)] wx fun e w' => e = .returned (.bool (mayT m)) ∧ Below wx.heap.size wx w') :=
    ⟨fun wx h => rmay12_any m av dv hsm wx ((hr.below h (fun b hb => hb)).mono (fun b hb => Nat.lt_of_lt_of_le hb h.size))⟩
  have HMM : Keep (mayM m = (decide ((classP m.1).1 = 1) && mayT m)) := ⟨rfl⟩
  obtain ⟨ad, cd, hdv, -⟩ := hr.dt.shape
  obtain ⟨aa, ca, hav, -⟩ := hr.at_.shape
  obtain ⟨p, nd⟩ := m
  obtain ⟨kind, mode, uid, gid, time, attrs, data, link⟩ := nd
  clear hr hsm
  simp only at hdv hav
  subst hdv hav
  have HMC : Keep (mbC (p, ⟨kind, mode, uid, gid, time, attrs, data, link⟩) (.slice aa attrs.length ca) (.slice ad data.length cd) = #[.string ⟨p.toArray⟩, .int .i64 kind, .int .u32 mode, .int .u32 uid, .int .u32 gid, .int .i64 time, .slice aa attrs.length ca, .slice ad data.length cd, .string ⟨link.toArray⟩]) := ⟨rfl⟩
  rw [HMC.out] at HTM ⊢
  generalize mayM (p, ⟨kind, mode, uid, gid, time, attrs, data, link⟩) = mm at *
  generalize mayT (p, ⟨kind, mode, uid, gid, time, attrs, data, link⟩) = mt at *
  dsimp only at HCL HMM
  generalize classP p = cp at *
  obtain ⟨cl, tg⟩ := cp
  dsimp only at HCL HMM
  go_enter Tryz.func22, Tryz.ntmps22
  go_wp2_with fail
  refine calls_at (R := fun w1 => Hp NoM w w1 [rowA w.heap.size 32 #[.string ⟨p.toArray⟩, .int .i64 kind, .int .u32 mode, .int .u32 uid, .int .u32 gid, .int .i64 time, .slice aa attrs.length ca, .slice ad data.length cd, .string ⟨link.toArray⟩]]) ?_ ?_
  · exact (Hp.begin NoM w).newRow _ _
  intro w1 H1
  refine (HCL.out w1).mono ?_
  rintro e w2 ⟨rfl, hb2⟩
  have H2 := Keep.keep (H1.out.call hb2)
  have HRW := Keep.keep (H2.out.row 0 rfl)
  have HSZ : Keep ((#[.string ⟨p.toArray⟩, .int .i64 kind, .int .u32 mode, .int .u32 uid, .int .u32 gid, .int .i64 time, .slice aa attrs.length ca, .slice ad data.length cd, .string ⟨link.toArray⟩] : Array Value).size = 9) := ⟨rfl⟩
  clear hb2 H1
  by_cases h1 : cl = 1
  · have hb1 : (cl == 1) = true := by rw [h1]; rfl
    have HX : Keep (mm = mt) := ⟨by rw [HMM.out, decide_eq_true h1]; rfl⟩
    clear h1
    go_wp2_with ((with_reducible refine arm_loadRowG ?_ HRW.out aggM HSZ.out ?_ ?_); (focus rfl); (focus rfl); simp only [Act.put, List.setIfInBounds_toArray, List.set_cons_succ, List.set_cons_zero])
    refine (HTM.out w2 H2.out.below).mono ?_
    rintro e w3 ⟨rfl, hb3⟩
    have H3 := Keep.keep (H2.out.call hb3)
    clear hb3
    go_wp2_with fail
    go_ret
    exact ⟨by (rw [HX.out]) <;> rfl, H3.out.below⟩
  · have hb1 : (cl == 1) = false := by simpa using h1
    have HX : Keep (mm = false) := ⟨by rw [HMM.out, decide_eq_false h1]; rfl⟩
    clear h1
    go_wp2_with fail
    go_ret
    exact ⟨by (rw [HX.out]) <;> rfl, H2.out.below⟩
end Go.Proofs.YtphgmkhbhboklaaGreatDoor
/- A REGION THAT DRAWS ITS ORDER, ONE FACT AN OPERATION: what each operation yields is said of its value and of the world (a predicate that stays true when memory is added); an operation may use what is said of those that it waits for. -/
namespace Go.Proofs.YtphgmkhbhboklaaGreatDoor
open Go.RowKit
/-- what op i waits for -/
theorem waits_of {ops : Array Oper} {i j : Nat} {o : Oper} (ho : ops[i]? = some o) (h : Region.waitsFor .any ops i j = true) : ∃ e ∈ o.after, Region.binds .any e = true ∧ e.on = j := by
  obtain ⟨oj, h1, h2⟩ := Region.waitsFor_spec h
  obtain rfl := Option.some.inj (ho.symm.trans h1)
  exact h2
theorem getD_set_iff {d : Array Bool} {i j : Nat} (h : (d.setIfInBounds i true).getD j false = true) : i = j ∨ d.getD j false = true := by
  by_cases e : i = j
  · exact .inl e
  · right; simpa [Array.getD_eq_getD_getElem?, Array.getElem?_setIfInBounds_ne e] using h
theorem wpOp_dst {P : Program} {ops : Array Oper} {Q : Exit → Act → World → Prop} {K K' : Act → World → Prop} {i : Nat} {a : Act} {w : World} (h : ∀ a w, K a w → K' a w) (hh : wpOp P ops Q i K a w) : wpOp P ops Q i K' a w := wpOp_mono h hh
/-- D: the slots, one an operation; C: the class of worlds; St: what every operation does to the world; T i v w: what is said of operation i's value v in world w -/
theorem wp_region_spcS {P : Program} {ops : Array Oper} {id : Nat} {Q : Exit → Act → World → Prop} {a : Act} {w : World} (D : List Nat) (C : World → Prop) (T : Nat → Value → World → Prop) (St : World → World → Prop) (hm : P.follows .mixedOrders = true)
    (hD : ops.toList.map (·.dst) = D.map some) (hnd : D.Nodup) (hds : ∀ d ∈ D, d < a.tmps.size) (hB : inOrderB ops = true) (h0 : C w.drew)
    (hst : ∀ i v w w', T i v w → C w → St w w' → T i v w')
    (hs : ∀ i, i < ops.size → ∀ a1 w1, Fr a D a1 → C w1 → (∀ j, Region.waitsFor .any ops i j = true → T j (slot a1 (D.getD j 0)) w1) →
      wpOp P ops Q i (fun a2 w2 => ∃ v, a2 = a1.put (some (D.getD i 0)) v ∧ C w2 ∧ St w1 w2 ∧ T i v w2) a1 w1)
    (he : ∀ a1 w1, a1 = D.foldl (fun b d => b.put (some d) (slot a1 d)) a → C w1 → (∀ j, j < ops.size → T j (slot a1 (D.getD j 0)) w1) → Q .normal a1 w1) : (Code.region id ops true).wp P Q a w := by
  have hlen : D.length = ops.size := by have := congrArg List.length hD; simpa using this.symm
  have hmem : ∀ i, i < ops.size → D.getD i 0 ∈ D := fun i hi => by
    rw [List.getD_eq_getElem?_getD, List.getElem?_eq_getElem (by omega)]
    exact List.getElem_mem _
  have hinj : ∀ i j, i < ops.size → j < ops.size → D.getD i 0 = D.getD j 0 → i = j := fun i j hi hj h => by
    rw [List.getD_eq_getElem?_getD, List.getD_eq_getElem?_getD, List.getElem?_eq_getElem (by omega), List.getElem?_eq_getElem (by omega)] at h
    exact (List.getElem_inj hnd).1 h
  refine wp_region_fr D (fun done s w1 => C w1 ∧ ∀ j, j < ops.size → done.getD j false = true → T j (s (D.getD j 0)) w1) hm ⟨h0, fun j hj hd => ?_⟩ ?_ ?_
  · simp [Array.getD_eq_getD_getElem?, hj] at hd
  · intro done a1 w1 hF hI hz hcl i hi
    have hlt := ready_lt hi
    refine wpOp_mono ?_ (hs i hlt a1 w1 hF hI.1 (fun j hj => ?_))
    · rintro a2 w2 ⟨v, rfl, hC2, hb, hT⟩
      refine ⟨hF.put _ (hmem i hlt) v, hC2, fun j hj hd => ?_⟩
      by_cases e : i = j
      · subst e
        rw [slot_put_same _ _ _ (by rw [hF.size]; exact hds _ (hmem i hlt))]
        exact hT
      · have hd' := (getD_set_iff hd).resolve_left e
        rw [slot_put_ne _ _ _ _ (fun e2 => e (hinj i j hlt hj e2))]
        exact hst j _ _ _ (hI.2 j hj hd') hI.1 hb
    · obtain ⟨e, he1, he2, he3⟩ := waits_of (Array.getElem?_eq_getElem hlt) hj
      have hdn := (ready_at hi (Array.getElem?_eq_getElem hlt)).2 e he1 he2
      rw [he3] at hdn
      refine hI.2 j ?_ hdn
      rcases Nat.lt_or_ge j done.size with h | h
      · omega
      · simp [Array.getD_eq_getD_getElem?, Array.getElem?_eq_none h] at hdn
  · intro done a1 w1 ha hI hz hr
    exact he a1 w1 ha hI.1 (fun j hj => hI.2 j hj (all_done hB hz hr j hj))
/-- D: the slots, one an operation; C: the class of worlds; T i v w: what is said of operation i's value v in world w -/
theorem wp_region_spc {P : Program} {ops : Array Oper} {id : Nat} {Q : Exit → Act → World → Prop} {a : Act} {w : World} (D : List Nat) (C : World → Prop) (T : Nat → Value → World → Prop) (hm : P.follows .mixedOrders = true)
    (hD : ops.toList.map (·.dst) = D.map some) (hnd : D.Nodup) (hds : ∀ d ∈ D, d < a.tmps.size) (hB : inOrderB ops = true) (h0 : C w.drew)
    (hst : ∀ i v w w', T i v w → C w → Below w.heap.size w w' → T i v w')
    (hs : ∀ i, i < ops.size → ∀ a1 w1, Fr a D a1 → C w1 → (∀ j, Region.waitsFor .any ops i j = true → T j (slot a1 (D.getD j 0)) w1) →
      wpOp P ops Q i (fun a2 w2 => ∃ v, a2 = a1.put (some (D.getD i 0)) v ∧ C w2 ∧ Below w1.heap.size w1 w2 ∧ T i v w2) a1 w1)
    (he : ∀ a1 w1, a1 = D.foldl (fun b d => b.put (some d) (slot a1 d)) a → C w1 → (∀ j, j < ops.size → T j (slot a1 (D.getD j 0)) w1) → Q .normal a1 w1) : (Code.region id ops true).wp P Q a w :=
  wp_region_spcS D C T (fun w w' => Below w.heap.size w w') hm hD hnd hds hB h0 hst hs he
/-- an operation that yields a value at once -/
theorem spc_val {P : Program} {ops : Array Oper} {Q : Exit → Act → World → Prop} {C : World → Prop} {T : Nat → Value → World → Prop} {i d : Nat} {a1 : Act} {w1 w2 : World} {op : Op} {tp : TypeId} {pos : String} {af : Array Edge} {g : Option (Nat × Bool)} {v : Value}
    (hi : ops[i]? = some ⟨some d, op, tp, pos, af, g⟩) (hg : Region.wanted (⟨some d, op, tp, pos, af, g⟩ : Oper) (yielded ops a1.tmps) = true)
    (hr : (execOp a1.eval (⟨some d, op, tp, pos, af, g⟩ : Oper)).run P w1 = .ok (.value v) w2) (hC : C w2) (hb : Below w1.heap.size w1 w2) (hT : T i v w2) :
    wpOp P ops Q i (fun a2 w2 => ∃ v, a2 = a1.put (some d) v ∧ C w2 ∧ Below w1.heap.size w1 w2 ∧ T i v w2) a1 w1 := by
  unfold wpOp
  rw [hi]
  simp only
  rw [if_pos hg]
  refine .inl ?_
  unfold Oper.wp
  rw [hr]
  exact ⟨v, rfl, hC, hb, hT⟩
/-- an operation that calls -/
theorem spc_call {P : Program} {ops : Array Oper} {Q : Exit → Act → World → Prop} {C : World → Prop} {T : Nat → Value → World → Prop} {i d : Nat} {a1 : Act} {w1 : World} {f : FuncId} {args : Array Operand} {ts : Array TypeId} {tp : TypeId} {pos : String} {af : Array Edge} {g : Option (Nat × Bool)} {vs : Array Value}
    (hi : ops[i]? = some ⟨some d, .call ⟨.value (.func f), args, ts⟩, tp, pos, af, g⟩) (hg : Region.wanted (⟨some d, .call ⟨.value (.func f), args, ts⟩, tp, pos, af, g⟩ : Oper) (yielded ops a1.tmps) = true)
    (hent : Enters P f) (hargs : args.map a1.eval = vs) (hc : Calls P f vs w1 fun e w2 => ∃ v, e = .returned v ∧ C w2 ∧ Below w1.heap.size w1 w2 ∧ T i v w2) :
    wpOp P ops Q i (fun a2 w2 => ∃ v, a2 = a1.put (some d) v ∧ C w2 ∧ Below w1.heap.size w1 w2 ∧ T i v w2) a1 w1 := by
  unfold wpOp
  rw [hi]
  simp only
  rw [if_pos hg]
  refine .inl ?_
  unfold Oper.wp
  have : (execOp a1.eval (⟨some d, .call ⟨.value (.func f), args, ts⟩, tp, pos, af, g⟩ : Oper)).run P w1 = .ok (.enter f vs) w1 := by
    have h1 : a1.eval (.func f) = .func (.func f) #[] #[] := rfl
    unfold execOp
    simp only [resolve, Deferred.ofValue, hargs, h1, invoke, Sem.run_bind, Sem.run_pure, Result.andThen_ok]
    simp [hent vs w1]
  rw [this, Oper.upon_enter]
  refine hc.mono ?_
  rintro e w2 ⟨v, rfl, h⟩
  exact ⟨v, rfl, h⟩
/-- an operation that yields a value at once -/
theorem spcS_val {P : Program} {ops : Array Oper} {Q : Exit → Act → World → Prop} {C : World → Prop} {T : Nat → Value → World → Prop} {St : World → World → Prop} {i d : Nat} {a1 : Act} {w1 w2 : World} {op : Op} {tp : TypeId} {pos : String} {af : Array Edge} {g : Option (Nat × Bool)} {v : Value}
    (hi : ops[i]? = some ⟨some d, op, tp, pos, af, g⟩) (hg : Region.wanted (⟨some d, op, tp, pos, af, g⟩ : Oper) (yielded ops a1.tmps) = true)
    (hr : (execOp a1.eval (⟨some d, op, tp, pos, af, g⟩ : Oper)).run P w1 = .ok (.value v) w2) (hC : C w2) (hb : St w1 w2) (hT : T i v w2) :
    wpOp P ops Q i (fun a2 w2 => ∃ v, a2 = a1.put (some d) v ∧ C w2 ∧ St w1 w2 ∧ T i v w2) a1 w1 := by
  unfold wpOp
  rw [hi]
  simp only
  rw [if_pos hg]
  refine .inl ?_
  unfold Oper.wp
  rw [hr]
  exact ⟨v, rfl, hC, hb, hT⟩
/-- an operation that calls -/
theorem spcS_call {P : Program} {ops : Array Oper} {Q : Exit → Act → World → Prop} {C : World → Prop} {T : Nat → Value → World → Prop} {St : World → World → Prop} {i d : Nat} {a1 : Act} {w1 : World} {f : FuncId} {args : Array Operand} {ts : Array TypeId} {tp : TypeId} {pos : String} {af : Array Edge} {g : Option (Nat × Bool)} {vs : Array Value}
    (hi : ops[i]? = some ⟨some d, .call ⟨.value (.func f), args, ts⟩, tp, pos, af, g⟩) (hg : Region.wanted (⟨some d, .call ⟨.value (.func f), args, ts⟩, tp, pos, af, g⟩ : Oper) (yielded ops a1.tmps) = true)
    (hent : Enters P f) (hargs : args.map a1.eval = vs) (hc : Calls P f vs w1 fun e w2 => ∃ v, e = .returned v ∧ C w2 ∧ St w1 w2 ∧ T i v w2) :
    wpOp P ops Q i (fun a2 w2 => ∃ v, a2 = a1.put (some d) v ∧ C w2 ∧ St w1 w2 ∧ T i v w2) a1 w1 := by
  unfold wpOp
  rw [hi]
  simp only
  rw [if_pos hg]
  refine .inl ?_
  unfold Oper.wp
  have : (execOp a1.eval (⟨some d, .call ⟨.value (.func f), args, ts⟩, tp, pos, af, g⟩ : Oper)).run P w1 = .ok (.enter f vs) w1 := by
    have h1 : a1.eval (.func f) = .func (.func f) #[] #[] := rfl
    unfold execOp
    simp only [resolve, Deferred.ofValue, hargs, h1, invoke, Sem.run_bind, Sem.run_pure, Result.andThen_ok]
    simp [hent vs w1]
  rw [this, Oper.upon_enter]
  refine hc.mono ?_
  rintro e w2 ⟨v, rfl, h⟩
  exact ⟨v, rfl, h⟩
theorem wanted_none {o : Oper} {y : Nat → Option Bool} (h : o.guard = none) : Region.wanted o y = true := by simp [Region.wanted, h]
theorem wanted_of {ops : Array Oper} {o : Oper} {a : Act} {g d : Nat} {b : Bool} (ho : o.guard = some (g, b)) (hog : (ops[g]?).bind (·.dst) = some d) (hv : slot a d = .bool b) : Region.wanted o (yielded ops a.tmps) = true := by
  have h1 : a.tmps[d]? = some (.bool b) := by
    unfold slot at hv
    rcases Nat.lt_or_ge d a.tmps.size with h | h
    · simpa [Array.getD_eq_getD_getElem?, h] using hv
    · simp [Array.getD_eq_getD_getElem?, Array.getElem?_eq_none h, undef] at hv
  have h2 : yielded ops a.tmps g = some b := by simp [yielded, hog, h1]
  simp [Region.wanted, ho, h2]
section
variable {P : Program} {ρ : Operand → Value} {d : Option Tmp} {x y c m n : Operand} {t t1 t2 : TypeId} {pos : String} {af : Array Edge} {g : Option (Nat × Bool)} {w : World}
theorem run_pickT (hc : ρ c = .bool true) : (execOp ρ (⟨d, .pick c x y, t, pos, af, g⟩ : Oper)).run P w = .ok (.value (ρ x)) w := by
  simp [execOp, hc, asBool]
theorem run_pickF (hc : ρ c = .bool false) : (execOp ρ (⟨d, .pick c x y, t, pos, af, g⟩ : Oper)).run P w = .ok (.value (ρ y)) w := by
  simp [execOp, hc, asBool]
theorem run_lenSl {a : Option Addr} {k cap : Nat} {e : TypeId} (hu : P.underlying t1 = some (.slice e)) (hx : ρ x = .slice a k cap) : (execOp ρ (⟨d, .call ⟨.builtin .len, #[x], #[t1]⟩, t, pos, af, g⟩ : Oper)).run P w = .ok (.value (.int .i64 (k : Int))) w := by
  simp [execOp, resolve, invoke, builtin, Builtin.len_, hx, run_underlying hu]
  rfl
theorem run_slB {lo hi mx : Option Operand} {v : Value} (h : (Instr.sliceAt t1 (ρ x) (lo.map ρ) (hi.map ρ) (mx.map ρ)).run P w = .ok v w) : (execOp ρ (⟨d, .slice t1 x lo hi mx, t, pos, af, g⟩ : Oper)).run P w = .ok (.value v) w := by
  simp [execOp, h]
theorem run_mkB {v : Value} {w' : World} (h : (Instr.makeSlice t1 (ρ m) (ρ n)).run P w = .ok v w') : (execOp ρ (⟨d, .makeSlice t1 m n, t, pos, af, g⟩ : Oper)).run P w = .ok (.value v) w' := by
  simp [execOp, h]
end
end Go.Proofs.YtphgmkhbhboklaaGreatDoor
/- slices.Clone of attributes and of bytes; tree.clone. -/
namespace Go.Proofs.YtphgmkhbhboklaaGreatDoor
open Go.RowKit
theorem slAt : SlK Tryz.prog 28 85 (.agg #[.string ⟨#[]⟩, .string ⟨#[]⟩]) 2 32 := SlK.mk' Tryz.underlying28 (by kernel_rfl) rfl (by decide)
theorem slBy : SlTy Tryz.prog 23 5 (.int .u8 0) 1 := SlTy.mk' Tryz.underlying23 (by kernel_rfl) rfl
theorem nilA (p : Addr) (n cap : Nat) (w : World) : (binOp .eql 28 (.slice (some p) n cap) (.slice none 0 0)).run Tryz.prog w = .ok (.bool false) w := by kernel_rfl
theorem nilA' (w : World) : (binOp .eql 28 (.slice none 0 0) (.slice none 0 0)).run Tryz.prog w = .ok (.bool true) w := by kernel_rfl
theorem nilB (p : Addr) (n cap : Nat) (w : World) : (binOp .eql 23 (.slice (some p) n cap) (.slice none 0 0)).run Tryz.prog w = .ok (.bool false) w := by kernel_rfl
theorem nilB' (w : World) : (binOp .eql 23 (.slice none 0 0) (.slice none 0 0)).run Tryz.prog w = .ok (.bool true) w := by kernel_rfl
/-- blocks laid since B -/
def Fresh (B : Nat) (w : World) (b : Nat) : Prop := B ≤ b ∧ b < w.heap.size
theorem Fresh.mono {B B' : Nat} {w w' : World} (hB : B' ≤ B) (hs : w.heap.size ≤ w'.heap.size) (b : Nat) (h : Fresh B w b) : Fresh B' w' b := ⟨Nat.le_trans hB h.1, Nat.lt_of_lt_of_le h.2 hs⟩
set_option maxHeartbeats 1000000 in
set_option maxRecDepth 100000 in
theorem clA_own (v : Value) (l : List R2) (w : World) (hv : RdV w (· < w.heap.size) 2 v l.length (rcells l)) (hl : l.length ≤ 1000000) :
    Calls Tryz.prog 59 #[v] w fun e w' => ∃ v', e = .returned v' ∧ w'.ownsRow w.heap.size 85 2 v' l.length (rcells l) ∧ Below w.heap.size w w' := by
  obtain ⟨a, cap, rfl, h1, h2, h3⟩ := hv.shape
  have HV := Keep.keep hv
  clear hv
  unfold maxLen at h2
  obtain ⟨n, hn⟩ : ∃ n, l.length = n := ⟨_, rfl⟩
  have HN := Keep.keep hn
  rw [hn] at hl h1 HV ⊢
  clear hn
  cases a with
  | none =>
    obtain ⟨rfl, rfl⟩ : n = 0 ∧ cap = 0 := by
      rcases h3 with h3 | ⟨b, off, h3, _⟩
      · omega
      · cases h3
    have hnil := nilA'
    clear h3
    go_enter Tryz.func59, Tryz.ntmps59
    go_wp2_with fail
    go_ret
    have hl0 : l = [] := List.eq_nil_of_length_eq_zero HN.out
    refine ⟨_, rfl, ?_, Below.refl _ _⟩
    rw [hl0]
    exact World.ownsRow_nil _ _ _ _
  | some p =>
    have hnil := nilA p n cap
    clear h3
    go_enter Tryz.func59, Tryz.ntmps59
    go_wp2_with (with_reducible refine arm_stop ?_)
    refine Stopped.out ?_
    refine arm_appendV slAt (m := n) (ownsV_new (base := w.heap.size) 85 [] 2 0 w.heap.size rfl (Nat.le_refl _) rfl (by unfold maxLen; omega)) (HV.out.below ((Below.refl _ _).alloc (Nat.le_refl _) _) (fun b hb => hb)) (rcells_one l) (by unfold maxLen; omega) (by omega) (by simp) rfl rfl ?_
    intro v1 w1 ho hg hb _
    rw [Nat.zero_add, List.nil_append] at ho
    have HO := Keep.keep ho
    have HG : Keep (Below w.heap.size w w1) := ⟨((Below.refl _ _).alloc (Nat.le_refl _) (.cells [].toArray 85)).grown hg (by simp) (fun j hj => by
      simp only [Value.ownBlock, Option.some.injEq] at hj; omega)⟩
    clear ho hg hb
    obtain ⟨a1, c1, hv1, -⟩ := (ownsV_reads HO.out).shape
    subst hv1
    simp only [Act.put, List.setIfInBounds_toArray, List.set_cons_succ, List.set_cons_zero]
    go_wp2_with fail
    go_ret
    exact ⟨_, rfl, HO.out, HG.out⟩
set_option maxHeartbeats 1000000 in
set_option maxRecDepth 100000 in
theorem clB_own (v : Value) (l : Tx) (w : World) (hv : Reads w (· < w.heap.size) v l) (hl : l.length ≤ 16777216) :
    Calls Tryz.prog 60 #[v] w fun e w' => ∃ v', e = .returned v' ∧ Owns w' w.heap.size 5 v' l ∧ Below w.heap.size w w' := by
  obtain ⟨a, cap, rfl, h1, h2, h3⟩ := hv.shape
  have HV := Keep.keep hv
  clear hv
  unfold maxLen at h2
  obtain ⟨n, hn⟩ : ∃ n, l.length = n := ⟨_, rfl⟩
  have HN := Keep.keep hn
  rw [hn] at hl h1 HV ⊢
  clear hn
  cases a with
  | none =>
    obtain ⟨rfl, rfl⟩ : n = 0 ∧ cap = 0 := by
      rcases h3 with h3 | ⟨b, off, h3, _⟩
      · omega
      · cases h3
    have hnil := nilB'
    clear h3
    go_enter Tryz.func60, Tryz.ntmps60
    go_wp2_with fail
    go_ret
    have hl0 : l = [] := List.eq_nil_of_length_eq_zero HN.out
    refine ⟨_, rfl, ?_, Below.refl _ _⟩
    rw [hl0]
    exact Owns.nil _ _ _
  | some p =>
    have hnil := nilB p n cap
    clear h3
    go_enter Tryz.func60, Tryz.ntmps60
    go_wp2_with (with_reducible refine arm_stop ?_)
    refine Stopped.out ?_
    refine arm_append slBy (l := []) (m := l) (ownsV_new (base := w.heap.size) 5 [] 1 0 w.heap.size rfl (Nat.le_refl _) rfl (by unfold maxLen; omega)) (HV.out.below ((Below.refl _ _).alloc (Nat.le_refl _) _) (fun b hb => hb)) (by rw [HN.out, List.length_nil]; omega) (by simp) rfl rfl ?_
    intro v1 w1 ho hg hb
    rw [List.nil_append] at ho
    have HO := Keep.keep ho
    have HG : Keep (Below w.heap.size w w1) := ⟨((Below.refl _ _).alloc (Nat.le_refl _) (.cells [].toArray 5)).grown hg (by simp) (fun j hj => by
      simp only [Value.ownBlock, Option.some.injEq] at hj; omega)⟩
    clear ho hg hb
    obtain ⟨a1, c1, hv1, -⟩ := HO.out.reads.shape
    subst hv1
    simp only [Act.put, List.setIfInBounds_toArray, List.set_cons_succ, List.set_cons_zero]
    go_wp2_with fail
    go_ret
    exact ⟨_, rfl, HO.out, HG.out⟩
theorem clA_any (v : Value) (l : List R2) (w : World) (hv : RdV w (· < w.heap.size) 2 v l.length (rcells l)) (hl : l.length ≤ 1000000) :
    Calls Tryz.prog 59 #[v] w fun e w' => ∃ v', e = .returned v' ∧ RdV w' (Fresh w.heap.size w') 2 v' l.length (rcells l) ∧ Below w.heap.size w w' :=
  (clA_own v l w hv hl).mono (fun _ _ ⟨v', he, ho, hb⟩ => ⟨v', he, (ownsV_reads ho).mono (fun _b hb => ⟨hb.1, hb.2.1⟩), hb⟩)
theorem clB_any (v : Value) (l : Tx) (w : World) (hv : Reads w (· < w.heap.size) v l) (hl : l.length ≤ 16777216) :
    Calls Tryz.prog 60 #[v] w fun e w' => ∃ v', e = .returned v' ∧ Reads w' (Fresh w.heap.size w') v' l ∧ Below w.heap.size w w' :=
  (clB_own v l w hv hl).mono (fun _ _ ⟨v', he, ho, hb⟩ => ⟨v', he, ho.reads.mono (fun _b hb => ⟨hb.1, hb.2.1⟩), hb⟩)
end Go.Proofs.YtphgmkhbhboklaaGreatDoor
/- A REGION THAT DRAWS ITS ORDER: its first n operations in any order, one fact each (as in Spc); then a tail in one forced order, walked as a list. -/
namespace Go.Proofs.YtphgmkhbhboklaaGreatDoor
open Go.RowKit
theorem cnt_set (n i : Nat) (hi : i < n) (p p' : Nat → Bool) (h1 : p i = true) (h2 : p' i = false) (h3 : ∀ j, j ≠ i → p' j = p j) : (List.range n).countP p = (List.range n).countP p' + 1 := by
  induction n with
  | zero => omega
  | succ n ih =>
    rw [List.range_succ, List.countP_append, List.countP_append]
    by_cases e : i = n
    · subst e
      have : (List.range i).countP p = (List.range i).countP p' := List.countP_congr (fun j hj => by
        have : j ≠ i := by have := List.mem_range.1 hj; omega
        rw [h3 j this])
      rw [this]
      simp [h1, h2]
    · rw [ih (by omega)]
      have : p' n = p n := h3 n (fun h => e h.symm)
      simp only [List.countP_cons, this, List.countP_nil]
      omega
def headDone (n m : Nat) : Array Bool := (List.replicate n true ++ List.replicate (m - n) false).toArray
theorem wp_region_spcT {P : Program} {l : List Oper} {id : Nat} {Q : Exit → Act → World → Prop} {a : Act} {w : World} (n : Nat) (D : List Nat) (C : World → Prop) (T : Nat → Value → World → Prop) (St : World → World → Prop) (hm : P.follows .mixedOrders = true)
    (hD : (l.take n).map (·.dst) = D.map some) (hnd : D.Nodup) (hds : ∀ d ∈ D, d < a.tmps.size) (hio : inOrderB l.toArray = true) (hn : n < l.length) (hsk : Region.sinkB .any l.toArray n = true) (hch : Region.chainB .any l.toArray n = true)
    (hsq : Region.seqB .any l.toArray (l.length - n) n (headDone n l.length) = true) (h0 : C w.drew)
    (hst : ∀ i v w w', T i v w → C w → St w w' → T i v w')
    (hs : ∀ i, i < n → ∀ a1 w1, Fr a D a1 → C w1 → (∀ j, j < n → Region.waitsFor .any l.toArray i j = true → T j (slot a1 (D.getD j 0)) w1) →
      wpOp P l.toArray Q i (fun a2 w2 => ∃ v, a2 = a1.put (some (D.getD i 0)) v ∧ C w2 ∧ St w1 w2 ∧ T i v w2) a1 w1)
    (he : ∀ a1 w1, a1 = D.foldl (fun b d => b.put (some d) (slot a1 d)) a → C w1 → (∀ j, j < n → T j (slot a1 (D.getD j 0)) w1) → wpList P l.toArray Q (l.drop n) a1 w1) : (Code.region id l.toArray true).wp P Q a w := by
  have hlen : D.length = n := by have := congrArg List.length hD; simp at this; omega
  have hmem : ∀ i, i < n → D.getD i 0 ∈ D := fun i hi => by
    rw [List.getD_eq_getElem?_getD, List.getElem?_eq_getElem (by omega)]
    exact List.getElem_mem _
  have hinj : ∀ i j, i < n → j < n → D.getD i 0 = D.getD j 0 → i = j := fun i j hi hj h => by
    rw [List.getD_eq_getElem?_getD, List.getD_eq_getElem?_getD, List.getElem?_eq_getElem (by omega), List.getElem?_eq_getElem (by omega)] at h
    exact (List.getElem_inj hnd).1 h
  have hsz : l.toArray.size = l.length := by simp
  have key : ∀ (f : Nat) (done : Array Bool) (a1 : Act) (w1 : World), HeadInv .any l.toArray n done → Fr a D a1 → C w1 → (∀ j, j < n → done.getD j false = true → T j (slot a1 (D.getD j 0)) w1) →
      (List.range n).countP (fun j => !done.getD j false) = f → wpAny P .any l.toArray Q (f + (l.length - n)) done a1 w1 := by
    intro f
    induction f with
    | zero =>
      intro done a1 w1 inv hF hC hT hc
      have hall : ∀ j, j < n → done.getD j false = true := fun j hj => by
        have := List.countP_eq_zero.1 hc j (List.mem_range.2 hj)
        simpa using this
      have hdn : done = headDone n l.length := by
        have hs1 : done.size = l.length := by rw [inv.size, hsz]
        refine Array.ext (by simp [headDone, hs1]; omega) (fun j h1 h2 => ?_)
        have hj2 : j < l.length := by omega
        by_cases hj : j < n
        · have := hall j hj
          rw [Array.getD_eq_getD_getElem?, Array.getElem?_eq_getElem h1] at this
          simp only [Option.getD_some] at this
          rw [this]
          simp [headDone, hj]
        · have := inv.tail j (by omega) (by omega)
          rw [Array.getD_eq_getD_getElem?, Array.getElem?_eq_getElem h1] at this
          simp only [Option.getD_some] at this
          rw [this]
          simp [headDone, List.getElem_append, hj]
      have hw := he a1 w1 hF.eq hC (fun j hj => hT j hj (hall j hj))
      have hdl : (l.drop n).length = l.length - n := by simp
      have := wpAny_of_seq (md := .any) (ops := l.toArray) (Q' := Q) (l.drop n) n done a1 w1 (fun j => by simp [List.getElem?_drop]) (by rw [hdl, hdn]; exact hsq) hw
      rw [hdl] at this
      rwa [Nat.zero_add]
    | succ f ih =>
      intro done a1 w1 inv hF hC hT hc
      obtain ⟨j0, hj0, hu0⟩ : ∃ j0, j0 < n ∧ done.getD j0 false = false := by
        have : 0 < (List.range n).countP (fun j => !done.getD j false) := by omega
        obtain ⟨j, hj, hp⟩ := List.countP_pos_iff.1 this
        exact ⟨j, List.mem_range.1 hj, by simpa using hp⟩
      have e : f + 1 + (l.length - n) = (f + (l.length - n)) + 1 := by omega
      rw [e]
      refine ⟨fun hr => ?_, fun i hi => ?_⟩
      · have := all_done hio inv.size hr j0 (by rw [hsz]; omega)
        rw [hu0] at this; cases this
      · have hin : i < n := Nat.lt_of_not_le fun hle => tail_waits hsk hch (by rw [hsz]; exact hn) inv _ j0 rfl hj0 (getD_in (by rw [inv.size, hsz]; omega) hu0) i hle hi
        obtain ⟨hun, oi, hoi, hall⟩ := mem_ready.1 hi
        refine wpOp_mono ?_ (hs i hin a1 w1 hF hC (fun j hjn hj => ?_))
        · rintro a2 w2 ⟨v, rfl, hC2, hb, hTi⟩
          refine ih _ _ _ (inv.set hi hin) (hF.put _ (hmem i hin) v) hC2 (fun j hj hd => ?_) ?_
          · by_cases e : i = j
            · subst e
              rw [slot_put_same _ _ _ (by rw [hF.size]; exact hds _ (hmem i hin))]
              exact hTi
            · have hd' := (getD_set_iff hd).resolve_left e
              rw [slot_put_ne _ _ _ _ (fun e2 => e (hinj i j hin hj e2))]
              exact hst j _ _ _ (hT j hj hd') hC hb
          · have hisz : i < done.size := by rw [inv.size, hsz]; omega
            have := cnt_set n i hin (fun j => !done.getD j false) (fun j => !(done.setIfInBounds i true).getD j false) (by
              have := getD_both hun
              simp [this]) (by simp [Array.getD_eq_getD_getElem?, hisz]) (fun j hj => by
              have : i ≠ j := fun e => hj e.symm
              simp [Array.getD_eq_getD_getElem?, Array.getElem?_setIfInBounds_ne this])
            omega
        · obtain ⟨ed, he1, he2, he3⟩ := waits_of hoi hj
          have hdn := hall ed he1 he2
          rw [he3] at hdn
          exact hT j hjn hdn
  refine wp_region_any hm ?_
  have inv : HeadInv .any l.toArray n (Array.replicate l.toArray.size false) := by
    refine ⟨by simp, fun j oj _ hl => ?_, fun t _ ht => getD_in (by simpa using ht) (getD_replicate_false _ _)⟩
    rw [getD_replicate_false] at hl; cases hl
  have hcn : (List.range n).countP (fun j => !(Array.replicate l.toArray.size false).getD j false) = n := by
    rw [List.countP_eq_length.2 (fun j _ => by rw [getD_replicate_false]; rfl), List.length_range]
  have := key n _ a w.drew inv (Fr.refl a D) h0 (fun j hj hd => by rw [getD_replicate_false] at hd; cases hd) hcn
  rw [show n + (l.length - n) = l.toArray.size by rw [hsz]; omega] at this
  exact this
end Go.Proofs.YtphgmkhbhboklaaGreatDoor
/- tree.clone: a node that lives apart. -/
namespace Go.Proofs.YtphgmkhbhboklaaGreatDoor
open Go.RowKit
def zeroNd : Array Value := #[.int .i64 0, .int .u32 0, .int .u32 0, .int .u32 0, .int .i64 0, .slice none 0 0, .slice none 0 0, .string ⟨#[]⟩]
def clT (n : Nd) (B b0 : Nat) (av dv : Value) : Nat → Value → World → Prop
  | 0, v, _ => v = .pointer (some ⟨b0, 5, none⟩)
  | 1, v, _ => v = av
  | 2, v, w => w.ownsRow B 85 2 v n.attrs.length (rcells n.attrs)
  | 3, v, _ => v = .pointer (some ⟨b0, 6, none⟩)
  | 4, v, _ => v = dv
  | 5, v, w => Owns w B 5 v n.data
  | _, v, _ => v = .pointer (some ⟨b0, 5, none⟩)
theorem clT_stays {n : Nd} {B b0 : Nat} {av dv : Value} (k : Nat) (v : Value) (w w' : World) (h : clT n B b0 av dv k v w) (hb : Below w.heap.size w w') : clT n B b0 av dv k v w' := by
  unfold clT at h ⊢
  split at h
  · exact h
  · exact h
  · exact ownsRow_loc _ _ (fun b hb' => hb.block b (World.ownsRow.lt h b hb').2) h
  · exact h
  · exact h
  · exact ownsRow_loc _ _ (fun b hb' => hb.block b (World.ownsRow.lt h b hb').2) h
  · exact h
/-- a node of one's own: its slices read, and are rows of their types -/
structure NdO (w : World) (N : Nat → Prop) (n : Nd) (av dv : Value) : Prop where
  r : NdR w N n av dv
  ta : ∀ b off m cap, av = .slice (some ⟨b, off, none⟩) m cap → N b ∧ ∃ c, Row w b 85 c
  td : ∀ b off m cap, dv = .slice (some ⟨b, off, none⟩) m cap → N b ∧ ∃ c, Row w b 5 c
theorem NdO.shape {w : World} {N : Nat → Prop} {n : Nd} {av dv : Value} (h : NdO w N n av dv) : ∃ aa la ca ad ld cd, av = .slice aa la ca ∧ dv = .slice ad ld cd := by
  obtain ⟨aa, ca, e1, -⟩ := h.r.at_.shape
  obtain ⟨ad, cd, e2, -⟩ := h.r.dt.shape
  exact ⟨aa, _, ca, ad, _, cd, e1, e2⟩
theorem NdO.mono {w : World} {N N' : Nat → Prop} {n : Nd} {av dv : Value} (h : NdO w N n av dv) (hN : ∀ b, N b → N' b) : NdO w N' n av dv :=
  ⟨h.r.mono hN, fun b off m cap e => ⟨hN b (h.ta b off m cap e).1, (h.ta b off m cap e).2⟩, fun b off m cap e => ⟨hN b (h.td b off m cap e).1, (h.td b off m cap e).2⟩⟩
theorem NdO.below {N : Nat → Prop} {w w' : World} {B : Nat} {n : Nd} {av dv : Value} (h : NdO w N n av dv) (hb : Below B w w') (hN : ∀ b, N b → b < B) : NdO w' N n av dv :=
  ⟨h.r.below hb hN, fun b off m cap e => by
    obtain ⟨h1, c, h2⟩ := h.ta b off m cap e
    exact ⟨h1, c, h2.below hb (hN b h1)⟩, fun b off m cap e => by
    obtain ⟨h1, c, h2⟩ := h.td b off m cap e
    exact ⟨h1, c, h2.below hb (hN b h1)⟩⟩
theorem NdO.chg {M N : Nat → Prop} {w w' : World} {B : Nat} {n : Nd} {av dv : Value} (h : NdO w N n av dv) (hb : Chg M B w w') (hN : ∀ b, N b → b < B ∧ ¬ M b) : NdO w' N n av dv :=
  ⟨h.r.chg hb hN, fun b off m cap e => by
    obtain ⟨h1, c, h2⟩ := h.ta b off m cap e
    exact ⟨h1, c, h2.chg hb (hN b h1).1 (hN b h1).2⟩, fun b off m cap e => by
    obtain ⟨h1, c, h2⟩ := h.td b off m cap e
    exact ⟨h1, c, h2.chg hb (hN b h1).1 (hN b h1).2⟩⟩
theorem owns_typed {w : World} {base k n : Nat} {e : TypeId} {v : Value} {vs : List Value} (h : w.ownsRow base e k v n vs) : ∀ b off m cap, v = .slice (some ⟨b, off, none⟩) m cap → Fresh base w b ∧ ∃ c, Row w b e c := by
  intro b off m cap he
  rcases h.2 with ⟨h1, _⟩ | ⟨g, cap', cur, h1, h2, h3, _⟩
  · rw [h1] at he; cases he
  · rw [h1] at he
    injection he with e1 _ _; injection e1 with e1; injection e1 with e1 _ _; subst e1
    exact ⟨⟨h2, (Array.getElem?_eq_some_iff.1 h3).1⟩, cur, h3⟩
theorem NdO.ofOwn {w : World} {B : Nat} {n : Nd} {av dv : Value} (ha : w.ownsRow B 85 2 av n.attrs.length (rcells n.attrs)) (hd : Owns w B 5 dv n.data) : NdO w (Fresh B w) n av dv :=
  ⟨⟨(ownsV_reads ha).mono (fun _b hb => ⟨hb.1, hb.2.1⟩), hd.reads.mono (fun _b hb => ⟨hb.1, hb.2.1⟩)⟩, owns_typed ha, owns_typed hd⟩
set_option maxHeartbeats 2000000 in
set_option maxRecDepth 100000 in
theorem clone_own (n : Nd) (av dv : Value) (w : World) (hr : NdR w (· < w.heap.size) n av dv) (ha : n.attrs.length ≤ 1000000) (hd : n.data.length ≤ 16777216) :
    Calls Tryz.prog 31 #[.agg (ndC n av dv)] w fun e w' => ∃ av' dv', e = .returned (.agg (ndC n av' dv')) ∧ NdO w' (Fresh w.heap.size w') n av' dv' ∧ Below w.heap.size w w' := by
  have HR := Keep.keep hr
  obtain ⟨aa, ca, hav, -⟩ := hr.at_.shape
  obtain ⟨ad, cd, hdv, -⟩ := hr.dt.shape
  obtain ⟨kind, mode, uid, gid, time, attrs, data, link⟩ := n
  obtain ⟨nd, hnd⟩ : ∃ nd : Nd, (⟨kind, mode, uid, gid, time, attrs, data, link⟩ : Nd) = nd := ⟨_, rfl⟩
  have HND : Keep (nd.attrs = attrs ∧ nd.data = data ∧ (∀ x y, ndC nd x y = #[.int .i64 kind, .int .u32 mode, .int .u32 uid, .int .u32 gid, .int .i64 time, x, y, .string ⟨link.toArray⟩])) := ⟨by subst hnd; exact ⟨rfl, rfl, fun _ _ => rfl⟩⟩
  rw [hnd] at HR ⊢
  rw [HND.out.2.2]
  simp only at hav hdv ha hd
  obtain ⟨la, hla⟩ : ∃ la, attrs.length = la := ⟨_, rfl⟩
  obtain ⟨ld, hld⟩ : ∃ ld, data.length = ld := ⟨_, rfl⟩
  rw [hla] at hav ha; rw [hld] at hdv hd
  have HLA : Keep (nd.attrs.length = la) := ⟨by rw [HND.out.1]; exact hla⟩
  have HLD : Keep (nd.data.length = ld) := ⟨by rw [HND.out.2.1]; exact hld⟩
  clear hr hnd hla hld
  have HAV := Keep.keep hav; have HDV := Keep.keep hdv
  subst hav hdv
  go_enter Tryz.func31, Tryz.ntmps31
  go_upto_region 1 with fail
  refine wp_world (R := fun w1 => Hp NoM w w1 [rowA w.heap.size 30 #[.int .i64 kind, .int .u32 mode, .int .u32 uid, .int .u32 gid, .int .i64 time, .slice aa la ca, .slice ad ld cd, .string ⟨link.toArray⟩], rowA (w.heap.size + 1) 30 zeroNd]) ?_ ?_
  · refine ((Hp.begin NoM w).newRow _ _).newRow' _ _ _ _ (by simp) rfl
  intro w1 H1
  obtain ⟨b0, hb0⟩ : ∃ b0, w.heap.size = b0 := ⟨_, rfl⟩
  have HB0 := Keep.keep hb0
  have hsz1 := (H1.out.row 1 rfl).lt
  rw [hb0] at H1 hsz1 ⊢
  clear hb0
  refine wp_region_spcT 7 [3, 4, 5, 6, 7, 8, 9] (Below w1.heap.size w1) (clT nd w1.heap.size b0 (.slice aa la ca) (.slice ad ld cd)) (fun w w' => Below w.heap.size w w') (by kernel_rfl) rfl (by decide) (by show ∀ d ∈ _, d < 12; decide) (by kernel_rfl) (by decide) (by kernel_rfl) (by kernel_rfl) (by kernel_rfl) (Below.refl _ _).drew (fun i v w w' h _ hb => clT_stays i v w w' h hb) ?_ ?_
  · intro k hk a1 w2 hF hC hT
    have b1 : a1.eval (.tmp 1) = .pointer (some ⟨b0, 0, none⟩) := (hF.same 1 (by decide)).trans rfl
    have HP := H1.out.call hC
    have hkr : Below w2.heap.size w2 w2 := Below.refl _ _
    have HR2 := HR.out.below HP.below (fun b hb => hb)
    have hle : w.heap.size ≤ w2.heap.size := HP.size
    rcases (by omega : k = 0 ∨ k = 1 ∨ k = 2 ∨ k = 3 ∨ k = 4 ∨ k = 5 ∨ k = 6) with rfl | rfl | rfl | rfl | rfl | rfl | rfl
    · exact spcS_val (d := 3) rfl (wanted_none rfl) (run_fieldAddr (m := 0) Tryz.underlying30 rfl (by kernel_rfl) b1) hC hkr rfl
    · have hx : a1.eval (.tmp 3) = .pointer (some ⟨b0, 5, none⟩) := hT 0 (by decide) (by kernel_rfl)
      exact spcS_val (d := 4) rfl (wanted_none rfl) (run_loadCell (run_isAgg_plain Tryz.underlying28 rfl) ((HP.row 0 rfl).cell (i := 5) rfl) hx) hC hkr rfl
    · have hx : a1.eval (.tmp 4) = .slice aa la ca := hT 1 (by decide) (by kernel_rfl)
      refine spcS_call (d := 5) (vs := #[.slice aa la ca]) rfl (wanted_none rfl) (Go.Proofs.enters_of Tryz.func59 (by kernel_rfl) rfl) (by simp [hx]) ?_
      refine (clA_own _ nd.attrs w2 (HR2.at_.mono (fun b hb => Nat.lt_of_lt_of_le hb hle)) (by rw [HLA.out]; exact ha)).mono ?_
      rintro e wz ⟨v', rfl, hv', hb⟩
      exact ⟨_, rfl, hC.trans (hb.mono hC.size), hb, ownsV_mono hv' hC.size⟩
    · exact spcS_val (d := 6) rfl (wanted_none rfl) (run_fieldAddr (m := 0) Tryz.underlying30 rfl (by kernel_rfl) b1) hC hkr rfl
    · have hx : a1.eval (.tmp 6) = .pointer (some ⟨b0, 6, none⟩) := hT 3 (by decide) (by kernel_rfl)
      exact spcS_val (d := 7) rfl (wanted_none rfl) (run_loadCell (run_isAgg_plain Tryz.underlying23 rfl) ((HP.row 0 rfl).cell (i := 6) rfl) hx) hC hkr rfl
    · have hx : a1.eval (.tmp 7) = .slice ad ld cd := hT 4 (by decide) (by kernel_rfl)
      refine spcS_call (d := 8) (vs := #[.slice ad ld cd]) rfl (wanted_none rfl) (Go.Proofs.enters_of Tryz.func60 (by kernel_rfl) rfl) (by simp [hx]) ?_
      refine (clB_own _ nd.data w2 (HR2.dt.mono (fun b hb => Nat.lt_of_lt_of_le hb hle)) (by rw [HLD.out]; exact hd)).mono ?_
      rintro e wz ⟨v', rfl, hv', hb⟩
      exact ⟨_, rfl, hC.trans (hb.mono hC.size), hb, ownsV_mono hv' hC.size⟩
    · exact spcS_val (d := 9) rfl (wanted_none rfl) (run_fieldAddr (m := 0) Tryz.underlying30 rfl (by kernel_rfl) b1) hC hkr rfl
  · intro a1 w2 ha hC hT
    have t5 : w2.ownsRow w1.heap.size 85 2 (slot a1 5) nd.attrs.length (rcells nd.attrs) := hT 2 (by decide)
    have t8 : Owns w2 w1.heap.size 5 (slot a1 8) nd.data := hT 5 (by decide)
    have t9 : slot a1 9 = .pointer (some ⟨b0, 5, none⟩) := hT 6 (by decide)
    simp only [List.foldl_cons, List.foldl_nil, t9] at ha
    have H2 := Keep.keep (H1.out.call hC)
    generalize slot a1 3 = x3 at *
    generalize slot a1 4 = x4 at *
    generalize slot a1 5 = x5 at *
    generalize slot a1 6 = x6 at *
    generalize slot a1 7 = x7 at *
    generalize slot a1 8 = x8 at *
    obtain ⟨a5, c5, hx5, -⟩ := (ownsV_reads t5).shape
    obtain ⟨a8, c8, hx8, -⟩ := t8.reads.shape
    rw [HLA.out] at hx5; rw [HLD.out] at hx8
    have T5 := Keep.keep t5; have T8 := Keep.keep t8
    clear t5 t8 t9 hT
    subst ha
    simp only [List.drop_succ_cons, List.drop_zero]
    simp only [Act.put, List.setIfInBounds_toArray, List.set_cons_succ, List.set_cons_zero]
    subst hx5 hx8
    have hrow := H2.out.row 0 rfl
    have hc5 := hrow.cell (i := 5) rfl
    have hc6 := hrow.cell (i := 6) rfl
    have hf5 := hrow.frozen 5
    have hf6 := hrow.frozen 6
    clear hrow
    go_upto_region 2 with fail
    refine wp_world (R := fun w3 => Hp NoM w w3 [rowA b0 30 #[.int .i64 kind, .int .u32 mode, .int .u32 uid, .int .u32 gid, .int .i64 time, .slice a5 la c5, .slice a8 ld c8, .string ⟨link.toArray⟩], rowA (b0 + 1) 30 zeroNd] ∧ NdO w3 (Fresh w1.heap.size w3) nd (.slice a5 la c5) (.slice a8 ld c8)) ⟨?_, ?_⟩ ?_
    · exact (H2.out.setCell 0 rfl 5 (.slice a5 la c5) rfl).setCell 0 rfl 6 (.slice a8 ld c8) rfl
    · have hch : Chg (fun x => x = b0) w2.heap.size w2 ((w2.setCell ⟨b0, 5, none⟩ (.slice a5 la c5)).setCell ⟨b0, 6, none⟩ (.slice a8 ld c8)) :=
        Chg.setCell (M := fun x => x = b0) (Chg.setCell (M := fun x => x = b0) (.refl _ _ _) (.inr rfl) _) (.inr rfl) _
      exact (NdO.ofOwn T5.out T8.out).chg hch (fun b hb => ⟨hb.2, by have := hb.1; omega⟩) |>.mono (fun b hb => ⟨hb.1, by have := hch.size; have := hb.2; omega⟩)
    intro w3 H3
    have HSZ : Keep ((#[.int .i64 kind, .int .u32 mode, .int .u32 uid, .int .u32 gid, .int .i64 time, .slice a5 la c5, .slice a8 ld c8, .string ⟨link.toArray⟩] : Array Value).size = 8) := ⟨rfl⟩
    have HSZ2 : Keep (zeroNd.size = 8) := ⟨rfl⟩
    have HON : Keep ((#[.int .i64 kind, .int .u32 mode, .int .u32 uid, .int .u32 gid, .int .i64 time, .slice a5 la c5, .slice a8 ld c8, .string ⟨link.toArray⟩] : Array Value).all (·.oneCell') = true) := ⟨by simp [Value.oneCell']⟩
    have HRA := Keep.keep (H3.out.1.row 0 rfl)
    have HRB := Keep.keep (H3.out.1.row 1 rfl)
    clear hc5 hc6 hf5 hf6 H2 T5 T8
    go_wp2_with (first
      | ((with_reducible refine arm_loadRow HRA.out aggN HSZ.out ?_ ?_); (focus rfl); simp only [Act.put, List.setIfInBounds_toArray, List.set_cons_succ, List.set_cons_zero])
      | ((with_reducible refine arm_storeRow HRB.out aggN HSZ2.out HSZ.out HON.out ?_ ?_ ?_); (focus rfl); (focus rfl); simp only [Act.put]))
    refine bodyPost_ret (results_row (p := 2) (ty := 30) rfl (HRB.out.setRow _) aggN HSZ.out rfl) rfl ⟨.slice a5 la c5, .slice a8 ld c8, by rw [HND.out.2.2], ?_, ?_⟩
    · have hch : Chg (fun x => x = b0 + 1) w3.heap.size w3 (w3.setRow (b0 + 1) #[.int .i64 kind, .int .u32 mode, .int .u32 uid, .int .u32 gid, .int .i64 time, .slice a5 la c5, .slice a8 ld c8, .string ⟨link.toArray⟩]) := Chg.setRow (M := fun x => x = b0 + 1) (.refl _ _ _) (.inr rfl) _
      refine (H3.out.2.chg hch (fun b hb => ⟨hb.2, by have := hb.1; omega⟩)).mono (fun b hb => ⟨by have := hb.1; have := HB0.out; omega, by have := hch.size; have := hb.2; omega⟩)
    · have := HB0.out
      exact ((Chg.of_below (M := NoM) H3.out.1.below).setRow (.inl (by omega)) _).below (fun _ _ h => h)
theorem clone_node (n : Nd) (av dv : Value) (w : World) (hr : NdR w (· < w.heap.size) n av dv) (ha : n.attrs.length ≤ 1000000) (hd : n.data.length ≤ 16777216) :
    Calls Tryz.prog 31 #[.agg (ndC n av dv)] w fun e w' => ∃ av' dv', e = .returned (.agg (ndC n av' dv')) ∧ NdR w' (Fresh w.heap.size w') n av' dv' ∧ Below w.heap.size w w' :=
  (clone_own n av dv w hr ha hd).mono (fun _ _ ⟨a, d, he, h, hb⟩ => ⟨a, d, he, h.r, hb⟩)
end Go.Proofs.YtphgmkhbhboklaaGreatDoor
/- A MAP KEYED BY TEXTS, its values whatever they are: a sorted list of keys and values stands for it. -/
namespace Go.Proofs.YtphgmkhbhboklaaGreatDoor
open Go.RowKit Go.Maps Go.WideMaps
def rawE (v : Value) : Option (DataW Value × List MemPlace) := some (.held v, [])
def dSe (x : Tx × Value) : Lit × DataW Value := (.string x.1, .held x.2)
def dS (M : List (Tx × Value)) : DataW Value := .map (M.map dSe)
theorem before_lt : ∀ a b : Tx, bytesBefore a b = decide (a < b)
  | [], [] => by simp [bytesBefore]
  | [], _ :: _ => by simp [bytesBefore]
  | _ :: _, [] => by simp [bytesBefore]
  | x :: a, y :: b => by
    unfold bytesBefore
    rw [before_lt a b, Bool.eq_iff_iff]
    simp [List.cons_lt_cons_iff]
theorem insert_dS {L : List (Tx × Value)} (h : SM.Srt L) (p : Tx) (v : Value) (hn : ∀ x ∈ L, x.1 ≠ p) : DataW.insert (Lit.string p, DataW.held v) (L.map dSe) = (SM.lo L p).map dSe ++ dSe (p, v) :: (SM.hi L p).map dSe := by
  induction L with
  | nil => rfl
  | cons y r ih =>
    obtain ⟨h1, h2⟩ := List.pairwise_cons.1 h
    rw [List.map_cons]
    unfold DataW.insert
    have hb : (Lit.string p).before (dSe y).1 = decide (p < y.1) := before_lt p y.1
    rw [hb]
    by_cases e : p < y.1
    · rw [if_pos (by simpa using e)]
      have hl : SM.lo (y :: r) p = [] := by
        unfold SM.lo
        rw [List.filter_eq_nil_iff]
        intro z hz
        rcases List.mem_cons.1 hz with rfl | hz
        · simpa using tx_asymm e
        · simpa using tx_asymm (tx_trans e (h1 z hz))
      have hh : SM.hi (y :: r) p = y :: r := by
        unfold SM.hi
        rw [List.filter_eq_self]
        intro z hz
        rcases List.mem_cons.1 hz with rfl | hz
        · simpa using e
        · simpa using tx_trans e (h1 z hz)
      rw [hl, hh]; rfl
    · have e' : y.1 < p := by
        rcases tx_tri y.1 p with h | h | h
        · exact h
        · exact (hn y (by simp) h).elim
        · exact (e h).elim
      rw [if_neg (by simpa using e), ih h2 (fun x hx => hn x (by simp [hx]))]
      have hl : SM.lo (y :: r) p = y :: SM.lo r p := by unfold SM.lo; rw [List.filter_cons_of_pos (by simpa using e')]
      have hh : SM.hi (y :: r) p = SM.hi r p := by unfold SM.hi; rw [List.filter_cons_of_neg (by simpa using e)]
      rw [hl, hh]; rfl
theorem filter_dS (M : List (Tx × Value)) (p : Tx) : (M.map dSe).filter (fun x => !x.1.sameKey (.string p)) = (M.filter (fun x => x.1 != p)).map dSe := by
  rw [List.filter_map]
  rfl
theorem dS_put {M : List (Tx × Value)} (h : SM.Srt M) (p : Tx) (v : Value) : (dS M).put (.string p) (.held v) = dS (SM.put M (p, v)) := by
  unfold dS DataW.put
  simp only
  rw [filter_dS, insert_dS (h.filter _) p v (fun x hx => by simpa using (List.mem_filter.1 hx).2)]
  have h1 : SM.lo (M.filter (fun x => x.1 != p)) p = SM.lo M p := by
    unfold SM.lo
    rw [List.filter_filter]
    refine List.filter_congr (fun x _ => ?_)
    by_cases e : x.1 < p
    · have : x.1 ≠ p := fun e' => tx_irrefl _ (e' ▸ e)
      simp [e, this]
    · simp [e]
  have h2 : SM.hi (M.filter (fun x => x.1 != p)) p = SM.hi M p := by
    unfold SM.hi
    rw [List.filter_filter]
    refine List.filter_congr (fun x _ => ?_)
    by_cases e : p < x.1
    · have : x.1 ≠ p := fun e' => tx_irrefl _ (e' ▸ e)
      simp [e, this]
    · simp [e]
  rw [h1, h2]
  unfold SM.put
  rw [List.map_append, List.map_cons]
theorem dS_del (M : List (Tx × Value)) (p : Tx) : (dS M).del (.string p) = dS (M.filter (fun x => x.1 != p)) := by
  unfold dS DataW.del
  simp only
  rw [filter_dS]
theorem has_dS (M : List (Tx × Value)) (p : Tx) : Maps.has (dS M) (.string p) = (SM.look M p).isSome := by
  unfold dS
  rw [Maps.has_eq, List.any_map]
  unfold SM.look
  rw [Option.isSome_map, Bool.eq_iff_iff, List.any_eq_true, List.find?_isSome]
  rfl
theorem atKey_dS (M : List (Tx × Value)) (p : Tx) (z : DataW Value) : (dS M).atKey (.string p) z = (match SM.look M p with | some v => .held v | none => z) := by
  unfold dS DataW.atKey SM.look
  simp only
  rw [List.find?_map]
  have : ((fun q : Lit × DataW Value => q.1.sameKey (.string p)) ∘ dSe) = fun x => x.1 == p := rfl
  rw [this]
  cases M.find? (fun x => x.1 == p) <;> rfl
theorem size_dS (M : List (Tx × Value)) : Maps.size (dS M) = M.length := by simp [dS, Maps.size]
/-- block b is a map that holds M -/
structure MapS (w : World) (k : TypeId) (b : Nat) (M : List (Tx × Value)) : Prop where
  s : SM.Srt M
  l : ∀ x ∈ M, x.1.length ≤ maxLen
  o : w.ownsMap Tryz.prog k rawE b M.length (dS M)
theorem owns_tight {w : World} {k : TypeId} {b n : Nat} {M : List (Tx × Value)} (h : w.ownsMap Tryz.prog k rawE b n (dS M)) : w.ownsMap Tryz.prog k rawE b M.length (dS M) := by
  obtain ⟨es, clock, hb, F, hs, hD⟩ := h
  refine ⟨es, clock, hb, F, ?_, hD⟩
  unfold dS at hD
  injection hD with hD
  have := congrArg List.length hD
  rw [List.length_map, Go.length_sorted, List.length_map, Array.length_toList] at this
  exact Nat.le_of_eq this.symm
theorem MapS.lt {w : World} {k : TypeId} {b : Nat} {M : List (Tx × Value)} (h : MapS w k b M) : b < w.heap.size := h.o.lt
theorem MapS.loc {w w' : World} {k : TypeId} {b : Nat} {M : List (Tx × Value)} (h : MapS w k b M) (hb : w'.heap[b]? = w.heap[b]?) : MapS w' k b M := by
  obtain ⟨es, clock, h1, rest⟩ := h.o
  exact ⟨h.s, h.l, es, clock, hb.trans h1, rest⟩
section
variable {k : TypeId} (hk : Tryz.prog.underlying k = some .string)
include hk in
theorem keyS {p : Tx} (hp : p.length ≤ maxLen) : keyOf Tryz.prog k (.string ⟨p.toArray⟩) = some (.string p) := by
  have := keyOf_string_mk hk (s := ⟨p.toArray⟩) hp
  simpa using this
omit hk in
theorem MapS.made (w : World) : MapS (w.alloc (.map #[] 0)) k w.heap.size [] := ⟨SM.Srt.nil, fun _ h => (List.not_mem_nil h).elim, World.ownsMap_made _ _ _ _⟩
variable {t e : TypeId} (ht : Tryz.prog.underlying t = some (.map k e))
include hk ht
set_option maxRecDepth 100000 in
theorem MapS.lookOk {w : World} {b : Nat} {M : List (Tx × Value)} (h : MapS w k b M) {z : Value} (hz : (zeroValue e).run Tryz.prog w = .ok z w) {p : Tx} (hp : p.length ≤ maxLen) :
    (Instr.lookup t (.map (some b)) (.string ⟨p.toArray⟩) true).run Tryz.prog w = .ok (.tuple #[(SM.look M p).getD z, .bool (SM.look M p).isSome]) w := by
  obtain ⟨v, ps, hr, hv⟩ := h.o.look_ok (string_keyed hk) ht hz (zd := .held z) (zp := []) rfl (keyS hk hp)
  rw [has_dS] at hr
  rw [hr, atKey_dS] at *
  unfold rawE at hv
  injection hv with hv
  injection hv with hv _
  cases hl : SM.look M p with
  | none => rw [hl] at hv; injection hv with hv; rw [hv]; rfl
  | some u => rw [hl] at hv; injection hv with hv; rw [hv]; rfl
set_option maxRecDepth 100000 in
theorem MapS.look1 {w : World} {b : Nat} {M : List (Tx × Value)} (h : MapS w k b M) {z : Value} (hz : (zeroValue e).run Tryz.prog w = .ok z w) {p : Tx} (hp : p.length ≤ maxLen) :
    (Instr.lookup t (.map (some b)) (.string ⟨p.toArray⟩) false).run Tryz.prog w = .ok ((SM.look M p).getD z) w := by
  obtain ⟨v, ps, hr, hv⟩ := h.o.lookup (string_keyed hk) ht hz (zd := .held z) (zp := []) rfl (keyS hk hp)
  rw [hr, atKey_dS] at *
  unfold rawE at hv
  injection hv with hv
  injection hv with hv _
  cases hl : SM.look M p with
  | none => rw [hl] at hv; injection hv with hv; rw [hv]; rfl
  | some u => rw [hl] at hv; injection hv with hv; rw [hv]; rfl
omit hk in
theorem MapS.len {w : World} {b : Nat} {M : List (Tx × Value)} (h : MapS w k b M) (ty : TypeId) : (Builtin.len_ #[t] ty #[.map (some b)]).run Tryz.prog w = .ok (.int .i64 (M.length : Int)) w := by
  rw [h.o.len ht ty, size_dS]
set_option maxRecDepth 100000 in
theorem MapS.put {w : World} {b : Nat} {M : List (Tx × Value)} (h : MapS w k b M) {p : Tx} (hp : p.length ≤ maxLen) (hn : M.length < maxLen) (v : Value) :
    ∃ w', (Instr.mapUpdate t (.map (some b)) (.string ⟨p.toArray⟩) v).run Tryz.prog w = .ok () w' ∧ MapS w' k b (SM.put M (p, v)) ∧ Chg (fun j => j = b) w.heap.size w w' := by
  obtain ⟨w', hr, ho, hg⟩ := h.o.update (string_keyed hk) ht hn (keyS hk hp) (val := v) (d := .held v) (ps := []) rfl
  rw [dS_put h.s] at ho
  refine ⟨w', hr, ⟨h.s.put _, fun x hx => ?_, owns_tight ho⟩, ⟨hg.os, hg.tape, hg.output, hg.size, fun j hj hm => hg.block j hj (fun e => hm (by injection e))⟩⟩
  rcases SM.mem_put.1 hx with rfl | ⟨hx, _⟩
  · exact hp
  · exact h.l x hx
set_option maxRecDepth 100000 in
theorem MapS.del {w : World} {b : Nat} {M : List (Tx × Value)} (h : MapS w k b M) {p : Tx} (hp : p.length ≤ maxLen) (ty : TypeId) :
    ∃ w', (Builtin.delete_ #[t, k] ty #[.map (some b), .string ⟨p.toArray⟩]).run Tryz.prog w = .ok (.tuple #[]) w' ∧ MapS w' k b (M.filter (fun x => x.1 != p)) ∧ Chg (fun j => j = b) w.heap.size w w' := by
  obtain ⟨w', hr, ho, hm⟩ := h.o.drop (string_keyed hk) ht (keyS hk hp) ty
  rw [dS_del] at ho
  have hg := hm.grown
  exact ⟨w', hr, ⟨h.s.filter _, fun x hx => h.l x (List.mem_filter.1 hx).1, owns_tight ho⟩, ⟨hg.os, hg.tape, hg.output, hg.size, fun j hj hm => hg.block j hj (fun e => hm (by injection e))⟩⟩
end
/-- a range over such a map is under way: block r is its iterator; todo: is the key still to come? -/
structure RgS (w : World) (k : TypeId) (b r : Nat) (M : List (Tx × Value)) (todo : Tx → Bool) (cnt : Nat) : Prop where
  s : SM.Srt M
  l : ∀ x ∈ M, x.1.length ≤ maxLen
  o : ∃ n left, w.ranges Tryz.prog k rawE b r n (dS M) left cnt ∧ ∀ p : Tx, left (.string p) = todo p
theorem RgS.map {w : World} {k : TypeId} {b r : Nat} {M : List (Tx × Value)} {todo : Tx → Bool} {cnt : Nat} (h : RgS w k b r M todo cnt) : MapS w k b M := by
  obtain ⟨n, left, ho, _⟩ := h.o
  exact ⟨h.s, h.l, owns_tight ho.owns⟩
theorem RgS.loc {w w' : World} {k : TypeId} {b r : Nat} {M : List (Tx × Value)} {todo : Tx → Bool} {cnt : Nat} (h : RgS w k b r M todo cnt) (hb : w'.heap[b]? = w.heap[b]?) (hr : w'.heap[r]? = w.heap[r]?) : RgS w' k b r M todo cnt := by
  obtain ⟨n, left, ⟨es, clock, since, seen, c0, h1, h2, h3, h4, h5, h6⟩, ht⟩ := h.o
  exact ⟨h.s, h.l, n, left, ⟨es, clock, since, seen, c0, hb.trans h1, h2, h3, h4, hr.trans h5, h6⟩, ht⟩
theorem RgS.lt {w : World} {k : TypeId} {b r : Nat} {M : List (Tx × Value)} {todo : Tx → Bool} {cnt : Nat} (h : RgS w k b r M todo cnt) : b < w.heap.size ∧ r < w.heap.size ∧ r ≠ b := by
  have := h.map.lt
  obtain ⟨n, left, ho, _⟩ := h.o
  exact ⟨this, ho.lt, ho.ne⟩
section
variable {k : TypeId} (hk : Tryz.prog.underlying k = some .string)
include hk
theorem MapS.range {t e : TypeId} (ht : Tryz.prog.underlying t = some (.map k e)) {w : World} {b : Nat} {M : List (Tx × Value)} (h : MapS w k b M) :
    ∃ w', (Instr.range t (.map (some b))).run Tryz.prog w = .ok (.pointer (some ⟨w.heap.size, 0, none⟩)) w' ∧ RgS w' k b w.heap.size M (fun p => (SM.look M p).isSome) M.length ∧ Below w.heap.size w w' ∧ w'.heap.size = w.heap.size + 1 := by
  obtain ⟨w', hr, ho, hg, hs⟩ := h.o.range (string_keyed hk) ht
  refine ⟨w', hr, ⟨h.s, h.l, _, _, by rw [size_dS] at ho; exact ho, fun p => has_dS M p⟩, ⟨hg.os, hg.tape, hg.output, hg.size, fun j hj => hg.block j hj (by simp)⟩, hs⟩
set_option maxRecDepth 100000 in
theorem RgS.next {w : World} {b r : Nat} {M : List (Tx × Value)} {todo : Tx → Bool} {cnt : Nat} (h : RgS w k b r M todo cnt) (ty : TypeId) :
    (cnt = 0 ∧ (∀ p, todo p = false) ∧ (Instr.next (.pointer (some ⟨r, 0, none⟩)) false ty).run Tryz.prog w = .ok (.tuple #[.bool false]) w) ∨
    ∃ p v w' cnt', todo p = true ∧ SM.look M p = some v ∧ (Instr.next (.pointer (some ⟨r, 0, none⟩)) false ty).run Tryz.prog w = .ok (.tuple #[.bool true, .string ⟨p.toArray⟩, v]) w' ∧
      RgS w' k b r M (fun q => todo q && q != p) cnt' ∧ cnt' < cnt ∧ Chg (fun j => j = r) w.heap.size w w' ∧ w'.heap.size = w.heap.size ∧ (Instr.entry (.pointer (some ⟨r, 0, none⟩))).run Tryz.prog w' = .ok (.tuple #[.string ⟨p.toArray⟩, v]) w' := by
  obtain ⟨n, left, ho, htd⟩ := h.o
  rcases ho.next (string_keyed hk) ty with ⟨h0, hl, hr⟩ | ⟨key, v, kl, y, w', cnt', hkey, hlk, hv, hat, hr, hrg, hlt, hg, hsz, hen⟩
  · exact .inl ⟨h0, fun p => by rw [← htd, hl], hr⟩
  · obtain ⟨p, rfl, rfl, hp⟩ := Maps.keyOf_str hk hkey
    unfold rawE at hv
    injection hv with hv
    refine .inr ⟨p, v, w', cnt', by rw [← htd]; exact hlk, ?_, hr, ⟨h.s, h.l, n, _, hrg, fun q => ?_⟩, hlt, ⟨hg.os, hg.tape, hg.output, hg.size, fun j hj hm => hg.block j hj (fun e => hm (by injection e))⟩, hsz, hen⟩
    · have h1 := hat .nil
      rw [atKey_dS, ← hv] at h1
      cases hl : SM.look M p with
      | none => rw [hl] at h1; cases h1
      | some u => rw [hl] at h1; injection h1 with h1; rw [h1]
    · simp only [htd]
      rfl
theorem RgS.del {t e : TypeId} (ht : Tryz.prog.underlying t = some (.map k e)) {w : World} {b r : Nat} {M : List (Tx × Value)} {todo : Tx → Bool} {cnt : Nat} (h : RgS w k b r M todo cnt) {p : Tx} (hp : p.length ≤ maxLen) (ty : TypeId) :
    ∃ w' cnt', (Builtin.delete_ #[t, k] ty #[.map (some b), .string ⟨p.toArray⟩]).run Tryz.prog w = .ok (.tuple #[]) w' ∧ RgS w' k b r (M.filter (fun x => x.1 != p)) (fun q => todo q && q != p) cnt' ∧ cnt' ≤ cnt ∧ Chg (fun j => j = b) w.heap.size w w' := by
  obtain ⟨n, left, ho, htd⟩ := h.o
  obtain ⟨w', cnt', hr, hrg, hle, hm⟩ := ho.drop (string_keyed hk) ht (keyS hk hp) ty
  rw [dS_del] at hrg
  have hg := hm.grown
  exact ⟨w', cnt', hr, ⟨h.s.filter _, fun x hx => h.l x (List.mem_filter.1 hx).1, n, _, hrg, fun q => by simp only [htd]; rfl⟩, hle, ⟨hg.os, hg.tape, hg.output, hg.size, fun j hj hm => hg.block j hj (fun e => hm (by injection e))⟩⟩
end
/-- what has come, when one more comes -/
theorem came_step {α : Type} {M : List (Tx × α)} (h : SM.Srt M) {todo : Tx → Bool} {p : Tx} {v : α} (hp : todo p = true) (hl : SM.look M p = some v) :
    (M.filter (fun x => !(todo x.1 && x.1 != p))).Perm (M.filter (fun x => !todo x.1) ++ [(p, v)]) := by
  refine (List.perm_ext_iff_of_nodup ?_ ?_).2 (fun x => ?_)
  · exact List.Pairwise.imp (R := fun a b : Tx × α => a.1 < b.1) (fun {a b} hab (e : a = b) => tx_irrefl a.1 (by rw [← e] at hab; exact hab)) (h.filter _)
  · have hs : SM.Srt (M.filter (fun x => !todo x.1)) := h.filter _
    have hnd := List.Pairwise.imp (R := fun a b : Tx × α => a.1 < b.1) (fun {a b} hab (e : a = b) => tx_irrefl a.1 (by rw [← e] at hab; exact hab)) hs
    refine List.nodup_append.2 ⟨hnd, by simp, fun a ha b hb e => ?_⟩
    obtain rfl : b = (p, v) := by simpa using hb
    subst e
    have := (List.mem_filter.1 ha).2
    simp [hp] at this
  · simp only [List.mem_filter, List.mem_append, List.mem_singleton]
    constructor
    · rintro ⟨hm, hx⟩
      by_cases e : x.1 = p
      · refine .inr ?_
        obtain ⟨q, u⟩ := x
        simp only at e
        subst e
        rw [h.one hm (SM.look_mem hl)]
      · refine .inl ⟨hm, ?_⟩
        simpa [e] using hx
    · rintro (⟨hm, hx⟩ | rfl)
      · refine ⟨hm, ?_⟩
        have : todo x.1 = false := by simpa using hx
        simp [this]
      · exact ⟨SM.look_mem hl, by simp⟩
theorem came_start {α : Type} (M : List (Tx × α)) : M.filter (fun x => !(SM.look M x.1).isSome) = [] := by
  rw [List.filter_eq_nil_iff]
  intro x hx
  cases hl : SM.look M x.1 with
  | none => exact absurd rfl (SM.look_none.1 hl x hx)
  | some v => simp
theorem came_all {α : Type} (M : List (Tx × α)) {todo : Tx → Bool} (h : ∀ p, todo p = false) : M.filter (fun x => !todo x.1) = M := by
  rw [List.filter_eq_self]
  intro x _
  simp [h]
/-- as assertions -/
def msA (k : TypeId) (b : Nat) (M : List (Tx × Value)) : As := ⟨fun j => j = b, fun w => MapS w k b M, fun _ _ h hp => hp.loc (h b rfl)⟩
def rgA (k : TypeId) (b r : Nat) (M : List (Tx × Value)) (todo : Tx → Bool) (cnt : Nat) : As := ⟨fun j => j = b ∨ j = r, fun w => RgS w k b r M todo cnt, fun _ _ h hp => hp.loc (h b (.inl rfl)) (h r (.inr rfl))⟩
theorem Hp.newMap {M : Nat → Prop} {w wr : World} {ls : List As} (h : Hp M w wr ls) (k : TypeId) : Hp M w (wr.alloc (.map #[] 0)) (ls ++ [msA k wr.heap.size []]) :=
  h.push _ (.of_below ((Below.refl _ _).alloc (Nat.le_refl _) _)) (MapS.made wr) (fun b hb => by have hb : b = _ := hb; subst hb; simp)
end Go.Proofs.YtphgmkhbhboklaaGreatDoor
/- A TREE in memory; none, dir, Len, Get. -/
namespace Go.Proofs.YtphgmkhbhboklaaGreatDoor
open Go.RowKit
theorem cell_loc {w w' : World} {b o : Nat} (h : w'.heap[b]? = w.heap[b]?) : w'.cell? ⟨b, o, none⟩ = w.cell? ⟨b, o, none⟩ := World.cell?_of_block (w := w) h
theorem Reads.loc {N : Nat → Prop} {w w' : World} {v : Value} {l : List UInt8} (h : Reads w N v l) (hb : ∀ b, N b → w'.heap[b]? = w.heap[b]?) : Reads w' N v l := by
  refine ⟨h.shape, fun b off n cap e j hj => ?_⟩
  subst e
  have := (h.blk (by have := h.len.2.1; omega)).1
  rw [cell_loc (hb b this)]
  exact h.cell b off n cap rfl j hj
theorem RdV.loc {N : Nat → Prop} {w w' : World} {k n : Nat} {v : Value} {vs : List Value} (h : RdV w N k v n vs) (hb : ∀ b, N b → w'.heap[b]? = w.heap[b]?) : RdV w' N k v n vs := by
  refine ⟨h.len, h.shape, fun b off m cap e j u hj => ?_⟩
  subst e
  have hj2 := (List.getElem?_eq_some_iff.1 hj).1
  have hn : 0 < n := by
    rcases Nat.eq_zero_or_pos n with h0 | h0
    · rw [h.len, h0] at hj2; omega
    · exact h0
  have := (h.blk (by have := h.lens.2.1; omega)).1
  rw [cell_loc (hb b this)]
  exact h.cell b off m cap rfl j u hj
theorem NdR.loc {w w' : World} {N : Nat → Prop} {n : Nd} {av dv : Value} (h : NdR w N n av dv) (hb : ∀ b, N b → w'.heap[b]? = w.heap[b]?) : NdR w' N n av dv := ⟨h.at_.loc hb, h.dt.loc hb⟩
/-- the map's entries: each node with its two slices -/
def entries (f : Tx → Value × Value) (L : List Mb) : List (Tx × Value) := L.map fun m => (m.1, .agg (ndC m.2 (f m.1).1 (f m.1).2))
structure TreeIn (w : World) (T mb : Nat) (Bk : Nat → Prop) (f : Tx → Value × Value) (L : List Mb) : Prop where
  row : Row w T 65 #[.map (some mb)]
  map : MapS w 9 mb (entries f L)
  nd : ∀ m ∈ L, NdR w Bk m.2 (f m.1).1 (f m.1).2
  sm : ∀ m ∈ L, Sm m
  ne : T ≠ mb ∧ ¬ Bk T ∧ ¬ Bk mb
theorem srt_entries {f : Tx → Value × Value} {L : List Mb} : SM.Srt (entries f L) ↔ SM.Srt L := by
  unfold SM.Srt entries
  rw [List.pairwise_map]
theorem look_entries (f : Tx → Value × Value) (L : List Mb) (p : Tx) : SM.look (entries f L) p = (SM.look L p).map fun n => .agg (ndC n (f p).1 (f p).2) := by
  unfold SM.look entries
  rw [List.find?_map]
  have : ((fun x : Tx × Value => x.1 == p) ∘ fun m : Mb => (m.1, Value.agg (ndC m.2 (f m.1).1 (f m.1).2))) = fun m => m.1 == p := rfl
  rw [this]
  cases hf : L.find? (fun m => m.1 == p) with
  | none => rfl
  | some m =>
    have : m.1 = p := by simpa using List.find?_some hf
    subst this; rfl
theorem TreeIn.srt {w : World} {T mb : Nat} {Bk : Nat → Prop} {f : Tx → Value × Value} {L : List Mb} (h : TreeIn w T mb Bk f L) : SM.Srt L := srt_entries.1 h.map.s
theorem TreeIn.loc {w w' : World} {T mb : Nat} {Bk : Nat → Prop} {f : Tx → Value × Value} {L : List Mb} (h : TreeIn w T mb Bk f L) (hb : ∀ b, (b = T ∨ b = mb ∨ Bk b) → w'.heap[b]? = w.heap[b]?) : TreeIn w' T mb Bk f L :=
  ⟨by unfold Row; rw [hb T (.inl rfl)]; exact h.row, h.map.loc (hb mb (.inr (.inl rfl))), fun m hm => (h.nd m hm).loc (fun b hbk => hb b (.inr (.inr hbk))), h.sm, h.ne⟩
/-- as an assertion -/
def trA (T mb : Nat) (Bk : Nat → Prop) (f : Tx → Value × Value) (L : List Mb) : As := ⟨fun b => b = T ∨ b = mb ∨ Bk b, fun w => TreeIn w T mb Bk f L, fun _ _ h hp => hp.loc h⟩
theorem TreeIn.look {w : World} {T mb : Nat} {Bk : Nat → Prop} {f : Tx → Value × Value} {L : List Mb} (h : TreeIn w T mb Bk f L) {p : Tx} {n : Nd} (hl : SM.look L p = some n) : NdR w Bk n (f p).1 (f p).2 ∧ Sm (p, n) :=
  ⟨h.nd _ (SM.look_mem hl), h.sm _ (SM.look_mem hl)⟩
def nd0 : Nd := ⟨0, 0, 0, 0, 0, [], [], []⟩
def ndDir : Nd := ⟨1, 0, 0, 0, 0, [], [], []⟩
def nilV : Value := .slice none 0 0
theorem zeroN (w : World) : (zeroValue 30).run Tryz.prog w = .ok (.agg (ndC nd0 nilV nilV)) w := by kernel_rfl
def dirT (L : List Mb) (p : Tx) : Bool := p.isEmpty || (match SM.look L p with | some n => n.kind == 1 | none => false)
def getT (L : List Mb) (p : Tx) : Nd × Bool := if p = [] then (ndDir, true) else match SM.look L p with | some n => (n, true) | none => (nd0, false)
theorem look_node (f : Tx → Value × Value) (L : List Mb) (p : Tx) : ∃ n av dv, (SM.look (entries f L) p).getD (.agg (ndC nd0 nilV nilV)) = .agg (ndC n av dv) ∧ n = (SM.look L p).getD nd0 ∧ (∀ m, SM.look L p = some m → av = (f p).1 ∧ dv = (f p).2) ∧ (SM.look L p = none → av = nilV ∧ dv = nilV) := by
  rw [look_entries]
  cases hl : SM.look L p with
  | none => exact ⟨nd0, nilV, nilV, rfl, rfl, (fun m h => by cases h), fun _ => ⟨rfl, rfl⟩⟩
  | some n => exact ⟨n, _, _, rfl, rfl, (fun m h => ⟨rfl, rfl⟩), fun h => by cases h⟩
theorem mapNil (mb : Nat) (w : World) : (binOp .eql 63 (.map (some mb)) (.map none)).run Tryz.prog w = .ok (.bool false) w := by kernel_rfl
theorem mapNil' (w : World) : (binOp .eql 63 (.map none) (.map none)).run Tryz.prog w = .ok (.bool true) w := by kernel_rfl
theorem fieldN0 (kind mode uid gid time : Int) (av dv : Value) (link : Tx) (w : World) : (Instr.field 30 (.agg #[.int .i64 kind, .int .u32 mode, .int .u32 uid, .int .u32 gid, .int .i64 time, av, dv, .string ⟨link.toArray⟩]) 0).run Tryz.prog w = .ok (.int .i64 kind) w := by kernel_rfl
set_option maxHeartbeats 400000 in
set_option maxRecDepth 100000 in
theorem none_ok (T : Nat) (mb : Nat) (w : World) (hr : Row w T 65 #[.map (some mb)]) : Calls Tryz.prog 30 #[.pointer (some ⟨T, 0, none⟩)] w fun e w' => e = .returned (.bool false) ∧ w = w' := by
  have c0 := hr.cell (i := 0) rfl
  clear hr
  have hm := mapNil mb
  go_enter Tryz.func30, Tryz.ntmps30
  go_wp2_with fail
  go_ret
  exact ⟨rfl, rfl⟩
set_option maxHeartbeats 400000 in
set_option maxRecDepth 100000 in
theorem len_tree (T mb : Nat) (Bk : Nat → Prop) (f : Tx → Value × Value) (L : List Mb) (w : World) (h : TreeIn w T mb Bk f L) : Calls Tryz.prog 15 #[.pointer (some ⟨T, 0, none⟩)] w fun e w' => e = .returned (.int .i64 (L.length : Int)) ∧ w = w' := by
  have HN := Keep.keep (none_ok T mb w h.row)
  have c0 := h.row.cell (i := 0) rfl
  have hlen := fun ty => h.map.len Tryz.underlying63 ty
  have e1 : (entries f L).length = L.length := by simp [entries]
  rw [e1] at hlen
  clear h e1
  go_enter Tryz.func15, Tryz.ntmps15
  go_wp2_with fail
  refine HN.out.mono ?_
  rintro e w' ⟨rfl, rfl⟩
  go_wp2_with fail
  go_ret
  exact ⟨rfl, rfl⟩
set_option maxHeartbeats 400000 in
set_option maxRecDepth 100000 in
theorem dir_tree (T mb : Nat) (Bk : Nat → Prop) (f : Tx → Value × Value) (L : List Mb) (w : World) (h : TreeIn w T mb Bk f L) (p : Tx) (hp : p.length ≤ 1000000) : Calls Tryz.prog 33 #[.pointer (some ⟨T, 0, none⟩), .string ⟨p.toArray⟩] w fun e w' => e = .returned (.bool (dirT L p)) ∧ w = w' := by
  have c0 := h.row.cell (i := 0) rfl
  have hlk := h.map.look1 Tryz.underlying9 Tryz.underlying63 (zeroN w) (p := p) (by unfold maxLen; omega)
  obtain ⟨n, av, dv, hn, hn2, -⟩ := look_node f L p
  rw [hn] at hlk
  have HD : Keep (dirT L p = (p.isEmpty || n.kind == 1)) := ⟨by
    unfold dirT; rw [hn2]; cases SM.look L p <;> rfl⟩
  generalize dirT L p = db at *
  clear h hn hn2
  obtain ⟨kind, mode, uid, gid, time, attrs, data, link⟩ := n
  unfold ndC strV at hlk
  simp only at hlk HD
  have hfd := fieldN0 kind mode uid gid time av dv link w
  by_cases e : p = []
  · have he : p.isEmpty = true := by rw [e]; rfl
    clear e
    go_enter Tryz.func33, Tryz.ntmps33
    go_wp2_with fail
    go_ret
    exact ⟨by rw [HD.out, he]; rfl, rfl⟩
  · have he : p.isEmpty = false := by simpa using e
    clear e
    go_enter Tryz.func33, Tryz.ntmps33
    go_wp2_with fail
    go_ret
    exact ⟨by rw [HD.out, he]; rfl, rfl⟩
end Go.Proofs.YtphgmkhbhboklaaGreatDoor
