/- PARTS OF ONE PROOF, set in one file: RTreeC, NilT, Fld19, App19, RMay19, RStay, RPlain. Each part tells its own conditions. -/
import Derived.Test.YtplafpokgpolkaaGreatDoorW8
/- portolanref18's tree: New, Get, Under. -/
namespace Go.Proofs.YtplafpokgpolkaaGreatDoor
open Go.RowKit
/-- what portolanref18.New answers: no tree, or one of its own, its Members' slices shared with those that it was handed -/
def RNewIs (w w' : World) (N : Nat → Prop) (pv : Value) : Option (List Mb) → Prop
  | none => pv = .pointer none
  | some L => ∃ R N' v l, pv = .pointer (some ⟨R, 0, none⟩) ∧ RefIn w' R N' v l ∧ l.map (·.1) = L ∧ w.heap.size ≤ R ∧ R < w'.heap.size ∧ ∀ b, N' b → N b ∨ Fresh w.heap.size w' b
theorem buildR (w : World) : (Instr.build 103 #[]).run Tryz.prog w = .ok (.agg #[.slice none 0 0]) w := by kernel_rfl
set_option maxHeartbeats 4000000 in
set_option maxRecDepth 100000 in
theorem rnew_any (N : Nat → Prop) (v : Value) (l : List Mv) (w : World) (hN : ∀ b, N b → b < w.heap.size) (hr : Mbs w N N v l) (hs : ∀ x ∈ l, Sm x.1) (hl : l.length ≤ 100000) :
    Calls Tryz.prog 73 #[v] w fun e w' => (∃ pv, e = .returned (.tuple #[pv, .int .i64 (newT (l.map (·.1))).1]) ∧ RNewIs w w' N pv (newT (l.map (·.1))).2) ∧ Below w.heap.size w w' := by
  have HON : Keep (∀ wx, Below w.heap.size w wx → Mbs wx N N v l) := ⟨fun wx hb => hr.below hb hN hN⟩
  have HS := Keep.keep hs; have HNN := Keep.keep hN
  have HMY : Keep (∀ wx, Below w.heap.size w wx → ∀ x ∈ l, Calls Tryz.prog 112 #[.agg (mcell x)] wx fun e w' => e = .returned (.bool (mayM x.1)) ∧ Below wx.heap.size wx w') := ⟨fun wx hb x hx => by
    have := rmay18_any x.1 x.2.1 x.2.2 (hs x hx) wx (((hr.nd x hx).below hb hN).mono (fun b hb' => Nat.lt_of_lt_of_le (hN b hb') hb.size))
    simpa [mcell] using this⟩
  have HNT : Keep (newT (l.map (·.1)) = if (l.any fun x => !mayM x.1) then (1, none) else if (growT (l.map (·.1))).length < l.length then (9, none) else if (l.any fun x => !dirT (growT (l.map (·.1))) (parentP x.1.1)) then (33, none) else if 4096 < l.length then (42, none) else (0, some (growT (l.map (·.1))))) := ⟨by
    unfold newT; rw [List.any_map, List.length_map, List.any_map]; rfl⟩
  generalize newT (l.map (·.1)) = res at *
  obtain ⟨a, cap, hv, hcap, hmx, hsh⟩ := hr.rd.shape
  have HSH := Keep.keep hsh
  have HSHP := Keep.keep (fun x hx => (hr.nd x hx).shape)
  clear hr hs hsh hN
  unfold maxLen at hmx
  subst hv
  obtain ⟨n, hn⟩ : ∃ n, l.length = n := ⟨_, rfl⟩
  have HN := Keep.keep hn
  rw [hn] at hl hcap HNT HON ⊢
  clear hn
  have hbr := buildR
  go_enter Tryz.func73, Tryz.ntmps73
  go_upto_region 2 with fail
  refine wp_world (R := fun w1 => Hp NoM w w1 [rowA w.heap.size 103 #[.slice none 0 0]]) ((Hp.begin NoM w).newRow _ _) ?_
  intro w1 H1
  obtain ⟨R, hR⟩ : ∃ R, w.heap.size = R := ⟨_, rfl⟩
  have HR := Keep.keep hR
  rw [hR] at H1 ⊢
  have hRlt := (H1.out.row 0 rfl).lt
  clear hR
  go_wp2_with fail
  go_loopg [5] n (fun g u5 wx => ∃ k : Nat, k + g = n ∧ u5 = .int .i64 (k : Int) ∧ (∀ j, (hj : j < k) → (hl : j < l.length) → mayM l[j].1 = true) ∧ Below w1.heap.size w1 wx)
  case atStart => exact ⟨0, by omega, rfl, fun j hj => by omega, Below.refl _ _⟩
  case round =>
    obtain ⟨k, hkg, rfl, hok, hb⟩ := hrel
    have HOK := Keep.keep hok; have HB := Keep.keep hb
    have HBW := Keep.keep (H1.out.call hb).below
    have hs1 := hb.size
    clear hok hb
    by_cases hk : k < n
    · have hd : decide ((k : Int) < (n : Int)) = true := decide_eq_true (by omega)
      have hkl : k < l.length := by rw [HN.out]; exact hk
      obtain ⟨b, off, rfl, hbl⟩ : ∃ b off, a = some ⟨b, off, none⟩ ∧ N b := by
        rcases HSH.out with h | ⟨b, off, h, hb⟩
        · omega
        · exact ⟨b, off, h, hb⟩
      obtain ⟨gn, hgn⟩ : ∃ gn, gk = gn + 1 := ⟨gk - 1, by omega⟩
      subst hgn
      have hld := (HON.out wr HBW.out).load hkl
      have HMX := Keep.keep (HMY.out wr HBW.out _ (List.getElem_mem hkl))
      have HSTEP : Keep (mayM l[k].1 = true → ∀ j, (hj : j < k + 1) → (hl : j < l.length) → mayM l[j].1 = true) := ⟨fun he j hj hl => by
        rcases Nat.lt_succ_iff_lt_or_eq.1 hj with h | rfl
        · exact HOK.out j h hl
        · exact he⟩
      have HBAD : Keep (mayM l[k].1 = false → (l.any fun x => !mayM x.1) = true) := ⟨fun h => List.any_eq_true.2 ⟨_, List.getElem_mem hkl, by simp [h]⟩⟩
      generalize mayM l[k].1 = my at *
      generalize mcell l[k] = x at *
      go_wp2_with ((with_reducible refine arm_loadM hld ?_ ?_); (focus rfl); simp only [Act.put, List.setIfInBounds_toArray, List.set_cons_succ, List.set_cons_zero])
      refine HMX.out.mono ?_
      rintro e w2 ⟨rfl, hb2⟩
      have HB2 := Keep.keep (HB.out.trans (hb2.mono hs1))
      have HBW2 := Keep.keep (H1.out.call HB2.out).below
      clear hb2
      cases my with
      | false =>
        have HRE : Keep (res = (1, none)) := ⟨by rw [HNT.out, HBAD.out rfl]; rfl⟩
        go_wp2_with fail
        go_ret2
        rw [HRE.out]
        exact ⟨⟨_, rfl, rfl⟩, HBW2.out⟩
      | true =>
        have HST := Keep.keep (HSTEP.out rfl)
        go_wp2_with fail
        go_roundg gn
        case measure => omega
        case rel => exact ⟨k + 1, by omega, by simp, HST.out, HB2.out⟩
    · obtain rfl : k = n := by omega
      have hd : decide ((k : Int) < (k : Int)) = false := decide_eq_false (by omega)
      have HNT2 : Keep (res = if (growT (l.map (·.1))).length < k then (9, none) else if (l.any fun x => !dirT (growT (l.map (·.1))) (parentP x.1.1)) then (33, none) else if 4096 < k then (42, none) else (0, some (growT (l.map (·.1))))) := ⟨by
        have : (l.any fun x => !mayM x.1) = false := List.any_eq_false.2 (fun x hx => by
          obtain ⟨j, hj, rfl⟩ := List.mem_iff_getElem.1 hx
          have := HOK.out j (by have := HN.out; omega) hj
          simp [this])
        rw [HNT.out, this]; rfl⟩
      have HBASE : Keep (RefTo w1 wr R N ([] : List Mb)) := ⟨⟨.slice none 0 0, [], ⟨(H1.out.row 0 rfl).below HB.out hRlt, ⟨RdV.ofNil, fun x hx => (List.not_mem_nil hx).elim⟩, SM.Srt.nil, fun x hx => (List.not_mem_nil hx).elim, fun e => by
        rcases e with e | e
        · have h1 := HNN.out R e; have := HR.out; omega
        · have := e.1; omega⟩, rfl⟩⟩
      have HNR : Keep (¬ N R) := ⟨fun e => by have h1 := HNN.out R e; have := HR.out; omega⟩
      clear HNT hkg HMY HOK
      obtain ⟨n, hkn⟩ : ∃ n, k = n := ⟨_, rfl⟩
      subst hkn
      go_wp2_with fail
      go_loopg [6] k (fun g u6 wx => ∃ i : Nat, i + g = k ∧ u6 = .int .i64 (i : Int) ∧ RefTo w1 wx R N (growT ((l.take i).map (·.1))) ∧ Chg (fun j => j = R) w1.heap.size w1 wx)
      case atStart => exact ⟨0, by omega, rfl, HBASE.out, .of_below HB.out⟩
      case round =>
        obtain ⟨i, hig, rfl, hto, hch⟩ := hrel
        have HTO := Keep.keep hto; have HCH := Keep.keep hch
        have hs2 := hch.size
        have HBX : Keep (Below w.heap.size w wr) := ⟨H1.out.below.trans ((hch.lower H1.out.size).below (fun j hj e => by have := HR.out; omega))⟩
        clear hto hch HBASE HB HBW hs1
        by_cases hi : i < k
        · have hd : decide ((i : Int) < (k : Int)) = true := decide_eq_true (by omega)
          have hil : i < l.length := by rw [HN.out]; exact hi
          obtain ⟨b, off, rfl, hbl⟩ : ∃ b off, a = some ⟨b, off, none⟩ ∧ N b := by
            rcases HSH.out with h | ⟨b, off, h, hb⟩
            · omega
            · exact ⟨b, off, h, hb⟩
          obtain ⟨gn, hgn⟩ : ∃ gn, gk = gn + 1 := ⟨gk - 1, by omega⟩
          subst hgn
          have hld := (HON.out wr HBX.out).load hil
          have hnd := (HON.out wr HBX.out).nd _ (List.getElem_mem hil)
          have hsx := HS.out _ (List.getElem_mem hil)
          obtain ⟨v', l', hr', he'⟩ := HTO.out
          have hll : l'.length ≤ 100000 := by
            have h1 := congrArg List.length he'
            have h2 := growT_len ((l.take i).map (·.1))
            rw [List.length_map, List.length_take] at h2
            rw [List.length_map] at h1
            omega
          have HSX := Keep.keep (rset_any R (fun b => N b ∨ Fresh w1.heap.size wr b) v' l' wr hr' (by omega) (fun b hb => by
            rcases hb with hb | hb
            · have := HNN.out b hb; have := H1.out.size; omega
            · exact hb.2) l[i].1 l[i].2.1 l[i].2.2 hsx (hnd.mono (fun b hb => .inl hb)) hll)
          have HGS : Keep (SM.put (l'.map (·.1)) l[i].1 = growT ((l.take (i + 1)).map (·.1))) := ⟨by
            rw [he', List.take_succ_eq_append_getElem hil, List.map_append, List.map_cons, List.map_nil, growT_snoc]⟩
          have HMC : Keep (mcell l[i] = mbC l[i].1 l[i].2.1 l[i].2.2) := ⟨rfl⟩
          rw [← HMC.out] at HSX
          generalize mcell l[i] = x at *
          clear hnd hsx hr' he' hll
          go_wp2_with ((with_reducible refine arm_loadM hld ?_ ?_); (focus rfl); simp only [Act.put, List.setIfInBounds_toArray, List.set_cons_succ, List.set_cons_zero])
          refine HSX.out.mono ?_
          rintro e w3 ⟨rfl, hto, hch⟩
          have HT3 : Keep (RefTo w1 w3 R N (growT ((l.take (i + 1)).map (·.1)))) := ⟨by
            rw [← HGS.out]
            obtain ⟨v3, l3, h3, e3⟩ := hto
            refine ⟨v3, l3, h3.mono (fun b hb => ?_) (fun e => ?_), e3⟩
            · have := hch.size
              rcases hb with (hb | hb) | hb
              · exact .inl hb
              · exact .inr ⟨hb.1, by have := hb.2; omega⟩
              · exact .inr ⟨by have := hb.1; omega, hb.2⟩
            · rcases e with e | e
              · exact HNR.out e
              · have := e.1; omega⟩
          have HC3 : Keep (Chg (fun j => j = R) w1.heap.size w1 w3) := ⟨HCH.out.trans (hch.lower hs2)⟩
          clear hto hch hld HSX HGS
          go_wp2_with fail
          go_roundg gn
          case measure => omega
          case rel => exact ⟨i + 1, by omega, by simp, HT3.out, HC3.out⟩
        · obtain rfl : i = k := by omega
          have hd : decide ((i : Int) < (i : Int)) = false := decide_eq_false (by omega)
          obtain ⟨v', l', hr', he'⟩ := HTO.out
          have htk : l.take i = l := List.take_of_length_le (by rw [HN.out]; omega)
          rw [htk] at he'
          have HLL : Keep (l'.length = (growT (l.map (·.1))).length) := ⟨by rw [← he', List.length_map]⟩
          have HE := Keep.keep he'
          obtain ⟨N2, hN2⟩ : ∃ N2 : Nat → Prop, (fun b => N b ∨ Fresh w1.heap.size wr b) = N2 := ⟨_, rfl⟩
          have HN2B : Keep (∀ b, N2 b → b < wr.heap.size ∧ (N b ∨ w1.heap.size ≤ b)) := ⟨fun b hb => by
            rw [← hN2] at hb
            rcases hb with hb | hb
            · have := HNN.out b hb; have := H1.out.size; exact ⟨by omega, .inl hb⟩
            · exact ⟨hb.2, .inr hb.1⟩⟩
          rw [hN2] at hr'
          have HRI := Keep.keep hr'
          have c0 := hr'.row.cell (i := 0) rfl
          obtain ⟨a2, cap2, hv2, hcap2, hmx2, -⟩ := hr'.mbs.rd.shape
          rw [hv2] at c0
          unfold maxLen at hmx2
          have hglen := growT_len (l.map (·.1))
          rw [List.length_map, HN.out] at hglen
          clear hr' he' htk hN2 HTO HCH
          obtain ⟨gl, hgl⟩ : ∃ gl, l'.length = gl := ⟨_, rfl⟩
          have HGL := Keep.keep hgl
          rw [hgl] at c0 hcap2
          rw [← HLL.out, hgl] at hglen HNT2
          clear hgl
          by_cases hlt : gl < i
          · have hd2 : decide ((gl : Int) < (i : Int)) = true := decide_eq_true (by omega)
            have HRE : Keep (res = (9, none)) := ⟨by rw [HNT2.out, if_pos hlt]⟩
            go_wp2_with fail
            go_ret2
            rw [HRE.out]
            exact ⟨⟨_, rfl, rfl⟩, HBX.out⟩
          · have hd2 : decide ((gl : Int) < (i : Int)) = false := decide_eq_false (by omega)
            have HNT3 : Keep (res = if (l.any fun x => !dirT (growT (l.map (·.1))) (parentP x.1.1)) then (33, none) else if 4096 < i then (42, none) else (0, some (growT (l.map (·.1))))) := ⟨by rw [HNT2.out, if_neg hlt]⟩
            have HDR : Keep (∀ wx, Below wr.heap.size wr wx → ∀ p, Calls Tryz.prog 114 #[.pointer (some ⟨R, 0, none⟩), .string ⟨p.toArray⟩] wx fun e w' => e = .returned (.bool (dirT (growT (l.map (·.1))) p)) ∧ Below wx.heap.size wx w') := ⟨fun wx hb p => by
              have := rdir_any R N2 v' l' wx (HRI.out.below hb (by omega) (fun b hb' => (HN2B.out b hb').1)) (by have := hb.size; omega) (fun b hb' => Nat.lt_of_lt_of_le (HN2B.out b hb').1 hb.size) p
              rw [HE.out] at this
              exact this⟩
            clear HNT2
            go_wp2_with fail
            clear c0 hlt
            go_loopg [7] i (fun g u7 wx => ∃ q : Nat, q + g = i ∧ u7 = .int .i64 (q : Int) ∧ (∀ j, (hj : j < q) → (hl : j < l.length) → dirT (growT (l.map (·.1))) (parentP l[j].1.1) = true) ∧ Below wr.heap.size wr wx)
            case atStart => exact ⟨0, by omega, rfl, fun j hj => by omega, Below.refl _ _⟩
            case round =>
              rename_i wq _
              obtain ⟨q, hqg, rfl, hok, hbq⟩ := hrel
              have HOK := Keep.keep hok; have HBQ := Keep.keep hbq
              have HBWQ := Keep.keep (HBX.out.trans (hbq.mono HBX.out.size))
              have hsq := hbq.size
              clear hok hbq
              by_cases hq : q < i
              · have hd : decide ((q : Int) < (i : Int)) = true := decide_eq_true (by omega)
                have hql : q < l.length := by rw [HN.out]; exact hq
                obtain ⟨b, off, rfl, hbl⟩ : ∃ b off, a = some ⟨b, off, none⟩ ∧ N b := by
                  rcases HSH.out with h | ⟨b, off, h, hb⟩
                  · omega
                  · exact ⟨b, off, h, hb⟩
                obtain ⟨gn, hgn⟩ : ∃ gn, gk = gn + 1 := ⟨gk - 1, by omega⟩
                subst hgn
                have hc := (HON.out _ HBWQ.out).cell hql 0 (by omega) (u := strV l[q].1.1) rfl
                have HPA := Keep.keep (fun wx => rparent_any l[q].1.1 (by have := (HS.out _ (List.getElem_mem hql)).p; omega) wx)
                have HDX := Keep.keep (HDR.out _ HBQ.out (parentP l[q].1.1))
                have HSTEP : Keep (dirT (growT (l.map (·.1))) (parentP l[q].1.1) = true → ∀ j, (hj : j < q + 1) → (hl : j < l.length) → dirT (growT (l.map (·.1))) (parentP l[j].1.1) = true) := ⟨fun he j hj hl => by
                  rcases Nat.lt_succ_iff_lt_or_eq.1 hj with h | rfl
                  · exact HOK.out j h hl
                  · exact he⟩
                have HBAD : Keep (dirT (growT (l.map (·.1))) (parentP l[q].1.1) = false → (l.any fun x => !dirT (growT (l.map (·.1))) (parentP x.1.1)) = true) := ⟨fun h => List.any_eq_true.2 ⟨_, List.getElem_mem hql, by simp [h]⟩⟩
                generalize dirT (growT (l.map (·.1))) (parentP l[q].1.1) = dr at *
                generalize parentP l[q].1.1 = pp at *
                generalize l[q].1.1 = xp at *
                unfold strV at hc
                rw [Nat.add_zero] at hc
                go_wp2_with fail
                refine (HPA.out _).mono ?_
                rintro e w3 ⟨rfl, rfl⟩
                go_wp2_with fail
                refine HDX.out.mono ?_
                rintro e w3 ⟨rfl, hb3⟩
                have HB3 := Keep.keep (HBQ.out.trans (hb3.mono hsq))
                have HBW3 := Keep.keep (HBX.out.trans (HB3.out.mono HBX.out.size))
                clear hb3 hc
                cases dr with
                | false =>
                  have HRE : Keep (res = (33, none)) := ⟨by rw [HNT3.out, HBAD.out rfl]; rfl⟩
                  go_wp2_with fail
                  go_ret2
                  rw [HRE.out]
                  exact ⟨⟨_, rfl, rfl⟩, HBW3.out⟩
                | true =>
                  have HST := Keep.keep (HSTEP.out rfl)
                  go_wp2_with fail
                  go_roundg gn
                  case measure => omega
                  case rel => exact ⟨q + 1, by omega, by simp, HST.out, HB3.out⟩
              · obtain rfl : q = i := by omega
                have hd : decide ((q : Int) < (q : Int)) = false := decide_eq_false (by omega)
                have HNT4 : Keep (res = if 4096 < q then (42, none) else (0, some (growT (l.map (·.1))))) := ⟨by
                  have : (l.any fun x => !dirT (growT (l.map (·.1))) (parentP x.1.1)) = false := List.any_eq_false.2 (fun x hx => by
                    obtain ⟨j, hj, rfl⟩ := List.mem_iff_getElem.1 hx
                    have := HOK.out j (by have := HN.out; omega) hj
                    simp [this])
                  rw [HNT3.out, this]; rfl⟩
                clear HNT3
                by_cases h4 : 4096 < q
                · have hd4 : decide ((4096 : Int) < (q : Int)) = true := decide_eq_true (by omega)
                  have HRE : Keep (res = (42, none)) := ⟨by rw [HNT4.out, if_pos h4]⟩
                  go_wp2_with fail
                  go_ret2
                  rw [HRE.out]
                  exact ⟨⟨_, rfl, rfl⟩, HBWQ.out⟩
                · have hd4 : decide ((4096 : Int) < (q : Int)) = false := decide_eq_false (by omega)
                  have HRE : Keep (res = (0, some (growT (l.map (·.1))))) := ⟨by rw [HNT4.out, if_neg h4]⟩
                  have HRF := Keep.keep (HRI.out.below HBQ.out (by omega) (fun b hb' => (HN2B.out b hb').1))
                  go_wp2_with fail
                  go_ret2
                  rw [HRE.out]
                  refine ⟨⟨_, rfl, R, N2, v', l', rfl, HRF.out, HE.out, by have := HR.out; omega, by omega, fun b hb => ?_⟩, HBWQ.out⟩
                  obtain ⟨h1, h2⟩ := HN2B.out b hb
                  rcases h2 with h2 | h2
                  · exact .inl h2
                  · exact .inr ⟨by have := H1.out.size; omega, by omega⟩
end Go.Proofs.YtplafpokgpolkaaGreatDoor
/- A tree that is none: nil, or without a map. -/
namespace Go.Proofs.YtplafpokgpolkaaGreatDoor
open Go.RowKit Go.Shelf
/-- a pointer to no tree -/
def IsNone (w : World) (pv : Value) : Prop := ∃ a, pv = .pointer a ∧ ∀ wx, Below w.heap.size w wx → Calls Tryz.prog 65 #[.pointer a] wx fun e w' => e = .returned (.bool true) ∧ wx = w'
theorem IsNone.on {w w' : World} {pv : Value} (h : IsNone w pv) (hb : Below w.heap.size w w') : IsNone w' pv := by
  obtain ⟨a, e, h⟩ := h
  exact ⟨a, e, fun wx hx => h wx (hb.trans (hx.mono hb.size))⟩
set_option maxHeartbeats 400000 in
set_option maxRecDepth 100000 in
theorem none_nil (w : World) : IsNone w (.pointer none) := ⟨none, rfl, fun wx _ => by
  go_enter Tryz.func65, Tryz.ntmps65
  go_wp2_with fail
  go_ret
  exact ⟨rfl, rfl⟩⟩
set_option maxHeartbeats 1000000 in
set_option maxRecDepth 100000 in
theorem copy_none (pv : Value) (w : World) (h : IsNone w pv) :
    Calls Tryz.prog 31 #[pv] w fun e w' => e = .returned (.pointer none) ∧ Below w.heap.size w w' := by
  obtain ⟨a, rfl, hn⟩ := h
  have HN := Keep.keep (hn w (Below.refl _ _))
  clear hn
  go_enter Tryz.func31, Tryz.ntmps31
  go_wp2_with fail
  refine HN.out.mono ?_
  rintro e w2 ⟨rfl, rfl⟩
  go_wp2_with fail
  go_ret
  exact ⟨rfl, Below.refl _ _⟩
end Go.Proofs.YtplafpokgpolkaaGreatDoor
/- portolanlaw19: Of, Same, Set; a tree, the document's tree, or none. -/
namespace Go.Proofs.YtplafpokgpolkaaGreatDoor
open Go.RowKit
def RfL (w : World) (R : Nat) (t : List Mb) : Prop := ∃ N v l, RefIn w R N v l ∧ l.map (·.1) = t ∧ R < w.heap.size ∧ ∀ b, N b → b < w.heap.size
theorem RfL.on {w w' : World} {R : Nat} {t : List Mb} (h : RfL w R t) (hb : Below w.heap.size w w') : RfL w' R t := by
  obtain ⟨N, v, l, h1, h2, h3, h4⟩ := h
  exact ⟨N, v, l, h1.below hb h3 h4, h2, Nat.lt_of_lt_of_le h3 hb.size, fun b h => Nat.lt_of_lt_of_le (h4 b h) hb.size⟩
def TrO (w : World) (pv : Value) : Option (List Mb) → Prop
  | none => pv = .pointer none
  | some t => ∃ T, pv = .pointer (some ⟨T, 0, none⟩) ∧ TrL w T t
def RfO (w : World) (pv : Value) : Option (List Mb) → Prop
  | none => pv = .pointer none
  | some t => ∃ R, pv = .pointer (some ⟨R, 0, none⟩) ∧ RfL w R t
theorem TrO.on {w w' : World} {pv : Value} {r : Option (List Mb)} (h : TrO w pv r) (hb : Below w.heap.size w w') : TrO w' pv r := by
  cases r with
  | none => exact h
  | some t => obtain ⟨T, e, h⟩ := h; exact ⟨T, e, h.on hb⟩
theorem RfO.on {w w' : World} {pv : Value} {r : Option (List Mb)} (h : RfO w pv r) (hb : Below w.heap.size w w') : RfO w' pv r := by
  cases r with
  | none => exact h
  | some t => obtain ⟨T, e, h⟩ := h; exact ⟨T, e, h.on hb⟩
theorem TrO.ofNew {w w' : World} {pv : Value} {r : Option (List Mb)} (h : NewIs w w' pv r) : TrO w' pv r := by
  cases r with
  | none => exact h
  | some t => exact TrL.ofNew h
theorem RfO.ofNew {w w' : World} {N : Nat → Prop} {pv : Value} {r : Option (List Mb)} (h : RNewIs w w' N pv r) (hN : ∀ b, N b → b < w.heap.size) : RfO w' pv r := by
  cases r with
  | none => exact h
  | some t =>
    obtain ⟨R, N', v, l, e, h1, h2, h3, h4, h5⟩ := h
    exact ⟨R, e, N', v, l, h1, h2, h4, fun b hb => by
      rcases h5 b hb with h | h
      · have := hN b h; omega
      · exact h.2⟩
theorem TrL.srt {w : World} {T : Nat} {t : List Mb} (h : TrL w T t) : SM.Srt t := by
  obtain ⟨mb, Bk, f, h1, -⟩ := h
  exact srt_entries.1 h1.map.s
theorem buildRT (a : Option Addr) (n c : Nat) (w : World) : (Instr.build 103 #[(0, .slice a n c)]).run Tryz.prog w = .ok (.agg #[.slice a n c]) w := by kernel_rfl
set_option maxHeartbeats 1000000 in
set_option maxRecDepth 100000 in
theorem of19_any {w : World} {T : Nat} {A : List Mb} (h : TrL w T A) (hA : A.length ≤ 100000) :
    Calls Tryz.prog 33 #[.pointer (some ⟨T, 0, none⟩)] w fun e w' => ∃ R, e = .returned (.pointer (some ⟨R, 0, none⟩)) ∧ RfL w' R A ∧ Below w.heap.size w w' := by
  have HS := Keep.keep h.srt; have HM := Keep.keep h.sm
  have HT := Keep.keep h
  clear h
  go_enter Tryz.func33, Tryz.ntmps33
  go_wp2_with fail
  refine (all_tr HT.out hA).mono ?_
  rintro e w1 ⟨v, l, rfl, hl, hrow, hb⟩
  obtain ⟨a, c, hv, -⟩ := (ownsV_reads hrow.own).shape
  have HL := Keep.keep hl
  rw [hv] at hrow
  have HROW := Keep.keep hrow
  have HB := Keep.keep hb
  obtain ⟨n, hn⟩ : ∃ n, l.length = n := ⟨_, rfl⟩
  rw [hn] at hv HROW
  clear hl hrow hb hn
  subst hv
  have hbr := buildRT a n c
  go_wp2_with fail
  go_ret
  have hal : Below w1.heap.size w1 (w1.alloc (.cells #[.slice a n c] 103)) := (Below.refl _ _).alloc (Nat.le_refl _) _
  have hr := Row.new w1 103 #[.slice a n c]
  refine ⟨w1.heap.size, rfl, ⟨(· < w1.heap.size), _, l, ⟨hr, ?_, by rw [HL.out]; exact HS.out, sm_mapX (by rw [HL.out]; exact HM.out), by simp⟩, HL.out, hr.lt, fun b hb => Nat.lt_of_lt_of_le hb hal.size⟩, HB.out.trans (hal.mono HB.out.size)⟩
  exact Mbs.below (MbL.ofRow HROW.out) hal (fun _ h => h) (fun _ h => h)
set_option maxHeartbeats 1000000 in
set_option maxRecDepth 100000 in
theorem set19_any (v : Value) (l : List Mv) (gr : Bool) (w : World) (hr : MbL w v l) :
    Calls Tryz.prog 30 #[v, .bool gr] w fun e w' => ∃ v' l', e = .returned v' ∧ l'.map (·.1) = (if gr = true then grown19 (l.map (·.1)) else few19 (l.map (·.1))) ∧ RowM w.heap.size (· < w.heap.size) w' v' l' ∧ Below w.heap.size w w' := by
  obtain ⟨a, c, hv, -, -, -⟩ := hr.rd.shape
  have HR := Keep.keep hr
  clear hr
  subst hv
  cases gr with
  | true =>
    go_enter Tryz.func30, Tryz.ntmps30
    go_wp2_with fail
    refine (grown19_any _ _ _ HR.out).mono ?_
    rintro e w1 ⟨v, l', rfl, hl, hrow, hb⟩
    have HL := Keep.keep hl; have HROW := Keep.keep hrow; have HB := Keep.keep hb
    clear hl hrow hb
    go_wp2_with fail
    go_ret
    exact ⟨_, rfl, _, HL.out, HROW.out, HB.out⟩
  | false =>
    go_enter Tryz.func30, Tryz.ntmps30
    go_wp2_with fail
    refine (few19_any _ _ _ HR.out).mono ?_
    rintro e w1 ⟨v, l', rfl, hl, hrow, hb⟩
    have HL := Keep.keep hl; have HROW := Keep.keep hrow; have HB := Keep.keep hb
    clear hl hrow hb
    go_wp2_with fail
    go_ret
    exact ⟨_, rfl, _, HL.out, HROW.out, HB.out⟩
/-- what is said of each operation of Same's region -/
def smT (B : Nat) (A : List Mb) (r : Value) (u : Value) (T : Value) : Nat → Value → World → Prop
  | 0, v, _ => v = T
  | 1, v, w => ∃ l, l.map (·.1) = A ∧ RowM B NoM w v l
  | 2, v, _ => v = r
  | 3, v, _ => v = r
  | 4, v, _ => v = r
  | 5, v, _ => v = u
  | _, _, _ => True
theorem smT_stays {B : Nat} {A : List Mb} {r u T : Value} : ∀ (i : Nat) (v : Value) {w w' : World}, smT B A r u T i v w → Below w.heap.size w w' → smT B A r u T i v w'
  | 0, _, _, _, h, _ => h
  | 1, _, _, _, ⟨l, h1, h2⟩, hb => ⟨l, h1, h2.below hb⟩
  | 2, _, _, _, h, _ => h
  | 3, _, _, _, h, _ => h
  | 4, _, _, _, h, _ => h
  | 5, _, _, _, h, _ => h
  | _ + 6, _, _, _, h, _ => h
theorem copy_tr19 {w : World} {T : Nat} {A : List Mb} (h : TrL w T A) (hA : A.length ≤ 100000) :
    Calls Tryz.prog 31 #[.pointer (some ⟨T, 0, none⟩)] w fun e w' => ∃ T2, e = .returned (.pointer (some ⟨T2, 0, none⟩)) ∧ TrL w' T2 A ∧ Below w.heap.size w w' := by
  obtain ⟨mb, Bk, f, h1, h2⟩ := h
  refine (copy_tree T mb Bk f A w h1 h2 hA).mono ?_
  rintro e w' ⟨T2, m2, Bk2, f2, rfl, g1, g2, g3⟩
  exact ⟨T2, rfl, ⟨m2, Bk2, f2, g1, fun b hb => (g2.2.2 b hb).2⟩, g3⟩
set_option maxHeartbeats 2000000 in
set_option maxRecDepth 100000 in
theorem same19_any {w : World} {pv rv : Value} {o : Option (List Mb)} (h1 : TrO w pv o) (h2 : RfO w rv o) (hA : ∀ t, o = some t → t.length ≤ 100000) :
    Calls Tryz.prog 35 #[pv, rv] w fun e w' => e = .returned (.bool true) ∧ Below w.heap.size w w' := by
  cases o with
  | none =>
    obtain rfl : pv = .pointer none := h1
    obtain rfl : rv = .pointer none := h2
    clear hA
    go_enter Tryz.func35, Tryz.ntmps35
    go_wp2_with fail
    refine (copy_none _ w (none_nil w)).mono ?_
    rintro e w1 ⟨rfl, hb⟩
    have HB := Keep.keep hb
    clear hb
    go_wp2_with fail
    go_ret
    exact ⟨rfl, HB.out⟩
  | some A =>
    obtain ⟨T, rfl, ht⟩ := h1
    obtain ⟨R, rfl, hr⟩ := h2
    have hAl := hA A rfl
    have HT := Keep.keep ht; have HR := Keep.keep hr
    clear hA ht hr
    go_enter Tryz.func35, Tryz.ntmps35
    go_wp2_with fail
    refine (copy_tr19 HT.out hAl).mono ?_
    rintro e w1 ⟨T2, rfl, -, hb⟩
    have HB1 := Keep.keep hb
    have HT1 := Keep.keep (HT.out.on hb)
    have hrf := HR.out.on hb
    clear hb HT HR
    obtain ⟨N, u, l, hri, hl, hRl, hN⟩ := hrf
    have HRI := Keep.keep hri; have HL := Keep.keep hl; have HNN := Keep.keep hN; have HRL := Keep.keep hRl
    obtain ⟨ua, uc, hu, -⟩ := hri.mbs.rd.shape
    obtain ⟨un, hun⟩ : ∃ n, l.length = n := ⟨_, rfl⟩
    rw [hun] at hu
    clear hri hl hN hRl hun
    subst hu
    go_upto_region 3 with fail
    refine wp_region_spcT 6 [19, 20, 21, 22, 23, 24] (Below w1.heap.size w1) (smT w1.heap.size A (.pointer (some ⟨R, 0, none⟩)) (.slice ua un uc) (.pointer (some ⟨T, 0, none⟩))) (fun w w' => Below w.heap.size w w') (by kernel_rfl) rfl (by decide) (by show ∀ d ∈ _, d < 26; decide) (by kernel_rfl) (by decide) (by kernel_rfl) (by kernel_rfl) (by kernel_rfl) (Below.refl _ _).drew (fun i v w w' h _ hb => smT_stays i v h hb) ?_ ?_
    focus
      intro q hq a1 w5 hF hC hT
      have hsz : a1.tmps.size = 26 := hF.size
      have t0 : a1.eval (.tmp 0) = .pointer (some ⟨T, 0, none⟩) := (hF.same 0 (by decide)).trans rfl
      have t1 : a1.eval (.tmp 1) = .pointer (some ⟨R, 0, none⟩) := (hF.same 1 (by decide)).trans rfl
      have hkr : Below w5.heap.size w5 w5 := Below.refl _ _
      have cl5 := (HRI.out.row.below hC HRL.out).cell (i := 0) rfl
      rcases (by omega : q = 0 ∨ q = 1 ∨ q = 2 ∨ q = 3 ∨ q = 4 ∨ q = 5) with rfl | rfl | rfl | rfl | rfl | rfl
      · exact spcS_val (d := 19) rfl (wanted_none rfl) run_move hC hkr t0
      · have hx : a1.eval (.tmp 19) = .pointer (some ⟨T, 0, none⟩) := hT 0 (by decide) (by kernel_rfl)
        refine spcS_call (d := 20) (vs := #[.pointer (some ⟨T, 0, none⟩)]) rfl (wanted_none rfl) (Go.Proofs.enters_of Tryz.func38 (by kernel_rfl) rfl) (by simp [hx]) ?_
        refine (all_tr (HT1.out.on hC) hAl).mono ?_
        rintro e wz ⟨v', l', rfl, hl', hrow, hb⟩
        exact ⟨_, rfl, hC.trans (hb.mono hC.size), hb, l', hl', hrow.lower hC.size (fun _ h => h)⟩
      · exact spcS_val (d := 21) rfl (wanted_none rfl) run_move hC hkr t1
      · have hx : a1.eval (.tmp 21) = .pointer (some ⟨R, 0, none⟩) := hT 2 (by decide) (by kernel_rfl)
        exact spcS_val (d := 22) rfl (wanted_none rfl) (by simp [execOp, hx]) hC hkr rfl
      · have hx : a1.eval (.tmp 22) = .pointer (some ⟨R, 0, none⟩) := hT 3 (by decide) (by kernel_rfl)
        exact spcS_val (d := 23) rfl (wanted_none rfl) (run_fieldAddr (m := 0) Tryz.underlying103 rfl (by kernel_rfl) hx) hC hkr rfl
      · have hx : a1.eval (.tmp 23) = .pointer (some ⟨R, 0, none⟩) := hT 4 (by decide) (by kernel_rfl)
        exact spcS_val (d := 24) rfl (wanted_none rfl) (run_loadCell (run_isAgg_plain Tryz.underlying35 rfl) cl5 hx) hC hkr rfl
    intro a1 w5 ha hC hT
    have t19 : slot a1 19 = .pointer (some ⟨T, 0, none⟩) := hT 0 (by decide)
    obtain ⟨l20, hl20, hrow⟩ : ∃ l : List Mv, l.map (·.1) = A ∧ RowM w1.heap.size NoM w5 (slot a1 20) l := hT 1 (by decide)
    have t21 : slot a1 21 = .pointer (some ⟨R, 0, none⟩) := hT 2 (by decide)
    have t22 : slot a1 22 = .pointer (some ⟨R, 0, none⟩) := hT 3 (by decide)
    have t23 : slot a1 23 = .pointer (some ⟨R, 0, none⟩) := hT 4 (by decide)
    have t24 : slot a1 24 = .slice ua un uc := hT 5 (by decide)
    simp only [List.foldl_cons, List.foldl_nil, t19, t21, t22, t23, t24] at ha
    have HROW := Keep.keep hrow; have HL20 := Keep.keep hl20
    have HC5 := Keep.keep hC
    clear hT t19 t21 t22 t23 t24 hrow hC hl20
    generalize slot a1 20 = y20 at *
    subst ha
    simp only [List.drop_succ_cons, List.drop_zero]
    simp only [Act.put, List.setIfInBounds_toArray, List.set_cons_succ, List.set_cons_zero]
    go_wp2_with fail
    refine (eqf_any _ _ l20 l w5 (MbL.ofRow HROW.out) ((HRI.out.mbs.below HC5.out HNN.out HNN.out).mono (fun b h => Nat.lt_of_lt_of_le (HNN.out b h) HC5.out.size) (fun b h => Nat.lt_of_lt_of_le (HNN.out b h) HC5.out.size))).mono ?_
    rintro e w6 ⟨he, hb⟩
    have hex : e = .returned (.bool true) := he.det ⟨fun _ => HL20.out.trans HL.out.symm, fun _ => rfl⟩
    subst hex
    have HB6 := Keep.keep (HB1.out.trans ((HC5.out.trans (hb.mono HC5.out.size)).mono HB1.out.size))
    clear he hb
    go_wp2_with fail
    go_ret
    exact ⟨rfl, HB6.out⟩
end Go.Proofs.YtplafpokgpolkaaGreatDoor
/- What applying changesets gives, one behind the other: a tree or an error, never both. -/
namespace Go.Proofs.YtplafpokgpolkaaGreatDoor
theorem newT_or (P : List Mb) : ((newT P).1 ≠ 0 ∧ (newT P).2 = none) ∨ ∃ t, newT P = (0, some t) ∧ t.length ≤ P.length := by
  unfold newT
  split
  · exact .inl ⟨by decide, rfl⟩
  · split
    · exact .inl ⟨by decide, rfl⟩
    · split
      · exact .inl ⟨by decide, rfl⟩
      · split
        · exact .inl ⟨by decide, rfl⟩
        · exact .inr ⟨_, rfl, growT_len P⟩
theorem apply_or (A S : List Mb) : ((applyC A S).1 ≠ 0 ∧ (applyC A S).2 = none) ∨ ∃ U, applyC A S = (0, some U) ∧ U.length ≤ A.length + S.length := by
  unfold applyC
  split
  · rename_i h; exact .inl ⟨h, rfl⟩
  · rcases newT_or (A.filter (fun m => staysC S m.1) ++ plainC S) with h | ⟨t, h1, h2⟩
    · exact .inl h
    · refine .inr ⟨t, h1, Nat.le_trans h2 ?_⟩
      rw [List.length_append]
      have h3 := List.length_filter_le (fun m => staysC S m.1) A
      have h4 : (plainC S).length ≤ S.length := List.length_filter_le _ S
      omega
/-- changesets, one behind the other -/
def foldC (A : List Mb) : List (List Mb) → Int × Option (List Mb)
  | [] => (0, some A)
  | S :: r => match (applyC A S).2 with
    | none => ((applyC A S).1, none)
    | some U => foldC U r
theorem foldC_nil (A : List Mb) : foldC A [] = (0, some A) := rfl
theorem foldC_fail {A S : List Mb} {r : List (List Mb)} (h : (applyC A S).2 = none) : foldC A (S :: r) = ((applyC A S).1, none) := by
  show (match (applyC A S).2 with | none => _ | some U => _) = _
  rw [h]
theorem foldC_step {A S U : List Mb} {r : List (List Mb)} (h : applyC A S = (0, some U)) : foldC A (S :: r) = foldC U r := by
  show (match (applyC A S).2 with | none => _ | some U => foldC U r) = _
  rw [h]
theorem fold_or2 (A X Y : List Mb) : ∀ t, (foldC A [X, Y]).2 = some t → t.length ≤ A.length + X.length + Y.length := by
  intro t ht
  rcases apply_or A X with ⟨h1, h2⟩ | ⟨U, h1, h2⟩
  · rw [foldC_fail h2] at ht; cases ht
  · rw [foldC_step h1] at ht
    rcases apply_or U Y with ⟨h3, h4⟩ | ⟨V, h3, h4⟩
    · rw [foldC_fail h4] at ht; cases ht
    · rw [foldC_step h3, foldC_nil] at ht
      injection ht with ht
      subst ht
      omega
theorem app_some {A S : List Mb} : ∀ t, (applyC A S).2 = some t → t.length ≤ A.length + S.length := by
  intro t ht
  rcases apply_or A S with ⟨h1, h2⟩ | ⟨U, h1, h2⟩
  · rw [h2] at ht; cases ht
  · rw [h1] at ht
    injection ht with ht
    subst ht
    exact h2
end Go.Proofs.YtplafpokgpolkaaGreatDoor
/- portolanref19.May. -/
namespace Go.Proofs.YtplafpokgpolkaaGreatDoor
open Go.RowKit
theorem le_less (x y : Tx) : (Op.bytesLess x y || x == y) = !Op.bytesLess y x := by
  rw [less_lt, less_lt, Bool.eq_iff_iff]
  simp only [Bool.or_eq_true, decide_eq_true_eq, beq_iff_eq, Bool.not_eq_true', decide_eq_false_iff_not]
  constructor
  · rintro (h | rfl)
    · exact fun h2 => List.lt_irrefl x (List.lt_trans h h2)
    · exact List.lt_irrefl _
  · intro h
    have h := List.not_lt.1 h
    exact (List.le_iff_lt_or_eq.1 h)
theorem class_few (p : Tx) : 0 ≤ (classP p).1 ∧ (classP p).1 ≤ 4 := by
  unfold classP
  split
  · exact ⟨by decide, by decide⟩
  · split
    · exact ⟨by decide, by decide⟩
    · have : lastC (baseP p) ≤ 3 := by unfold lastC; split <;> (try split) <;> omega
      show 0 ≤ ((lastC (baseP p) : Nat) : Int) ∧ ((lastC (baseP p) : Nat) : Int) ≤ 4
      omega
set_option maxHeartbeats 8000000 in
set_option maxRecDepth 100000 in
theorem rmay19_any (v : Value) (l : List Mv) (w : World) (hr : Mbs w (· < w.heap.size) (· < w.heap.size) v l) (hs : ∀ x ∈ l, Sm x.1) (hl : l.length ≤ 1000000) :
    Calls Tryz.prog 37 #[v] w fun e w' => e = .returned (.int .i64 (mayC (l.map (·.1)))) ∧ Below w.heap.size w w' := by
  obtain ⟨a, cap, hv, hcap, hmx, h3⟩ := hr.rd.shape
  have HR := Keep.keep hr; have H3 := Keep.keep h3; have HS := Keep.keep hs
  unfold maxLen at hmx
  clear hr h3 hs
  subst hv
  obtain ⟨S, hS⟩ : ∃ S, l.map (·.1) = S := ⟨_, rfl⟩
  obtain ⟨n, hn⟩ : ∃ n, l.length = n := ⟨_, rfl⟩
  have HSL : Keep (S.length = n ∧ l.length = n) := ⟨by rw [← hS, List.length_map]; exact hn, hn⟩
  rw [hS]
  rw [hn] at hl hcap ⊢
  clear hn
  obtain ⟨out, hout⟩ : ∃ out, mayC S = out := ⟨_, rfl⟩
  have HOUT : Keep (mayFrom S 0 (S.drop 0) = out) := ⟨hout⟩
  rw [hout]
  have HSS := Keep.keep hS
  clear hout hS
  go_enter Tryz.func37, Tryz.ntmps37
  go_wp2_with fail
  go_loopg [3, 4, 5, 6, 7, 8, 9, 10, 11, 12] n (fun g u3 _ _ _ _ _ _ _ _ _ wx => ∃ (k : Nat), k + g = n ∧ u3 = .int .i64 (k : Int) ∧ mayFrom S k (S.drop k) = out ∧ Below w.heap.size w wx)
  case atStart => exact ⟨0, by omega, rfl, HOUT.out, Below.refl _ _⟩
  case round =>
    obtain ⟨k, hkg, rfl, hmf, hb⟩ := hrel
    have HMF := Keep.keep hmf; have HB := Keep.keep hb
    clear hmf hb
    cases gk with
    | zero =>
      obtain rfl : k = n := by omega
      have HE : Keep (out = if 4096 < k then 42 else 0) := ⟨by rw [← HMF.out, mayFrom_end S _ HSL.out.1.symm, HSL.out.1]⟩
      by_cases hbig : 4096 < k
      · have hd : decide (4096 < (k : Int)) = true := decide_eq_true (by omega)
        go_wp2_with fail
        go_ret
        exact ⟨by rw [HE.out, if_pos hbig]; rfl, HB.out⟩
      · have hd : decide (4096 < (k : Int)) = false := decide_eq_false (by omega)
        go_wp2_with fail
        go_ret
        exact ⟨by rw [HE.out, if_neg hbig]; rfl, HB.out⟩
    | succ g =>
      have hk : k < n := by omega
      have hkl : k < l.length := by have := HSL.out; omega
      have hdi : (k : Int) < (n : Int) := by omega
      have hdd : decide ((k : Int) < (n : Int)) = true := decide_eq_true (by omega)
      obtain ⟨b, off, rfl, hbl⟩ : ∃ b off, a = some ⟨b, off, none⟩ ∧ b < w.heap.size := by
        rcases H3.out with h | ⟨b, off, h, hb⟩
        · omega
        · exact ⟨b, off, h, hb⟩
      have hrx := HR.out.below HB.out (fun b hb => hb) (fun b hb => hb)
      have hld := hrx.load hkl
      have hkS : k < S.length := by rw [HSL.out.1]; exact hk
      have hSk : S[k] = l[k].1 := by simp [← HSS.out]
      have HSTEP : Keep (out = if errC S k l[k].1 ≠ 0 then errC S k l[k].1 else mayFrom S (k + 1) (S.drop (k + 1))) := ⟨by rw [← HMF.out, mayFrom_step hkS, hSk]⟩
      have hsx := HS.out l[k] (List.getElem_mem hkl)
      have HND := Keep.keep (HR.out.nd l[k] (List.getElem_mem hkl))
      have HPV : Keep (∀ j, k = j + 1 → ∃ pp : Tx, notUp S k l[k].1 = !Op.bytesLess pp l[k].1.1 ∧ ∀ wx, Below w.heap.size w wx → wx.cell? ⟨b, off + j * 9, none⟩ = some (.string ⟨pp.toArray⟩)) := ⟨fun j hj => by
        have hj2 : j < l.length := by omega
        refine ⟨l[j].1.1, ?_, fun wx hb => (HR.out.below hb (fun b hb => hb) (fun b hb => hb)).cell hj2 0 (by decide) rfl⟩
        have hjS : S[j]? = some l[j].1 := by rw [← HSS.out, List.getElem?_map, List.getElem?_eq_getElem hj2]; rfl
        subst hj
        unfold notUp
        simp only
        rw [hjS]
        simp only
        rw [less_lt, Bool.eq_iff_iff]
        simp [List.not_lt]⟩
      have HNU : Keep (k = 0 → notUp S k l[k].1 = false) := ⟨fun e => by
        generalize l[k].1 = z
        subst e; rfl⟩
      clear hrx hSk hkS
      have HERR : Keep (errC S k l[k].1 = if (!mayT ([97], l[k].1.2) || notUp S k l[k].1) = true then 1 else if cls l[k].1 < 1 ∨ 3 < cls l[k].1 then 32 else if cls l[k].1 ≠ 1 ∧ bareB l[k].1.2 = false then 31 else if (aboveP l[k].1.1).any (fun q => !isDirM (S.take k) q) = true then 33 else 0) := ⟨rfl⟩
      generalize l[k] = x at *
      obtain ⟨⟨xp, ⟨kind, mode, uid, gid, time, attrs, data, link⟩⟩, av, dv⟩ := x
      obtain ⟨aa, ca, ad, cd, e1, e2⟩ : ∃ aa ca ad cd, av = .slice aa attrs.length ca ∧ dv = .slice ad data.length cd := by
        obtain ⟨aa, ca, e1, -⟩ := HND.out.at_.shape
        obtain ⟨ad, cd, e2, -⟩ := HND.out.dt.shape
        exact ⟨aa, ca, ad, cd, e1, e2⟩
      dsimp only at e1 e2 hsx HERR HSTEP HPV HNU
      have hxp := hsx.p
      dsimp only at hxp
      subst e1 e2
      have HBARE : Keep (bareB ⟨kind, mode, uid, gid, time, attrs, data, link⟩ = ((kind == 2) && (mode == 0) && (uid == 0) && (gid == 0) && (time == 0) && ((attrs.length : Int) == 0) && ((data.length : Int) == 0) && (link == []))) := ⟨by
        unfold bareB
        have g : ∀ x : Nat, ((x : Int) == 0) = decide (x = 0) := fun x => by
          rw [Bool.eq_iff_iff, beq_iff_eq, decide_eq_true_eq]; omega
        rw [g, g]
        rfl⟩
      obtain ⟨la, hla⟩ : ∃ q, q = attrs.length := ⟨_, rfl⟩
      obtain ⟨ld, hlD⟩ : ∃ q, q = data.length := ⟨_, rfl⟩
      have HLA : Keep (la = attrs.length ∧ ld = data.length) := ⟨hla, hlD⟩
      rw [← hla, ← hlD] at HBARE HND hld
      have HMC : Keep (mcell ((xp, ⟨kind, mode, uid, gid, time, attrs, data, link⟩), .slice aa la ca, .slice ad ld cd) = #[.string ⟨xp.toArray⟩, .int .i64 kind, .int .u32 mode, .int .u32 uid, .int .u32 gid, .int .i64 time, .slice aa la ca, .slice ad ld cd, .string ⟨link.toArray⟩]) := ⟨rfl⟩
      rw [HMC.out] at hld
      clear hla hlD
      have HCL := Keep.keep (fun wx => rclass_any xp hxp wx)
      have HNX : Keep (∀ wx, Below w.heap.size w wx → NdR wx (· < wx.heap.size) ⟨kind, mode, uid, gid, time, attrs, data, link⟩ (.slice aa la ca) (.slice ad ld cd)) := ⟨fun wx hb => (HND.out.below hb (fun b hb => hb)).mono (fun b hb' => Nat.lt_of_lt_of_le hb' hb.size)⟩
      have HTM : Keep (∀ wx, Below w.heap.size w wx → Calls Tryz.prog 79 #[.agg (mbC ([97], ⟨kind, mode, uid, gid, time, attrs, data, link⟩) (.slice aa la ca) (.slice ad ld cd))] wx fun e w' => e = .returned (.bool (mayT ([97], ⟨kind, mode, uid, gid, time, attrs, data, link⟩))) ∧ Below wx.heap.size wx w') :=
        ⟨fun wx h => rmay12_any ([97], ⟨kind, mode, uid, gid, time, attrs, data, link⟩) _ _ ⟨by simp, hsx.l, hsx.d, hsx.a, hsx.n, hsx.k⟩ wx (HNX.out wx h)⟩
      have HNC : Keep (mbC ([97], ⟨kind, mode, uid, gid, time, attrs, data, link⟩) (.slice aa la ca) (.slice ad ld cd) = #[.string ⟨#[97]⟩, .int .i64 kind, .int .u32 mode, .int .u32 uid, .int .u32 gid, .int .i64 time, .slice aa la ca, .slice ad ld cd, .string ⟨link.toArray⟩]) := ⟨rfl⟩
      rw [HNC.out] at HTM
      have HAB := Keep.keep (fun wx => rabove_any xp (by omega) wx)
      have hcls : cls (xp, ⟨kind, mode, uid, gid, time, attrs, data, link⟩) = (classP xp).1 := rfl
      rw [hcls] at HERR
      have HABL : Keep (∀ q ∈ aboveP xp, q.length ≤ xp.length) := ⟨fun q hq => above_mem_len hq⟩
      have HABC : Keep ((aboveP xp).length ≤ xp.length) := ⟨by unfold aboveP; exact abvT_len xp xp.length⟩
      generalize errC S k (xp, ⟨kind, mode, uid, gid, time, attrs, data, link⟩) = er at *
      generalize mayT ([97], ⟨kind, mode, uid, gid, time, attrs, data, link⟩) = mt at *
      generalize bareB ⟨kind, mode, uid, gid, time, attrs, data, link⟩ = bb at *
      generalize notUp S k (xp, ⟨kind, mode, uid, gid, time, attrs, data, link⟩) = nu at *
      obtain ⟨⟨cl, tg⟩, hcp⟩ : ∃ c, classP xp = c := ⟨_, rfl⟩
      have hfew := class_few xp
      rw [hcp] at HCL HERR hfew
      dsimp only at HCL HERR hfew
      generalize aboveP xp = ab at *
      clear hcls hcp hsx
      have HZ : Keep ((#[.string ⟨xp.toArray⟩, .int .i64 kind, .int .u32 mode, .int .u32 uid, .int .u32 gid, .int .i64 time, .slice aa la ca, .slice ad ld cd, .string ⟨link.toArray⟩] : Array Value).size = 9) := ⟨rfl⟩
      have HZ2 : Keep ((#[.string ⟨#[97]⟩, .int .i64 kind, .int .u32 mode, .int .u32 uid, .int .u32 gid, .int .i64 time, .slice aa la ca, .slice ad ld cd, .string ⟨link.toArray⟩] : Array Value).size = 9) := ⟨rfl⟩
      go_upto_region 5 with ((with_reducible refine arm_loadM hld ?_ ?_); (focus rfl); simp only [Act.put, List.setIfInBounds_toArray, List.set_cons_succ, List.set_cons_zero])
      refine wp_world (R := fun wq => Hp NoM w wq [rowA wr.heap.size 32 #[.string ⟨xp.toArray⟩, .int .i64 kind, .int .u32 mode, .int .u32 uid, .int .u32 gid, .int .i64 time, .slice aa la ca, .slice ad ld cd, .string ⟨link.toArray⟩]]) (((Hp.begin NoM w).call HB.out).newRow _ _) ?_
      intro w2 H2
      obtain ⟨b4, hb4⟩ : ∃ b, wr.heap.size = b := ⟨_, rfl⟩
      rw [hb4] at H2 ⊢
      have HR4 := Keep.keep (H2.out.row 0 rfl)
      clear hb4 hld HB
      go_upto_region 6 with ((with_reducible refine arm_loadRow HR4.out aggM HZ.out ?_ ?_); (focus rfl); simp only [Act.put, List.setIfInBounds_toArray, List.set_cons_succ, List.set_cons_zero])
      refine wp_world (R := fun wq => Hp NoM w wq [rowA b4 32 #[.string ⟨xp.toArray⟩, .int .i64 kind, .int .u32 mode, .int .u32 uid, .int .u32 gid, .int .i64 time, .slice aa la ca, .slice ad ld cd, .string ⟨link.toArray⟩], rowA w2.heap.size 32 #[.string ⟨xp.toArray⟩, .int .i64 kind, .int .u32 mode, .int .u32 uid, .int .u32 gid, .int .i64 time, .slice aa la ca, .slice ad ld cd, .string ⟨link.toArray⟩]]) (H2.out.newRow _ _) ?_
      intro w3 H3r
      obtain ⟨b5, hb5⟩ : ∃ b, w2.heap.size = b := ⟨_, rfl⟩
      rw [hb5] at H3r ⊢
      clear hb5 H2 HR4
      have k5 := (H3r.out.row 1 rfl).cell (i := 0) rfl
      have k5f := (H3r.out.row 1 rfl).frozen 0
      go_upto_region 7 with fail
      refine wp_world (R := fun wq => Hp NoM w wq [rowA b4 32 #[.string ⟨xp.toArray⟩, .int .i64 kind, .int .u32 mode, .int .u32 uid, .int .u32 gid, .int .i64 time, .slice aa la ca, .slice ad ld cd, .string ⟨link.toArray⟩], rowA b5 32 #[.string ⟨#[97]⟩, .int .i64 kind, .int .u32 mode, .int .u32 uid, .int .u32 gid, .int .i64 time, .slice aa la ca, .slice ad ld cd, .string ⟨link.toArray⟩]]) (H3r.out.setCell 1 rfl 0 _ rfl) ?_
      intro w4 H4
      clear k5 k5f H3r
      have HXP : Keep (∀ wx, Below w4.heap.size w4 wx → wx.cell? ⟨b4, 0, none⟩ = some (.string ⟨xp.toArray⟩)) := ⟨fun wx hb => ((H4.out.call hb).row 0 rfl).cell (i := 0) rfl⟩
      have HTM' : Keep (∀ wx, Below w4.heap.size w4 wx → Calls Tryz.prog 79 #[.agg #[.string ⟨#[97]⟩, .int .i64 kind, .int .u32 mode, .int .u32 uid, .int .u32 gid, .int .i64 time, .slice aa la ca, .slice ad ld cd, .string ⟨link.toArray⟩]] wx fun e w' => e = .returned (.bool mt) ∧ Below wx.heap.size wx w') := ⟨fun wx hb => HTM.out wx (H4.out.call hb).below⟩
      go_cut [42] from 25 to 41 (fun u42 wx => u42 = .bool (!mt || nu) ∧ Below w4.heap.size w4 wx)
      case first =>
        cases mt with
        | false =>
            refine wp_region_cls (fun w' => Below w4.heap.size w4 w') (by kernel_rfl) (by kernel_rfl) (Below.refl _ _).drew ?_
            repeat (first
              | ((with_reducible refine cls_loadRow ?_ (fun w1 hw1 => (H4.out.call hw1).row 1 rfl) aggM HZ2.out ?_ ?_); (focus rfl); (focus rfl); simp only [Act.put, List.setIfInBounds_toArray, List.set_cons_succ, List.set_cons_zero])
              | ((with_reducible refine cls_cell ?_ HXP.out (run_isAgg_plain Tryz.underlying9 rfl) ?_ ?_); (focus rfl); (focus rfl); simp only [Act.put, List.setIfInBounds_toArray, List.set_cons_succ, List.set_cons_zero])
              | ((with_reducible refine cls_call (f := 79) ?_ (Go.Proofs.enters_of Tryz.func79 (by kernel_rfl) rfl) ?_ (fun w1 hw1 => (HTM'.out w1 hw1).mono (fun e w2 he => ⟨he.1, hw1.trans (he.2.mono hw1.size)⟩)) ?_); (focus rfl); (focus (first | exact Array.map_empty | (simp only [List.map_toArray, List.map_cons, List.map_nil]; rfl))); simp only [Act.put, List.setIfInBounds_toArray, List.set_cons_succ, List.set_cons_zero])
              | (first | go_big_quiet_step (fail) | (go_big_quiet_want; go_big_quiet_op; (refine ⟨_, fun _ _ => rfl, ?_⟩); go_big_quiet_on)))
            (refine wpQuiet_nil ?_); intro w5 hw5
            have HB5 := Keep.keep hw5
            clear hw5
            go_wp2_with fail
            go_meet
            case rel => exact ⟨rfl, HB5.out⟩
        | true =>
          rcases Nat.eq_zero_or_pos k with hk0 | hk0
          · have HNF := Keep.keep (HNU.out hk0)
            have hd : decide (0 < (k : Int)) = false := decide_eq_false (by omega)
            have hd2 : decide (0 < k) = false := decide_eq_false (by omega)
            clear hk0
            refine wp_region_cls (fun w' => Below w4.heap.size w4 w') (by kernel_rfl) (by kernel_rfl) (Below.refl _ _).drew ?_
            repeat (first
              | ((with_reducible refine cls_loadRow ?_ (fun w1 hw1 => (H4.out.call hw1).row 1 rfl) aggM HZ2.out ?_ ?_); (focus rfl); (focus rfl); simp only [Act.put, List.setIfInBounds_toArray, List.set_cons_succ, List.set_cons_zero])
              | ((with_reducible refine cls_cell ?_ HXP.out (run_isAgg_plain Tryz.underlying9 rfl) ?_ ?_); (focus rfl); (focus rfl); simp only [Act.put, List.setIfInBounds_toArray, List.set_cons_succ, List.set_cons_zero])
              | ((with_reducible refine cls_call (f := 79) ?_ (Go.Proofs.enters_of Tryz.func79 (by kernel_rfl) rfl) ?_ (fun w1 hw1 => (HTM'.out w1 hw1).mono (fun e w2 he => ⟨he.1, hw1.trans (he.2.mono hw1.size)⟩)) ?_); (focus rfl); (focus (first | exact Array.map_empty | (simp only [List.map_toArray, List.map_cons, List.map_nil]; rfl))); simp only [Act.put, List.setIfInBounds_toArray, List.set_cons_succ, List.set_cons_zero])
              | (first | go_big_quiet_step (fail) | (go_big_quiet_want; go_big_quiet_op; (refine ⟨_, fun _ _ => rfl, ?_⟩); go_big_quiet_on)))
            (refine wpQuiet_nil ?_); intro w5 hw5
            have HB5 := Keep.keep hw5
            clear hw5 hd hd2
            go_wp2_with fail
            go_meet
            case rel => exact ⟨by rw [HNF.out]; rfl, HB5.out⟩
          · obtain ⟨j, hj⟩ : ∃ j, k = j + 1 := ⟨k - 1, by omega⟩
            obtain ⟨pp, hnu, hpc⟩ := HPV.out j hj
            have HPC : Keep (∀ wx, Below w4.heap.size w4 wx → wx.cell? ⟨b, off + j * 9, none⟩ = some (.string ⟨pp.toArray⟩)) := ⟨fun wx hb => hpc wx (H4.out.call hb).below⟩
            have hkj : ((k : Int) - 1) = (j : Int) := by omega
            have hd : decide (0 < (k : Int)) = true := decide_eq_true (by omega)
            have hd2 : decide (0 < k) = true := decide_eq_true (by omega)
            clear hk0
            have HNUJ := Keep.keep hnu
            have hjl : j < n := by omega
            clear hnu hpc hj
            refine wp_region_cls (fun w' => Below w4.heap.size w4 w') (by kernel_rfl) (by kernel_rfl) (Below.refl _ _).drew ?_
            repeat (first
              | ((with_reducible refine cls_loadRow ?_ (fun w1 hw1 => (H4.out.call hw1).row 1 rfl) aggM HZ2.out ?_ ?_); (focus rfl); (focus rfl); simp only [Act.put, List.setIfInBounds_toArray, List.set_cons_succ, List.set_cons_zero])
              | ((with_reducible refine cls_cell ?_ HPC.out (run_isAgg_plain Tryz.underlying9 rfl) ?_ ?_); (focus rfl); (focus rfl); simp only [Act.put, List.setIfInBounds_toArray, List.set_cons_succ, List.set_cons_zero])
              | ((with_reducible refine cls_cell ?_ HXP.out (run_isAgg_plain Tryz.underlying9 rfl) ?_ ?_); (focus rfl); (focus rfl); simp only [Act.put, List.setIfInBounds_toArray, List.set_cons_succ, List.set_cons_zero])
              | ((with_reducible refine cls_call (f := 79) ?_ (Go.Proofs.enters_of Tryz.func79 (by kernel_rfl) rfl) ?_ (fun w1 hw1 => (HTM'.out w1 hw1).mono (fun e w2 he => ⟨he.1, hw1.trans (he.2.mono hw1.size)⟩)) ?_); (focus rfl); (focus (first | exact Array.map_empty | (simp only [List.map_toArray, List.map_cons, List.map_nil]; rfl))); simp only [Act.put, List.setIfInBounds_toArray, List.set_cons_succ, List.set_cons_zero])
              | (first | go_big_quiet_step (fail) | (go_big_quiet_want; go_big_quiet_op; (refine ⟨_, fun _ _ => rfl, ?_⟩); go_big_quiet_on)))
            (refine wpQuiet_nil ?_); intro w5 hw5
            have HB5 := Keep.keep hw5
            clear hw5 hd hd2 hkj
            go_wp2_with fail
            go_meet
            case rel => exact ⟨by rw [HNUJ.out, ← le_less xp pp]; rfl, HB5.out⟩
      case rest =>
      obtain ⟨rfl, hbc⟩ := hcut
      have H5 := Keep.keep (H4.out.call hbc)
      clear hbc H4 HXP HTM' HTM HPV HNU HZ2
      obtain ⟨bad, hbad⟩ : ∃ q, (!mt || nu) = q := ⟨_, rfl⟩
      rw [hbad] at HERR ⊢
      clear hbad
      cases bad
      case true =>
        have HE1 : Keep (out = 1) := ⟨by rw [HSTEP.out, HERR.out]; rfl⟩
        have HB5 := Keep.keep H5.out.below
        go_wp2_with fail
        go_ret
        exact ⟨by rw [HE1.out]; rfl, HB5.out⟩
      have HE : Keep (er = if cl < 1 ∨ 3 < cl then 32 else if cl ≠ 1 ∧ bb = false then 31 else if ab.any (fun q => !isDirM (S.take k) q) = true then 33 else 0) := ⟨HERR.out⟩
      have HOE : Keep (∀ c : Int, er = c → c ≠ 0 → out = c) := ⟨fun c h1 h2 => by rw [HSTEP.out, h1, if_pos h2]⟩
      have c40 := (H5.out.row 0 rfl).cell (i := 0) rfl
      go_wp2_with fail
      refine (HCL.out _).mono ?_
      rintro e w6 ⟨rfl, hb⟩
      have H6 := Keep.keep (H5.out.call hb)
      clear hb HCL H5 HERR c40
      by_cases z0 : cl = 0
      focus
        have d0 : (cl == 0) = true := by rw [z0]; rfl
        have HX : Keep (out = 32) := ⟨HOE.out 32 (by rw [HE.out, if_pos (.inl (by omega))]) (by decide)⟩
        have HB6 := Keep.keep H6.out.below
        clear z0
        go_wp2_with fail
        go_ret
        exact ⟨by rw [HX.out]; rfl, HB6.out⟩
      have d0 : (cl == 0) = false := by rw [beq_eq_false_iff_ne]; exact z0
      by_cases z4 : cl = 4
      focus
        have d4 : (cl == 4) = true := by rw [z4]; rfl
        have HX : Keep (out = 32) := ⟨HOE.out 32 (by rw [HE.out, if_pos (.inr (by omega))]) (by decide)⟩
        have HB6 := Keep.keep H6.out.below
        clear z4 z0
        go_wp2_with fail
        go_ret
        exact ⟨by rw [HX.out]; rfl, HB6.out⟩
      have d4 : (cl == 4) = false := by rw [beq_eq_false_iff_ne]; exact z4
      have HE2 : Keep (er = if cl ≠ 1 ∧ bb = false then 31 else if ab.any (fun q => !isDirM (S.take k) q) = true then 33 else 0) := ⟨by rw [HE.out, if_neg (by omega)]⟩
      clear HE z0 z4 hfew
      have hla : ∀ wx, Below w6.heap.size w6 wx → (Instr.loadAt 30 (.pointer (some ⟨b4, 1, none⟩))).run Tryz.prog wx = .ok (.agg #[.int .i64 kind, .int .u32 mode, .int .u32 uid, .int .u32 gid, .int .i64 time, .slice aa la ca, .slice ad ld cd, .string ⟨link.toArray⟩]) wx := fun wx hb => by
        have := run_loadAt_mid (P := Tryz.prog) wx b4 1 30 [.int .i64 kind, .int .u32 mode, .int .u32 uid, .int .u32 gid, .int .i64 time, .slice aa la ca, .slice ad ld cd, .string ⟨link.toArray⟩] _ (fun j z hj => (((H6.out.call hb).row 0 rfl).cell (i := 1 + j) (by rw [Nat.add_comm]; simpa using hj))) Tryz.underlying30 rfl (by kernel_rfl)
        simpa using this
      replace hla := hla w6 (Below.refl _ _)
      go_upto_region 13 with ((with_reducible refine arm_loadM hla ?_ ?_); (focus rfl); simp only [Act.put, List.setIfInBounds_toArray, List.set_cons_succ, List.set_cons_zero])
      clear hla d0 d4
      refine wp_world (R := fun wq => Hp NoM w wq [rowA b4 32 #[.string ⟨xp.toArray⟩, .int .i64 kind, .int .u32 mode, .int .u32 uid, .int .u32 gid, .int .i64 time, .slice aa la ca, .slice ad ld cd, .string ⟨link.toArray⟩], rowA b5 32 #[.string ⟨#[97]⟩, .int .i64 kind, .int .u32 mode, .int .u32 uid, .int .u32 gid, .int .i64 time, .slice aa la ca, .slice ad ld cd, .string ⟨link.toArray⟩], rowA w6.heap.size 30 #[.int .i64 kind, .int .u32 mode, .int .u32 uid, .int .u32 gid, .int .i64 time, .slice aa la ca, .slice ad ld cd, .string ⟨link.toArray⟩]]) (H6.out.newRow _ _) ?_
      intro w7 H7
      obtain ⟨b8, hb8⟩ : ∃ b, w6.heap.size = b := ⟨_, rfl⟩
      rw [hb8] at H7 ⊢
      clear hb8 H6
      go_cut [100] from 57 to 99 (fun u100 wx => u100 = .bool (cl != 1 && !bb) ∧ wx = w7)
      case first =>
        have c0 := (H7.out.row 2 rfl).cell (i := 0) rfl
        have c1 := (H7.out.row 2 rfl).cell (i := 1) rfl
        have c2 := (H7.out.row 2 rfl).cell (i := 2) rfl
        have c3 := (H7.out.row 2 rfl).cell (i := 3) rfl
        have c4 := (H7.out.row 2 rfl).cell (i := 4) rfl
        have c5 := (H7.out.row 2 rfl).cell (i := 5) rfl
        have c6 := (H7.out.row 2 rfl).cell (i := 6) rfl
        have c7 := (H7.out.row 2 rfl).cell (i := 7) rfl
        clear HE2
        by_cases z1 : cl = 1
        focus
          subst z1
          go_wp2_with fail
          go_meet
          case rel => exact ⟨by rfl, rfl⟩
        have y1 : (cl == 1) = false := by rw [beq_eq_false_iff_ne]; exact z1
        have x1 : (cl != 1) = true := by unfold bne; rw [y1]; rfl
        clear z1
        by_cases n0 : kind = 2
        rotate_left
        focus
          have e0 : (kind == 2) = false := by rw [beq_eq_false_iff_ne]; exact n0
          have x0 : (kind != 2) = true := by unfold bne; rw [e0]; rfl
          clear n0
          go_wp2_with fail
          go_meet
          case rel => exact ⟨by rw [HBARE.out]; unfold bne; rw [y1, e0]; rfl, rfl⟩
        subst n0
        by_cases n1 : mode = 0
        rotate_left
        focus
          have e1 : (mode == 0) = false := by rw [beq_eq_false_iff_ne]; exact n1
          have x0 : (mode != 0) = true := by unfold bne; rw [e1]; rfl
          clear n1
          go_wp2_with fail
          go_meet
          case rel => exact ⟨by rw [HBARE.out]; unfold bne; rw [y1, e1]; rfl, rfl⟩
        subst n1
        by_cases n2 : uid = 0
        rotate_left
        focus
          have e2 : (uid == 0) = false := by rw [beq_eq_false_iff_ne]; exact n2
          have x0 : (uid != 0) = true := by unfold bne; rw [e2]; rfl
          clear n2
          go_wp2_with fail
          go_meet
          case rel => exact ⟨by rw [HBARE.out]; unfold bne; rw [y1, e2]; rfl, rfl⟩
        subst n2
        by_cases n3 : gid = 0
        rotate_left
        focus
          have e3 : (gid == 0) = false := by rw [beq_eq_false_iff_ne]; exact n3
          have x0 : (gid != 0) = true := by unfold bne; rw [e3]; rfl
          clear n3
          go_wp2_with fail
          go_meet
          case rel => exact ⟨by rw [HBARE.out]; unfold bne; rw [y1, e3]; rfl, rfl⟩
        subst n3
        by_cases n4 : time = 0
        rotate_left
        focus
          have e4 : (time == 0) = false := by rw [beq_eq_false_iff_ne]; exact n4
          have x0 : (time != 0) = true := by unfold bne; rw [e4]; rfl
          clear n4
          go_wp2_with fail
          go_meet
          case rel => exact ⟨by rw [HBARE.out]; unfold bne; rw [y1, e4]; rfl, rfl⟩
        subst n4
        by_cases n5 : la = 0
        rotate_left
        focus
          have e5 : ((la : Int) == 0) = false := by rw [beq_eq_false_iff_ne]; omega
          have f5 : decide (0 < (la : Int)) = true := decide_eq_true (by omega)
          have g5 : decide (0 < la) = true := decide_eq_true (by omega)
          clear n5
          go_wp2_with fail
          go_meet
          case rel => exact ⟨by rw [HBARE.out]; unfold bne; rw [y1, e5]; rfl, rfl⟩
        subst n5
        by_cases n6 : ld = 0
        rotate_left
        focus
          have e6 : ((ld : Int) == 0) = false := by rw [beq_eq_false_iff_ne]; omega
          have f6 : decide (0 < (ld : Int)) = true := decide_eq_true (by omega)
          have g6 : decide (0 < ld) = true := decide_eq_true (by omega)
          clear n6
          go_wp2_with fail
          go_meet
          case rel => exact ⟨by rw [HBARE.out]; unfold bne; rw [y1, e6]; rfl, rfl⟩
        subst n6
        by_cases n7 : link = []
        rotate_left
        focus
          have e7 : (link == []) = false := by rw [beq_eq_false_iff_ne]; exact n7
          have x0 : (link != []) = true := by unfold bne; rw [e7]; rfl
          clear n7
          go_wp2_with fail
          go_meet
          case rel => exact ⟨by rw [HBARE.out]; unfold bne; rw [y1, e7]; rfl, rfl⟩
        subst n7
        go_wp2_with fail
        go_meet
        case rel => exact ⟨by rw [HBARE.out]; unfold bne; rw [y1]; rfl, rfl⟩
      case rest =>
      obtain ⟨rfl, hwc⟩ := hcut
      replace hwc := hwc.symm
      subst hwc
      obtain ⟨nb, hnb⟩ : ∃ q, (cl != 1 && !bb) = q := ⟨_, rfl⟩
      have HE3 : Keep (er = if nb = true then 31 else if ab.any (fun q => !isDirM (S.take k) q) = true then 33 else 0) := ⟨by
        rw [HE2.out, ← hnb]
        clear hnb
        by_cases h : cl = 1 <;> cases bb <;> simp [h]⟩
      rw [hnb]
      clear hnb HE2 HBARE HNX HNC HMC HND HLA
      cases nb
      rotate_left
      focus
        have HX : Keep (out = 31) := ⟨HOE.out 31 (by rw [HE3.out, if_pos rfl]) (by decide)⟩
        have HB7 := Keep.keep H7.out.below
        go_wp2_with fail
        go_ret
        exact ⟨by rw [HX.out]; rfl, HB7.out⟩
      have HE4 : Keep (er = if ab.any (fun q => !isDirM (S.take k) q) = true then 33 else 0) := ⟨by rw [HE3.out, if_neg (by decide)]⟩
      clear HE3
      have c40 := (H7.out.row 0 rfl).cell (i := 0) rfl
      go_wp2_with fail
      refine (HAB.out w7).mono ?_
      rintro e w8 ⟨va, rfl, hoa, hb⟩
      have HB8 := Keep.keep (H7.out.call hb).below
      have HOA := Keep.keep hoa
      obtain ⟨a9, c9, hva, -⟩ := (ownsV_reads hoa).shape
      obtain ⟨na, hna⟩ : ∃ q, ab.length = q := ⟨_, rfl⟩
      have HNA := Keep.keep hna
      have hnab : na ≤ 400000 := by have := HABC.out; omega
      have hnk : na = (ab.map strV).length := by rw [List.length_map]; exact hna.symm
      rw [hna] at hva
      clear hoa hb HAB H7 c40 hna hnk
      subst hva
      unfold OwnS at HOA
      go_wp2_with fail
      generalize wr = wo at *
      go_loopg [10, 11, 12] na (fun g2 u10 _ _ wx => ∃ (i : Nat), i + g2 = na ∧ u10 = .int .i64 (i : Int) ∧ ((ab.take i).any fun q => !isDirM (S.take k) q) = false ∧ Below w8.heap.size w8 wx)
      case atStart => exact ⟨0, by omega, rfl, rfl, Below.refl _ _⟩
      case round =>
        obtain ⟨i, hig, rfl, hpre, hb⟩ := hrel
        have HPRE := Keep.keep hpre; have HBI := Keep.keep hb
        clear hpre hb
        cases gk with
        | zero =>
          obtain rfl : i = na := by omega
          have HMF2 : Keep (mayFrom S (k + 1) (S.drop (k + 1)) = out) := ⟨by
            have h1 := HPRE.out
            rw [List.take_of_length_le (by rw [HNA.out]; exact Nat.le_refl _)] at h1
            rw [HSTEP.out, HE4.out, h1]
            rfl⟩
          have HBX := Keep.keep (HB8.out.trans (HBI.out.mono HB8.out.size))
          clear HBI
          go_wp2_with fail
          go_roundg g
          case measure => omega
          case rel => exact ⟨k + 1, by omega, by simp, HMF2.out, HBX.out⟩
        | succ g2 =>
          have hi : i < na := by omega
          have hia : i < ab.length := by have := HNA.out; omega
          have hdj : decide ((i : Int) < (na : Int)) = true := decide_eq_true (by omega)
          have hdji : (i : Int) < (na : Int) := by omega
          obtain ⟨g9, rfl⟩ : ∃ g9, a9 = some ⟨g9, 0, none⟩ := by
            rcases HOA.out.2 with ⟨h1, h2⟩ | ⟨g', cap', cur, h1, -⟩
            · omega
            · injection h1 with h1; exact ⟨g', h1⟩
          have HCV : Keep (∀ wx, Below w8.heap.size w8 wx → wx.cell? ⟨g9, i, none⟩ = some (.string ⟨(ab[i]).toArray⟩)) := ⟨fun wx hb => by
            have := (ownsV_reads (ownsRow_loc _ _ (fun b e => hb.block b (ownsV_lt HOA.out b e).2) HOA.out)).cell g9 0 _ _ rfl i (strV ab[i]) (by simp [hia])
            rw [Nat.zero_add] at this
            exact this⟩
          have HQA : Keep (((ab.take (i + 1)).any fun q => !isDirM (S.take k) q) = !isDirM (S.take k) ab[i]) := ⟨by
            rw [List.take_succ_eq_append_getElem hia, List.any_append, HPRE.out]; simp⟩
          have HQB : Keep (isDirM (S.take k) ab[i] = false → out = 33) := ⟨fun h => HOE.out 33 (by
            rw [HE4.out, if_pos]
            rw [List.any_eq_true]
            exact ⟨ab[i], List.getElem_mem hia, by rw [h]; rfl⟩) (by decide)⟩
          generalize ab[i] = q at *
          go_wp2_with fail
          generalize wr = wi at *
          go_loopg [11, 12] k (fun g3 u11 u12 wx => ∃ (j : Nat), j + g3 = k ∧ u12 = .int .i64 (j : Int) ∧ u11 = .bool (isDirM (S.take j) q) ∧ Below w8.heap.size w8 wx)
          case atStart => exact ⟨0, by omega, rfl, rfl, HBI.out⟩
          case round =>
            obtain ⟨j, hjg, rfl, rfl, hb⟩ := hrel
            have HBJ := Keep.keep hb
            clear hb
            cases gk with
            | zero =>
              obtain rfl : j = k := by omega
              have HBX := Keep.keep (HB8.out.trans (HBJ.out.mono HB8.out.size))
              cases hdi2 : isDirM (S.take j) q with
              | false =>
                have HX := Keep.keep (HQB.out hdi2)
                clear hdi2 HQA
                go_wp2_with fail
                go_ret
                exact ⟨by rw [HX.out]; rfl, HBX.out⟩
              | true =>
                have HX : Keep (((ab.take (i + 1)).any fun q => !isDirM (S.take j) q) = false) := ⟨by rw [HQA.out, hdi2]; rfl⟩
                clear hdi2 HQA HQB
                go_wp2_with fail
                go_roundg g2
                case measure => omega
                case rel => exact ⟨i + 1, by omega, by simp, HX.out, HBJ.out⟩
            | succ g3 =>
              have hj : j < k := by omega
              have hjl : j < l.length := by have := HSL.out; omega
              have hjd : decide ((j : Int) < (k : Int)) = true := decide_eq_true (by omega)
              have hjn : (j : Int) < (n : Int) := by omega
              have hmb := HR.out.below (HB8.out.trans (HBJ.out.mono HB8.out.size)) (fun b hb => hb) (fun b hb => hb)
              have d1 := hmb.cell hjl 0 (by decide) (u := .string ⟨l[j].1.1.toArray⟩) rfl
              have d2 := hmb.cell hjl 1 (by decide) (u := .int .i64 l[j].1.2.kind) rfl
              rw [Nat.add_zero] at d1
              have d3 := HCV.out _ HBJ.out
              have HSN : Keep (isDirM (S.take (j + 1)) q = (isDirM (S.take j) q || (l[j].1.1 == q && decide (l[j].1.2.kind = 1)))) := ⟨by
                have hjS : j < S.length := by have := HSL.out; omega
                have hSj : S[j] = l[j].1 := by simp [← HSS.out]
                rw [List.take_succ_eq_append_getElem hjS, isDirM_snoc, hSj]⟩
              clear hmb
              generalize l[j].1.1 = yp at *
              generalize l[j].1.2.kind = yk at *
              generalize isDirM (S.take j) q = f0 at *
              cases e1 : (yp == q) with
              | false =>
                have HX : Keep (isDirM (S.take (j + 1)) q = f0) := ⟨by rw [HSN.out, e1]; simp⟩
                go_upto_region 23 with fail
                (refine wp_region_quiet_lit (by kernel_rfl) (by kernel_rfl) ?_); (repeat (first | (fail) | go_big_quiet_step (fail))); (refine wpQuiet_nil ?_); (intro _ hwq); (obtain ⟨nq, hwq⟩ := hwq); (subst hwq)
                clear d1 d2 d3 e1 HSN
                go_wp2_with fail
                go_roundg g3
                case measure => omega
                case rel => exact ⟨j + 1, by omega, by simp, by rw [HX.out], below_drewN' HBJ.out _⟩
              | true =>
                by_cases hk1 : yk = 1
                focus
                  have HX : Keep (isDirM (S.take (j + 1)) q = true) := ⟨by rw [HSN.out, e1, decide_eq_true hk1]; simp⟩
                  subst hk1
                  have e3 : yp = q := by simpa using e1
                  subst e3
                  go_upto_region 23 with fail
                  (refine wp_region_quiet_lit (by kernel_rfl) (by kernel_rfl) ?_); (repeat (first | (fail) | go_big_quiet_step (fail))); (refine wpQuiet_nil ?_); (intro _ hwq); (obtain ⟨nq, hwq⟩ := hwq); (subst hwq)
                  clear d1 d2 d3 e1 HSN
                  go_wp2_with fail
                  go_roundg g3
                  case measure => omega
                  case rel => exact ⟨j + 1, by omega, by simp, by rw [HX.out], below_drewN' HBJ.out _⟩
                have e2 : (yk == 1) = false := by rw [beq_eq_false_iff_ne]; exact hk1
                have HX : Keep (isDirM (S.take (j + 1)) q = f0) := ⟨by rw [HSN.out, decide_eq_false hk1]; simp⟩
                have e3 : yp = q := by simpa using e1
                subst e3
                clear hk1
                go_upto_region 23 with fail
                (refine wp_region_quiet_lit (by kernel_rfl) (by kernel_rfl) ?_); (repeat (first | (fail) | go_big_quiet_step (fail))); (refine wpQuiet_nil ?_); (intro _ hwq); (obtain ⟨nq, hwq⟩ := hwq); (subst hwq)
                clear d1 d2 d3 e1 e2 HSN
                go_wp2_with fail
                go_roundg g3
                case measure => omega
                case rel => exact ⟨j + 1, by omega, by simp, by rw [HX.out], below_drewN' HBJ.out _⟩
end Go.Proofs.YtplafpokgpolkaaGreatDoor
/- portolanref19.Stays. -/
namespace Go.Proofs.YtplafpokgpolkaaGreatDoor
open Go.RowKit
theorem stays_snoc (S : List Mb) (m : Mb) (p : Tx) : ((S ++ [m]).all fun x => !hits x p) = ((S.all fun x => !hits x p) && !hits m p) := by simp [List.all_append]
/-- hits, by what the reference asks -/
def hitB (c1 c2 c3 e u d : Bool) : Bool := (c1 && (e || (!d && u))) || (c2 && (e || u)) || (c3 && u)
theorem hits_b (m : Mb) (p : Tx) : hits m p = hitB (cls m == 1) (cls m == 2) (cls m == 3) (p == tgt m) (underP (tgt m) p) (m.2.kind == 1) := by
  unfold hits hitB
  have h1 : ∀ a b : Int, decide (a = b) = (a == b) := fun a b => by rw [Bool.eq_iff_iff]; simp
  have h2 : (tgt m == p) = (p == tgt m) := BEq.comm
  have h3 : decide (m.2.kind ≠ 1) = !(m.2.kind == 1) := by rw [← h1]; simp
  rw [h1, h1, h1, h2, h3]
set_option maxHeartbeats 4000000 in
set_option maxRecDepth 100000 in
theorem rstays_any (v : Value) (l : List Mv) (p : Tx) (hp : p.length ≤ 400000) (w : World) (hr : Mbs w (· < w.heap.size) (· < w.heap.size) v l) (hs : ∀ x ∈ l, Sm x.1) (hl : l.length ≤ 1000000) :
    Calls Tryz.prog 39 #[v, .string ⟨p.toArray⟩] w fun e w' => e = .returned (.bool (staysC (l.map (·.1)) p)) ∧ Below w.heap.size w w' := by
  obtain ⟨a, cap, hv, hcap, hmx, h3⟩ := hr.rd.shape
  have HR := Keep.keep hr; have H3 := Keep.keep h3; have HS := Keep.keep hs
  unfold maxLen at hmx
  clear hr h3 hs
  subst hv
  have hbe : (p == []) = p.isEmpty := by cases p <;> rfl
  obtain ⟨pe, hpe⟩ : ∃ b, p.isEmpty = b := ⟨_, rfl⟩
  have HD : Keep (staysC (l.map (·.1)) p = (!pe && (l.map (·.1)).all fun x => !hits x p)) := ⟨by rw [← hpe, ← hbe]; rfl⟩
  rw [hpe] at hbe
  clear hpe
  generalize staysC (l.map (·.1)) p = out at *
  cases pe with
  | true =>
    go_enter Tryz.func39, Tryz.ntmps39
    go_wp2_with fail
    go_ret
    exact ⟨by rw [HD.out]; rfl, Below.refl _ _⟩
  | false =>
    obtain ⟨n, hn⟩ : ∃ n, l.length = n := ⟨_, rfl⟩
    have HN := Keep.keep hn
    rw [hn] at hl hcap ⊢
    clear hn
    go_enter Tryz.func39, Tryz.ntmps39
    go_wp2_with fail
    go_loopg [5, 6, 7, 8, 9] n (fun g u5 _ _ _ _ wx => ∃ (k : Nat), k + g = n ∧ u5 = .int .i64 (k : Int) ∧ (((l.take k).map (·.1)).all fun x => !hits x p) = true ∧ Below w.heap.size w wx)
    case atStart => exact ⟨0, by omega, rfl, rfl, Below.refl _ _⟩
    case round =>
      obtain ⟨k, hkg, rfl, hall, hb⟩ := hrel
      have HALL := Keep.keep hall; have HB := Keep.keep hb
      clear hall hb
      cases gk with
      | zero =>
        obtain rfl : k = n := by omega
        have HX : Keep (out = true) := ⟨by rw [HD.out]; have := HALL.out; rw [List.take_of_length_le (by rw [HN.out]; exact Nat.le_refl _)] at this; rw [this]; rfl⟩
        go_wp2_with fail
        go_ret
        exact ⟨by rw [HX.out]; rfl, HB.out⟩
      | succ g =>
        have hk : k < n := by omega
        have hkl : k < l.length := by have := HN.out; omega
        have hd : decide ((k : Int) < (n : Int)) = true := decide_eq_true (by omega)
        have hdi : (k : Int) < (n : Int) := by omega
        obtain ⟨b, off, rfl, hbl⟩ : ∃ b off, a = some ⟨b, off, none⟩ ∧ b < w.heap.size := by
          rcases H3.out with h | ⟨b, off, h, hb⟩
          · omega
          · exact ⟨b, off, h, hb⟩
        have hrx := HR.out.below HB.out (fun b hb => hb) (fun b hb => hb)
        have hc0 := hrx.cell hkl 0 (by omega) (u := .string ⟨l[k].1.1.toArray⟩) rfl
        rw [Nat.add_zero] at hc0
        have HCK : Keep (∀ wx, Below w.heap.size w wx → wx.cell? ⟨b, off + k * 9 + 1, none⟩ = some (.int .i64 l[k].1.2.kind)) := ⟨fun wx hx => (HR.out.below hx (fun b hb => hb) (fun b hb => hb)).cell hkl 1 (by omega) rfl⟩
        have HTK : Keep ((((l.take (k + 1)).map (·.1)).all fun x => !hits x p) = !hits l[k].1 p) := ⟨by
          rw [List.take_succ_eq_append_getElem hkl, List.map_append]
          show ((((l.take k).map (·.1)) ++ [l[k].1]).all fun x => !hits x p) = _
          rw [stays_snoc, HALL.out]; rfl⟩
        have HNO : Keep (hits l[k].1 p = true → out = false) := ⟨fun h => by
          rw [HD.out]
          show ((l.map (·.1)).all fun x => !hits x p) = false
          rw [List.all_eq_false]
          exact ⟨l[k].1, List.mem_map.2 ⟨_, List.getElem_mem hkl, rfl⟩, by rw [h]; decide⟩⟩
        have hsx := (HS.out l[k] (List.getElem_mem hkl)).p
        have HHB := Keep.keep (hits_b l[k].1 p)
        clear hrx
        have HCL := Keep.keep (fun wx => rclass_any l[k].1.1 hsx wx)
        unfold cls tgt at HHB
        generalize hits l[k].1 p = ht at *
        generalize l[k].1.2.kind = kd at *
        have htl := tgt_len l[k].1.1
        generalize l[k].1.1 = xp at *
        obtain ⟨⟨cl, tg⟩, hcp⟩ : ∃ c, classP xp = c := ⟨_, rfl⟩
        rw [hcp] at HCL HHB htl
        dsimp only at HCL HHB htl
        clear hcp
        have HUN := Keep.keep (fun wx => runder_any tg p (by omega) wx)
        clear htl
        go_wp2_with fail
        refine (HCL.out wr).mono ?_
        rintro e w3 ⟨rfl, hb3⟩
        have HB3 := Keep.keep (HB.out.trans (hb3.mono HB.out.size))
        clear hb3 HCL hc0 HB
        have hck := HCK.out w3 HB3.out
        clear HCK
        obtain ⟨ee, hee⟩ : ∃ b, (p == tg) = b := ⟨_, rfl⟩
        obtain ⟨uu, huu⟩ : ∃ b, underP tg p = b := ⟨_, rfl⟩
        rw [hee, huu] at HHB
        rw [huu] at HUN
        clear huu
        go_wp2_with fail
        refine (HUN.out w3).mono ?_
        rintro e w4 ⟨rfl, rfl⟩
        clear hee HUN
        by_cases e2 : cl = 2
        focus
          subst e2
          cases ee <;> cases uu
          focus
            have HF : Keep ((((l.take (k + 1)).map (·.1)).all fun x => !hits x p) = true) := ⟨by rw [HTK.out, HHB.out]; simp [hitB, *]⟩
            clear HHB HNO HTK
            go_wp2_with fail
            go_roundg g
            case measure => omega
            case rel => exact ⟨k + 1, by omega, by simp, HF.out, HB3.out⟩
          focus
            have HF : Keep (out = false) := ⟨HNO.out (by rw [HHB.out]; simp [hitB, *])⟩
            clear HHB HNO HTK
            go_wp2_with fail
            go_ret
            exact ⟨by rw [HF.out]; rfl, HB3.out⟩
          focus
            have HF : Keep (out = false) := ⟨HNO.out (by rw [HHB.out]; simp [hitB, *])⟩
            clear HHB HNO HTK
            go_wp2_with fail
            go_ret
            exact ⟨by rw [HF.out]; rfl, HB3.out⟩
          focus
            have HF : Keep (out = false) := ⟨HNO.out (by rw [HHB.out]; simp [hitB, *])⟩
            clear HHB HNO HTK
            go_wp2_with fail
            go_ret
            exact ⟨by rw [HF.out]; rfl, HB3.out⟩
        by_cases e3 : cl = 3
        focus
          subst e3
          cases ee <;> cases uu
          focus
            have HF : Keep ((((l.take (k + 1)).map (·.1)).all fun x => !hits x p) = true) := ⟨by rw [HTK.out, HHB.out]; simp [hitB, *]⟩
            clear HHB HNO HTK
            go_wp2_with fail
            go_roundg g
            case measure => omega
            case rel => exact ⟨k + 1, by omega, by simp, HF.out, HB3.out⟩
          focus
            have HF : Keep (out = false) := ⟨HNO.out (by rw [HHB.out]; simp [hitB, *])⟩
            clear HHB HNO HTK
            go_wp2_with fail
            go_ret
            exact ⟨by rw [HF.out]; rfl, HB3.out⟩
          focus
            have HF : Keep ((((l.take (k + 1)).map (·.1)).all fun x => !hits x p) = true) := ⟨by rw [HTK.out, HHB.out]; simp [hitB, *]⟩
            clear HHB HNO HTK
            go_wp2_with fail
            go_roundg g
            case measure => omega
            case rel => exact ⟨k + 1, by omega, by simp, HF.out, HB3.out⟩
          focus
            have HF : Keep (out = false) := ⟨HNO.out (by rw [HHB.out]; simp [hitB, *])⟩
            clear HHB HNO HTK
            go_wp2_with fail
            go_ret
            exact ⟨by rw [HF.out]; rfl, HB3.out⟩
        by_cases e1 : cl = 1
        focus
          subst e1
          cases ee <;> cases uu
          focus
            have HF : Keep ((((l.take (k + 1)).map (·.1)).all fun x => !hits x p) = true) := ⟨by rw [HTK.out, HHB.out]; simp [hitB, *]⟩
            clear HHB HNO HTK
            go_wp2_with fail
            go_roundg g
            case measure => omega
            case rel => exact ⟨k + 1, by omega, by simp, HF.out, HB3.out⟩
          focus
            cases hkd : (kd == 1)
            focus
              have HF : Keep (out = false) := ⟨HNO.out (by rw [HHB.out]; simp [hitB, *])⟩
              clear HHB HNO HTK
              go_wp2_with fail
              go_ret
              exact ⟨by rw [HF.out]; rfl, HB3.out⟩
            focus
              have HF : Keep ((((l.take (k + 1)).map (·.1)).all fun x => !hits x p) = true) := ⟨by rw [HTK.out, HHB.out]; simp [hitB, *]⟩
              clear HHB HNO HTK
              go_wp2_with fail
              go_roundg g
              case measure => omega
              case rel => exact ⟨k + 1, by omega, by simp, HF.out, HB3.out⟩
          focus
            have HF : Keep (out = false) := ⟨HNO.out (by rw [HHB.out]; simp [hitB, *])⟩
            clear HHB HNO HTK
            go_wp2_with fail
            go_ret
            exact ⟨by rw [HF.out]; rfl, HB3.out⟩
          focus
            have HF : Keep (out = false) := ⟨HNO.out (by rw [HHB.out]; simp [hitB, *])⟩
            clear HHB HNO HTK
            go_wp2_with fail
            go_ret
            exact ⟨by rw [HF.out]; rfl, HB3.out⟩
        have g1 : (cl == 1) = false := by rw [beq_eq_false_iff_ne]; exact e1
        have g2 : (cl == 2) = false := by rw [beq_eq_false_iff_ne]; exact e2
        have g3 : (cl == 3) = false := by rw [beq_eq_false_iff_ne]; exact e3
        have HF : Keep ((((l.take (k + 1)).map (·.1)).all fun x => !hits x p) = true) := ⟨by rw [HTK.out, HHB.out]; simp [hitB, *]⟩
        clear HHB HNO HTK
        go_wp2_with fail
        go_roundg g
        case measure => omega
        case rel => exact ⟨k + 1, by omega, by simp, HF.out, HB3.out⟩
end Go.Proofs.YtplafpokgpolkaaGreatDoor
/- portolanref19.Plain. -/
namespace Go.Proofs.YtplafpokgpolkaaGreatDoor
open Go.RowKit
set_option maxHeartbeats 4000000 in
set_option maxRecDepth 100000 in
theorem rplain_any (v : Value) (l : List Mv) (w : World) (K : Nat → Prop) (hK : ∀ b, K b → b < w.heap.size) (hr : Mbs w (· < w.heap.size) K v l) (hs : ∀ x ∈ l, Sm x.1) (hl : l.length ≤ 1000000) :
    Calls Tryz.prog 28 #[v] w fun e w' => ∃ v', e = .returned v' ∧ RowM w.heap.size K w' v' (l.filter isPl) ∧ Below w.heap.size w w' := by
  obtain ⟨a, cap, hv, hcap, hmx, h3⟩ := hr.rd.shape
  have HR := Keep.keep hr; have H3 := Keep.keep h3; have HS := Keep.keep hs; have HKK := Keep.keep hK
  unfold maxLen at hmx
  clear hr h3 hs hK
  subst hv
  go_enter Tryz.func28, Tryz.ntmps28
  go_wp2_with fail
  go_loopg [3, 4] l.length (fun g u3 u4 wx => ∃ (k : Nat), k + g = l.length ∧ u4 = .int .i64 (k : Int) ∧ RowM w.heap.size K wx u3 ((l.take k).filter isPl) ∧ Below w.heap.size w wx)
  case atStart => exact ⟨0, by omega, rfl, RowM.nil _ _ _, Below.refl _ _⟩
  case round =>
    obtain ⟨k, hkg, rfl, hrow, hb⟩ := hrel
    have HRW := Keep.keep hrow; have HB := Keep.keep hb
    obtain ⟨a3, c3, hv3, -⟩ := (ownsV_reads hrow.own).shape
    clear hrow hb
    subst hv3
    cases gk with
    | zero =>
      obtain rfl : k = l.length := by omega
      have HTK : Keep (l.take l.length = l) := ⟨List.take_length⟩
      rw [HTK.out] at HRW ⊢
      go_wp2_with fail
      go_ret
      exact ⟨_, rfl, HRW.out, HB.out⟩
    | succ g =>
      have hk : k < l.length := by omega
      have hd : decide ((k : Int) < (l.length : Int)) = true := decide_eq_true (by omega)
      obtain ⟨b, off, rfl, hbl⟩ : ∃ b off, a = some ⟨b, off, none⟩ ∧ b < w.heap.size := by
        rcases H3.out with h | ⟨b, off, h, hb⟩
        · omega
        · exact ⟨b, off, h, hb⟩
      have hrx := HR.out.below HB.out (fun b hb => hb) HKK.out
      have hc0 := hrx.cell hk 0 (by omega) (u := .string ⟨l[k].1.1.toArray⟩) rfl
      rw [Nat.add_zero] at hc0
      have HLD : Keep (∀ wx, Below w.heap.size w wx → (Instr.loadAt 32 (.pointer (some ⟨b, off + k * 9, none⟩))).run Tryz.prog wx = .ok (.agg (mcell l[k])) wx) := ⟨fun wx hx => (HR.out.below hx (fun b hb => hb) HKK.out).load hk⟩
      have HTK : Keep ((l.take (k + 1)).filter isPl = (l.take k).filter isPl ++ (if isPl l[k] = true then [l[k]] else [])) := ⟨by
        rw [List.take_succ_eq_append_getElem hk, List.filter_append]
        cases h : isPl l[k] <;> simp [h]⟩
      have hsx := HS.out l[k] (List.getElem_mem hk)
      have HND := Keep.keep (HR.out.nd l[k] (List.getElem_mem hk))
      have hlen : ((l.take k).filter isPl).length ≤ k := Nat.le_trans (List.length_filter_le _ _) (by rw [List.length_take]; omega)
      clear hrx
      generalize l[k] = x at *
      generalize (l.take k).filter isPl = acc at *
      obtain ⟨⟨xp, ⟨kind, mode, uid, gid, time, attrs, data, link⟩⟩, av, dv⟩ := x
      obtain ⟨aa, la, ca, ad, ld, cd, e1, e2⟩ := HND.out.shape
      dsimp only at e1 e2 hsx HTK hc0
      have hxp := hsx.p
      dsimp only at hxp
      subst e1 e2
      have HMC : Keep (mcell ((xp, ⟨kind, mode, uid, gid, time, attrs, data, link⟩), .slice aa la ca, .slice ad ld cd) = #[.string ⟨xp.toArray⟩, .int .i64 kind, .int .u32 mode, .int .u32 uid, .int .u32 gid, .int .i64 time, .slice aa la ca, .slice ad ld cd, .string ⟨link.toArray⟩]) := ⟨rfl⟩
      rw [HMC.out] at HLD
      have HCL := Keep.keep (fun wx => rclass_any xp (by omega) wx)
      have HPL : Keep (isPl ((xp, ⟨kind, mode, uid, gid, time, attrs, data, link⟩), .slice aa la ca, .slice ad ld cd) = ((classP xp).1 == 1)) := ⟨rfl⟩
      obtain ⟨⟨cl, tg⟩, hcp⟩ : ∃ c, classP xp = c := ⟨_, rfl⟩
      rw [hcp] at HCL HPL
      dsimp only at HCL HPL
      clear hsx hcp
      go_wp2_with fail
      refine (HCL.out wr).mono ?_
      rintro e w3 ⟨rfl, hb3⟩
      have HB3 := Keep.keep (HB.out.trans (hb3.mono HB.out.size))
      have HRW3 := Keep.keep (HRW.out.below hb3)
      have hsw3 := HB3.out.size
      clear hb3 HCL HRW hc0
      cases hz : (cl == 1) with
      | false =>
        rw [hz] at HPL
        rw [HPL.out, if_neg (by decide), List.append_nil] at HTK
        go_wp2_with fail
        go_roundg g
        case measure => omega
        case rel => exact ⟨k + 1, by omega, by simp, by rw [HTK.out]; exact HRW3.out, HB3.out⟩
      | true =>
        rw [hz] at HPL
        rw [HPL.out, if_pos rfl] at HTK
        have hld := HLD.out w3 HB3.out
        go_wp2_with (first | ((with_reducible refine arm_loadM hld ?_ ?_); (focus rfl); simp only [Act.put, List.setIfInBounds_toArray, List.set_cons_succ, List.set_cons_zero]) | (with_reducible refine arm_stop ?_))
        refine Stopped.out ?_
        have hal : Below w3.heap.size w3 (w3.alloc (.cells #[.string ⟨xp.toArray⟩, .int .i64 kind, .int .u32 mode, .int .u32 uid, .int .u32 gid, .int .i64 time, .slice aa la ca, .slice ad ld cd, .string ⟨link.toArray⟩] 32)) := (Below.refl _ _).alloc (Nat.le_refl _) _
        have HAL := Keep.keep hal
        have hrA := HRW3.out.below hal
        have hm : Mbs (w3.alloc (.cells #[.string ⟨xp.toArray⟩, .int .i64 kind, .int .u32 mode, .int .u32 uid, .int .u32 gid, .int .i64 time, .slice aa la ca, .slice ad ld cd, .string ⟨link.toArray⟩] 32)) (fun _ => True) K (.slice (some ⟨w3.heap.size, 0, none⟩) 1 1) [((xp, ⟨kind, mode, uid, gid, time, attrs, data, link⟩), .slice aa la ca, .slice ad ld cd)] :=
          ⟨RdV.new (N := fun _ => True) 32 [.string ⟨xp.toArray⟩, .int .i64 kind, .int .u32 mode, .int .u32 uid, .int .u32 gid, .int .i64 time, .slice aa la ca, .slice ad ld cd, .string ⟨link.toArray⟩] 9 1 _ rfl rfl (by unfold maxLen; omega) trivial, fun y hy => by
            obtain rfl : y = ((xp, ⟨kind, mode, uid, gid, time, attrs, data, link⟩), .slice aa la ca, .slice ad ld cd) := by simpa using hy
            exact ((HND.out.below HB3.out HKK.out).below (hal.mono HB3.out.size) HKK.out)⟩
        refine arm_appM (B := w.heap.size) hrA (Nat.le_trans hsw3 hal.size) hm (fun b hb => ⟨.inl hb, by have := HKK.out b hb; have := hal.size; omega, fun e => by have := (hrA.lt e).1; have := HKK.out b hb; omega⟩) (by simp; omega) rfl rfl ?_
        intro v4 w4 hr4 hg4 hov4 hsh4
        obtain ⟨a4, c4, rfl⟩ := hsh4
        have HR4 := Keep.keep hr4
        have HB4 : Keep (Below w.heap.size w w4) := ⟨(HB3.out.trans (hal.mono HB3.out.size)).trans (hrA.chg (Nat.le_trans hsw3 hal.size) hg4)⟩
        clear hr4 hg4 hov4 hm hrA hal HRW3 HAL
        simp only [Act.put, List.setIfInBounds_toArray, List.set_cons_succ, List.set_cons_zero]
        go_wp2_with fail
        go_roundg g
        case measure => omega
        case rel => exact ⟨k + 1, by omega, by simp, by rw [HTK.out]; exact HR4.out, HB4.out⟩
end Go.Proofs.YtplafpokgpolkaaGreatDoor
