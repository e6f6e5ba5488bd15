/- PARTS OF ONE PROOF, set in one file: RTreeC, RList, DtIn, DtBel, DtSign. Each part tells its own conditions. -/
import Derived.Test.YtmnknmpfkjhgbaaGreatDoorY5
/- portolanref18's tree: New, Get, Under. -/
namespace Go.Proofs.YtmnknmpfkjhgbaaGreatDoor
open Go.RowKit
/-- what portolanref18.New answers: no tree, or one of its own, its Members' slices shared with those that it was handed -/
def RNewIs (w w' : World) (N : Nat → Prop) (pv : Value) : Option (List Mb) → Prop
  | none => pv = .pointer none
  | some L => ∃ R N' v l, pv = .pointer (some ⟨R, 0, none⟩) ∧ RefIn w' R N' v l ∧ l.map (·.1) = L ∧ w.heap.size ≤ R ∧ R < w'.heap.size ∧ ∀ b, N' b → N b ∨ Fresh w.heap.size w' b
theorem buildR (w : World) : (Instr.build 99 #[]).run Tryz.prog w = .ok (.agg #[.slice none 0 0]) w := by kernel_rfl
set_option maxHeartbeats 4000000 in
set_option maxRecDepth 100000 in
theorem rnew_any (N : Nat → Prop) (v : Value) (l : List Mv) (w : World) (hN : ∀ b, N b → b < w.heap.size) (hr : Mbs w N N v l) (hs : ∀ x ∈ l, Sm x.1) (hl : l.length ≤ 100000) :
    Calls Tryz.prog 25 #[v] w fun e w' => (∃ pv, e = .returned (.tuple #[pv, .int .i64 (newT (l.map (·.1))).1]) ∧ RNewIs w w' N pv (newT (l.map (·.1))).2) ∧ Below w.heap.size w w' := by
  have HON : Keep (∀ wx, Below w.heap.size w wx → Mbs wx N N v l) := ⟨fun wx hb => hr.below hb hN hN⟩
  have HS := Keep.keep hs; have HNN := Keep.keep hN
  have HMY : Keep (∀ wx, Below w.heap.size w wx → ∀ x ∈ l, Calls Tryz.prog 60 #[.agg (mcell x)] wx fun e w' => e = .returned (.bool (mayM x.1)) ∧ Below wx.heap.size wx w') := ⟨fun wx hb x hx => by
    have := rmay18_any x.1 x.2.1 x.2.2 (hs x hx) wx (((hr.nd x hx).below hb hN).mono (fun b hb' => Nat.lt_of_lt_of_le (hN b hb') hb.size))
    simpa [mcell] using this⟩
  have HNT : Keep (newT (l.map (·.1)) = if (l.any fun x => !mayM x.1) then (1, none) else if (growT (l.map (·.1))).length < l.length then (9, none) else if (l.any fun x => !dirT (growT (l.map (·.1))) (parentP x.1.1)) then (33, none) else if 4096 < l.length then (42, none) else (0, some (growT (l.map (·.1))))) := ⟨by
    unfold newT; rw [List.any_map, List.length_map, List.any_map]; rfl⟩
  generalize newT (l.map (·.1)) = res at *
  obtain ⟨a, cap, hv, hcap, hmx, hsh⟩ := hr.rd.shape
  have HSH := Keep.keep hsh
  have HSHP := Keep.keep (fun x hx => (hr.nd x hx).shape)
  clear hr hs hsh hN
  unfold maxLen at hmx
  subst hv
  obtain ⟨n, hn⟩ : ∃ n, l.length = n := ⟨_, rfl⟩
  have HN := Keep.keep hn
  rw [hn] at hl hcap HNT HON ⊢
  clear hn
  have hbr := buildR
  go_enter Tryz.func25, Tryz.ntmps25
  go_upto_region 2 with fail
  refine wp_world (R := fun w1 => Hp NoM w w1 [rowA w.heap.size 99 #[.slice none 0 0]]) ((Hp.begin NoM w).newRow _ _) ?_
  intro w1 H1
  obtain ⟨R, hR⟩ : ∃ R, w.heap.size = R := ⟨_, rfl⟩
  have HR := Keep.keep hR
  rw [hR] at H1 ⊢
  have hRlt := (H1.out.row 0 rfl).lt
  clear hR
  go_wp2_with fail
  go_loopg [5] n (fun g u5 wx => ∃ k : Nat, k + g = n ∧ u5 = .int .i64 (k : Int) ∧ (∀ j, (hj : j < k) → (hl : j < l.length) → mayM l[j].1 = true) ∧ Below w1.heap.size w1 wx)
  case atStart => exact ⟨0, by omega, rfl, fun j hj => by omega, Below.refl _ _⟩
  case round =>
    obtain ⟨k, hkg, rfl, hok, hb⟩ := hrel
    have HOK := Keep.keep hok; have HB := Keep.keep hb
    have HBW := Keep.keep (H1.out.call hb).below
    have hs1 := hb.size
    clear hok hb
    by_cases hk : k < n
    · have hd : decide ((k : Int) < (n : Int)) = true := decide_eq_true (by omega)
      have hkl : k < l.length := by rw [HN.out]; exact hk
      obtain ⟨b, off, rfl, hbl⟩ : ∃ b off, a = some ⟨b, off, none⟩ ∧ N b := by
        rcases HSH.out with h | ⟨b, off, h, hb⟩
        · omega
        · exact ⟨b, off, h, hb⟩
      obtain ⟨gn, hgn⟩ : ∃ gn, gk = gn + 1 := ⟨gk - 1, by omega⟩
      subst hgn
      have hld := (HON.out wr HBW.out).load hkl
      have HMX := Keep.keep (HMY.out wr HBW.out _ (List.getElem_mem hkl))
      have HSTEP : Keep (mayM l[k].1 = true → ∀ j, (hj : j < k + 1) → (hl : j < l.length) → mayM l[j].1 = true) := ⟨fun he j hj hl => by
        rcases Nat.lt_succ_iff_lt_or_eq.1 hj with h | rfl
        · exact HOK.out j h hl
        · exact he⟩
      have HBAD : Keep (mayM l[k].1 = false → (l.any fun x => !mayM x.1) = true) := ⟨fun h => List.any_eq_true.2 ⟨_, List.getElem_mem hkl, by simp [h]⟩⟩
      generalize mayM l[k].1 = my at *
      generalize mcell l[k] = x at *
      go_wp2_with ((with_reducible refine arm_loadM hld ?_ ?_); (focus rfl); simp only [Act.put, List.setIfInBounds_toArray, List.set_cons_succ, List.set_cons_zero])
      refine HMX.out.mono ?_
      rintro e w2 ⟨rfl, hb2⟩
      have HB2 := Keep.keep (HB.out.trans (hb2.mono hs1))
      have HBW2 := Keep.keep (H1.out.call HB2.out).below
      clear hb2
      cases my with
      | false =>
        have HRE : Keep (res = (1, none)) := ⟨by rw [HNT.out, HBAD.out rfl]; rfl⟩
        go_wp2_with fail
        go_ret2
        rw [HRE.out]
        exact ⟨⟨_, rfl, rfl⟩, HBW2.out⟩
      | true =>
        have HST := Keep.keep (HSTEP.out rfl)
        go_wp2_with fail
        go_roundg gn
        case measure => omega
        case rel => exact ⟨k + 1, by omega, by simp, HST.out, HB2.out⟩
    · obtain rfl : k = n := by omega
      have hd : decide ((k : Int) < (k : Int)) = false := decide_eq_false (by omega)
      have HNT2 : Keep (res = if (growT (l.map (·.1))).length < k then (9, none) else if (l.any fun x => !dirT (growT (l.map (·.1))) (parentP x.1.1)) then (33, none) else if 4096 < k then (42, none) else (0, some (growT (l.map (·.1))))) := ⟨by
        have : (l.any fun x => !mayM x.1) = false := List.any_eq_false.2 (fun x hx => by
          obtain ⟨j, hj, rfl⟩ := List.mem_iff_getElem.1 hx
          have := HOK.out j (by have := HN.out; omega) hj
          simp [this])
        rw [HNT.out, this]; rfl⟩
      have HBASE : Keep (RefTo w1 wr R N ([] : List Mb)) := ⟨⟨.slice none 0 0, [], ⟨(H1.out.row 0 rfl).below HB.out hRlt, ⟨RdV.ofNil, fun x hx => (List.not_mem_nil hx).elim⟩, SM.Srt.nil, fun x hx => (List.not_mem_nil hx).elim, fun e => by
        rcases e with e | e
        · have h1 := HNN.out R e; have := HR.out; omega
        · have := e.1; omega⟩, rfl⟩⟩
      have HNR : Keep (¬ N R) := ⟨fun e => by have h1 := HNN.out R e; have := HR.out; omega⟩
      clear HNT hkg HMY HOK
      obtain ⟨n, hkn⟩ : ∃ n, k = n := ⟨_, rfl⟩
      subst hkn
      go_wp2_with fail
      go_loopg [6] k (fun g u6 wx => ∃ i : Nat, i + g = k ∧ u6 = .int .i64 (i : Int) ∧ RefTo w1 wx R N (growT ((l.take i).map (·.1))) ∧ Chg (fun j => j = R) w1.heap.size w1 wx)
      case atStart => exact ⟨0, by omega, rfl, HBASE.out, .of_below HB.out⟩
      case round =>
        obtain ⟨i, hig, rfl, hto, hch⟩ := hrel
        have HTO := Keep.keep hto; have HCH := Keep.keep hch
        have hs2 := hch.size
        have HBX : Keep (Below w.heap.size w wr) := ⟨H1.out.below.trans ((hch.lower H1.out.size).below (fun j hj e => by have := HR.out; omega))⟩
        clear hto hch HBASE HB HBW hs1
        by_cases hi : i < k
        · have hd : decide ((i : Int) < (k : Int)) = true := decide_eq_true (by omega)
          have hil : i < l.length := by rw [HN.out]; exact hi
          obtain ⟨b, off, rfl, hbl⟩ : ∃ b off, a = some ⟨b, off, none⟩ ∧ N b := by
            rcases HSH.out with h | ⟨b, off, h, hb⟩
            · omega
            · exact ⟨b, off, h, hb⟩
          obtain ⟨gn, hgn⟩ : ∃ gn, gk = gn + 1 := ⟨gk - 1, by omega⟩
          subst hgn
          have hld := (HON.out wr HBX.out).load hil
          have hnd := (HON.out wr HBX.out).nd _ (List.getElem_mem hil)
          have hsx := HS.out _ (List.getElem_mem hil)
          obtain ⟨v', l', hr', he'⟩ := HTO.out
          have hll : l'.length ≤ 100000 := by
            have h1 := congrArg List.length he'
            have h2 := growT_len ((l.take i).map (·.1))
            rw [List.length_map, List.length_take] at h2
            rw [List.length_map] at h1
            omega
          have HSX := Keep.keep (rset_any R (fun b => N b ∨ Fresh w1.heap.size wr b) v' l' wr hr' (by omega) (fun b hb => by
            rcases hb with hb | hb
            · have := HNN.out b hb; have := H1.out.size; omega
            · exact hb.2) l[i].1 l[i].2.1 l[i].2.2 hsx (hnd.mono (fun b hb => .inl hb)) hll)
          have HGS : Keep (SM.put (l'.map (·.1)) l[i].1 = growT ((l.take (i + 1)).map (·.1))) := ⟨by
            rw [he', List.take_succ_eq_append_getElem hil, List.map_append, List.map_cons, List.map_nil, growT_snoc]⟩
          have HMC : Keep (mcell l[i] = mbC l[i].1 l[i].2.1 l[i].2.2) := ⟨rfl⟩
          rw [← HMC.out] at HSX
          generalize mcell l[i] = x at *
          clear hnd hsx hr' he' hll
          go_wp2_with ((with_reducible refine arm_loadM hld ?_ ?_); (focus rfl); simp only [Act.put, List.setIfInBounds_toArray, List.set_cons_succ, List.set_cons_zero])
          refine HSX.out.mono ?_
          rintro e w3 ⟨rfl, hto, hch⟩
          have HT3 : Keep (RefTo w1 w3 R N (growT ((l.take (i + 1)).map (·.1)))) := ⟨by
            rw [← HGS.out]
            obtain ⟨v3, l3, h3, e3⟩ := hto
            refine ⟨v3, l3, h3.mono (fun b hb => ?_) (fun e => ?_), e3⟩
            · have := hch.size
              rcases hb with (hb | hb) | hb
              · exact .inl hb
              · exact .inr ⟨hb.1, by have := hb.2; omega⟩
              · exact .inr ⟨by have := hb.1; omega, hb.2⟩
            · rcases e with e | e
              · exact HNR.out e
              · have := e.1; omega⟩
          have HC3 : Keep (Chg (fun j => j = R) w1.heap.size w1 w3) := ⟨HCH.out.trans (hch.lower hs2)⟩
          clear hto hch hld HSX HGS
          go_wp2_with fail
          go_roundg gn
          case measure => omega
          case rel => exact ⟨i + 1, by omega, by simp, HT3.out, HC3.out⟩
        · obtain rfl : i = k := by omega
          have hd : decide ((i : Int) < (i : Int)) = false := decide_eq_false (by omega)
          obtain ⟨v', l', hr', he'⟩ := HTO.out
          have htk : l.take i = l := List.take_of_length_le (by rw [HN.out]; omega)
          rw [htk] at he'
          have HLL : Keep (l'.length = (growT (l.map (·.1))).length) := ⟨by rw [← he', List.length_map]⟩
          have HE := Keep.keep he'
          obtain ⟨N2, hN2⟩ : ∃ N2 : Nat → Prop, (fun b => N b ∨ Fresh w1.heap.size wr b) = N2 := ⟨_, rfl⟩
          have HN2B : Keep (∀ b, N2 b → b < wr.heap.size ∧ (N b ∨ w1.heap.size ≤ b)) := ⟨fun b hb => by
            rw [← hN2] at hb
            rcases hb with hb | hb
            · have := HNN.out b hb; have := H1.out.size; exact ⟨by omega, .inl hb⟩
            · exact ⟨hb.2, .inr hb.1⟩⟩
          rw [hN2] at hr'
          have HRI := Keep.keep hr'
          have c0 := hr'.row.cell (i := 0) rfl
          obtain ⟨a2, cap2, hv2, hcap2, hmx2, -⟩ := hr'.mbs.rd.shape
          rw [hv2] at c0
          unfold maxLen at hmx2
          have hglen := growT_len (l.map (·.1))
          rw [List.length_map, HN.out] at hglen
          clear hr' he' htk hN2 HTO HCH
          obtain ⟨gl, hgl⟩ : ∃ gl, l'.length = gl := ⟨_, rfl⟩
          have HGL := Keep.keep hgl
          rw [hgl] at c0 hcap2
          rw [← HLL.out, hgl] at hglen HNT2
          clear hgl
          by_cases hlt : gl < i
          · have hd2 : decide ((gl : Int) < (i : Int)) = true := decide_eq_true (by omega)
            have HRE : Keep (res = (9, none)) := ⟨by rw [HNT2.out, if_pos hlt]⟩
            go_wp2_with fail
            go_ret2
            rw [HRE.out]
            exact ⟨⟨_, rfl, rfl⟩, HBX.out⟩
          · have hd2 : decide ((gl : Int) < (i : Int)) = false := decide_eq_false (by omega)
            have HNT3 : Keep (res = if (l.any fun x => !dirT (growT (l.map (·.1))) (parentP x.1.1)) then (33, none) else if 4096 < i then (42, none) else (0, some (growT (l.map (·.1))))) := ⟨by rw [HNT2.out, if_neg hlt]⟩
            have HDR : Keep (∀ wx, Below wr.heap.size wr wx → ∀ p, Calls Tryz.prog 62 #[.pointer (some ⟨R, 0, none⟩), .string ⟨p.toArray⟩] wx fun e w' => e = .returned (.bool (dirT (growT (l.map (·.1))) p)) ∧ Below wx.heap.size wx w') := ⟨fun wx hb p => by
              have := rdir_any R N2 v' l' wx (HRI.out.below hb (by omega) (fun b hb' => (HN2B.out b hb').1)) (by have := hb.size; omega) (fun b hb' => Nat.lt_of_lt_of_le (HN2B.out b hb').1 hb.size) p
              rw [HE.out] at this
              exact this⟩
            clear HNT2
            go_wp2_with fail
            clear c0 hlt
            go_loopg [7] i (fun g u7 wx => ∃ q : Nat, q + g = i ∧ u7 = .int .i64 (q : Int) ∧ (∀ j, (hj : j < q) → (hl : j < l.length) → dirT (growT (l.map (·.1))) (parentP l[j].1.1) = true) ∧ Below wr.heap.size wr wx)
            case atStart => exact ⟨0, by omega, rfl, fun j hj => by omega, Below.refl _ _⟩
            case round =>
              rename_i wq _
              obtain ⟨q, hqg, rfl, hok, hbq⟩ := hrel
              have HOK := Keep.keep hok; have HBQ := Keep.keep hbq
              have HBWQ := Keep.keep (HBX.out.trans (hbq.mono HBX.out.size))
              have hsq := hbq.size
              clear hok hbq
              by_cases hq : q < i
              · have hd : decide ((q : Int) < (i : Int)) = true := decide_eq_true (by omega)
                have hql : q < l.length := by rw [HN.out]; exact hq
                obtain ⟨b, off, rfl, hbl⟩ : ∃ b off, a = some ⟨b, off, none⟩ ∧ N b := by
                  rcases HSH.out with h | ⟨b, off, h, hb⟩
                  · omega
                  · exact ⟨b, off, h, hb⟩
                obtain ⟨gn, hgn⟩ : ∃ gn, gk = gn + 1 := ⟨gk - 1, by omega⟩
                subst hgn
                have hc := (HON.out _ HBWQ.out).cell hql 0 (by omega) (u := strV l[q].1.1) rfl
                have HPA := Keep.keep (fun wx => rparent_any l[q].1.1 (by have := (HS.out _ (List.getElem_mem hql)).p; omega) wx)
                have HDX := Keep.keep (HDR.out _ HBQ.out (parentP l[q].1.1))
                have HSTEP : Keep (dirT (growT (l.map (·.1))) (parentP l[q].1.1) = true → ∀ j, (hj : j < q + 1) → (hl : j < l.length) → dirT (growT (l.map (·.1))) (parentP l[j].1.1) = true) := ⟨fun he j hj hl => by
                  rcases Nat.lt_succ_iff_lt_or_eq.1 hj with h | rfl
                  · exact HOK.out j h hl
                  · exact he⟩
                have HBAD : Keep (dirT (growT (l.map (·.1))) (parentP l[q].1.1) = false → (l.any fun x => !dirT (growT (l.map (·.1))) (parentP x.1.1)) = true) := ⟨fun h => List.any_eq_true.2 ⟨_, List.getElem_mem hql, by simp [h]⟩⟩
                generalize dirT (growT (l.map (·.1))) (parentP l[q].1.1) = dr at *
                generalize parentP l[q].1.1 = pp at *
                generalize l[q].1.1 = xp at *
                unfold strV at hc
                rw [Nat.add_zero] at hc
                go_wp2_with fail
                refine (HPA.out _).mono ?_
                rintro e w3 ⟨rfl, rfl⟩
                go_wp2_with fail
                refine HDX.out.mono ?_
                rintro e w3 ⟨rfl, hb3⟩
                have HB3 := Keep.keep (HBQ.out.trans (hb3.mono hsq))
                have HBW3 := Keep.keep (HBX.out.trans (HB3.out.mono HBX.out.size))
                clear hb3 hc
                cases dr with
                | false =>
                  have HRE : Keep (res = (33, none)) := ⟨by rw [HNT3.out, HBAD.out rfl]; rfl⟩
                  go_wp2_with fail
                  go_ret2
                  rw [HRE.out]
                  exact ⟨⟨_, rfl, rfl⟩, HBW3.out⟩
                | true =>
                  have HST := Keep.keep (HSTEP.out rfl)
                  go_wp2_with fail
                  go_roundg gn
                  case measure => omega
                  case rel => exact ⟨q + 1, by omega, by simp, HST.out, HB3.out⟩
              · obtain rfl : q = i := by omega
                have hd : decide ((q : Int) < (q : Int)) = false := decide_eq_false (by omega)
                have HNT4 : Keep (res = if 4096 < q then (42, none) else (0, some (growT (l.map (·.1))))) := ⟨by
                  have : (l.any fun x => !dirT (growT (l.map (·.1))) (parentP x.1.1)) = false := List.any_eq_false.2 (fun x hx => by
                    obtain ⟨j, hj, rfl⟩ := List.mem_iff_getElem.1 hx
                    have := HOK.out j (by have := HN.out; omega) hj
                    simp [this])
                  rw [HNT3.out, this]; rfl⟩
                clear HNT3
                by_cases h4 : 4096 < q
                · have hd4 : decide ((4096 : Int) < (q : Int)) = true := decide_eq_true (by omega)
                  have HRE : Keep (res = (42, none)) := ⟨by rw [HNT4.out, if_pos h4]⟩
                  go_wp2_with fail
                  go_ret2
                  rw [HRE.out]
                  exact ⟨⟨_, rfl, rfl⟩, HBWQ.out⟩
                · have hd4 : decide ((4096 : Int) < (q : Int)) = false := decide_eq_false (by omega)
                  have HRE : Keep (res = (0, some (growT (l.map (·.1))))) := ⟨by rw [HNT4.out, if_neg h4]⟩
                  have HRF := Keep.keep (HRI.out.below HBQ.out (by omega) (fun b hb' => (HN2B.out b hb').1))
                  go_wp2_with fail
                  go_ret2
                  rw [HRE.out]
                  refine ⟨⟨_, rfl, R, N2, v', l', rfl, HRF.out, HE.out, by have := HR.out; omega, by omega, fun b hb => ?_⟩, HBWQ.out⟩
                  obtain ⟨h1, h2⟩ := HN2B.out b hb
                  rcases h2 with h2 | h2
                  · exact .inl h2
                  · exact .inr ⟨by have := H1.out.size; omega, by omega⟩
set_option maxHeartbeats 1000000 in
set_option maxRecDepth 100000 in
theorem rget_any (R : Nat) (N : Nat → Prop) (v : Value) (l : List Mv) (w : World) (h : RefIn w R N v l) (hR : R < w.heap.size) (hN : ∀ b, N b → b < w.heap.size) (p : Tx) :
    Calls Tryz.prog 112 #[.pointer (some ⟨R, 0, none⟩), .string ⟨p.toArray⟩] w fun e w' => ∃ av dv, e = .returned (.tuple #[.agg (ndC (getT (l.map (·.1)) p).1 av dv), .bool (getT (l.map (·.1)) p).2]) ∧ NdR w' N (getT (l.map (·.1)) p).1 av dv ∧ Below w.heap.size w w' := by
  have HZ : Keep ((ndC nd0 nilV nilV).size = 8) := ⟨rfl⟩
  by_cases e : p = []
  · have he : p.isEmpty = true := by rw [e]; rfl
    have HG : Keep (getT (l.map (·.1)) p = (ndDir, true)) := ⟨by unfold getT; rw [if_pos e]⟩
    rw [HG.out]
    have hbd := buildN0
    have HON : Keep ((ndC ndDir nilV nilV).all (·.oneCell') = true) := ⟨by simp [ndC, nilV, strV, Value.oneCell']⟩
    have HSD : Keep ((ndC ndDir nilV nilV).size = 8) := ⟨rfl⟩
    clear e h hN HG
    go_enter Tryz.func112, Tryz.ntmps112
    go_upto_region 1 with fail
    refine wp_world (R := fun w1 => Hp NoM w w1 [rowA w.heap.size 39 (ndC nd0 nilV nilV)]) ((Hp.begin NoM w).newRow _ _) ?_
    intro w1 H1
    have HRW := Keep.keep (H1.out.row 0 rfl)
    go_wp2_with (first | ((with_reducible refine arm_storeRow HRW.out aggN HZ.out HSD.out HON.out ?_ ?_ ?_); (focus rfl); (focus rfl); simp only [Act.put]))
    have hch : Below w.heap.size w (w1.setRow w.heap.size (ndC ndDir nilV nilV)) := ((Chg.of_below (M := NoM) H1.out.below).setRow (.inl (Nat.le_refl _)) _).below (fun _ _ h => h)
    exact bodyPost_ret (results_row2 (p := 4) (q := 5) (ty := 39) rfl (HRW.out.setRow _) aggN HSD.out rfl rfl) rfl ⟨nilV, nilV, rfl, ndR_nil rfl rfl, hch⟩
  · have he : p.isEmpty = false := by simpa using e
    have HON : Keep (∀ wx, Below w.heap.size w wx → RefIn wx R N v l) := ⟨fun wx hb => h.below hb hR hN⟩
    have HPL : Keep (∀ wx, Below w.heap.size w wx → Calls Tryz.prog 107 #[.pointer (some ⟨R, 0, none⟩), .string ⟨p.toArray⟩] wx fun e w' => e = .returned (.tuple #[.int .i64 (SM.plc (l.map (·.1)) p : Int), .bool (SM.look (l.map (·.1)) p).isSome]) ∧ Below wx.heap.size wx w') := ⟨fun wx hb => place_any R N v l wx (h.below hb hR hN) p⟩
    have HAT : Keep (∀ n, SM.look (l.map (·.1)) p = some n → ∃ hk : SM.plc (l.map (·.1)) p < l.length, (l[SM.plc (l.map (·.1)) p]'hk).1 = (p, n)) := ⟨fun n hl => by
      have := h.srt.at_some hl
      obtain ⟨hk, e⟩ := List.getElem?_eq_some_iff.1 this
      rw [List.length_map] at hk
      exact ⟨hk, by rw [List.getElem_map] at e; exact e⟩⟩
    have HGT : Keep (getT (l.map (·.1)) p = match SM.look (l.map (·.1)) p with | some n => (n, true) | none => (nd0, false)) := ⟨by unfold getT; (rw [if_neg e]) <;> rfl⟩
    obtain ⟨a, cap, rfl, hcap, hmx, h3⟩ := h.mbs.rd.shape
    have H3 := Keep.keep h3
    unfold maxLen at hmx
    have hbn := buildN
    clear h h3 e
    generalize SM.plc (l.map (·.1)) p = pl at *
    cases hl : SM.look (l.map (·.1)) p with
    | none =>
      rw [hl] at HGT HPL
      have HG : Keep (getT (l.map (·.1)) p = (nd0, false)) := ⟨HGT.out⟩
      rw [HG.out]
      have HO0 : Keep ((ndC nd0 nilV nilV).all (·.oneCell') = true) := ⟨by simp [ndC, nilV, strV, Value.oneCell']⟩
      clear hl HAT HGT
      go_enter Tryz.func112, Tryz.ntmps112
      go_wp2_with fail
      refine calls_at (R := fun w1 => Hp NoM w w1 [rowA w.heap.size 39 (ndC nd0 nilV nilV)]) ((Hp.begin NoM w).newRow _ _) ?_
      intro w1 H1
      refine (HPL.out w1 H1.out.below).mono ?_
      rintro e w2 ⟨rfl, hb2⟩
      have H2 := Keep.keep (H1.out.call hb2)
      have HRW := Keep.keep (H2.out.row 0 rfl)
      clear hb2
      go_wp2_with (first | ((with_reducible refine arm_storeRow HRW.out aggN HZ.out HZ.out HO0.out ?_ ?_ ?_); (focus rfl); (focus rfl); simp only [Act.put]))
      have hch : Below w.heap.size w (w2.setRow w.heap.size (ndC nd0 nilV nilV)) := ((Chg.of_below (M := NoM) H2.out.below).setRow (.inl (Nat.le_refl _)) _).below (fun _ _ h => h)
      exact bodyPost_ret (results_row2 (p := 4) (q := 5) (ty := 39) rfl (HRW.out.setRow _) aggN HZ.out rfl rfl) rfl ⟨nilV, nilV, rfl, ndR_nil rfl rfl, hch⟩
    | some n =>
      obtain ⟨hk, hat⟩ := HAT.out n hl
      rw [hl] at HGT HPL
      have HG : Keep (getT (l.map (·.1)) p = (n, true)) := ⟨HGT.out⟩
      rw [HG.out]
      obtain ⟨b, off, rfl, hbl⟩ : ∃ b off, a = some ⟨b, off, none⟩ ∧ N b := by
        rcases H3.out with h | ⟨b, off, h, hb⟩
        · omega
        · exact ⟨b, off, h, hb⟩
      have hnd := (HON.out w (Below.refl _ _)).mbs.nd _ (List.getElem_mem hk)
      have HCL : Keep (∀ wx, Below w.heap.size w wx → wx.cell? ⟨R, 0, none⟩ = some (.slice (some ⟨b, off, none⟩) l.length cap) ∧ (Instr.loadAt 39 (.pointer (some ⟨b, off + pl * 9 + 1, none⟩))).run Tryz.prog wx = .ok (.agg (ndC n (l[pl]'hk).2.1 (l[pl]'hk).2.2)) wx) := ⟨fun wx hb => by
        have hx := HON.out wx hb
        refine ⟨hx.row.cell (i := 0) rfl, ?_⟩
        have := run_loadAt_mid (P := Tryz.prog) wx b (off + pl * 9 + 1) 39 (ndC n (l[pl]'hk).2.1 (l[pl]'hk).2.2).toList _ (fun j z hj => by
          have hlt := (List.getElem?_eq_some_iff.1 hj).1
          have hlt8 : j < 8 := hlt
          rw [Nat.add_assoc _ 1 j]
          refine hx.mbs.cell hk (1 + j) (by omega) ?_
          unfold mcell
          rw [hat]
          match j, hj with
          | 0, hj => exact hj
          | 1, hj => exact hj
          | 2, hj => exact hj
          | 3, hj => exact hj
          | 4, hj => exact hj
          | 5, hj => exact hj
          | 6, hj => exact hj
          | 7, hj => exact hj
          | (j + 8), hj => omega) Tryz.underlying39 rfl (by rw [show (ndC n (l[pl]'hk).2.1 (l[pl]'hk).2.2).toList.length = 8 from rfl]; exact aggN.i)
        simpa using this⟩
      have hshape := hnd.shape
      rw [show (l[pl]'hk).1.2 = n by rw [hat]] at hnd
      generalize (l[pl]'hk).2.1 = av at *
      generalize (l[pl]'hk).2.2 = dv at *
      obtain ⟨aa, la, ca, ad, ld, cd, rfl, rfl⟩ := hshape
      have HO : Keep ((ndC n (.slice aa la ca) (.slice ad ld cd)).all (·.oneCell') = true) := ⟨by simp [ndC, strV, Value.oneCell']⟩
      have HNS : Keep ((ndC n (.slice aa la ca) (.slice ad ld cd)).size = 8) := ⟨rfl⟩
      have HND := Keep.keep hnd; have HNN := Keep.keep hN
      generalize hcc : ndC n (.slice aa la ca) (.slice ad ld cd) = cc at *
      clear hl hat HAT HON HGT hnd hN H3
      go_enter Tryz.func112, Tryz.ntmps112
      go_wp2_with fail
      refine calls_at (R := fun w1 => Hp NoM w w1 [rowA w.heap.size 39 (ndC nd0 nilV nilV)]) ((Hp.begin NoM w).newRow _ _) ?_
      intro w1 H1
      refine (HPL.out w1 H1.out.below).mono ?_
      rintro e w2 ⟨rfl, hb2⟩
      have H2 := Keep.keep (H1.out.call hb2)
      have HRW := Keep.keep (H2.out.row 0 rfl)
      obtain ⟨c0, hld⟩ := HCL.out w2 H2.out.below
      clear hb2
      go_wp2_with (first | ((with_reducible refine arm_loadM hld ?_ ?_); (focus rfl); simp only [Act.put, List.setIfInBounds_toArray, List.set_cons_succ, List.set_cons_zero]) | ((with_reducible refine arm_storeRow HRW.out aggN HZ.out HNS.out HO.out ?_ ?_ ?_); (focus rfl); (focus rfl); simp only [Act.put]))
      have hch : Below w.heap.size w (w2.setRow w.heap.size cc) := ((Chg.of_below (M := NoM) H2.out.below).setRow (.inl (Nat.le_refl _)) _).below (fun _ _ h => h)
      refine bodyPost_ret (results_row2 (p := 4) (q := 5) (ty := 39) rfl (HRW.out.setRow _) aggN HNS.out rfl rfl) rfl ⟨.slice aa la ca, .slice ad ld cd, by (rw [hcc]) <;> rfl, HND.out.below hch HNN.out, hch⟩
abbrev huk (p : Tx) (l : List Mv) : List Mv := l.filter (fun x => hitU p x.1)
theorem huk_map (p : Tx) (l : List Mv) : (huk p l).map (·.1) = underL p (l.map (·.1)) := by
  unfold underL
  rw [List.filter_map]; rfl
theorem huk_take {p : Tx} {l : List Mv} {k : Nat} (hk : k < l.length) : huk p (l.take (k + 1)) = if hitU p l[k].1 then huk p (l.take k) ++ [l[k]] else huk p (l.take k) := by
  rw [List.take_succ_eq_append_getElem hk, huk, List.filter_append]
  cases h : hitU p l[k].1 with
  | false => rw [List.filter_cons_of_neg (by simp [h])]; simp
  | true => rw [List.filter_cons_of_pos (by simp [h])]; simp
set_option maxHeartbeats 2000000 in
set_option maxRecDepth 100000 in
theorem runderT_own (R : Nat) (N : Nat → Prop) (v : Value) (l : List Mv) (w : World) (h : RefIn w R N v l) (hR : R < w.heap.size) (hN : ∀ b, N b → b < w.heap.size) (p : Tx) (hp : p.length ≤ 1000000) (hl : l.length ≤ 100000) :
    Calls Tryz.prog 113 #[.pointer (some ⟨R, 0, none⟩), .string ⟨p.toArray⟩] w fun e w' => ∃ v' l', e = .returned v' ∧ l'.map (·.1) = underL p (l.map (·.1)) ∧ w'.ownsRow w.heap.size 41 9 v' l'.length (mcells l') ∧ (∀ x ∈ l', NdR w' N x.1.2 x.2.1 x.2.2) ∧ Below w.heap.size w w' := by
  have HON : Keep (∀ wx, Below w.heap.size w wx → RefIn wx R N v l) := ⟨fun wx hb => h.below hb hR hN⟩
  obtain ⟨a, cap, rfl, hcap, hmx, h3⟩ := h.mbs.rd.shape
  have H3 := Keep.keep h3
  unfold maxLen at hmx
  clear h h3 hN
  go_enter Tryz.func113, Tryz.ntmps113
  go_wp2_with fail
  go_loopg [5, 6] l.length (fun g u5 u6 wx => ∃ k : Nat, k + g = l.length ∧ u6 = .int .i64 (k : Int) ∧ Hp NoM w wx [slA w.heap.size 41 9 u5 (huk p (l.take k)).length (mcells (huk p (l.take k)))])
  case atStart => exact ⟨0, by omega, rfl, (Hp.begin NoM w).nilS _ _ _⟩
  case round =>
    obtain ⟨k, hkg, rfl, HP⟩ := hrel
    have HH := Keep.keep HP
    obtain ⟨a3, c3, rfl, -⟩ := (ownsV_reads (HP.sl 0 rfl)).shape
    have hR2 := HON.out wr HP.below
    have c0 := hR2.row.cell (i := 0) rfl
    clear HP
    cases gk with
    | zero =>
      obtain rfl : k = l.length := by omega
      have hd : decide ((l.length : Int) < (l.length : Int)) = false := decide_eq_false (by omega)
      clear hR2
      go_wp2_with fail
      go_ret
      have hh := HH.out
      rw [List.take_length] at hh
      exact ⟨.slice a3 (huk p l).length c3, huk p l, (by rw [List.take_length]; rfl), huk_map p l, hh.sl 0 rfl, fun x hx => (HON.out wr hh.below).mbs.nd x (List.mem_filter.1 hx).1, hh.below⟩
    | succ g =>
      have hk : k < l.length := by omega
      have hd : decide ((k : Int) < (l.length : Int)) = true := decide_eq_true (by omega)
      obtain ⟨b, off, rfl, hbl⟩ : ∃ b off, a = some ⟨b, off, none⟩ ∧ N b := by
        rcases H3.out with h | ⟨b, off, h, hb⟩
        · omega
        · exact ⟨b, off, h, hb⟩
      have hld := hR2.mbs.load hk
      have hc := hR2.mbs.cell hk 0 (by omega) (u := strV l[k].1.1) rfl
      have HU := Keep.keep (fun wx => runder_any p l[k].1.1 hp wx)
      have HTK := Keep.keep (huk_take (p := p) hk)
      have HHT : Keep (hitU p l[k].1 = ((l[k].1.1 == p) || underP p l[k].1.1)) := ⟨rfl⟩
      have hshape := (hR2.mbs.nd _ (List.getElem_mem hk)).shape
      have hle : (huk p (l.take k)).length ≤ k := by
        have := List.length_filter_le (fun x : Mv => hitU p x.1) (l.take k)
        rw [List.length_take] at this
        simp only [huk]; omega
      generalize l[k] = x at *
      unfold strV at hc
      rw [Nat.add_zero] at hc
      clear hR2
      obtain ⟨aa, la, ca, ad, ld, cd, e1, e2⟩ := hshape
      obtain ⟨⟨xp, xn⟩, xv, xd⟩ := x
      dsimp only at e1 e2 hc HU HTK HHT
      subst e1 e2
      obtain ⟨ht, hht⟩ : ∃ b, hitU p (xp, xn) = b := ⟨_, rfl⟩
      obtain ⟨un, hun⟩ : ∃ b, underP p xp = b := ⟨_, rfl⟩
      obtain ⟨eq, heq⟩ : ∃ b, (xp == p) = b := ⟨_, rfl⟩
      simp only [hun] at HU
      rw [hht] at HTK
      rw [hht, hun, heq] at HHT
      clear hun hht
      have HMC : Keep (mcell ((xp, xn), .slice aa la ca, .slice ad ld cd) = #[.string ⟨xp.toArray⟩, .int .i64 xn.kind, .int .u32 xn.mode, .int .u32 xn.uid, .int .u32 xn.gid, .int .i64 xn.time, .slice aa la ca, .slice ad ld cd, .string ⟨xn.link.toArray⟩]) := ⟨rfl⟩
      rw [HMC.out] at hld
      have HY : Keep (ht = true → huk p (l.take (k + 1)) = huk p (l.take k) ++ [((xp, xn), .slice aa la ca, .slice ad ld cd)]) := ⟨fun e => by rw [HTK.out, e]; rfl⟩
      have HN2 : Keep (ht = false → huk p (l.take (k + 1)) = huk p (l.take k)) := ⟨fun e => by rw [HTK.out, e]; rfl⟩
      clear HTK
      -- the two ways to a hit
      by_cases hnone : eq = false ∧ un = false
      · obtain ⟨rfl, rfl⟩ := hnone
        have HT2 := Keep.keep (HN2.out HHT.out)
        go_wp2_with fail
        refine (HU.out _).mono ?_
        rintro e w2 ⟨rfl, rfl⟩
        go_wp2_with fail
        go_roundg g
        case measure => omega
        case rel => exact ⟨k + 1, by omega, by simp, by rw [HT2.out]; exact HH.out⟩
      · have HT2 := Keep.keep (HY.out (by rw [HHT.out]; cases eq <;> cases un <;> simp_all))
        generalize hak : huk p (l.take k) = acc at *
        clear hak HY HN2
        cases eq with
        | true =>
          go_wp2_with (first
            | ((with_reducible refine arm_loadM hld ?_ ?_); (focus rfl); simp only [Act.put, List.setIfInBounds_toArray, List.set_cons_succ, List.set_cons_zero])
            | (with_reducible refine arm_stop ?_))
          refine Stopped.out ?_
          refine arm_appendV slMbF ((HH.out.alloc _).sl 0 rfl) (RdV.new (N := fun _ => True) 41 (mcells [((xp, xn), .slice aa la ca, .slice ad ld cd)]) 9 1 _ rfl rfl (by unfold maxLen; omega) trivial) (by simp [mcells, mcell, mbC, strV, Value.oneCell']) (by unfold maxLen; omega) (by omega) (HH.out.alloc _).size rfl rfl ?_
          intro v3 w3 ho hg hov _
          rw [← mcells_append] at ho
          have HG := Keep.keep ((HH.out.alloc _).grow 0 rfl hg ho hov)
          obtain ⟨a4, c4, rfl, -⟩ := (ownsV_reads ho).shape
          clear ho hg hov hld hc c0
          simp only [Act.put, List.setIfInBounds_toArray, List.set_cons_succ, List.set_cons_zero]
          go_wp2_with fail
          go_roundg g
          case measure => omega
          case rel => exact ⟨k + 1, by omega, by simp, by rw [HT2.out, List.length_append]; exact HG.out⟩
        | false =>
          have hun : un = true := by cases un <;> simp_all
          subst hun
          go_wp2_with fail
          refine (HU.out _).mono ?_
          rintro e w2 ⟨rfl, rfl⟩
          go_wp2_with (first
            | ((with_reducible refine arm_loadM hld ?_ ?_); (focus rfl); simp only [Act.put, List.setIfInBounds_toArray, List.set_cons_succ, List.set_cons_zero])
            | (with_reducible refine arm_stop ?_))
          refine Stopped.out ?_
          refine arm_appendV slMbF ((HH.out.alloc _).sl 0 rfl) (RdV.new (N := fun _ => True) 41 (mcells [((xp, xn), .slice aa la ca, .slice ad ld cd)]) 9 1 _ rfl rfl (by unfold maxLen; omega) trivial) (by simp [mcells, mcell, mbC, strV, Value.oneCell']) (by unfold maxLen; omega) (by omega) (HH.out.alloc _).size rfl rfl ?_
          intro v3 w3 ho hg hov _
          rw [← mcells_append] at ho
          have HG := Keep.keep ((HH.out.alloc _).grow 0 rfl hg ho hov)
          obtain ⟨a4, c4, rfl, -⟩ := (ownsV_reads ho).shape
          clear ho hg hov hld hc c0
          simp only [Act.put, List.setIfInBounds_toArray, List.set_cons_succ, List.set_cons_zero]
          go_wp2_with fail
          go_roundg g
          case measure => omega
          case rel => exact ⟨k + 1, by omega, by simp, by rw [HT2.out, List.length_append]; exact HG.out⟩
end Go.Proofs.YtmnknmpfkjhgbaaGreatDoor
/- portolanref18's tree: List. -/
namespace Go.Proofs.YtmnknmpfkjhgbaaGreatDoor
open Go.RowKit
/-- parts of a slice of single cells -/
theorem RdV.take1 {w : World} {N : Nat → Prop} {a : Option Addr} {n cap : Nat} {vs : List Value} (h : RdV w N 1 (.slice a n cap) n vs) (i : Nat) (hi : i ≤ n) : RdV w N 1 (.slice a i cap) i (vs.take i) := by
  obtain ⟨hl, ⟨a0, cap0, he0, g1, g2, g3⟩, hc⟩ := h
  injection he0 with e1 e2 e3
  subst e1 e3
  have hl' : (vs.take i).length = i * 1 := by rw [List.length_take]; omega
  refine ⟨hl', ⟨a, cap, rfl, by omega, g2, g3⟩, fun b off m c he1 j u hj => ?_⟩
  injection he1 with e1 e2 e3
  subst e1 e3
  refine hc b off _ _ rfl j u ?_
  have hlt := (List.getElem?_eq_some_iff.1 hj).1
  rw [List.getElem?_take_of_lt (by omega)] at hj
  exact hj
theorem slice_from1 {P : Program} {T e : TypeId} {z : Value} {bytes : Nat} (hT : SlTy P T e z bytes) (a : Option Addr) (n cap i : Nat) (k : IntKind) (hi : i ≤ n) (_hn : n ≤ cap) :
    ∃ a', (∀ w, (Instr.slice T (.slice a n cap) (some (.int k (i : Int))) none none).run P w = .ok (.slice a' (n - i) (cap - i)) w) ∧
      (∀ w N vs, RdV w N 1 (.slice a n cap) n vs → RdV w N 1 (.slice a' (n - i) (cap - i)) (n - i) (vs.drop i)) := by
  obtain ⟨inf, h1, h2, h3, h4⟩ := hT.i
  have he : P.elem T = e := by simp [Program.elem, hT.u]
  have hs : ∀ w, (sizeOf e).run P w = .ok 1 w := fun w => by simp [sizeOf, typeInfo, h1, h3]
  refine ⟨if cap = i then a else a.map (·.add i), fun w => ?_, fun w N vs hr => ?_⟩
  · rw [run_slice_l w T a n cap (by rw [he]; exact hT.u) k (i : Int) (by omega) (by omega), he, hs]
    simp [Result.andThen, sliced]
  · obtain ⟨hl, ⟨a0, cap0, he0, g1, g2, g3⟩, hc⟩ := hr
    injection he0 with e1 e2 e3
    subst e1 e3
    refine ⟨by rw [List.length_drop]; omega, ⟨_, _, rfl, by omega, by omega, ?_⟩, fun b off m c he1 j u hj => ?_⟩
    · rcases g3 with h0 | ⟨b, off, rfl, hN⟩
      · exact .inl (by omega)
      · refine .inr ?_
        by_cases hci : cap = i
        · rw [if_pos hci]; exact ⟨b, off, rfl, hN⟩
        · rw [if_neg hci]; exact ⟨b, off + i, by simp [Addr.add_mid], hN⟩
    · injection he1 with e1 e2 e3
      have hlt := (List.getElem?_eq_some_iff.1 hj).1
      rw [List.length_drop] at hlt
      rw [if_neg (by omega)] at e1
      rcases g3 with h0 | ⟨b', off', rfl, hN⟩
      · omega
      · simp only [Option.map_some, Addr.add_mid, Option.some.injEq] at e1
        injection e1 with e1 e4 _
        subst e1 e4
        rw [Nat.add_assoc]
        refine hc b' off' _ _ rfl _ u ?_
        rw [List.getElem?_drop] at hj
        exact hj
theorem slTyS : SlTy Tryz.prog 42 9 (.string ⟨#[]⟩) 16 := SlTy.mk' Tryz.underlying42 (by kernel_rfl) rfl
theorem Hp.snd {M : Nat → Prop} {w wr : World} {A B : As} (h : Hp M w wr [A, B]) : Hp M w wr [B] :=
  ⟨h.c, fun C hC => h.p C (by have := List.mem_singleton.1 hC; subst this; simp), fun i j C D hi hj b h1 h2 => by
    have e1 : i = 0 := by have := (List.getElem?_eq_some_iff.1 hi).1; simp at this; exact this
    have e2 : j = 0 := by have := (List.getElem?_eq_some_iff.1 hj).1; simp at this; exact this
    omega⟩
/-- a text, put where it belongs -/
theorem ins_sorted {l : List Tx} {x : Tx} {k : Nat} (hs : l.Pairwise (· ≤ ·)) (h1 : ∀ j, (hj : j < k) → (hl : j < l.length) → l[j] < x) (h2 : ∀ hl : k < l.length, ¬ l[k] < x) : (l.take k ++ [x] ++ l.drop k).Pairwise (· ≤ ·) ∧ (l.take k ++ [x] ++ l.drop k).Perm (l ++ [x]) := by
  refine ⟨?_, ?_⟩
  · rw [List.pairwise_append, List.pairwise_append]
    refine ⟨⟨hs.sublist (List.take_sublist _ _), List.pairwise_singleton _ _, fun a ha b hb => ?_⟩, hs.sublist (List.drop_sublist _ _), fun a ha b hb => ?_⟩
    · obtain rfl := List.mem_singleton.1 hb
      obtain ⟨j, hj, rfl⟩ := List.mem_iff_getElem.1 ha
      rw [List.length_take] at hj
      rw [List.getElem_take]
      exact List.le_of_lt (h1 j (by omega) (by omega))
    · obtain ⟨j, hj, rfl⟩ := List.mem_iff_getElem.1 hb
      rw [List.length_drop] at hj
      rw [List.getElem_drop]
      rcases List.mem_append.1 ha with ha | ha
      · obtain ⟨i, hi, rfl⟩ := List.mem_iff_getElem.1 ha
        rw [List.length_take] at hi
        rw [List.getElem_take]
        exact (List.pairwise_iff_getElem.1 hs) i (k + j) (by omega) (by omega) (by omega)
      · obtain rfl := List.mem_singleton.1 ha
        have hk := h2 (by omega)
        rcases Nat.eq_zero_or_pos j with rfl | h0
        · exact List.not_lt.1 hk
        · exact List.le_trans (List.not_lt.1 hk) ((List.pairwise_iff_getElem.1 hs) k (k + j) (by omega) (by omega) (by omega))
  · have : (l.take k ++ [x] ++ l.drop k).Perm (l.take k ++ l.drop k ++ [x]) := by
      rw [List.append_assoc, List.append_assoc]
      exact List.Perm.append_left _ List.perm_append_comm
    rw [List.take_append_drop] at this
    exact this
theorem sorted_ext {l m : List Tx} (h : l.Perm m) (hs : l.Pairwise (· ≤ ·)) : l = m.mergeSort (fun x y => decide (x ≤ y)) := by
  have h2 : (m.mergeSort (fun x y => decide (x ≤ y))).Pairwise (fun a b => decide (a ≤ b) = true) := List.pairwise_mergeSort (fun a b c h1 h2 => by simp only [decide_eq_true_eq] at *; exact List.le_trans h1 h2) (fun a b => by
    simp only [Bool.or_eq_true, decide_eq_true_eq]
    rcases tx_tri a b with h | h | h
    · exact .inl (List.le_of_lt h)
    · exact .inl (h ▸ List.le_refl _)
    · exact .inr (List.le_of_lt h)) m
  refine List.Perm.eq_of_pairwise (le := fun a b : Tx => a ≤ b) (fun a b _ _ h1 h2 => List.le_antisymm h1 h2) hs (h2.imp (fun h => by simpa using h)) (h.trans (List.mergeSort_perm _ _).symm)
theorem namesT_take {L : List Mb} {dir : Tx} {k : Nat} (hk : k < L.length) : namesT dir (L.take (k + 1)) = if parentP L[k].1 == dir then namesT dir (L.take k) ++ [baseP L[k].1] else namesT dir (L.take k) := by
  unfold namesT
  rw [List.take_succ_eq_append_getElem hk, List.filter_append, List.map_append]
  cases h : parentP L[k].1 == dir with
  | false => rw [List.filter_cons_of_neg (by simpa using h)]; simp
  | true => rw [List.filter_cons_of_pos (by simpa using h)]; simp
set_option maxHeartbeats 4000000 in
set_option maxRecDepth 100000 in
theorem rlist_any (R : Nat) (N : Nat → Prop) (v : Value) (l : List Mv) (w : World) (h : RefIn w R N v l) (hR : R < w.heap.size) (hN : ∀ b, N b → b < w.heap.size) (dir : Tx) (hl : l.length ≤ 100000) :
    Calls Tryz.prog 111 #[.pointer (some ⟨R, 0, none⟩), .string ⟨dir.toArray⟩] w fun e w' => (∃ v', e = .returned (.tuple #[v', .int .i64 (listT (l.map (·.1)) dir).2]) ∧ w'.ownsRow w.heap.size 9 1 v' (listT (l.map (·.1)) dir).1.length ((listT (l.map (·.1)) dir).1.map encStr)) ∧ Below w.heap.size w w' := by
  have HG := Keep.keep (rget_any R N v l w h hR hN dir)
  have HLT : Keep (listT (l.map (·.1)) dir = if (getT (l.map (·.1)) dir).2 = false then ([], 6) else if (getT (l.map (·.1)) dir).1.kind ≠ 1 then ([], 31) else ((namesT dir (l.map (·.1))).mergeSort (fun x y => decide (x ≤ y)), 0)) := ⟨rfl⟩
  generalize listT (l.map (·.1)) dir = res at *
  generalize getT (l.map (·.1)) dir = gt at *
  obtain ⟨⟨kind, mode, uid, gid, time, attrs, data, link⟩, is⟩ := gt
  simp only at HG HLT
  have HON : Keep (∀ wx, Below w.heap.size w wx → RefIn wx R N v l) := ⟨fun wx hb => h.below hb hR hN⟩
  have HSM := Keep.keep h.sm
  obtain ⟨a, cap, hv, hcap, hmx, h3⟩ := h.mbs.rd.shape
  have H3 := Keep.keep h3
  unfold maxLen at hmx
  clear h h3 hN
  subst hv
  go_enter Tryz.func111, Tryz.ntmps111
  go_upto_region 1 with fail
  go_wp2_with fail
  refine HG.out.mono ?_
  rintro e w1 ⟨av, dv, rfl, hnd, hb1⟩
  obtain ⟨aa, la, ca, ad, ld, cd, rfl, rfl⟩ := hnd.shape
  unfold ndC strV
  dsimp only
  have HB1 := Keep.keep hb1
  have hle : w.heap.size ≤ w1.heap.size := hb1.size
  clear hnd hb1 HG
  go_upto_region 2 with fail
  refine wp_world (R := fun w2 => Below w.heap.size w w2 ∧ Row w2 w1.heap.size 39 #[.int .i64 kind, .int .u32 mode, .int .u32 uid, .int .u32 gid, .int .i64 time, .slice aa la ca, .slice ad ld cd, .string ⟨link.toArray⟩]) ⟨HB1.out.alloc hle _, Row.new _ _ _⟩ ?_
  intro w2 H2
  obtain ⟨b6, hb6⟩ : ∃ b6, w1.heap.size = b6 := ⟨_, rfl⟩
  rw [hb6] at H2 ⊢
  clear hb6 hle
  have c0 := H2.out.2.cell (i := 0) rfl
  cases is with
  | false =>
    have HRE : Keep (res = ([], 6)) := ⟨HLT.out⟩
    go_wp2_with fail
    go_ret2
    rw [HRE.out]
    exact ⟨⟨_, rfl, World.ownsRow_nil _ _ _ _⟩, H2.out.1⟩
  | true =>
    by_cases hk1 : kind = 1
    rotate_left
    · have HRE : Keep (res = ([], 31)) := ⟨by rw [HLT.out]; simp [hk1]⟩
      have hbne : (kind != 1) = true := by simpa using hk1
      clear hk1
      go_wp2_with fail
      go_ret2
      rw [HRE.out]
      exact ⟨⟨_, rfl, World.ownsRow_nil _ _ _ _⟩, H2.out.1⟩
    · have HRE : Keep (res = ((namesT dir (l.map (·.1))).mergeSort (fun x y => decide (x ≤ y)), 0)) := ⟨by rw [HLT.out]; simp [hk1]⟩
      have hbne : (kind != 1) = false := by simpa using hk1
      clear hk1 HLT
      go_wp2_with fail
      clear c0 hbne
      go_loopg [8, 9, 10, 11, 12] l.length (fun g u8 u9 _ _ _ wx => ∃ (k : Nat) (acc : List Tx), k + g = l.length ∧ u9 = .int .i64 (k : Int) ∧ acc.Perm (namesT dir ((l.map (·.1)).take k)) ∧ acc.Pairwise (· ≤ ·) ∧ acc.length ≤ k ∧ Hp NoM w wx [slA w.heap.size 9 1 u8 acc.length (acc.map encStr)])
      case atStart => exact ⟨0, [], by omega, rfl, by simp [namesT], List.Pairwise.nil, by simp, ((Hp.begin NoM w).call H2.out.1).nilS _ _ _⟩
      case round =>
        obtain ⟨k, acc, hkg, rfl, hpm, hps, hal, HP⟩ := hrel
        have HH := Keep.keep HP; have HPM := Keep.keep hpm; have HPS := Keep.keep hps
        obtain ⟨a3, c3, rfl, hc31, hc32, hc33⟩ := (ownsV_reads (HP.sl 0 rfl)).shape
        have HC33 := Keep.keep hc33
        unfold maxLen at hc32
        have hR2 := HON.out wr HP.below
        have c0 := hR2.row.cell (i := 0) rfl
        clear HP hpm hps H2 hc33
        cases gk with
        | zero =>
          obtain rfl : k = l.length := by omega
          have hd : decide ((l.length : Int) < (l.length : Int)) = false := decide_eq_false (by omega)
          have HE : Keep (acc = res.1) := ⟨by
            have h := HPM.out
            rw [List.take_of_length_le (by rw [List.length_map]; omega)] at h
            rw [HRE.out]
            exact sorted_ext h HPS.out⟩
          clear hR2
          go_wp2_with fail
          go_ret2
          refine ⟨⟨_, by (rw [HRE.out]) <;> rfl, ?_⟩, HH.out.below⟩
          rw [← HE.out]
          exact HH.out.sl 0 rfl
        | succ g =>
          have hk : k < l.length := by omega
          have hkm : k < (l.map (·.1)).length := by rw [List.length_map]; exact hk
          have hd : decide ((k : Int) < (l.length : Int)) = true := decide_eq_true (by omega)
          obtain ⟨b, off, rfl, hbl⟩ : ∃ b off, a = some ⟨b, off, none⟩ ∧ N b := by
            rcases H3.out with h | ⟨b, off, h, hb⟩
            · omega
            · exact ⟨b, off, h, hb⟩
          have hc := hR2.mbs.cell hk 0 (by omega) (u := strV l[k].1.1) rfl
          have hsp := (HSM.out _ (List.getElem_mem hk)).p
          have HNT := Keep.keep (namesT_take (dir := dir) hkm)
          rw [show (l.map (·.1))[k] = l[k].1 by simp] at HNT
          generalize l[k].1.1 = xp at *
          unfold strV at hc
          rw [Nat.add_zero] at hc
          have HPA := Keep.keep (fun wx => rparent_any xp (by omega) wx)
          have HBA := Keep.keep (fun wx => rbase_any xp (by omega) wx)
          generalize baseP xp = x at *
          clear hsp hR2
          have hne : (parentP xp != dir) = !(parentP xp == dir) := rfl
          obtain ⟨pe, hpe⟩ : ∃ b, (parentP xp == dir) = b := ⟨_, rfl⟩
          rw [hpe] at hne HNT
          generalize parentP xp = pp at *
          cases pe with
          | false =>
            have HN2 : Keep (namesT dir ((l.map (·.1)).take (k + 1)) = namesT dir ((l.map (·.1)).take k)) := ⟨HNT.out⟩
            go_wp2_with fail
            refine (HPA.out _).mono ?_
            rintro e w3 ⟨rfl, rfl⟩
            go_wp2_with fail
            go_roundg g
            case measure => omega
            case rel => exact ⟨k + 1, acc, by omega, by simp, by rw [HN2.out]; exact HPM.out, HPS.out, by omega, HH.out⟩
          | true =>
            have HN2 : Keep (namesT dir ((l.map (·.1)).take (k + 1)) = namesT dir ((l.map (·.1)).take k) ++ [x]) := ⟨HNT.out⟩
            go_wp2_with fail
            refine (HPA.out _).mono ?_
            rintro e w3 ⟨rfl, rfl⟩
            go_wp2_with fail
            refine (HBA.out _).mono ?_
            rintro e w3 ⟨rfl, rfl⟩
            clear hc c0 HPA HBA hne
            go_wp2_with fail
            obtain ⟨an, han⟩ : ∃ an, acc.length = an := ⟨_, rfl⟩
            have HAN := Keep.keep han
            rw [han] at hc31 hal HH ⊢
            clear han
            generalize wr = wo at *
            go_loopg [11] an (fun g u11 wx => ∃ i : Nat, i + g = an ∧ u11 = .int .i64 (i : Int) ∧ (∀ j, (hj : j < i) → (hl : j < acc.length) → acc[j] < x) ∧ wo = wx)
            case atStart => exact ⟨0, by omega, rfl, fun j hj => by omega, rfl⟩
            case round =>
              obtain ⟨i, hig, rfl, hno, rfl⟩ := hrel
              have HNO := Keep.keep hno
              clear hno
              have HRD := Keep.keep (ownsV_reads (HH.out.sl 0 rfl))
              by_cases hgo : ∃ h : i < acc.length, acc[i] < x
              · obtain ⟨hia, hlt⟩ := hgo
                have hi : i < an := by have := HAN.out; omega
                obtain ⟨gj, rfl⟩ : ∃ gj, gk = gj + 1 := ⟨gk - 1, by omega⟩
                have hdi : decide ((i : Int) < (an : Int)) = true := decide_eq_true (by omega)
                obtain ⟨bo, oo, rfl⟩ : ∃ bo oo, a3 = some ⟨bo, oo, none⟩ := by
                  rcases HC33.out with h | ⟨b, off, h, -⟩
                  · omega
                  · exact ⟨b, off, h⟩
                have hci := HRD.out.cell bo oo _ _ rfl i (encStr acc[i]) (by rw [List.getElem?_map, List.getElem?_eq_getElem hia]; rfl)
                unfold encStr at hci
                have hls := less_lt acc[i] x
                rw [decide_eq_true hlt] at hls
                have HST : Keep (∀ j, (hj : j < i + 1) → (hl : j < acc.length) → acc[j] < x) := ⟨fun j hj hl => by
                  rcases Nat.lt_succ_iff_lt_or_eq.1 hj with h | rfl
                  · exact HNO.out j h hl
                  · exact hlt⟩
                clear hlt
                generalize acc[i] = y at *
                go_wp2_with fail
                go_roundg gj
                case measure => omega
                case rel => exact ⟨i + 1, by omega, by simp, HST.out, rfl⟩
              · have HX := Keep.keep (ins_sorted (k := i) (x := x) HPS.out HNO.out (fun hl h => hgo ⟨hl, h⟩))
                have HSTOP : Keep (∀ hl : i < acc.length, Op.bytesLess acc[i] x = false) := ⟨fun hl => by
                  rw [less_lt]; exact decide_eq_false (fun h => hgo ⟨hl, h⟩)⟩
                have HC : Keep (∀ hl : i < acc.length, ∃ bo oo, a3 = some ⟨bo, oo, none⟩ ∧ wo.cell? ⟨bo, oo + i, none⟩ = some (.string ⟨acc[i].toArray⟩)) := ⟨fun hl => by
                  rcases HC33.out with h | ⟨b, off, rfl, -⟩
                  · have := HAN.out; omega
                  · exact ⟨b, off, rfl, HRD.out.cell b off _ _ rfl i (encStr acc[i]) (by rw [List.getElem?_map, List.getElem?_eq_getElem hl]; rfl)⟩⟩
                have hian : i ≤ an := by omega
                clear hgo HNO
                have HRD1 := Keep.keep (HRD.out.take1 i hian)
                have hsl1 := fun wx => slice_to slTyS a3 an c3 i .i64 (by omega) wx
                obtain ⟨a6, hsl2, hrd2⟩ := slice_from1 slTyS a3 an c3 i .i64 hian hc31
                have HRF := Keep.keep hrd2
                clear hrd2 HRD
                have HEND : Keep (∀ wy v5, Hp NoM w wy [slA w.heap.size 9 1 (.slice a3 an c3) an (acc.map encStr), slA w.heap.size 9 1 v5 (i + 1 + (an - i)) ((acc.map encStr).take i ++ [encStr x] ++ (acc.map encStr).drop i)] →
                    ∃ acc2 : List Tx, acc2.Perm (namesT dir ((l.map (·.1)).take (k + 1))) ∧ acc2.Pairwise (· ≤ ·) ∧ acc2.length ≤ k + 1 ∧ acc2.length = i + 1 + (an - i) ∧ Hp NoM w wy [slA w.heap.size 9 1 v5 acc2.length (acc2.map encStr)]) := ⟨fun wy v5 h5 => by
                  have hl2 : (acc.take i ++ [x] ++ acc.drop i).length = i + 1 + (an - i) := by
                    have := HAN.out
                    simp; omega
                  refine ⟨acc.take i ++ [x] ++ acc.drop i, ?_, HX.out.1, by rw [hl2]; omega, hl2, ?_⟩
                  · rw [HN2.out]
                    exact HX.out.2.trans (List.Perm.append_right _ HPM.out)
                  · rw [hl2]
                    have := h5.snd
                    simpa [List.map_take, List.map_drop] using this⟩
                have HH0 := Keep.keep (HH.out.nilS w.heap.size 9 1)
                by_cases hi : i < an
                focus
                  have hdi : decide ((i : Int) < (an : Int)) = true := decide_eq_true (by omega)
                  have hia : i < acc.length := by have := HAN.out; omega
                  obtain ⟨bo, oo, e3, hci⟩ := HC.out hia
                  have hls := HSTOP.out hia
                  generalize acc[i] = y at *
                  subst e3
                  clear HC HSTOP HX
                  go_wp2_with (with_reducible refine arm_stop ?_)
                  clear hci hls
                rotate_left
                focus
                  have hdi : decide ((i : Int) < (an : Int)) = false := decide_eq_false (by omega)
                  clear HC HSTOP HX
                  go_wp2_with (with_reducible refine arm_stop ?_)
                all_goals
                  refine Stopped.out ?_
                  have hlti : ((acc.map encStr).take i).length = i := by have := HAN.out; rw [List.length_take, List.length_map]; omega
                  refine arm_appendV slStr (m := i) (HH0.out.sl 1 rfl) HRD1.out (fun u hu => by
                    have := List.mem_of_mem_take hu
                    obtain ⟨y, -, rfl⟩ := List.mem_map.1 this; rfl) (by unfold maxLen; omega) (by omega) HH0.out.size rfl rfl ?_
                  intro v4 w4 ho hg hov _
                  rw [Nat.zero_add, List.nil_append] at ho
                  have H4 := Keep.keep (HH0.out.grow 1 rfl hg ho hov)
                  obtain ⟨a7, c7, rfl, -⟩ := (ownsV_reads ho).shape
                  clear ho hg hov hsl1 HRD1
                  simp only [Act.put, List.setIfInBounds_toArray, List.set_cons_succ, List.set_cons_zero]
                  go_wp2_with (with_reducible refine arm_stop ?_)
                  refine Stopped.out ?_
                  refine arm_appendV slStr ((H4.out.alloc _).sl 1 rfl) (RdV.new (N := fun _ => True) 9 [encStr x] 1 1 _ rfl rfl (by unfold maxLen; omega) trivial) (by simp [encStr, Value.oneCell']) (by unfold maxLen; omega) (by omega) (H4.out.alloc _).size rfl rfl ?_
                  intro v5 w5 ho hg hov _
                  have H5 := Keep.keep ((H4.out.alloc _).grow 1 rfl hg ho hov)
                  obtain ⟨a8, c8, rfl, -⟩ := (ownsV_reads ho).shape
                  clear ho hg hov H4
                  simp only [Act.put, List.setIfInBounds_toArray, List.set_cons_succ, List.set_cons_zero]
                  have HRD5 := Keep.keep (HRF.out _ _ _ (ownsV_reads (H5.out.sl 0 rfl)))
                  go_wp2_with (with_reducible refine arm_stop ?_)
                  refine Stopped.out ?_
                  refine arm_appendV slStr (m := an - i) (H5.out.sl 1 rfl) HRD5.out (fun u hu => by
                    have := List.mem_of_mem_drop hu
                    obtain ⟨y, -, rfl⟩ := List.mem_map.1 this; rfl) (by unfold maxLen; omega) (by omega) H5.out.size rfl rfl ?_
                  intro v6 w6 ho hg hov _
                  have H6 := Keep.keep (HEND.out _ _ (H5.out.grow 1 rfl hg ho hov))
                  obtain ⟨a9, c9, rfl, -⟩ := (ownsV_reads ho).shape
                  clear ho hg hov H5 HRD5 hsl2
                  simp only [Act.put, List.setIfInBounds_toArray, List.set_cons_succ, List.set_cons_zero]
                  obtain ⟨acc2, h1, h2, h3, h4, h5⟩ := H6.out
                  have HA1 := Keep.keep h1; have HA2 := Keep.keep h2; have HA5 := Keep.keep h5
                  clear h1 h2 h5 H6 HEND
                  go_wp2_with fail
                  go_roundg g
                  case measure => omega
                  case rel => exact ⟨k + 1, acc2, by omega, by simp, HA1.out, HA2.out, h3, HA5.out⟩
end Go.Proofs.YtmnknmpfkjhgbaaGreatDoor
/- portolanref20.in: what is in a Dir of either tree, each once. -/
namespace Go.Proofs.YtmnknmpfkjhgbaaGreatDoor
open Go.RowKit
theorem list_len (L : List Mb) (d : Tx) : (listT L d).1.length ≤ L.length := by
  unfold listT
  split
  · exact Nat.zero_le _
  · split
    · exact Nat.zero_le _
    · rw [List.length_mergeSort]
      unfold namesT
      rw [List.length_map]
      exact List.length_filter_le _ _
theorem list_sm {L : List Mb} (hs : ∀ x ∈ L, Sm x) (d : Tx) : ∀ x ∈ (listT L d).1, x.length ≤ 400000 := by
  intro x hx
  unfold listT at hx
  split at hx
  · exact (List.not_mem_nil hx).elim
  · split at hx
    · exact (List.not_mem_nil hx).elim
    · have hx := List.mem_mergeSort.1 hx
      unfold namesT at hx
      obtain ⟨y, hy, rfl⟩ := List.mem_map.1 hx
      have h1 := (hs y (List.mem_filter.1 hy).1).p
      have h2 : (baseP y.1).length ≤ y.1.length := by unfold baseP; simp
      omega
set_option maxHeartbeats 4000000 in
set_option maxRecDepth 100000 in
theorem rin_any (Ra : Nat) (Na : Nat → Prop) (va : Value) (la : List Mv) (Rb : Nat) (Nb : Nat → Prop) (vb : Value) (lb : List Mv) (w : World) (hA : RefIn w Ra Na va la) (hRa : Ra < w.heap.size) (hNa : ∀ b, Na b → b < w.heap.size) (hB : RefIn w Rb Nb vb lb) (hRb : Rb < w.heap.size) (hNb : ∀ b, Nb b → b < w.heap.size) (dir : Tx) (hd : dir.length ≤ 400000) (hla : la.length ≤ 100000) (hlb : lb.length ≤ 100000) :
    Calls Tryz.prog 68 #[.pointer (some ⟨Ra, 0, none⟩), .pointer (some ⟨Rb, 0, none⟩), .string ⟨dir.toArray⟩] w fun e w' => ∃ v, e = .returned v ∧ OwnS w' w.heap.size v (ksR (la.map (·.1)) (lb.map (·.1)) dir) ∧ Below w.heap.size w w' := by
  have HL1 := Keep.keep (rlist_any Ra Na va la w hA hRa hNa dir hla)
  have HL2 : Keep (∀ wx, Below w.heap.size w wx → Calls Tryz.prog 111 #[.pointer (some ⟨Rb, 0, none⟩), .string ⟨dir.toArray⟩] wx fun e w' => (∃ v', e = .returned (.tuple #[v', .int .i64 (listT (lb.map (·.1)) dir).2]) ∧ w'.ownsRow wx.heap.size 9 1 v' (listT (lb.map (·.1)) dir).1.length ((listT (lb.map (·.1)) dir).1.map encStr)) ∧ Below wx.heap.size wx w') :=
    ⟨fun wx hb => rlist_any Rb Nb vb lb wx (hB.below hb hRb hNb) (Nat.lt_of_lt_of_le hRb hb.size) (fun b h => Nat.lt_of_lt_of_le (hNb b h) hb.size) dir hlb⟩
  have HK : Keep (ksR (la.map (·.1)) (lb.map (·.1)) dir = (((listT (la.map (·.1)) dir).1 ++ (listT (lb.map (·.1)) dir).1).map fun n => joinP [dir, n]).foldl addN []) := ⟨by unfold ksR joinL; rw [List.map_append]⟩
  have hn1 : (listT (la.map (·.1)) dir).1.length ≤ 100000 := by have := list_len (la.map (·.1)) dir; rw [List.length_map] at this; omega
  have hn2 : (listT (lb.map (·.1)) dir).1.length ≤ 100000 := by have := list_len (lb.map (·.1)) dir; rw [List.length_map] at this; omega
  have HS1 : Keep (∀ x ∈ (listT (la.map (·.1)) dir).1, x.length ≤ 400000) := ⟨list_sm (fun x hx => by obtain ⟨y, hy, rfl⟩ := List.mem_map.1 hx; exact hA.sm y hy) dir⟩
  have HS2 : Keep (∀ x ∈ (listT (lb.map (·.1)) dir).1, x.length ≤ 400000) := ⟨list_sm (fun x hx => by obtain ⟨y, hy, rfl⟩ := List.mem_map.1 hx; exact hB.sm y hy) dir⟩
  clear hA hB
  generalize ksR (la.map (·.1)) (lb.map (·.1)) dir = out at *
  generalize (listT (la.map (·.1)) dir).2 = e1 at *
  generalize (listT (la.map (·.1)) dir).1 = l1 at *
  generalize (listT (lb.map (·.1)) dir).2 = e2 at *
  generalize (listT (lb.map (·.1)) dir).1 = l2 at *
  obtain ⟨n1, hn1'⟩ : ∃ n, l1.length = n := ⟨_, rfl⟩
  obtain ⟨n2, hn2'⟩ : ∃ n, l2.length = n := ⟨_, rfl⟩
  have HN1 := Keep.keep hn1'; have HN2 := Keep.keep hn2'
  rw [hn1'] at hn1
  rw [hn2'] at hn2
  have HJ := Keep.keep (fun x (hx : x.length ≤ 400000) v w (h : RdS w (· < w.heap.size) v [dir, x]) => rjoin_any v [dir, x] w h (by simp) (by have := joinP_two_len dir x; omega))
  clear hn1' hn2'
  go_enter Tryz.func68, Tryz.ntmps68
  go_wp2_with fail
  refine HL1.out.mono ?_
  rintro e w1 ⟨⟨v8, rfl, ho8⟩, hb1⟩
  have H1 := Keep.keep ((Hp.begin NoM w).push (slA w.heap.size 9 1 v8 l1.length (l1.map encStr)) (.of_below hb1) ho8 (fun b hb => World.ownsRow.lt ho8 b hb))
  rw [HN1.out] at H1
  obtain ⟨a8, c8, hv8, -⟩ := (ownsV_reads ho8).shape
  rw [HN1.out] at hv8
  clear ho8 hb1 HL1
  subst hv8
  go_wp2_with fail
  refine (HL2.out w1 H1.out.below).mono ?_
  rintro e w2 ⟨⟨v10, rfl, ho10⟩, hb2⟩
  have H2 := Keep.keep ((H1.out.push (slA w1.heap.size 9 1 v10 l2.length (l2.map encStr)) (.of_below hb2) ho10 (fun b hb => World.ownsRow.lt ho10 b hb)).nilS w.heap.size 9 1)
  rw [HN2.out] at H2
  obtain ⟨a10, c10, hv10, -⟩ := (ownsV_reads ho10).shape
  rw [HN2.out] at hv10
  clear ho10 hb2 HL2 H1
  subst hv10
  go_wp2_with fail
  go_loopg [7, 12, 13, 14, 15, 16] (n1 + n2) (fun g u7 u12 _ _ _ _ wx => ∃ (i : Nat) (acc : List Tx), i + g = n1 + n2 ∧ u12 = .int .i64 (i : Int) ∧ (((l1 ++ l2).take i).map fun n => joinP [dir, n]).foldl addN [] = acc ∧ acc.length ≤ i ∧ Hp NoM w wx [slA w.heap.size 9 1 (.slice a8 n1 c8) n1 (l1.map encStr), slA w1.heap.size 9 1 (.slice a10 n2 c10) n2 (l2.map encStr), slA w.heap.size 9 1 u7 acc.length (acc.map encStr)])
  case atStart => exact ⟨0, [], by omega, rfl, rfl, Nat.le_refl _, H2.out⟩
  case round =>
    obtain ⟨i, acc, hig, rfl, hacc, hal, hH⟩ := hrel
    have HH := Keep.keep hH; have HAC := Keep.keep hacc
    obtain ⟨a7, c7, rfl, h71, h72, h73⟩ := (ownsV_reads (hH.sl 2 rfl)).shape
    have H73 := Keep.keep h73
    unfold maxLen at h72
    clear hH hacc H2 h73
    cases gk with
    | zero =>
      obtain rfl : i = n1 + n2 := by omega
      have HE : Keep (acc = out) := ⟨by
        rw [← HAC.out, HK.out, List.take_of_length_le]
        rw [List.length_append, HN1.out, HN2.out]; exact Nat.le_refl _⟩
      have hd : decide (((n1 + n2 : Nat) : Int) < (n1 : Int) + (n2 : Int)) = false := decide_eq_false (by omega)
      go_wp2_with fail
      go_ret
      exact ⟨_, rfl, by rw [← HE.out]; exact HH.out.sl 2 rfl, HH.out.below⟩
    | succ g =>
      have hd : decide ((i : Int) < (n1 : Int) + (n2 : Int)) = true := decide_eq_true (by omega)
      have hil : i < (l1 ++ l2).length := by rw [List.length_append, HN1.out, HN2.out]; omega
      obtain ⟨x, hx⟩ : ∃ x, (l1 ++ l2)[i] = x := ⟨_, rfl⟩
      have HX := Keep.keep hx
      have hxl : x.length ≤ 400000 := by
        rw [← hx]
        rcases List.mem_append.1 (List.getElem_mem hil) with h | h
        · exact HS1.out _ h
        · exact HS2.out _ h
      have HTK : Keep ((((l1 ++ l2).take (i + 1)).map fun n => joinP [dir, n]).foldl addN [] = addN acc (joinP [dir, x])) := ⟨by
        rw [List.take_succ_eq_append_getElem hil, List.map_append, List.foldl_append, HAC.out, HX.out]; rfl⟩
      have HJX := Keep.keep (HJ.out x hxl)
      obtain ⟨p, hp⟩ : ∃ p, joinP [dir, x] = p := ⟨_, rfl⟩
      rw [hp] at HJX HTK
      clear hxl hp hx
      by_cases hi1 : i < n1
      focus
        have hd1 : decide ((i : Int) < (n1 : Int)) = true := decide_eq_true (by omega)
        have hi1' : i < l1.length := by rw [HN1.out]; exact hi1
        obtain ⟨g8, rfl⟩ : ∃ g, a8 = some ⟨g, 0, none⟩ := by
          rcases (HH.out.sl 0 rfl).2 with ⟨_, h0⟩ | ⟨g, cap, cur, h, _⟩
          · omega
          · injection h with h; exact ⟨g, h⟩
        have hcell := (ownsV_reads (HH.out.sl 0 rfl)).cell g8 0 _ _ rfl i (encStr x) (by rw [List.getElem?_map, List.getElem?_eq_getElem hi1', ← HX.out, List.getElem_append_left hi1']; rfl)
        unfold encStr at hcell
        rw [Nat.zero_add] at hcell
        clear hi1'
        go_upto_region 11 with fail
        clear hcell hd1
      rotate_left
      focus
        have hd1 : decide ((i : Int) < (n1 : Int)) = false := decide_eq_false (by omega)
        obtain ⟨j, hj⟩ : ∃ j, j = i - n1 := ⟨_, rfl⟩
        have hji : (i : Int) - (n1 : Int) = (j : Int) := by omega
        have hj2 : j < n2 := by omega
        have hj2' : j < l2.length := by rw [HN2.out]; exact hj2
        obtain ⟨g10, rfl⟩ : ∃ g, a10 = some ⟨g, 0, none⟩ := by
          rcases (HH.out.sl 1 rfl).2 with ⟨_, h0⟩ | ⟨g, cap, cur, h, _⟩
          · omega
          · injection h with h; exact ⟨g, h⟩
        have hcell := (ownsV_reads (HH.out.sl 1 rfl)).cell g10 0 _ _ rfl j (encStr x) (by
          rw [List.getElem?_map, List.getElem?_eq_getElem hj2', ← HX.out, List.getElem_append_right (by rw [HN1.out]; omega)]
          simp only [HN1.out, hj]; rfl)
        unfold encStr at hcell
        rw [Nat.zero_add] at hcell
        clear hj2' hj
        go_upto_region 11 with fail
        clear hcell hd1 hji hj2
      all_goals
        go_wp2_with fail
        refine calls_at (R := fun wq => Below wr.heap.size wr wq ∧ RdS wq (· < wq.heap.size) (.slice (some ⟨wr.heap.size, 0, none⟩) 2 2) [dir, x]) ⟨(Below.refl _ _).alloc (Nat.le_refl _) _, rdS_two wr dir x⟩ ?_
        intro w3 H3
        have HH3 := Keep.keep (HH.out.call H3.out.1)
        refine (HJX.out _ w3 H3.out.2).mono ?_
        rintro e w4 ⟨rfl, rfl⟩
        clear H3 HJX HH
        go_wp2_with fail
        obtain ⟨n7, hn7⟩ : ∃ n, acc.length = n := ⟨_, rfl⟩
        have HN7 := Keep.keep hn7
        rw [hn7] at HH3 h71 hal ⊢
        clear hn7
        generalize w3 = wo at *
        go_loopg [15, 16] n7 (fun g u15 u16 wx => ∃ (k : Nat), k + g = n7 ∧ u16 = .int .i64 (k : Int) ∧ u15 = .bool ((acc.take k).any (· == p)) ∧ wo = wx)
        case atStart => exact ⟨0, by omega, rfl, rfl, rfl⟩
        case round =>
          obtain ⟨k, hkg, rfl, rfl, rfl⟩ := hrel
          cases gk with
          | zero =>
            obtain rfl : k = n7 := by omega
            have hdk : decide ((k : Int) < (k : Int)) = false := decide_eq_false (by omega)
            have HT : Keep (acc.take k = acc) := ⟨List.take_of_length_le (by rw [HN7.out]; exact Nat.le_refl _)⟩
            rw [HT.out]
            have HAD : Keep (addN acc p = if acc.any (· == p) then acc else acc ++ [p]) := ⟨rfl⟩
            cases hany : acc.any (· == p) with
            | true =>
              have HAD2 : Keep (addN acc p = acc) := ⟨by rw [HAD.out, if_pos hany]⟩
              clear hany
              go_wp2_with fail
              go_roundg g
              case measure => omega
              case rel => exact ⟨i + 1, acc, by omega, by simp, by rw [HTK.out, HAD2.out], by rw [HN7.out]; omega, by rw [HN7.out]; exact HH3.out⟩
            | false =>
              have HAD2 : Keep (addN acc p = acc ++ [p]) := ⟨by rw [HAD.out, if_neg (by rw [hany]; decide)]⟩
              clear hany
              go_wp2_with (with_reducible refine arm_stop ?_)
              refine Stopped.out ?_
              refine arm_appendV slStr ((HH3.out.alloc _).sl 2 rfl) (RdV.new (N := fun _ => True) 9 [encStr p] 1 1 _ rfl rfl (by unfold maxLen; omega) trivial) (by simp [encStr, Value.oneCell']) (by unfold maxLen; omega) (by omega) (HH3.out.alloc _).size rfl rfl ?_
              intro v5 w5 ho hg hov _
              have H5 := Keep.keep ((HH3.out.alloc _).grow 2 rfl hg ho hov)
              obtain ⟨a9, c9, rfl, -⟩ := (ownsV_reads ho).shape
              clear ho hg hov HH3
              simp only [Act.put, List.setIfInBounds_toArray, List.set_cons_succ, List.set_cons_zero]
              go_wp2_with fail
              go_roundg g
              case measure => omega
              case rel =>
                refine ⟨i + 1, acc ++ [p], by omega, by simp, by rw [HTK.out, HAD2.out], by rw [List.length_append, HN7.out]; simp; omega, ?_⟩
                have := H5.out
                rw [List.length_append, HN7.out, List.map_append]
                exact this
          | succ gj =>
            have hk : k < acc.length := by rw [HN7.out]; omega
            have hdk : decide ((k : Int) < (n7 : Int)) = true := decide_eq_true (by omega)
            obtain ⟨g7, rfl⟩ : ∃ g, a7 = some ⟨g, 0, none⟩ := by
              rcases (HH3.out.sl 2 rfl).2 with ⟨_, h0⟩ | ⟨g, cap, cur, h, _⟩
              · omega
              · injection h with h; exact ⟨g, h⟩
            have hcell := (ownsV_reads (HH3.out.sl 2 rfl)).cell g7 0 _ _ rfl k (encStr acc[k]) (by rw [List.getElem?_map, List.getElem?_eq_getElem hk]; rfl)
            unfold encStr at hcell
            rw [Nat.zero_add] at hcell
            have HTA : Keep ((acc.take (k + 1)).any (· == p) = ((acc.take k).any (· == p) || (acc[k] == p))) := ⟨by
              rw [List.take_succ_eq_append_getElem hk, List.any_append]; simp⟩
            generalize (acc.take k).any (· == p) = b1 at *
            generalize acc[k] = y at *
            cases hyp : (y == p) with
            | true =>
              have HTB : Keep ((acc.take (k + 1)).any (· == p) = true) := ⟨by rw [HTA.out, hyp, Bool.or_true]⟩
              go_wp2_with fail
              go_roundg gj
              case measure => omega
              case rel => exact ⟨k + 1, by omega, by simp, by rw [HTB.out], rfl⟩
            | false =>
              have HTB : Keep ((acc.take (k + 1)).any (· == p) = b1) := ⟨by rw [HTA.out, hyp, Bool.or_false]⟩
              go_wp2_with fail
              go_roundg gj
              case measure => omega
              case rel => exact ⟨k + 1, by omega, by simp, by rw [HTB.out], rfl⟩
end Go.Proofs.YtmnknmpfkjhgbaaGreatDoor
/- portolanref20.below: what a tree has below a Dir. -/
namespace Go.Proofs.YtmnknmpfkjhgbaaGreatDoor
open Go.RowKit
/-- two of the document's trees -/
structure RD where
  Ra : Nat
  Rb : Nat
  Na : Nat → Prop
  Nb : Nat → Prop
  va : Value
  vb : Value
  la : List Mv
  lb : List Mv
def RD.A (d : RD) : List Mb := d.la.map (·.1)
def RD.B (d : RD) : List Mb := d.lb.map (·.1)
structure RIn (w : World) (d : RD) : Prop where
  a : RefIn w d.Ra d.Na d.va d.la
  b : RefIn w d.Rb d.Nb d.vb d.lb
  ra : d.Ra < w.heap.size
  rb : d.Rb < w.heap.size
  na : ∀ b, d.Na b → b < w.heap.size
  nb : ∀ b, d.Nb b → b < w.heap.size
  lla : d.la.length ≤ 100000
  llb : d.lb.length ≤ 100000
theorem RIn.below {w w' : World} {d : RD} (h : RIn w d) (hb : Below w.heap.size w w') : RIn w' d :=
  ⟨h.a.below hb h.ra h.na, h.b.below hb h.rb h.nb, Nat.lt_of_lt_of_le h.ra hb.size, Nat.lt_of_lt_of_le h.rb hb.size, fun b e => Nat.lt_of_lt_of_le (h.na b e) hb.size, fun b e => Nat.lt_of_lt_of_le (h.nb b e) hb.size, h.lla, h.llb⟩
/-- Members of the document's answer -/
def RAns (N : Nat → Prop) (bl : List Mb) (wx : World) (e : Ending) (w' : World) : Prop := ∃ v l, e = .returned v ∧ l.map (·.1) = bl ∧ RowM wx.heap.size N w' v l ∧ Below wx.heap.size wx w'
theorem RowM.ofRef {B : Nat} {N : Nat → Prop} {w : World} {v : Value} {l : List Mv} (ho : w.ownsRow B 41 9 v l.length (mcells l)) (hn : ∀ x ∈ l, NdR w N x.1.2 x.2.1 x.2.2) (hN : ∀ b, N b → b < B) (hB : B ≤ w.heap.size) : RowM B N w v l :=
  ⟨ho, fun x hx => (hn x hx).mono (fun b e => ⟨.inl e, Nat.lt_of_lt_of_le (hN b e) hB, fun e2 => by have h1 := (World.ownsRow.lt ho b e2).1; have h2 := hN b e; omega⟩)⟩
theorem runder_ans {w : World} {d : RD} (h : RIn w d) (p : Tx) (hp : p.length ≤ 1000000) : Calls Tryz.prog 113 #[.pointer (some ⟨d.Rb, 0, none⟩), .string ⟨p.toArray⟩] w (RAns d.Nb (underL p d.B) w) := by
  refine (runderT_own d.Rb d.Nb d.vb d.lb w h.b h.rb h.nb p hp h.llb).mono ?_
  rintro e w' ⟨v', l', he, hm, ho, hn, hb⟩
  exact ⟨v', l', he, hm, RowM.ofRef ho hn h.nb hb.size, hb⟩
/-- ARM: one Member, just made, is appended -/
theorem arm_app1G {ops : Array Oper} {rest : List Oper} {a : Act} {Q : Exit → Act → World → Prop} {tp : TypeId} {dst : Option Tmp} {s y : Operand} {pos : String} {after : Array Edge} {v : Value} {l : List Mv} {w0 wz : World} {N K : Nat → Prop}
    (x : Mv) (hr : RowM w0.heap.size K wz v l) (hN : ∀ b, N b → (K b ∨ w0.heap.size ≤ b) ∧ b < wz.heap.size ∧ v.ownBlock ≠ some b) (hW : Below w0.heap.size w0 wz) (hx : NdR wz N x.1.2 x.2.1 x.2.2) (hl : l.length ≤ 100000000000) (hs : a.eval s = v) (hy : a.eval y = .slice (some ⟨wz.heap.size, 0, none⟩) 1 1)
    (k : ∀ a' c' w', RowM w0.heap.size K w' (.slice a' (l.length + 1) c') (l ++ [x]) → Below w0.heap.size w0 w' → wpList Tryz.prog ops Q rest (a.put dst (.slice a' (l.length + 1) c')) w') :
    wpList Tryz.prog ops Q (⟨dst, .call ⟨.builtin .append, #[s, y], #[23, 23]⟩, tp, pos, after, none⟩ :: rest) a (wz.alloc (.cells (mcell x) 41)) := by
  have hal : Below wz.heap.size wz (wz.alloc (.cells (mcell x) 41)) := (Below.refl _ _).alloc (Nat.le_refl _) _
  have hrA := hr.below hal
  have hs1 := hW.size
  have hs2 := hal.size
  have hmN : Mbs (wz.alloc (.cells (mcell x) 41)) (fun _ => True) N (.slice (some ⟨wz.heap.size, 0, none⟩) 1 1) [x] := ⟨by
    have := RdV.new (w := wz) (N := fun _ => True) 41 (mcells [x]) 9 1 wz.heap.size rfl (by rw [mcells_length]; rfl) (by unfold maxLen; omega) trivial
    have hm : (mcells [x]).toArray = mcell x := by rw [mcells_cons]; simp [mcells]
    rw [hm] at this
    exact this, fun z hz => by
    obtain rfl : z = x := by simpa using hz
    exact hx.below hal (fun b hb => (hN b hb).2.1)⟩
  refine arm_appM (B := w0.heap.size) hrA (Nat.le_trans hs1 hs2) hmN (fun b hb => ⟨(hN b hb).1, Nat.lt_of_lt_of_le (hN b hb).2.1 hs2, (hN b hb).2.2⟩) (by rw [List.length_singleton]; omega) hs hy ?_
  intro v' w' hr' hg' hov hsh
  obtain ⟨a', c', rfl⟩ := hsh
  exact k a' c' w' hr' ((hW.trans (hal.mono hs1)).trans (hrA.chg (Nat.le_trans hs1 hs2) hg'))
theorem arm_app1 {ops : Array Oper} {rest : List Oper} {a : Act} {Q : Exit → Act → World → Prop} {tp : TypeId} {dst : Option Tmp} {s y : Operand} {pos : String} {after : Array Edge} {v : Value} {l : List Mv} {w0 wz : World} {N : Nat → Prop}
    (x : Mv) (hr : RowM w0.heap.size N wz v l) (hN : ∀ b, N b → b < w0.heap.size) (hW : Below w0.heap.size w0 wz) (hx : NdR wz N x.1.2 x.2.1 x.2.2) (hl : l.length ≤ 100000000000) (hs : a.eval s = v) (hy : a.eval y = .slice (some ⟨wz.heap.size, 0, none⟩) 1 1)
    (k : ∀ a' c' w', RowM w0.heap.size N w' (.slice a' (l.length + 1) c') (l ++ [x]) → Below w0.heap.size w0 w' → wpList Tryz.prog ops Q rest (a.put dst (.slice a' (l.length + 1) c')) w') :
    wpList Tryz.prog ops Q (⟨dst, .call ⟨.builtin .append, #[s, y], #[23, 23]⟩, tp, pos, after, none⟩ :: rest) a (wz.alloc (.cells (mcell x) 41)) :=
  arm_app1G x hr (fun b hb => ⟨.inl hb, Nat.lt_of_lt_of_le (hN b hb) hW.size, fun e => by have h1 := (hr.lt e).1; have h2 := hN b hb; omega⟩) hW hx hl hs hy k
abbrev bek (p : Tx) (l : List Mv) : List Mv := l.filter (fun x => !(x.1.1 == p))
theorem bek_take {p : Tx} {l : List Mv} {k : Nat} (hk : k < l.length) : bek p (l.take (k + 1)) = if l[k].1.1 == p then bek p (l.take k) else bek p (l.take k) ++ [l[k]] := by
  rw [List.take_succ_eq_append_getElem hk, bek, List.filter_append]
  cases h : (l[k].1.1 == p) with
  | true => rw [List.filter_cons_of_neg (by simpa using h)]; simp
  | false => rw [List.filter_cons_of_pos (by simpa using h)]; simp
theorem under_less (p : Tx) (L : List Mb) : (underL p L).filter (fun x => !(x.1 == p)) = L.filter (fun q => underP p q.1) := by
  unfold underL
  rw [List.filter_filter]
  refine List.filter_congr (fun x _ => ?_)
  unfold hitU
  by_cases e : x.1 = p
  · rw [e]
    have : underP p p = false := by
      cases hu : underP p p with
      | false => rfl
      | true => exact (under_asym hu hu).elim
    simp [this]
  · have : (x.1 == p) = false := by simpa using e
    simp [this]
set_option maxHeartbeats 2000000 in
set_option maxRecDepth 100000 in
theorem rbel_any (d : RD) (dir : Tx) (hd : dir.length ≤ 400000) (w : World) (h : RIn w d) :
    Calls Tryz.prog 70 #[.pointer (some ⟨d.Rb, 0, none⟩), .string ⟨dir.toArray⟩] w (RAns d.Nb (d.B.filter fun q => underP dir q.1) w) := by
  have HU := Keep.keep (runder_ans h dir (by omega))
  have hlb := h.llb
  have HNB : Keep (∀ b, d.Nb b → b < w.heap.size) := ⟨h.nb⟩
  have hbl : d.B.length ≤ 100000 := by unfold RD.B; rw [List.length_map]; exact h.llb
  rw [← under_less]
  have hul : (underL dir d.B).length ≤ 100000 := Nat.le_trans (List.length_filter_le _ _) hbl
  clear h hbl
  generalize underL dir d.B = U at *
  go_enter Tryz.func70, Tryz.ntmps70
  go_wp2_with fail
  refine HU.out.mono ?_
  rintro e w1 ⟨v, l, rfl, hm, hr, hb⟩
  have HM := Keep.keep hm; have HR := Keep.keep hr; have HB := Keep.keep hb
  have hll : l.length ≤ 100000 := by rw [← List.length_map (f := fun x : Mv => x.1), hm]; exact hul
  obtain ⟨a6, c6, hv, -⟩ := (ownsV_reads hr.own).shape
  obtain ⟨n, hn⟩ : ∃ n, l.length = n := ⟨_, rfl⟩
  have HN := Keep.keep hn
  rw [hn] at hv hll
  clear hm hr hb hn HU
  subst hv
  go_wp2_with fail
  go_loopg [5, 7] n (fun g u5 u7 wx => ∃ k : Nat, k + g = n ∧ u7 = .int .i64 (k : Int) ∧ RowM w1.heap.size (fun b => d.Nb b ∨ w.heap.size ≤ b) wx u5 (bek dir (l.take k)) ∧ Below w1.heap.size w1 wx)
  case atStart => exact ⟨0, by omega, rfl, RowM.nil _ _ _, Below.refl _ _⟩
  case round =>
    obtain ⟨k, hkg, rfl, hrow, hbx⟩ := hrel
    have HRW := Keep.keep hrow; have HBX := Keep.keep hbx
    obtain ⟨a5, c5, rfl, -⟩ := (ownsV_reads hrow.own).shape
    clear hrow hbx
    cases gk with
    | zero =>
      obtain rfl : k = n := by omega
      have hd2 : decide ((k : Int) < (k : Int)) = false := decide_eq_false (by omega)
      have HE : Keep (l.take k = l) := ⟨List.take_of_length_le (by rw [HN.out]; exact Nat.le_refl _)⟩
      rw [HE.out] at HRW ⊢
      go_wp2_with fail
      go_ret
      refine ⟨_, bek dir l, rfl, by rw [← HM.out, List.filter_map]; rfl, ⟨ownsRow_base HRW.out.own HB.out.size, fun x hx => (HRW.out.nd x hx).mono (fun b e => ⟨?_, e.2⟩)⟩, HB.out.trans (HBX.out.mono HB.out.size)⟩
      rcases e.1 with e1 | e1
      · exact e1
      · exact .inr (Nat.le_trans HB.out.size e1)
    | succ g =>
      have hk : k < l.length := by rw [HN.out]; omega
      have hd2 : decide ((k : Int) < (n : Int)) = true := decide_eq_true (by omega)
      have hrb := HR.out.below HBX.out
      have hmb : Mbs wr (Fresh w.heap.size wr) (fun b => (d.Nb b ∨ w.heap.size ≤ b) ∧ b < w1.heap.size) (.slice a6 n c6) l := ⟨hrb.mbs.rd, fun x hx => ((HR.out.nd x hx).below HBX.out (fun b e => e.2.1)).mono (fun b e => ⟨e.1, e.2.1⟩)⟩
      obtain ⟨b, off, rfl⟩ : ∃ b off, a6 = some ⟨b, off, none⟩ := by
        obtain ⟨_, _, e, _, _, h3⟩ := hmb.rd.shape
        injection e with e1 e2 e3
        subst e1 e3
        rcases h3 with h | ⟨b, off, e, _⟩
        · omega
        · exact ⟨b, off, e⟩
      have hld := hmb.load hk
      have hc := hmb.cell hk 0 (by omega) (u := strV l[k].1.1) rfl
      have HTK := Keep.keep (bek_take (p := dir) hk)
      have hle : (bek dir (l.take k)).length ≤ k := by
        have := List.length_filter_le (fun x : Mv => !(x.1.1 == dir)) (l.take k)
        rw [List.length_take] at this
        simp only [bek]; omega
      have hshape := (hmb.nd _ (List.getElem_mem hk)).shape
      have HNDX := Keep.keep (hmb.nd _ (List.getElem_mem hk))
      generalize l[k] = x at *
      unfold strV at hc
      rw [Nat.add_zero] at hc
      clear hrb hmb
      obtain ⟨aa, la, ca, ad, ld, cd, e1, e2⟩ := hshape
      obtain ⟨⟨xp, xn⟩, xv, xd⟩ := x
      dsimp only at e1 e2 hc HTK HNDX
      subst e1 e2
      have HMC : Keep (mcell ((xp, xn), .slice aa la ca, .slice ad ld cd) = #[.string ⟨xp.toArray⟩, .int .i64 xn.kind, .int .u32 xn.mode, .int .u32 xn.uid, .int .u32 xn.gid, .int .i64 xn.time, .slice aa la ca, .slice ad ld cd, .string ⟨xn.link.toArray⟩]) := ⟨rfl⟩
      rw [HMC.out] at hld
      have hne : (xp != dir) = !(xp == dir) := rfl
      cases hxd : (xp == dir) with
      | true =>
        have HT2 : Keep (bek dir (l.take (k + 1)) = bek dir (l.take k)) := ⟨by rw [HTK.out, hxd]; rfl⟩
        clear HTK hne
        go_wp2_with fail
        go_roundg g
        case measure => omega
        case rel => exact ⟨k + 1, by omega, by simp, by rw [HT2.out]; exact HRW.out, HBX.out⟩
      | false =>
        have HT2 : Keep (bek dir (l.take (k + 1)) = bek dir (l.take k) ++ [((xp, xn), .slice aa la ca, .slice ad ld cd)]) := ⟨by rw [HTK.out, hxd]; rfl⟩
        clear HTK hne
        generalize bek dir (l.take k) = acc at *
        go_wp2_with (first
          | ((with_reducible refine arm_loadM hld ?_ ?_); (focus rfl); simp only [Act.put, List.setIfInBounds_toArray, List.set_cons_succ, List.set_cons_zero])
          | (with_reducible refine arm_stop ?_))
        refine Stopped.out ?_
        have hal : Below wr.heap.size wr (wr.alloc (.cells #[.string ⟨xp.toArray⟩, .int .i64 xn.kind, .int .u32 xn.mode, .int .u32 xn.uid, .int .u32 xn.gid, .int .i64 xn.time, .slice aa la ca, .slice ad ld cd, .string ⟨xn.link.toArray⟩] 41)) := (Below.refl _ _).alloc (Nat.le_refl _) _
        have hrA := HRW.out.below hal
        have hsz : w.heap.size ≤ wr.heap.size := Nat.le_trans HB.out.size HBX.out.size
        have hs1 := HBX.out.size
        have hsa := hal.size
        have hmN : Mbs (wr.alloc (.cells #[.string ⟨xp.toArray⟩, .int .i64 xn.kind, .int .u32 xn.mode, .int .u32 xn.uid, .int .u32 xn.gid, .int .i64 xn.time, .slice aa la ca, .slice ad ld cd, .string ⟨xn.link.toArray⟩] 41)) (fun _ => True) (fun b => (d.Nb b ∨ w.heap.size ≤ b) ∧ b < w1.heap.size) (.slice (some ⟨wr.heap.size, 0, none⟩) 1 1) [((xp, xn), .slice aa la ca, .slice ad ld cd)] :=
          ⟨RdV.new (N := fun _ => True) 41 [.string ⟨xp.toArray⟩, .int .i64 xn.kind, .int .u32 xn.mode, .int .u32 xn.uid, .int .u32 xn.gid, .int .i64 xn.time, .slice aa la ca, .slice ad ld cd, .string ⟨xn.link.toArray⟩] 9 1 _ rfl rfl (by unfold maxLen; omega) trivial, fun y hy => by
            obtain rfl : y = ((xp, xn), .slice aa la ca, .slice ad ld cd) := by simpa using hy
            exact HNDX.out.below hal (fun b e => by omega)⟩
        refine arm_appM (B := w1.heap.size) hrA (Nat.le_trans hs1 hsa) hmN (fun b hb => ⟨.inl hb.1, by omega, fun e => by have := (hrA.lt e).1; omega⟩) (by rw [List.length_singleton]; omega) rfl rfl ?_
        intro v8 w8 hr8 hg8 hov8 hsh8
        obtain ⟨a8, c8, rfl⟩ := hsh8
        have HR8 := Keep.keep hr8
        have HB8 : Keep (Below w1.heap.size w1 w8) := ⟨(HBX.out.trans (hal.mono hs1)).trans (hrA.chg (Nat.le_trans hs1 hsa) hg8)⟩
        clear hr8 hg8 hov8 hmN hrA hal hld hc
        simp only [Act.put, List.setIfInBounds_toArray, List.set_cons_succ, List.set_cons_zero]
        go_wp2_with fail
        go_roundg g
        case measure => omega
        case rel => exact ⟨k + 1, by omega, by simp, by rw [HT2.out]; exact HR8.out, HB8.out⟩
end Go.Proofs.YtmnknmpfkjhgbaaGreatDoor
/- portolanref20.Sign. -/
namespace Go.Proofs.YtmnknmpfkjhgbaaGreatDoor
open Go.RowKit
set_option maxHeartbeats 1000000 in
set_option maxRecDepth 100000 in
theorem rsign_any (p : Tx) (w : World) : Calls Tryz.prog 29 #[.string ⟨p.toArray⟩] w fun e w' => e = .returned (.agg (mbC (signM p) nilV nilV)) ∧ Below w.heap.size w w' := by
  have hb0 : ∀ w, (Instr.build 41 #[]).run Tryz.prog w = .ok (.agg #[.string ⟨#[]⟩, .int .i64 0, .int .u32 0, .int .u32 0, .int .u32 0, .int .i64 0, .slice none 0 0, .slice none 0 0, .string ⟨#[]⟩]) w := fun w => by kernel_rfl
  have hb1 : ∀ w, (Instr.build 39 #[(0, .int .i64 2)]).run Tryz.prog w = .ok (.agg #[.int .i64 2, .int .u32 0, .int .u32 0, .int .u32 0, .int .i64 0, .slice none 0 0, .slice none 0 0, .string ⟨#[]⟩]) w := fun w => by kernel_rfl
  have hb2 : ∀ (p : Tx) w, (Instr.build 41 #[(0, .string ⟨p.toArray⟩), (1, .agg #[.int .i64 2, .int .u32 0, .int .u32 0, .int .u32 0, .int .i64 0, .slice none 0 0, .slice none 0 0, .string ⟨#[]⟩])]).run Tryz.prog w = .ok (.agg #[.string ⟨p.toArray⟩, .int .i64 2, .int .u32 0, .int .u32 0, .int .u32 0, .int .i64 0, .slice none 0 0, .slice none 0 0, .string ⟨#[]⟩]) w := fun p w => by kernel_rfl
  have hb3 := hb2 p
  have HNEW : Keep (∀ c : Array Value, Below w.heap.size w ((w.alloc (.cells #[.string ⟨#[]⟩, .int .i64 0, .int .u32 0, .int .u32 0, .int .u32 0, .int .i64 0, .slice none 0 0, .slice none 0 0, .string ⟨#[]⟩] 41)).setRow w.heap.size c)) := ⟨fun c => ((Chg.of_below (M := NoM) ((Below.refl w.heap.size w).alloc (Nat.le_refl _) _)).setRow (.inl (Nat.le_refl _)) _).below (fun _ _ h => h)⟩
  have HZ : Keep ((#[.string ⟨#[]⟩, .int .i64 0, .int .u32 0, .int .u32 0, .int .u32 0, .int .i64 0, .slice none 0 0, .slice none 0 0, .string ⟨#[]⟩] : Array Value).size = 9) := ⟨rfl⟩
  clear hb2
  by_cases e : p = []
  · have he : p.isEmpty = true := by rw [e]; rfl
    have HX : Keep (mbC (signM p) nilV nilV = #[.string ⟨#[]⟩, .int .i64 0, .int .u32 0, .int .u32 0, .int .u32 0, .int .i64 0, .slice none 0 0, .slice none 0 0, .string ⟨#[]⟩]) := ⟨by unfold signM; rw [if_pos e]; rfl⟩
    have HON : Keep ((#[.string ⟨#[]⟩, .int .i64 0, .int .u32 0, .int .u32 0, .int .u32 0, .int .i64 0, .slice none 0 0, .slice none 0 0, .string ⟨#[]⟩] : Array Value).all (·.oneCell') = true) := ⟨by simp [Value.oneCell']⟩
    rw [HX.out]
    clear e
    go_enter Tryz.func29, Tryz.ntmps29
    go_upto_region 1 with fail
    refine wp_world (R := fun w1 => Hp NoM w w1 [rowA w.heap.size 41 #[.string ⟨#[]⟩, .int .i64 0, .int .u32 0, .int .u32 0, .int .u32 0, .int .i64 0, .slice none 0 0, .slice none 0 0, .string ⟨#[]⟩]]) ((Hp.begin NoM w).newRow _ _) ?_
    intro w1 H1
    have HRW := Keep.keep (H1.out.row 0 rfl)
    have HB := Keep.keep ((Chg.of_below (M := NoM) H1.out.below))
    go_wp2_with ((with_reducible refine arm_storeRow HRW.out aggM HZ.out HZ.out HON.out ?_ ?_ ?_); (focus rfl); (focus rfl); simp only [Act.put])
    exact bodyPost_ret (results_row (p := 2) (ty := 41) rfl (HRW.out.setRow _) aggM HZ.out rfl) rfl ⟨rfl, (HB.out.setRow (.inl (Nat.le_refl _)) _).below (fun _ _ h => h)⟩
  · have he : p.isEmpty = false := by simpa using e
    have HX : Keep (mbC (signM p) nilV nilV = #[.string ⟨p.toArray⟩, .int .i64 2, .int .u32 0, .int .u32 0, .int .u32 0, .int .i64 0, .slice none 0 0, .slice none 0 0, .string ⟨#[]⟩]) := ⟨by unfold signM; rw [if_neg e]; rfl⟩
    have HSZ : Keep ((#[.string ⟨p.toArray⟩, .int .i64 2, .int .u32 0, .int .u32 0, .int .u32 0, .int .i64 0, .slice none 0 0, .slice none 0 0, .string ⟨#[]⟩] : Array Value).size = 9) := ⟨rfl⟩
    have HON : Keep ((#[.string ⟨p.toArray⟩, .int .i64 2, .int .u32 0, .int .u32 0, .int .u32 0, .int .i64 0, .slice none 0 0, .slice none 0 0, .string ⟨#[]⟩] : Array Value).all (·.oneCell') = true) := ⟨by simp [Value.oneCell']⟩
    rw [HX.out]
    clear e
    go_enter Tryz.func29, Tryz.ntmps29
    go_upto_region 1 with fail
    refine wp_world (R := fun w1 => Hp NoM w w1 [rowA w.heap.size 41 #[.string ⟨#[]⟩, .int .i64 0, .int .u32 0, .int .u32 0, .int .u32 0, .int .i64 0, .slice none 0 0, .slice none 0 0, .string ⟨#[]⟩]]) ((Hp.begin NoM w).newRow _ _) ?_
    intro w1 H1
    have HRW := Keep.keep (H1.out.row 0 rfl)
    have HB := Keep.keep ((Chg.of_below (M := NoM) H1.out.below))
    go_wp2_with ((with_reducible refine arm_storeRow HRW.out aggM HZ.out HSZ.out HON.out ?_ ?_ ?_); (focus rfl); (focus rfl); simp only [Act.put])
    exact bodyPost_ret (results_row (p := 2) (ty := 41) rfl (HRW.out.setRow _) aggM HSZ.out rfl) rfl ⟨rfl, (HB.out.setRow (.inl (Nat.le_refl _)) _).below (fun _ _ h => h)⟩
end Go.Proofs.YtmnknmpfkjhgbaaGreatDoor
