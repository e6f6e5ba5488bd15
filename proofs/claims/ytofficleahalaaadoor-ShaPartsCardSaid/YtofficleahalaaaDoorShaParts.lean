/- ShaParts: part by part. -/
import Derived.Test.YtofficleahalaaaDoorShaPartR
import Derived.Test.YtofficleahalaaaDoorSlTo
import Derived.Test.YtofficleahalaaaDoorSomeA
import Derived.Test.YtofficleahalaaaDoorShaPartsO
import Derived.Test.YtofficleahalaaaDoorOk
import Derived.Deep.CutRange
namespace Go.Proofs.YtofficleahalaaaDoor
open Go.RowKit
/-- what is taken of the first k parts -/
def flt3 (ls : List (List UInt8)) (k : Nat) : List UInt8 := ((ls.take k).map (·.take 300)).flatten
theorem flt3_succ {ls : List (List UInt8)} {k : Nat} (hk : k < ls.length) : flt3 ls (k + 1) = flt3 ls k ++ ls[k].take 300 := by
  unfold flt3
  rw [List.take_succ_eq_append_getElem hk, List.map_append, List.flatten_append]; simp
theorem flt3_len (ls : List (List UInt8)) : ∀ k, (flt3 ls k).length ≤ 300 * k
  | 0 => by simp [flt3]
  | k + 1 => by
    have ih := flt3_len ls k
    by_cases hk : k < ls.length
    · rw [flt3_succ hk, List.length_append, List.length_take]; omega
    · have : flt3 ls (k + 1) = flt3 ls k := by unfold flt3; rw [List.take_of_length_le (by omega), List.take_of_length_le (by omega)]
      rw [this]; omega
/-- the slices of the first k parts -/
def Few (w : World) (ls : List (List UInt8)) (vs : List Value) (k : Nat) : Prop := vs.length = k ∧ k ≤ ls.length ∧ ∀ (j : Nat) (hj : j < k) (hl : j < ls.length), ∃ u, vs[j]? = some u ∧ Reads w (fun b => b < w.heap.size) u (ls[j].take 300) ∧ u.oneCell' = true
theorem parts_of {wx : World} {b cap : Nat} {e : TypeId} {fr : Nat × Nat} {c : Array Value} {us : List Value} {ms : List (List UInt8)} (hrow : wx.heap[b]? = some (Obj.cells c e fr)) (hc : ∀ (j : Nat) (u : Value), us[j]? = some u → c[j]? = some u) (h1 : ms.length ≤ cap) (h2 : cap ≤ maxLen)
    (hit : ∀ (j : Nat) (hj : j < ms.length), ∃ u, us[j]? = some u ∧ Reads wx (fun b => b < wx.heap.size) u ms[j]) : Parts wx (fun b => b < wx.heap.size) (.slice (some ⟨b, 0, none⟩) ms.length cap) ms := by
  refine ⟨⟨_, cap, rfl, h1, h2, .inr ⟨b, 0, rfl, (Array.getElem?_eq_some_iff.1 hrow).1⟩⟩, fun b' off n cap' he j hj => ?_⟩
  injection he with e1 _ _; injection e1 with e1; injection e1 with e1 e2 _; subst e1 e2
  obtain ⟨u, hu, hr⟩ := hit j hj
  refine ⟨u, ?_, hr⟩
  have := hc j u hu
  simp [World.cell?, hrow, this]
theorem few_item {w wx : World} {ls : List (List UInt8)} {vs : List Value} {k : Nat} (hf : Few w ls vs k) (hb : Below w.heap.size w wx) (j : Nat) (hj : j < ((ls.take k).map (·.take 300)).length) : ∃ u, vs[j]? = some u ∧ Reads wx (fun b => b < wx.heap.size) u ((ls.take k).map (·.take 300))[j] := by
  obtain ⟨h1, h2, h3⟩ := hf
  have hj' : j < k := by simp at hj; omega
  obtain ⟨u, hu, hr, -⟩ := h3 j hj' (by omega)
  refine ⟨u, hu, ?_⟩
  have := (hr.below hb (fun b hb => hb)).mono (N' := fun b => b < wx.heap.size) (fun b hb' => Nat.lt_of_lt_of_le hb' hb.size)
  simpa using this
theorem own_cell {w : World} {base : Nat} {e : TypeId} {b n cap : Nat} {vs : List Value} (h : w.ownsRow base e 1 (.slice (some ⟨b, 0, none⟩) n cap) n vs) {j : Nat} {u : Value} (hu : vs[j]? = some u) : w.cell? ⟨b, j, none⟩ = some u := by
  obtain ⟨hl, h | ⟨g, cp, cur, e1, _, hh, hn, hm, hs, ht⟩⟩ := h
  · exact absurd h.1 (by intro e; cases e)
  · injection e1 with e1 _ _; injection e1 with e1; injection e1 with e1 _ _; subst e1
    have hj := (List.getElem?_eq_some_iff.1 hu).1
    rw [← ht, List.getElem?_take] at hu
    split at hu
    · simpa [World.cell?, hh] using hu
    · cases hu
/-- parts, read from a slice of slices of the call's own -/
theorem few_parts {w wx : World} {ls : List (List UInt8)} {vs : List Value} {k base : Nat} {e : TypeId} (hf : Few w ls vs k) (hb : Below w.heap.size w wx) {v : Value} (hr : wx.ownsRow base e 1 v k vs) : Parts wx (fun b => b < wx.heap.size) v ((ls.take k).map (·.take 300)) := by
  have hl : ((ls.take k).map (·.take 300)).length = k := by have := hf.2.1; simp; omega
  obtain ⟨hvl, hr⟩ := hr
  rcases hr with ⟨rfl, h0⟩ | ⟨g, cap, cur, rfl, _, hh, hn, hm, hs, ht⟩
  · refine ⟨⟨none, 0, by rw [hl, h0], by omega, Nat.zero_le _, .inl ⟨rfl, rfl⟩⟩, fun b off n cap he => by cases he⟩
  · have := parts_of (cap := cap) hh (us := vs) (ms := (ls.take k).map (·.take 300)) (fun j u hu => by
      have hj := (List.getElem?_eq_some_iff.1 hu).1
      rw [← ht, List.getElem?_take] at hu
      split at hu
      · simpa using hu
      · cases hu) (by omega) hm (few_item hf hb)
    rw [hl] at this
    exact this
theorem few_push {w : World} {ls : List (List UInt8)} {vs : List Value} {k : Nat} (hf : Few w ls vs k) (hk : k < ls.length) {u : Value} (hr : Reads w (fun b => b < w.heap.size) u (ls[k].take 300)) : Few w ls (vs ++ [u]) (k + 1) := by
  obtain ⟨h1, h2, h3⟩ := hf
  refine ⟨by simp [h1], by omega, fun j hj hl => ?_⟩
  by_cases e : j < k
  · obtain ⟨x, hx, hr', ho⟩ := h3 j e hl
    exact ⟨x, by rw [List.getElem?_append_left (by omega)]; exact hx, hr', ho⟩
  · obtain rfl : j = k := by omega
    obtain ⟨a, c, rfl, -⟩ := hr.shape
    exact ⟨_, by rw [List.getElem?_append_right (by omega)]; simp [h1], hr, rfl⟩
theorem neqDig (d : List UInt8) (hd : d.length = 32) (w : World) : (binOp .neq 25 (.agg (bcells d).toArray) (.agg (bcells d).toArray)).run Tryd.prog w = .ok (.bool false) w := by
  have := run_neq_bytes (P := Tryd.prog) Tryd.underlying25 Tryd.underlying5 (by kernel_rfl) d d hd hd w
  simpa using this
set_option maxHeartbeats 8000000 in
set_option maxRecDepth 100000 in
theorem partslaw_any (v : Value) (ls : List (List UInt8)) (at_ : Nat) (hat : at_ < 256) (w : World) (hK : Consts w) (hH : Begins w) (hv : Parts w (fun b => b < w.heap.size) v ls) :
    Calls Tryd.prog 4 #[v, .int .u8 (at_ : Int)] w fun e w' => e = .returned (.bool true) ∧ Below w.heap.size w w' := by
  obtain ⟨a, cap, hu, h1, h2, h3⟩ := hv.shape
  have HKH : Keep (∀ wx, Below w.heap.size w wx → Consts wx ∧ Begins wx) := ⟨fun wx hb => konst hK hH hb⟩
  have hgK : 1 < w.heap.size := World.block_lt_of_cell? w _ (hK 0 (by decide))
  have HGK := Keep.keep hgK
  have HV := Keep.keep hv
  have HNEW := Keep.keep (new_any w hK hH)
  have hal : at_ % 20 < 20 := Nat.mod_lt _ (by decide)
  clear hv hK hH hgK
  subst hu
  unfold maxLen at h2
  have HN : Keep (ls.length = ls.length) := ⟨rfl⟩
  obtain ⟨n, hn⟩ : ∃ n, ls.length = n := ⟨_, rfl⟩
  rw [hn] at h1 ⊢
  have HNL := Keep.keep hn
  clear HN
  go_enter Tryd.func4, Tryd.ntmps4
  go_wp2_with fail
  refine HNEW.out.mono ?_
  rintro e w1 ⟨rfl, hs1, hb1, hz1⟩
  obtain ⟨left1, hrow1, hown1⟩ := hs1.ex
  obtain ⟨S, hS⟩ : ∃ S, w.heap.size = S := ⟨_, rfl⟩
  have H1 : Keep (Hp NoM w w1 [stA S (S + 1) left1 []]) := ⟨(Hp.begin NoM w).push _ (.of_below hb1) (by rw [← hS]; exact ⟨hrow1, hown1⟩) (fun b hb => by
    rw [← hS] at hb
    rcases hb with rfl | hb
    · omega
    · have := hown1.lt b hb; omega)⟩
  rw [hS] at HGK ⊢
  clear hs1 hb1 hz1 hrow1 hown1 HNEW
  go_wp2_with fail
  go_loopg [5, 7, 8, 9, 10, 11, 12, 16] n (fun g u5 u7 u8 _ _ _ _ u16 wx => ∃ (k : Nat) (left : Value) (vs : List Value) (tp : Option Addr), k + g = n ∧ k ≤ 20 ∧ u16 = .int .i64 (k : Int) ∧ u7 = .pointer tp ∧ Few w ls vs k ∧ Hp NoM w wx [stA S (S + 1) left (flt3 ls k), byA S 5 u5 (flt3 ls k), slA S 22 1 u8 k vs])
  case atStart => exact ⟨0, left1, [], none, by omega, by omega, rfl, rfl, ⟨rfl, Nat.zero_le _, fun j hj => by omega⟩, (H1.out.nilB _ _).nilS _ _ _⟩
  case round =>
    obtain ⟨k, left, vs, tp, hkg, hk20, rfl, rfl, hfew, hH⟩ := hrel
    have HH := Keep.keep hH; have HFW := Keep.keep hfew
    clear hH hfew H1
    by_cases hkn : k < n
    · by_cases hk2 : k = 20
      · have hd20 : ((k : Int) == 20) = true := by rw [beq_iff_eq]; omega
        rcases h3 with ⟨_, h3⟩ | ⟨b, off, rfl, hb⟩
        · omega
        have hkl : k < ls.length := by rw [HNL.out]; exact hkn
        obtain ⟨u, hcu, hru⟩ := HV.out.item b off _ _ rfl k hkl
        rw [← HH.out.below.cell (p := ⟨b, off + k, none⟩) hb] at hcu
        obtain ⟨ua, ucap, hue, -⟩ := hru.shape
        clear hru
        generalize ls[k].length = lk at *
        subst hue
        clear hkl hk2
        have HALL : Keep (Calls Tryd.prog 18 #[u8] wr fun e w' => e = .returned (.agg (bcells (digest (flt3 ls k))).toArray) ∧ Below wr.heap.size wr w') := ⟨all_any u8 _ wr (HKH.out wr HH.out.below).1 (HKH.out wr HH.out.below).2 (few_parts HFW.out HH.out.below (HH.out.sl 2 rfl)) (by have := flt3_len ls k; unfold flt3 at this; omega)⟩
        have HSB : Keep (∀ wx, Below wr.heap.size wr wx → Calls Tryd.prog 9 #[u5] wx fun e w' => e = .returned (.agg (bcells (digest (flt3 ls k))).toArray) ∧ Below wx.heap.size wx w') := ⟨fun wx hb => sumb_any u5 _ wx (HKH.out wx (HH.out.call hb).below).1 (HKH.out wx (HH.out.call hb).below).2 (((HH.out.call hb).bs 1 rfl).reads.mono (fun b hb' => hb'.2.1)) (by have := flt3_len ls k; omega)⟩
        have heq := eqDig (digest (flt3 ls k)) (digest_length _)
        generalize (bcells (digest (flt3 ls k))).toArray = dg at *
        go_wp2_with fail
        refine HALL.out.mono ?_
        rintro e w2 ⟨rfl, hb2⟩
        have HB2 := Keep.keep hb2; clear hb2
        go_wp2_with fail
        refine (HSB.out w2 HB2.out).mono ?_
        rintro e w3 ⟨rfl, hb3⟩
        have HB3 := Keep.keep (HB2.out.trans (hb3.mono HB2.out.size)); clear hb3
        go_wp2_with fail
        refine (wakes_any w3 (HKH.out w3 (HH.out.call HB3.out).below).1 (HKH.out w3 (HH.out.call HB3.out).below).2).mono ?_
        rintro e w4 ⟨rfl, hb4⟩
        have HB4 := Keep.keep (HB3.out.trans (hb4.mono HB3.out.size)); clear hb4
        go_wp2_with fail
        go_ret
        exact ⟨rfl, (HH.out.call HB4.out).below⟩
      · have hd20 : ((k : Int) == 20) = false := by rw [beq_eq_false_iff_ne]; omega
        rcases h3 with ⟨_, h3⟩ | ⟨b, off, rfl, hb⟩
        · omega
        have hkl : k < ls.length := by rw [HNL.out]; exact hkn
        obtain ⟨u, hcu, hru⟩ := HV.out.item b off _ _ rfl k hkl
        rw [← HH.out.below.cell (p := ⟨b, off + k, none⟩) hb] at hcu
        obtain ⟨ua, ucap, hue, g1, g2, -⟩ := hru.shape
        unfold maxLen at g2
        have hcut : Reads w (fun b => b < w.heap.size) (.slice ua (min ls[k].length 300) ucap) (ls[k].take 300) := by
          subst hue
          have := reads_to hru (min ls[k].length 300) (Nat.min_le_left _ _)
          have e : ls[k].take (min ls[k].length 300) = ls[k].take 300 := by rw [Nat.min_comm, ← List.take_eq_take_min]
          rw [e] at this
          exact this
        obtain ⟨gn, hgn⟩ : ∃ gn, gk = gn + 1 := ⟨gk - 1, by omega⟩
        subst hgn
        have hFS : Keep (flt3 ls (k + 1) = flt3 ls k ++ ls[k].take 300) := ⟨flt3_succ hkl⟩
        have hFL := flt3_len ls (k + 1)
        have HFP := Keep.keep (few_push HFW.out hkl hcut)
        have hcl : (ls[k].take 300).length = min ls[k].length 300 := by rw [List.length_take, Nat.min_comm]
        have HCL := Keep.keep hcl; have HCUT := Keep.keep hcut; have HFL := Keep.keep hFL
        have hmin : min (ls[k].length : Int) 300 = ((min ls[k].length 300 : Nat) : Int) := by omega
        have hml : min ls[k].length 300 ≤ 300 := Nat.min_le_right _ _
        have hsl := fun wx => slice_to (P := Tryd.prog) slB ua ls[k].length ucap (min ls[k].length 300) .i64 (by omega) wx
        clear hcut hcl hFL hru
        generalize ls[k].take 300 = c at *
        generalize ls[k].length = lk at *
        generalize min lk 300 = m at *
        subst hue
        clear hkl
        go_wp2_with (with_reducible refine arm_stop ?_)
        refine Stopped.out ?_
        refine arm_appendV slP ((HH.out.alloc _).sl 2 rfl) (RdV.new (N := fun _ => True) 22 [.slice ua m ucap] 1 1 _ rfl rfl (by unfold maxLen; omega) trivial) (by simp [Value.oneCell']) (by unfold maxLen; omega) (by omega) (by rw [← hS]; exact (HH.out.alloc _).size) rfl rfl ?_
        intro v2 w2 ho hg hb2 _
        have H2 := Keep.keep ((HH.out.alloc _).grow 2 rfl hg ho hb2)
        obtain ⟨bf, cf, hv2⟩ := Go.Joins.ownsRow_form ho (by omega)
        have hcf : k + 1 ≤ cf := by
          rcases ho.2 with ⟨e, _⟩ | ⟨_, cap', _, e, _, _, hn', _⟩
          · rw [hv2] at e; cases e
          · rw [hv2] at e; injection e with _ _ e; omega
        subst hv2
        clear ho hg hb2 HH
        simp only [Act.put, List.setIfInBounds_toArray, List.set_cons_succ, List.set_cons_zero]
        go_upto_if 36 with fail
        go_cut [7] from 17 to 100 (fun u7 wx => ∃ (tp : Option Addr) (A : As), u7 = .pointer tp ∧ (at_ % 20 = k → ∃ S2 left2, tp = some ⟨S2, 0, none⟩ ∧ A = stA S2 (S2 + 1) left2 (flt3 ls k ++ asideL) ∧ S < S2) ∧ Hp NoM w wx [stA S (S + 1) left (flt3 ls k), byA S 5 u5 (flt3 ls k), slA S 22 1 (.slice (some ⟨bf, 0, none⟩) (k + 1) cf) (k + 1) (vs ++ [.slice ua m ucap]), A])
        case first =>
          by_cases hka : at_ % 20 = k
          · have hs2 := stA_st (H2.out.get 0 rfl) (HKH.out w2 H2.out.below).1 HGK.out (by omega)
            have HCP := Keep.keep (copy_any S (S + 1) (flt3 ls k) w2 hs2 (by have := flt3_len ls k; omega))
            clear hs2
            have hd : ((k : Int) == ((at_ % 20 : Nat) : Int)) = true := by rw [beq_iff_eq]; omega
            go_wp2_with fail
            refine HCP.out.mono ?_
            rintro e w3 ⟨rfl, ⟨left3, hp3, hl3⟩, hz3, hb3⟩
            have H3 := Keep.keep (H2.out.push (stA w2.heap.size (w2.heap.size + 1) left3 (flt3 ls k)) (.of_below hb3) hp3 (fun b hb => by
              rcases hb with rfl | hb
              · omega
              · have := hl3 b hb; omega))
            have kc := convB
            obtain ⟨S2, hS2⟩ : ∃ S2, w2.heap.size = S2 := ⟨_, rfl⟩
            have hSS2 : S < S2 := by have := H2.out.size; rw [← hS2, ← hS]; have h0 := (H2.out.p _ (List.mem_of_getElem? (i := 0) rfl)).2 S (.inl rfl); omega
            rw [hS2] at H3 hl3 hz3 ⊢
            clear hp3 hb3 HCP H2 hd
            go_wp2_with fail
            refine calls_world (R := fun w4 => Hp NoM w w4 [stA S (S + 1) left (flt3 ls k), byA S 5 u5 (flt3 ls k), slA S 22 1 (.slice (some ⟨bf, 0, none⟩) (k + 1) cf) (k + 1) (vs ++ [.slice ua m ucap]), stA S2 (S2 + 1) left3 (flt3 ls k)] ∧ Reads w4 (fun b => b = w3.heap.size ∧ b < w4.heap.size) (.slice (some ⟨w3.heap.size, 0, none⟩) 5 5) asideL ∧ S2 + 1 ≤ w4.heap.size) ⟨H3.out.alloc _, ?_, ?_⟩ ?_
            · exact (Reads.lit _ _ asideL _ _ _ rfl rfl rfl (by decide)).mono (fun b hb => by subst hb; simp)
            · simp; omega
            intro w4 H4
            have hn4 : w3.heap.size ≠ S2 := by omega
            refine (write_own _ left3 (flt3 ls k) asideL (fun b => b = w3.heap.size ∧ b < w4.heap.size) S2 (S2 + 1) w4 (H4.out.1.get 3 rfl) (HKH.out w4 H4.out.1.below).1 (by have := HGK.out; omega) (by omega) H4.out.2.1 (fun b hb => ⟨hb.2, by rw [hb.1]; exact hn4⟩) (by have := flt3_len ls k; simp [asideL]; omega) H4.out.2.2).mono ?_
            rintro e w5 ⟨rfl, left5, hp5, hl5, hc5⟩
            have H5 := Keep.keep (H4.out.1.upd 3 rfl (stA S2 (S2 + 1) left5 (flt3 ls k ++ asideL)) hc5 hp5 (fun b hb => by
              rcases hb with rfl | hb
              · exact .inl (.inl rfl)
              · exact .inr (hl5 b hb)))
            clear hp5 hl5 hc5 H4 H3
            go_wp2_with fail
            go_meet
            case rel => exact ⟨_, _, rfl, fun _ => ⟨S2, left5, rfl, rfl, hSS2⟩, H5.out⟩
          · have hd : ((k : Int) == ((at_ % 20 : Nat) : Int)) = false := by rw [beq_eq_false_iff_ne]; omega
            go_wp2_with fail
            go_meet
            case rel => exact ⟨tp, noA, rfl, fun h => (hka h).elim, H2.out.pushNo⟩
        case rest =>
          obtain ⟨tp, A, rfl, hA, hH3⟩ := hcut
          have H3 := Keep.keep hH3; have HA := Keep.keep hA
          clear hH3 hA H2
          have hbs := H3.out.size
          have hSlt : S < wc.heap.size := ((H3.out.p _ (List.mem_of_getElem? (i := 0) rfl)).2 S (.inl rfl)).2
          go_wp2_with fail
          refine (clone_any _ c _ wc (HCUT.out.below H3.out.below (fun b hb => hb)) (by rw [HCL.out]; omega)).mono ?_
          rintro e w4 ⟨v4, rfl, ho4, hb4⟩
          have H4 := Keep.keep (H3.out.push (byA wc.heap.size 5 v4 c) (.of_below hb4) ho4 (fun b hb => ho4.lt b hb))
          have HV4 := Keep.keep ho4
          obtain ⟨a4, cap4, hv4, -⟩ := ho4.reads.shape
          have HB4 := Keep.keep (owns_blk ho4)
          rw [HCL.out] at hv4 HB4
          have hsz4 := hb4.size
          clear ho4 hb4 H3
          subst hv4
          go_wp2_with fail
          refine (write_own _ left (flt3 ls k) c (fun b => wc.heap.size ≤ b ∧ b < w4.heap.size ∧ (Value.slice a4 m cap4).ownBlock = some b) S (S + 1) w4 (H4.out.get 0 rfl) (HKH.out w4 H4.out.below).1 HGK.out (by omega) HV4.out.reads (fun b hb => ⟨hb.2.1, by omega⟩) (by have := flt3_len ls k; rw [HCL.out]; omega) (by omega)).mono ?_
          rintro e w5 ⟨rfl, left5, hp5, hl5, hc5⟩
          rw [← hFS.out] at hp5
          have H5 := Keep.keep (H4.out.upd 0 rfl (stA S (S + 1) left5 (flt3 ls (k + 1))) hc5 hp5 (fun b hb => by
            rcases hb with rfl | hb
            · exact .inl (.inl rfl)
            · exact .inr (hl5 b hb)))
          have HO5 := H5.out.bs 4 rfl
          have hsm := someA_of HO5
          rw [HCL.out] at hsm
          have H6 := Keep.keep (H5.out.upd 4 rfl (someA (.slice a4 m cap4) m) (.refl _ _ _) hsm (fun _ hb => .inl hb))
          clear hp5 hl5 hc5 H4 H5 HO5 hsm HV4
          go_wp2_with fail
          go_loopg [12, 51] m (fun g _ u51 wx => ∃ j : Nat, j + g = m ∧ u51 = .int .i64 (j : Int) ∧ Hp NoM w wx [stA S (S + 1) left5 (flt3 ls (k + 1)), byA S 5 u5 (flt3 ls k), slA S 22 1 (.slice (some ⟨bf, 0, none⟩) (k + 1) cf) (k + 1) (vs ++ [.slice ua m ucap]), A, someA (.slice a4 m cap4) m])
          case atStart => exact ⟨0, by omega, rfl, H6.out⟩
          case round =>
            obtain ⟨j, hjg, rfl, hHj⟩ := hrel
            have HJ := Keep.keep hHj
            clear hHj H6
            by_cases hjm : j < m
            · obtain ⟨b4, cp4, hbe, hcp4⟩ := HB4.out (by omega)
              injection hbe with hb1 hb2 hb3
              subst hb1 hb3
              obtain ⟨c', hrow, hcs⟩ := HJ.out.get 4 rfl b4 rfl
              obtain ⟨x, hx⟩ := hcs j hjm
              have hcell := hrow.cell hx
              have hfz := hrow.frozen j
              have hd : decide ((j : Int) < (m : Int)) = true := decide_eq_true (by omega)
              have hxr : bits .xor .u8 (x.toNat : Int) 255 = ((x ^^^ 255).toNat : Int) := by
                have := u8_xor_nat x.toNat 255 x.toNat_lt (by decide)
                rw [UInt8.toNat_xor]; exact this
              have HNX := Keep.keep (someA_set (k := j) HJ.out 4 rfl (x ^^^ 255))
              have hxc := x.toNat_lt
              clear hrow hcs hx
              generalize (x ^^^ 255) = y at *
              have hyc := y.toNat_lt
              go_wp2_with fail
              obtain ⟨gj, rfl⟩ : ∃ gj, gk = gj + 1 := ⟨gk - 1, by omega⟩
              go_roundg gj
              case measure => omega
              case rel => exact ⟨j + 1, by omega, by simp, HNX.out⟩
            · have hd : decide ((j : Int) < (m : Int)) = false := decide_eq_false (by omega)
              clear HB4
              have hsz := HJ.out.size
              go_wp2_with (with_reducible refine arm_stop ?_)
              refine Stopped.out ?_
              refine arm_append slB (HJ.out.bs 1 rfl) (HCUT.out.below HJ.out.below (fun b hb => hb)) (by have := flt3_len ls k; rw [HCL.out]; omega) (by rw [← hS]; exact hsz) rfl rfl ?_
              intro v7 w7 ho7 hg7 hb7
              rw [← hFS.out] at ho7
              have H7 := Keep.keep (HJ.out.growB 1 rfl hg7 ho7 hb7)
              have HO7 := Keep.keep ho7
              obtain ⟨a7, cap7, hv7, -⟩ := ho7.reads.shape
              clear ho7 hg7 hb7 HJ
              have hls := flt3_len ls (k + 1)
              have hst7 := stA_st (H7.out.get 0 rfl) (HKH.out w7 H7.out.below).1 HGK.out (by omega)
              have HSM := Keep.keep (sum_any (flt3 ls (k + 1)) S (S + 1) w7 hst7 (by omega))
              have HLN : Keep (∀ wx, Below w7.heap.size w7 wx → Calls Tryd.prog 17 #[.pointer (some ⟨S, 0, none⟩)] wx fun e w' => e = .returned (.int .u64 ((flt3 ls (k + 1)).length : Int)) ∧ wx = w') := ⟨fun wx hb => len_any S (S + 1) _ wx (stA_st ((H7.out.call hb).get 0 rfl) (HKH.out wx (H7.out.call hb).below).1 HGK.out (by omega))⟩
              have HSB : Keep (∀ wx, Below w7.heap.size w7 wx → Calls Tryd.prog 9 #[v7] wx fun e w' => e = .returned (.agg (bcells (digest (flt3 ls (k + 1)))).toArray) ∧ Below wx.heap.size wx w') := ⟨fun wx hb => sumb_any v7 _ wx (HKH.out wx (H7.out.call hb).below).1 (HKH.out wx (H7.out.call hb).below).2 ((HO7.out.reads.below hb (fun b hb => hb.2.1)).mono (fun b hb' => Nat.lt_of_lt_of_le hb'.2.1 hb.size)) (by omega)⟩
              have hneq := neqDig (digest (flt3 ls (k + 1))) (digest_length _)
              have hu64 : IntKind.u64.wrap ((flt3 ls (k + 1)).length : Int) = ((flt3 ls (k + 1)).length : Int) := IntWalk.u64_in (_ : Int) (by omega)
              have HDG : Keep (digest (flt3 ls (k + 1)) = digest (flt3 ls (k + 1))) := ⟨rfl⟩
              clear hst7
              generalize hdg : (bcells (digest (flt3 ls (k + 1)))).toArray = dg at *
              generalize hfl7 : (flt3 ls (k + 1)).length = fl7 at *
              clear HDG hdg
              subst hv7
              simp only [Act.put, List.setIfInBounds_toArray, List.set_cons_succ, List.set_cons_zero]
              go_wp2_with fail
              refine HSM.out.mono ?_
              rintro e w8 ⟨rfl, hb8⟩
              have HB8 := Keep.keep hb8; clear hb8 HSM
              go_wp2_with fail
              refine (HSB.out w8 HB8.out).mono ?_
              rintro e w9 ⟨rfl, hb9⟩
              have HB9 := Keep.keep (HB8.out.trans (hb9.mono HB8.out.size)); clear hb9 HSB HB8
              go_wp2_with fail
              refine (HLN.out w9 HB9.out).mono ?_
              rintro e w9' ⟨rfl, rfl⟩
              go_wp2_with fail
              clear HLN hneq hu64
              have hat9 : at_ < 256 := hat
              by_cases hka : at_ % 20 = k
              · obtain ⟨S2, left2, rfl, rfl, hS2⟩ := HA.out hka
                refine spreg (S2 := S2) (i := k) (at_ := at_) (bf := bf) (cf := cf) (vs := vs ++ [.slice ua m ucap]) (dg := (bcells (digest (flt3 ls k ++ asideL))).toArray) rfl rfl rfl rfl rfl hat9 hka hcf (by rw [List.length_append, HFW.out.1]; simp) ?_ ?_ ?_ (neqDig _ (digest_length _)) (fun _ _ _ => by simp [eqGuard]) rfl ?_
                · intro wx hb
                  have HX := H7.out.call (HB9.out.trans (hb.mono HB9.out.size))
                  have hg := HGK.out
                  exact sum_any (flt3 ls k ++ asideL) S2 (S2 + 1) wx (stA_st (HX.get 3 rfl) (HKH.out wx HX.below).1 (by omega) (by omega)) (by have := flt3_len ls k; simp [asideL]; omega)
                · intro wx hb j u hu
                  have HX := H7.out.call (HB9.out.trans (hb.mono HB9.out.size))
                  exact own_cell (HX.sl 2 rfl) (by rw [List.getElem?_take] at hu; split at hu; exact hu; cases hu)
                · intro wx b2 b3 cap2 pad hb h3 h4 h5 h6
                  have HX := H7.out.call (HB9.out.trans (hb.mono HB9.out.size))
                  have hkh := HKH.out wx HX.below
                  have hlm : ((ls.take k).map (·.take 300)).length = k := by have := HFW.out.2.1; simp; omega
                  have hlm2 : ((ls.take k).map (·.take 300) ++ [asideL]).length = k + 1 := by rw [List.length_append, hlm]; rfl
                  have htk : (vs ++ [Value.slice ua m ucap]).take k = vs := by rw [List.take_left' HFW.out.1]
                  obtain ⟨h30, fr, h31⟩ := h3
                  obtain ⟨h40, fr', h41⟩ := h4
                  rw [htk] at h31
                  have hlt3 : b3 < wx.heap.size := (Array.getElem?_eq_some_iff.1 h41).1
                  have hp : Parts wx (fun b => b < wx.heap.size) (.slice (some ⟨b2, 0, none⟩) (k + 1) cap2) ((ls.take k).map (·.take 300) ++ [asideL]) := by
                    have := parts_of (cap := cap2) h31 (us := vs ++ [.slice (some ⟨b3, 0, none⟩) 5 5]) (ms := (ls.take k).map (·.take 300) ++ [asideL]) (fun j u hu => by
                      have hj := (List.getElem?_eq_some_iff.1 hu).1
                      rw [List.getElem?_toArray, List.getElem?_append_left hj]; exact hu) (by omega) h6 (fun j hj => by
                      by_cases hjk : j < k
                      · obtain ⟨u, h1, h2⟩ := few_item HFW.out HX.below j (by omega)
                        exact ⟨u, by rw [List.getElem?_append_left (by rw [HFW.out.1]; exact hjk)]; exact h1, by rw [List.getElem_append_left (by omega)]; exact h2⟩
                      · obtain rfl : j = k := by omega
                        refine ⟨_, by rw [List.getElem?_append_right (by rw [HFW.out.1]; exact Nat.le_refl _), HFW.out.1, Nat.sub_self]; rfl, ?_⟩
                        rw [List.getElem_append_right (by omega)]
                        simp only [hlm, Nat.sub_self, List.getElem_cons_zero]
                        exact ⟨⟨_, _, rfl, Nat.le_refl _, by unfold maxLen; decide, .inr ⟨_, _, rfl, hlt3⟩⟩, fun b off n cap he i hi => by
                          injection he with e1 _ _; injection e1 with e1; injection e1 with e1 e2 _; subst e1 e2
                          rw [Nat.zero_add]
                          have := bcells_get asideL i hi
                          simp [World.cell?, h41, this]⟩)
                    rw [hlm2] at this
                    exact this
                  have hfl : ((ls.take k).map (·.take 300) ++ [asideL]).flatten = flt3 ls k ++ asideL := by rw [List.flatten_append]; simp [flt3]
                  have := all_any _ _ wx hkh.1 hkh.2 hp (by rw [hfl]; have := flt3_len ls k; simp [asideL]; omega)
                  rw [hfl] at this
                  exact this
                intro a1 w1 ha hb h2
                have HE := Keep.keep (H7.out.call (HB9.out.trans (hb.mono HB9.out.size)))
                simp only [List.foldl_cons, List.foldl_nil, h2] at ha
                clear h2 hb H7 HB9
                generalize slot a1 77 = x77 at *
                generalize slot a1 78 = x78 at *
                generalize slot a1 79 = x79 at *
                generalize slot a1 80 = x80 at *
                generalize slot a1 81 = x81 at *
                generalize slot a1 82 = x82 at *
                generalize slot a1 83 = x83 at *
                generalize slot a1 84 = x84 at *
                generalize slot a1 85 = x85 at *
                generalize slot a1 86 = x86 at *
                generalize slot a1 87 = x87 at *
                generalize slot a1 88 = x88 at *
                generalize slot a1 89 = x89 at *
                generalize slot a1 90 = x90 at *
                generalize slot a1 91 = x91 at *
                generalize slot a1 92 = x92 at *
                generalize slot a1 93 = x93 at *
                generalize slot a1 94 = x94 at *
                generalize slot a1 95 = x95 at *
                generalize slot a1 96 = x96 at *
                generalize slot a1 97 = x97 at *
                generalize slot a1 98 = x98 at *
                subst ha
                simp only [Act.put, List.setIfInBounds_toArray, List.set_cons_succ, List.set_cons_zero]
                go_wp2_with fail
                go_roundg gn
                case measure => omega
                case rel => exact ⟨k + 1, left5, vs ++ [Value.slice ua m ucap], some ⟨S2, 0, none⟩, by omega, by omega, by simp, rfl, HFP.out, HE.out.take 3⟩
              · have hd20b : ((k : Int) == ((at_ % 20 : Nat) : Int)) = false := by rw [beq_eq_false_iff_ne]; omega
                have hd20c : ((k : Int) == (at_ : Int) % 20) = false := by rw [beq_eq_false_iff_ne]; omega
                have hd20d : ((k : Int) == (at_ : Int).tmod 20) = false := by rw [beq_eq_false_iff_ne, Int.tmod_eq_emod_of_nonneg (by omega)]; omega
                have hw20 : IntKind.i64.wrap ((at_ : Int) % 20) = (at_ : Int) % 20 := IntWalk.i64_in _ (by omega)
                have hw21 : IntKind.i64.wrap ((at_ : Int).tmod 20) = (at_ : Int) % 20 := by rw [Int.tmod_eq_emod_of_nonneg (by omega)]; exact hw20
                cases tp with
                | none =>
                  go_wp2_with (go_quiet (fail))
                  go_roundg gn
                  case measure => omega
                  case rel => exact ⟨k + 1, left5, vs ++ [.slice ua m ucap], none, by omega, by omega, by simp, rfl, HFP.out, ((H7.out.call HB9.out).drewN _).take 3⟩
                | some p =>
                  go_wp2_with (go_quiet (fail))
                  go_roundg gn
                  case measure => omega
                  case rel => exact ⟨k + 1, left5, vs ++ [.slice ua m ucap], some p, by omega, by omega, by simp, rfl, HFP.out, ((H7.out.call HB9.out).drewN _).take 3⟩
    · have hd : decide ((k : Int) < (n : Int)) = false := decide_eq_false (by omega)
      have HALL : Keep (Calls Tryd.prog 18 #[u8] wr fun e w' => e = .returned (.agg (bcells (digest (flt3 ls k))).toArray) ∧ Below wr.heap.size wr w') := ⟨all_any u8 _ wr (HKH.out wr HH.out.below).1 (HKH.out wr HH.out.below).2 (few_parts HFW.out HH.out.below (HH.out.sl 2 rfl)) (by have := flt3_len ls k; unfold flt3 at this; omega)⟩
      have HSB : Keep (∀ wx, Below wr.heap.size wr wx → Calls Tryd.prog 9 #[u5] wx fun e w' => e = .returned (.agg (bcells (digest (flt3 ls k))).toArray) ∧ Below wx.heap.size wx w') := ⟨fun wx hb => sumb_any u5 _ wx (HKH.out wx (HH.out.call hb).below).1 (HKH.out wx (HH.out.call hb).below).2 (((HH.out.call hb).bs 1 rfl).reads.mono (fun b hb' => hb'.2.1)) (by have := flt3_len ls k; omega)⟩
      have heq := eqDig (digest (flt3 ls k)) (digest_length _)
      generalize (bcells (digest (flt3 ls k))).toArray = dg at *
      go_wp2_with fail
      refine HALL.out.mono ?_
      rintro e w2 ⟨rfl, hb2⟩
      have HB2 := Keep.keep hb2; clear hb2
      go_wp2_with fail
      refine (HSB.out w2 HB2.out).mono ?_
      rintro e w3 ⟨rfl, hb3⟩
      have HB3 := Keep.keep (HB2.out.trans (hb3.mono HB2.out.size)); clear hb3
      go_wp2_with fail
      refine (wakes_any w3 (HKH.out w3 (HH.out.call HB3.out).below).1 (HKH.out w3 (HH.out.call HB3.out).below).2).mono ?_
      rintro e w4 ⟨rfl, hb4⟩
      have HB4 := Keep.keep (HB3.out.trans (hb4.mono HB3.out.size)); clear hb4
      go_wp2_with fail
      go_ret
      exact ⟨rfl, (HH.out.call HB4.out).below⟩
end Go.Proofs.YtofficleahalaaaDoor
