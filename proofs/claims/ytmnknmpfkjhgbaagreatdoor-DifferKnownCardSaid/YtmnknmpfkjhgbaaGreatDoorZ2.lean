/- PARTS OF ONE PROOF, set in one file: DfBelowO, DfOfO, DfSortO, DfToldO, DfCost, NilT, DfMany. Each part tells its own conditions. -/
import Derived.Shelf.SlSortCmp.NoneTotal
import Derived.Test.YtmnknmpfkjhgbaaGreatDoorZ1
/- As in DfBelow, with nodes whose slices are rows of their types (printed by gen_o.py). -/
namespace Go.Proofs.YtmnknmpfkjhgbaaGreatDoor
open Go.RowKit
set_option maxHeartbeats 8000000 in
set_option maxRecDepth 100000 in
theorem below_anyO (d : TD) (F : Tx → List Mb) (dir : Tx) (T : Nat) (w : World) (hT : Tabs T w) (_hA : WellL d.A) (hB : WellL d.B) (hLA : d.A.length ≤ 100000) (hLB : d.B.length ≤ 100000) (hdl : dir.length ≤ 400000) (hdir : dir = [] ∨ dirB d.B dir = true) (hF : ∀ c, (F c).length ≤ 1 + d.B.length) (h : TInO w d)
    (hone : ∀ c ∈ ksT d.A d.B dir, ∀ wx, Below w.heap.size w wx → Calls Tryz.prog 119 #[.string ⟨c.toArray⟩, .pointer (some ⟨d.ba, 0, none⟩), .pointer (some ⟨d.bb, 0, none⟩), .pointer (some ⟨d.bw, 0, none⟩)] wx (BelAnsO d (oneF d.A d.B (F c) c) wx)) :
    Calls Tryz.prog 120 #[.string ⟨dir.toArray⟩, .pointer (some ⟨d.ba, 0, none⟩), .pointer (some ⟨d.bb, 0, none⟩), .pointer (some ⟨d.bo, 0, none⟩)] w (BelAnsO d (bodyF d.A d.B (ksT d.A d.B dir) F dir) w) := by
  have HT := Keep.keep hT
  have HON : Keep (∀ wx, Below w.heap.size w wx → TInO wx d) := ⟨fun wx hb => h.below hb⟩
  have HLT : Keep (∀ b, d.Na b ∨ d.Nb b ∨ d.Bk b → b < w.heap.size) := ⟨h.lt⟩
  have HONE := Keep.keep hone
  have hlt4 : d.ba < w.heap.size ∧ d.bb < w.heap.size ∧ d.bo < w.heap.size := ⟨h.ra.lt, h.rb.lt, h.ro.lt⟩
  obtain ⟨MA, hma, hra⟩ := h.sa.names
  obtain ⟨MB, hmb, hrb⟩ := h.sb.names
  obtain ⟨Y, hmy, hy⟩ := h.sb.many
  obtain ⟨vA, hvA⟩ : ∃ v, (SM.look MA dir).getD nilV = v := ⟨_, rfl⟩
  obtain ⟨vB, hvB⟩ : ∃ v, (SM.look MB dir).getD nilV = v := ⟨_, rfl⟩
  have hrA := hra dir
  have hrB := hrb dir
  rw [hvA] at hrA
  rw [hvB] at hrB
  have HLA : Keep (∀ wx, Below w.heap.size w wx → (Instr.lookup 108 (.map (some d.ma)) (.string ⟨dir.toArray⟩) false).run Tryz.prog wx = .ok vA wx) := ⟨fun wx hb => by
    have := (hma.loc (hb.block _ hma.lt)).look1 Tryz.underlying9 Tryz.underlying108 (zeroSt wx) (p := dir) (by unfold maxLen; omega)
    rw [hvA] at this; exact this⟩
  have HLB : Keep (∀ wx, Below w.heap.size w wx → (Instr.lookup 108 (.map (some d.mb)) (.string ⟨dir.toArray⟩) false).run Tryz.prog wx = .ok vB wx) := ⟨fun wx hb => by
    have := (hmb.loc (hb.block _ hmb.lt)).look1 Tryz.underlying9 Tryz.underlying108 (zeroSt wx) (p := dir) (by unfold maxLen; omega)
    rw [hvB] at this; exact this⟩
  have HLY : Keep (∀ wx, Below w.heap.size w wx → (Instr.lookup 73 (.map (some d.yb)) (.string ⟨dir.toArray⟩) false).run Tryz.prog wx = .ok (.int .i64 ((cntM d.B dir : Nat) : Int)) wx) := ⟨fun wx hb => by
    have := (hmy.loc (hb.block _ hmy.lt)).look1 Tryz.underlying9 Tryz.underlying73 (zeroI wx) (p := dir) (by unfold maxLen; omega)
    rw [hy dir] at this; exact this⟩
  have hkA : ((kids dir d.A).map (·.1)).length ≤ 100000 := by
    rw [List.length_map]; unfold kids; exact Nat.le_trans (List.length_filter_le _ _) hLA
  have hkB : ((kids dir d.B).map (·.1)).length ≤ 100000 := by
    rw [List.length_map]; unfold kids; exact Nat.le_trans (List.length_filter_le _ _) hLB
  have HBO : Keep (∀ wx, Below w.heap.size w wx → Calls Tryz.prog 121 #[vA, vB] wx fun e w' => ∃ v, e = .returned v ∧ OwnS w' wx.heap.size v (ksT d.A d.B dir) ∧ Below wx.heap.size wx w') :=
    ⟨fun wx hb => both_any vA vB _ _ wx ((hrA.below hb (fun b hb' => h.lt b (.inl hb'))).mono (fun b hb' => Nat.lt_of_lt_of_le (h.lt b (.inl hb')) hb.size)) ((hrB.below hb (fun b hb' => h.lt b (.inr (.inl hb')))).mono (fun b hb' => Nat.lt_of_lt_of_le (h.lt b (.inr (.inl hb'))) hb.size)) (by omega) (by omega)⟩
  have HKL : Keep ((ksT d.A d.B dir).length ≤ 200000 ∧ ∀ c ∈ ksT d.A d.B dir, True) := ⟨by
    unfold ksT
    refine Nat.le_trans (compact_len _) ?_
    rw [List.length_mergeSort, List.length_append]; omega, fun _ _ => trivial⟩
  have HCN := Keep.keep (cnt_dir hB hdir)
  have hcb : cntM d.B dir ≤ 1000000 := by
    have h1 := cnt_all (fun q hq => hB.path hq) dir
    have h2 := List.countP_le_length (p := fun q : Mb => q.1 == dir) (l := d.B)
    have h3 := List.countP_le_length (p := fun q : Mb => underP dir q.1) (l := d.B)
    omega
  have HUN : Keep (∀ wx, Below w.heap.size w wx → Calls Tryz.prog 18 #[.pointer (some ⟨d.Tb, 0, none⟩), .string ⟨dir.toArray⟩] wx (BelAnsO d (underL dir d.B) wx)) := ⟨fun wx hb => by
    have ht := h.below hb
    refine (under_own d.Tb d.tb d.Bk d.f d.B dir wx hLB hdl ht.tr ⟨ht.tr.row.lt, ht.tr.map.lt, fun b hb => ht.lt b (.inr (.inr hb))⟩).mono ?_
    rintro e w' ⟨v, l, rfl, hl, ho, hb'⟩
    exact ⟨v, l, rfl, hl, RowO.ofOwn ho _, hb'⟩⟩
  have HMK : Keep (∀ wx, Below w.heap.size w wx → Calls Tryz.prog 16 #[.string ⟨dir.toArray⟩] wx fun e w' => e = .returned (.agg (mbC (mkM dir) nilV nilV)) ∧ Below wx.heap.size wx w') := ⟨fun wx hb => dmark_any dir (by omega) T wx (Nat.le_trans hT.b hb.size) (hT.m.on (hb.mono hT.b))⟩
  have HONL : Keep (∀ c, (oneF d.A d.B (F c) c).length ≤ 300000) := ⟨fun c => by
    have := one_len d.A d.B (F c) c
    have := hF c
    omega⟩
  have HBY : Keep (bodyF d.A d.B (ksT d.A d.B dir) F dir = if (flatF d.A d.B (ksT d.A d.B dir) F).length ≤ 1 + d.B.countP (fun q => underP dir q.1) then flatF d.A d.B (ksT d.A d.B dir) F else d.B.filter (fun q => underP dir q.1) ++ [mkM dir]) := ⟨rfl⟩
  have HFL : Keep ((underL dir d.B).filter (fun m => !(m.1 == dir)) = d.B.filter (fun q => underP dir q.1)) := ⟨by
    unfold underL
    rw [List.filter_filter]
    refine List.filter_congr (fun x _ => ?_)
    unfold hitU
    by_cases e : x.1 = dir
    · rw [e]
      have : underP dir dir = false := by
        cases hu : underP dir dir with
        | false => rfl
        | true => exact (under_asym hu hu).elim
      simp [this]
    · have : (x.1 == dir) = false := by simpa using e
      simp [this]⟩
  obtain ⟨aA, cA, hvA2, -⟩ := hrA.shape
  obtain ⟨aB, cB, hvB2, -⟩ := hrB.shape
  generalize ((kids dir d.A).map (·.1)).length = nA at *
  generalize ((kids dir d.B).map (·.1)).length = nB at *
  have ca1 : Keep (∀ wx, Below w.heap.size w wx → wx.cell? ⟨d.ba, 1, none⟩ = some (.map (some d.ma)) ∧ wx.cell? ⟨d.bb, 1, none⟩ = some (.map (some d.mb)) ∧ wx.cell? ⟨d.bb, 2, none⟩ = some (.map (some d.yb)) ∧ wx.cell? ⟨d.bb, 3, none⟩ = some (.func (.func 18) #[.pointer (some ⟨d.Tb, 0, none⟩)] #[]) ∧ wx.cell? ⟨d.bo, 0, none⟩ = some (.func (.func 119) #[] #[.pointer (some ⟨d.ba, 0, none⟩), .pointer (some ⟨d.bb, 0, none⟩), .pointer (some ⟨d.bw, 0, none⟩)])) := ⟨fun wx hb => by
    have ht := h.below hb
    exact ⟨ht.ra.cell rfl, ht.rb.cell rfl, ht.rb.cell rfl, ht.rb.cell rfl, ht.ro.cell rfl⟩⟩
  have hent1 := ent_undf
  have hent3 := ent_one
  clear hone h hma hra hmb hrb hmy hy hrA hrB hvA hvB hT hB hF
  subst hvA2 hvB2
  generalize bodyF d.A d.B (ksT d.A d.B dir) F dir = out at *
  generalize ksT d.A d.B dir = ks at *
  obtain ⟨qw, kw, hqw⟩ := signM_cells (opaqueP dir)
  have HMC : Keep (mbC (mkM dir) nilV nilV = #[.string ⟨qw.toArray⟩, .int .i64 kw, .int .u32 0, .int .u32 0, .int .u32 0, .int .i64 0, .slice none 0 0, .slice none 0 0, .string ⟨#[]⟩]) := ⟨hqw⟩
  rw [HMC.out] at HMK
  obtain ⟨cc, hcc⟩ : ∃ c, cntM d.B dir = c := ⟨_, rfl⟩
  rw [hcc] at HLY HCN hcb
  obtain ⟨cP, hcP⟩ : ∃ c, 1 + d.B.countP (fun q => underP dir q.1) = c := ⟨_, rfl⟩
  rw [hcP] at HCN HBY
  obtain ⟨nk, hnk⟩ : ∃ n, ks.length = n := ⟨_, rfl⟩
  have HNK := Keep.keep hnk
  have hnkb : nk ≤ 200000 := by rw [← hnk]; exact HKL.out.1
  clear hqw hcc hcP hnk
  go_enter Tryz.func120, Tryz.ntmps120
  go_upto_region 1 with fail
  refine wp_world (R := fun w1 => Hp NoM w w1 [rowA w.heap.size 9 #[.string ⟨dir.toArray⟩]]) ((Hp.begin NoM w).newRow _ _) ?_
  intro w1 H1
  have hla := HLA.out w1 H1.out.below
  have hlb := HLB.out w1 H1.out.below
  have cd := (H1.out.row 0 rfl).cell (i := 0) rfl
  obtain ⟨c1, c2, c3, c4, c5⟩ := ca1.out w1 H1.out.below
  go_wp2_with fail
  refine (HBO.out w1 H1.out.below).mono ?_
  rintro e w2 ⟨v19, rfl, ho19, hb2⟩
  have H2 := Keep.keep ((H1.out.push (slA w1.heap.size 9 1 v19 ks.length (ks.map strV)) (.of_below hb2) ho19 (fun b hb => World.ownsRow.lt ho19 b hb)).nilS w.heap.size 41 9)
  rw [HNK.out] at H2
  obtain ⟨a19, c19, hv19, -⟩ := (ownsV_reads ho19).shape
  rw [HNK.out] at hv19
  clear ho19 hb2 HBO hla hlb cd c1 c2 c3 c4 c5 HLA HLB H1
  subst hv19
  go_wp2_with fail
  go_loopg [6, 8, 21] nk (fun g u6 _ u21 wx => ∃ (k : Nat) (acc : List Mv), k + g = nk ∧ u21 = .int .i64 (k : Int) ∧ acc.map (·.1) = flatF d.A d.B (ks.take k) F ∧ acc.length ≤ k * 300000 ∧ RowO w.heap.size d.Nb wx u6 acc ∧ Hp NoM w wx [rowA w.heap.size 9 #[.string ⟨dir.toArray⟩], slA w1.heap.size 9 1 (.slice a19 nk c19) nk (ks.map strV), slA w.heap.size 41 9 u6 acc.length (mcells acc)])
  case atStart => exact ⟨0, [], by omega, rfl, rfl, Nat.zero_le _, RowO.nil _ _ _, H2.out⟩
  case round =>
    obtain ⟨k, acc, hkg, rfl, hmap, hal, hrow, hH⟩ := hrel
    have HM := Keep.keep hmap; have HR := Keep.keep hrow; have HH := Keep.keep hH
    obtain ⟨a6, c6, hv6, -⟩ := (ownsV_reads hrow.own).shape
    obtain ⟨n6, hn6⟩ : ∃ n, acc.length = n := ⟨_, rfl⟩
    have HN6 := Keep.keep hn6
    rw [hn6] at hv6 HH hal
    clear hmap hrow hH hn6 H2
    subst hv6
    cases gk with
    | zero =>
      obtain rfl : k = nk := by omega
      have HACC : Keep (acc.map (·.1) = flatF d.A d.B ks F) := ⟨by rw [HM.out, List.take_of_length_le (by rw [HNK.out]; exact Nat.le_refl _)]⟩
      have hb := HH.out.below
      obtain ⟨c1, c2, c3, c4, c5⟩ := ca1.out wr hb
      have cd := (HH.out.row 0 rfl).cell (i := 0) rfl
      have hly := HLY.out wr hb
      have HLEN : Keep ((flatF d.A d.B ks F).length = n6) := ⟨by rw [← HACC.out, List.length_map]; exact HN6.out⟩
      rw [HLEN.out] at HBY
      have HWB := Keep.keep hb
      clear c1 c2 c5 hb
      by_cases hz : dir = []
      focus
        have he : dir.isEmpty = true := by rw [hz]; rfl
        have HCC : Keep (1 + cc = cP) := ⟨by have := HCN.out; rw [if_pos hz] at this; exact this⟩
        clear hz
        cases hd : decide (n6 ≤ cP)
        case true =>
          have hle := of_decide_eq_true hd
          have HO : Keep (out = flatF d.A d.B ks F) := ⟨by rw [HBY.out, if_pos hle]⟩
          have hcP := HCC.out
          have g1 : decide ((n6 : Int) ≤ 1 + (cc : Int)) = true := decide_eq_true (by omega)
          clear hd hle hcP
          go_wp2_with fail
          go_ret
          exact ⟨_, acc, rfl, by rw [HO.out]; exact HACC.out, HR.out, HWB.out⟩
        have hle := of_decide_eq_false hd
        have HO : Keep (out = d.B.filter (fun q => underP dir q.1) ++ [mkM dir]) := ⟨by rw [HBY.out, if_neg hle]⟩
        have hcP := HCC.out
        have g1 : decide ((n6 : Int) ≤ 1 + (cc : Int)) = false := decide_eq_false (by omega)
        clear hd hle hcP
        go_upto_region 12 with fail
      rotate_left
      focus
        have he : dir.isEmpty = false := by simpa using hz
        have HCC : Keep (cc = cP) := ⟨by have := HCN.out; rw [if_neg hz] at this; exact this⟩
        clear hz
        cases hd : decide (n6 ≤ cP)
        case true =>
          have hle := of_decide_eq_true hd
          have HO : Keep (out = flatF d.A d.B ks F) := ⟨by rw [HBY.out, if_pos hle]⟩
          have hcP := HCC.out
          have g1 : decide ((n6 : Int) ≤ 1 + (cc : Int) - 1) = true := decide_eq_true (by omega)
          have g2 : decide (n6 ≤ cc) = true := decide_eq_true (by omega)
          clear hd hle hcP
          go_wp2_with fail
          go_ret
          exact ⟨_, acc, rfl, by rw [HO.out]; exact HACC.out, HR.out, HWB.out⟩
        have hle := of_decide_eq_false hd
        have HO : Keep (out = d.B.filter (fun q => underP dir q.1) ++ [mkM dir]) := ⟨by rw [HBY.out, if_neg hle]⟩
        have hcP := HCC.out
        have g1 : decide ((n6 : Int) ≤ 1 + (cc : Int) - 1) = false := decide_eq_false (by omega)
        have g2 : decide (n6 ≤ cc) = false := decide_eq_false (by omega)
        clear hd hle hcP
        go_upto_region 12 with fail
      all_goals
        go_wp2_with fail
        refine (HUN.out wr HWB.out).mono ?_
        rintro e w5 ⟨v5, l5, rfl, hl5, hr5, hb5⟩
        have HL5 := Keep.keep hl5
        have HW5 := Keep.keep (HWB.out.trans (hb5.mono HWB.out.size))
        have HR5 := Keep.keep (hr5.lower HWB.out.size (fun b hb => hb))
        have HLO : Keep (∀ b, v5.ownBlock = some b → wr.heap.size ≤ b) := ⟨fun b hb => (hr5.lt hb).1⟩
        have HBD : Keep (Row w5 w.heap.size 9 #[.string ⟨dir.toArray⟩] ∧ w.heap.size < wr.heap.size) := ⟨(HH.out.row 0 rfl).below hb5 (HH.out.row 0 rfl).lt, (HH.out.row 0 rfl).lt⟩
        have hn5 : l5.length ≤ 100000 := by
          rw [← List.length_map (f := fun x : Mv => x.1), hl5]
          exact Nat.le_trans (List.length_filter_le _ _) hLB
        have HDF := Keep.keep (dfuncMO 122 #[.pointer (some ⟨w.heap.size, 0, none⟩)] (fun m => m.1 == dir) v5 l5 w.heap.size d.Nb w5 ent_del1 HW5.out.size (by omega) (fun wx hch x hx => by
          have := del1_any x (HR5.out.nd x hx).shape dir w.heap.size wx (by
            rw [hch.cell (p := ⟨w.heap.size, 0, none⟩) HBD.out.1.lt (fun e => by have := HLO.out w.heap.size e; have := HBD.out.2; omega)]
            exact HBD.out.1.cell rfl)
          simpa using this) HR5.out)
        obtain ⟨a5, c5, hv5, -⟩ := (ownsV_reads hr5.own).shape
        generalize l5.length = n5 at hv5
        clear hl5 hr5 hb5 c3 c4 cd hly HH HM HR
        subst hv5
        have cd := HBD.out.1.cell (i := 0) rfl
        go_wp2_with fail
        refine HDF.out.mono ?_
        rintro e w6 ⟨v6, rfl, hr6, ho6, hc6⟩
        have HR6 := Keep.keep hr6
        have HW6 : Keep (Below w.heap.size w w6) := ⟨HW5.out.trans ((hc6.lower HW5.out.size).below (fun b hb e => by have := HLO.out _ e; have := HBD.out.2; omega))⟩
        have HBD6 : Keep (Row w6 w.heap.size 9 #[.string ⟨dir.toArray⟩]) := ⟨HBD.out.1.chg hc6 HBD.out.1.lt (fun e => by have := HLO.out _ e; have := HBD.out.2; omega)⟩
        obtain ⟨a6', c6', hv6, -⟩ := (ownsV_reads hr6.own).shape
        have HL6 : Keep ((l5.filter fun x => !(x.1.1 == dir)).map (·.1) = d.B.filter (fun q => underP dir q.1)) := ⟨by
          rw [← HFL.out, ← HL5.out, List.filter_map]; rfl⟩
        have hn6' : (l5.filter fun x => !(x.1.1 == dir)).length ≤ 100000 := Nat.le_trans (List.length_filter_le _ _) hn5
        generalize (l5.filter fun x => !(x.1.1 == dir)) = l6 at *
        generalize hnl6 : l6.length = n6' at hv6
        have HNL6 := Keep.keep hnl6
        clear hr6 ho6 hc6 HDF cd hnl6 HBD HR5
        subst hv6
        have cd := HBD6.out.cell (i := 0) rfl
        go_wp2_with fail
        refine (HMK.out w6 HW6.out).mono ?_
        rintro e w7 ⟨rfl, hb7⟩
        have HR7 := Keep.keep (HR6.out.below hb7)
        have HW7 := Keep.keep (HW6.out.trans (hb7.mono HW6.out.size))
        clear hb7 cd HBD6 HR6
        go_wp2_with (with_reducible refine arm_stop ?_)
        refine Stopped.out ?_
        have hal : Below w7.heap.size w7 (w7.alloc (.cells #[.string ⟨qw.toArray⟩, .int .i64 kw, .int .u32 0, .int .u32 0, .int .u32 0, .int .i64 0, .slice none 0 0, .slice none 0 0, .string ⟨#[]⟩] 41)) := (Below.refl _ _).alloc (Nat.le_refl _) _
        have hrA := HR7.out.below hal
        have hs7 := HW7.out.size
        have hmN : MbsO (w7.alloc (.cells #[.string ⟨qw.toArray⟩, .int .i64 kw, .int .u32 0, .int .u32 0, .int .u32 0, .int .i64 0, .slice none 0 0, .slice none 0 0, .string ⟨#[]⟩] 41)) (fun _ => True) d.Nb (.slice (some ⟨w7.heap.size, 0, none⟩) 1 1) [((mkM dir, nilV, nilV) : Mv)] := ⟨by
          have := RdV.new (w := w7) (N := fun _ => True) 41 (mcells [((mkM dir, nilV, nilV) : Mv)]) 9 1 w7.heap.size rfl rfl (by unfold maxLen; omega) trivial
          have hmc : (mcells [((mkM dir, nilV, nilV) : Mv)]).toArray = #[.string ⟨qw.toArray⟩, .int .i64 kw, .int .u32 0, .int .u32 0, .int .u32 0, .int .i64 0, .slice none 0 0, .slice none 0 0, .string ⟨#[]⟩] := by
            rw [mcells_cons]
            show (mcell ((mkM dir, nilV, nilV) : Mv)).toList.toArray = _
            exact HMC.out
          rw [hmc] at this
          exact this, fun y hy => by
          obtain rfl : y = ((mkM dir, nilV, nilV) : Mv) := by simpa using hy
          exact ndO_nil (by unfold mkM signM; split <;> rfl) (by unfold mkM signM; split <;> rfl)⟩
        refine arm_appMO (B := w.heap.size) hrA (Nat.le_trans hs7 hal.size) hmN (fun b hb => ⟨.inl hb, by have := HLT.out b (.inr (.inl hb)); have := hal.size; omega, fun e => by have := (hrA.lt e).1; have := HLT.out b (.inr (.inl hb)); omega⟩) (by rw [List.length_singleton]; omega) rfl rfl ?_
        intro v8 w8 hr8 hg8 hov8 hsh8
        obtain ⟨a8, c8, rfl⟩ := hsh8
        have HR8 := Keep.keep hr8
        have HB8 : Keep (Below w.heap.size w w8) := ⟨(HW7.out.trans (hal.mono HW7.out.size)).trans (hrA.chg (Nat.le_trans hs7 hal.size) hg8)⟩
        clear hr8 hg8 hov8 hmN hrA hal
        simp only [Act.put, List.setIfInBounds_toArray, List.set_cons_succ, List.set_cons_zero]
        go_wp2_with fail
        go_ret
        exact ⟨_, _, rfl, by rw [List.map_append, HL6.out, HO.out]; rfl, HR8.out, HB8.out⟩
    | succ g =>
      have hk : k < ks.length := by rw [HNK.out]; omega
      have hb := HH.out.below
      obtain ⟨c1, c2, c3, c4, c5⟩ := ca1.out wr hb
      have ho19 := HH.out.sl 1 rfl
      obtain ⟨g19, rfl⟩ : ∃ g, a19 = some ⟨g, 0, none⟩ := by
        rcases ho19.2 with ⟨_, h0⟩ | ⟨g, cap, cur, h, _⟩
        · omega
        · injection h with h; exact ⟨g, h⟩
      have hcell := (ownsV_reads ho19).cell g19 0 _ _ rfl k (strV ks[k]) (by simp [hk])
      have HC := Keep.keep (HONE.out ks[k] (List.getElem_mem hk) wr hb)
      have HTK := Keep.keep (flatF_take (A := d.A) (B := d.B) (F := F) hk)
      have hol := HONL.out ks[k]
      generalize oneF d.A d.B (F ks[k]) ks[k] = of1 at *
      generalize ks[k] = cq at *
      unfold strV at hcell
      rw [Nat.zero_add] at hcell
      clear hb c1 c2 c3 c4 ho19
      go_wp2_with fail
      refine HC.out.mono ?_
      rintro e w3 ⟨v3, l3, rfl, hl3, hr3, hb3⟩
      have HL3 := Keep.keep hl3; have HR3 := Keep.keep hr3
      have HH3 := Keep.keep (HH.out.call hb3)
      have HRA := Keep.keep (HR.out.below hb3)
      have HRLT := Keep.keep (fun b e => (HR.out.lt (b := b) e))
      have hn3 : l3.length ≤ 300000 := by rw [← List.length_map (f := fun x : Mv => x.1), hl3]; exact hol
      obtain ⟨a3, c3, hv3, -⟩ := (ownsV_reads hr3.own).shape
      have hsw := HH.out.size
      have hs3 := hb3.size
      clear hl3 hr3 hb3 HC hcell c5 HR HH
      subst hv3
      go_wp2_with (with_reducible refine arm_stop ?_)
      refine Stopped.out ?_
      have hkb : k * 300000 ≤ 200000 * 300000 := Nat.mul_le_mul_right _ (by omega)
      refine arm_appMO (B := w.heap.size) HRA.out (Nat.le_trans hsw hs3) HR3.out.mbso (fun b hb => ⟨?_, hb.2.1, fun e => ?_⟩) (by rw [HN6.out]; omega) rfl rfl ?_
      · rcases hb.1 with h | h
        · exact .inl h
        · exact .inr (by omega)
      · have h1 := HRLT.out b e
        rcases hb.1 with h | h
        · have := HLT.out b (.inr (.inl h)); omega
        · omega
      intro v4 w4 hr4 hg4 hov4 hsh4
      have H4 := Keep.keep (HH3.out.grow 2 rfl hg4 hr4.own hov4)
      obtain ⟨a4, c4, rfl⟩ := hsh4
      have HR4 := Keep.keep hr4
      clear hr4 hg4 hov4 HH3 HRA
      simp only [Act.put, List.setIfInBounds_toArray, List.set_cons_succ, List.set_cons_zero]
      rw [HN6.out]
      go_wp2_with fail
      go_roundg g
      case measure => omega
      case rel =>
        refine ⟨k + 1, acc ++ l3, by omega, by simp, by rw [List.map_append, HM.out, HTK.out, HL3.out], ?_, ?_, ?_⟩
        · rw [List.length_append, HN6.out]; omega
        · have := HR4.out; rw [HN6.out] at this; exact this
        · have := H4.out; rw [HN6.out] at this; exact this
end Go.Proofs.YtmnknmpfkjhgbaaGreatDoor
/- As in DfOf, with nodes whose slices are rows of their types (printed by gen_o.py). -/
namespace Go.Proofs.YtmnknmpfkjhgbaaGreatDoor
open Go.RowKit
set_option maxHeartbeats 8000000 in
set_option maxRecDepth 100000 in
theorem dof_anyO (T tb : Nat) (Bk : Nat → Prop) (f : Tx → Value × Value) (L : List Mb) (w : World) (hL : L.length ≤ 100000) (hT : TreeIn w T tb Bk f L) (hBk : ∀ b, Bk b → b < w.heap.size) :
    Calls Tryz.prog 80 #[.pointer (some ⟨T, 0, none⟩)] w fun e w' => ∃ nb mb yb, e = .returned (.agg #[.map (some nb), .map (some mb), .map (some yb), .func (.func 18) #[.pointer (some ⟨T, 0, none⟩)] #[]]) ∧ SideInO w' (Fresh w.heap.size w') nb mb yb L ∧ (w.heap.size ≤ nb ∧ w.heap.size ≤ mb ∧ w.heap.size ≤ yb) ∧ Below w.heap.size w w' := by
  have HT := Keep.keep hT; have HBK := Keep.keep hBk
  have HSR := Keep.keep hT.srt
  have HSM := Keep.keep hT.sm
  have hTw := hT.row.lt
  have hmw := hT.map.lt
  have hmm := @run_makeMap Tryz.prog
  have hsb := sideB
  clear hT hBk
  go_enter Tryz.func80, Tryz.ntmps80
  have HSZN : Keep ((#[.map (some (w.heap.size + 1)), .map (some (w.heap.size + 1 + 1)), .map (some (w.heap.size + 1 + 1 + 1)), .func (.func 18) #[.pointer (some ⟨T, 0, none⟩)] #[]] : Array Value).size = 4) := ⟨rfl⟩
  have HONN : Keep ((#[.map (some (w.heap.size + 1)), .map (some (w.heap.size + 1 + 1)), .map (some (w.heap.size + 1 + 1 + 1)), .func (.func 18) #[.pointer (some ⟨T, 0, none⟩)] #[]] : Array Value).all (·.oneCell') = true) := ⟨by simp [Value.oneCell']⟩
  have HZZ : Keep ((#[.map none, .map none, .map none, .nilFunc] : Array Value).size = 4) := ⟨rfl⟩
  go_wp2_with (with_reducible refine arm_stopS ?_)
  refine Stopped.out ?_
  refine arm_storeRow (c := #[.map none, .map none, .map none, .nilFunc]) (e := 110) (Row.new' (by simp) rfl) aggS HZZ.out HSZN.out HONN.out rfl rfl ?_
  simp only [Act.put]
  go_upto_region 2 with fail
  obtain ⟨b0, hb0⟩ : ∃ b0, w.heap.size = b0 := ⟨_, rfl⟩
  have HB0 := Keep.keep hb0
  refine wp_world (R := fun w1 => Hp NoM w w1 [rowA b0 110 #[.map none, .map none, .map none, .nilFunc], msA 9 (b0 + 1) [], namA b0 (b0 + 2) [] [], msA 9 (b0 + 3) [], rowA (b0 + 4) 110 #[.map (some (b0 + 1)), .map (some (b0 + 2)), .map (some (b0 + 3)), .func (.func 18) #[.pointer (some ⟨T, 0, none⟩)] #[]]]) ?_ ?_
  · have h1 := (((Hp.begin NoM w).newRow 110 #[.map none, .map none, .map none, .nilFunc]).newMap 9).newNam b0
    have h2 := (h1.newMap 9).newRow 110 #[.map none, .map none, .map none, .nilFunc]
    have h3 := h2.setRow 4 rfl #[.map (some (b0 + 1)), .map (some (b0 + 2)), .map (some (b0 + 3)), .func (.func 18) #[.pointer (some ⟨T, 0, none⟩)] #[]]
    simpa [hb0, Nat.add_assoc] using h3
  intro w1 H1
  have hb1 := H1.out.below
  have hs1 := hb1.size
  have hw1b := (H1.out.row 4 rfl).lt
  have hAL := all_own T tb Bk f L w1 hL (HT.out.loc (fun b hb' => hb1.block b (by
    rcases hb' with rfl | rfl | h
    · exact hTw
    · exact hmw
    · exact HBK.out b h))) ⟨by omega, by omega, fun b hb => by have := HBK.out b hb; omega⟩
  have HAL := Keep.keep hAL
  clear hmm hsb hb1 hAL
  go_wp2_with fail
  refine HAL.out.mono ?_
  rintro e w2 ⟨v16, l6, rfl, hl6, hm6, hb2⟩
  have H2 := Keep.keep (H1.out.push (sameA (fun b => w1.heap.size ≤ b ∧ b < w2.heap.size) w2) (.of_below hb2) (fun _ _ => rfl) (fun b hb => hb))
  have HL6 := Keep.keep hl6
  have hs2 := hb2.size
  have HM6 : Keep (Mbs w2 (Fresh b0 w2) (Fresh b0 w2) v16 l6) := ⟨hm6.mbs.mono (fun b hb => ⟨by have := hb.1; omega, hb.2⟩) (fun b hb => ⟨by have := hb.1; omega, hb.2⟩)⟩
  have HRL : Keep (∀ b, v16.ownBlock = some b → w1.heap.size ≤ b) := ⟨fun b hb => (World.ownsRow.lt hm6.own b hb).1⟩
  have HN6 : Keep (l6.length = L.length) := ⟨by rw [← hl6, List.length_map]⟩
  have HND6 : Keep (∀ x ∈ l6, NdO w2 (fun b => w1.heap.size ≤ b ∧ b < w2.heap.size) x.1.2 x.2.1 x.2.2) := ⟨fun x hx => (hm6.nd x hx).mono (fun b hb => ⟨hb.1, hb.2.1⟩)⟩
  have HRD6 : Keep (RdV w2 (fun b => w1.heap.size ≤ b ∧ b < w2.heap.size) 9 v16 l6.length (mcells l6)) := ⟨(ownsV_reads hm6.own).mono (fun b hb => ⟨hb.1, hb.2.1⟩)⟩
  obtain ⟨a6, c6, hv6, hc6, hx6, h36⟩ := HRD6.out.shape
  have H36 := Keep.keep h36
  rw [HN6.out] at hv6 hc6
  clear hl6 hm6 hb2 HAL H1 h36
  subst hv6
  go_wp2_with fail
  go_loopg [18] L.length (fun g u18 wx => ∃ (k : Nat) (M1 M2 Y : List (Tx × Value)), k + g = L.length ∧ u18 = .int .i64 (k : Int) ∧ M1.length ≤ k ∧ M2.length ≤ k ∧ Y.length ≤ ((L.take k).flatMap keysM).length ∧ NodesIsO w2 (fun b => w1.heap.size ≤ b ∧ b < w2.heap.size) M1 (L.take k) ∧ CntIs Y ((L.take k).flatMap keysM) ∧
    Hp NoM w wx [rowA b0 110 #[.map none, .map none, .map none, .nilFunc], msA 9 (b0 + 1) M1, namA b0 (b0 + 2) M2 (L.take k), msA 9 (b0 + 3) Y, rowA (b0 + 4) 110 #[.map (some (b0 + 1)), .map (some (b0 + 2)), .map (some (b0 + 3)), .func (.func 18) #[.pointer (some ⟨T, 0, none⟩)] #[]], sameA (fun b => w1.heap.size ≤ b ∧ b < w2.heap.size) w2])
  case atStart => exact ⟨0, [], [], [], by omega, rfl, Nat.le_refl _, Nat.le_refl _, Nat.zero_le _, (fun p => ⟨nilV, nilV, rfl, fun n hn => by simp [SM.look] at hn⟩), (fun q => rfl), H2.out⟩
  case round =>
    obtain ⟨k, M1, M2, Y, hkg, rfl, hl1, hl2, hlY, hnod, hcnt, hH⟩ := hrel
    have HNO := Keep.keep hnod; have HCN := Keep.keep hcnt; have HH := Keep.keep hH
    clear hnod hcnt hH H2
    cases gk with
    | zero =>
      obtain rfl : k = L.length := by omega
      have HTK : Keep (L.take L.length = L) := ⟨List.take_length⟩
      rw [HTK.out] at HNO HCN HH
      have HRA := Keep.keep (HH.out.row 4 rfl)
      have HRB := Keep.keep (HH.out.row 0 rfl)
      have HSA : Keep ((#[.map (some (b0 + 1)), .map (some (b0 + 2)), .map (some (b0 + 3)), .func (.func 18) #[.pointer (some ⟨T, 0, none⟩)] #[]] : Array Value).size = 4) := ⟨rfl⟩
      have HSB : Keep ((#[.map none, .map none, .map none, .nilFunc] : Array Value).size = 4) := ⟨rfl⟩
      have HON : Keep ((#[.map (some (b0 + 1)), .map (some (b0 + 2)), .map (some (b0 + 3)), .func (.func 18) #[.pointer (some ⟨T, 0, none⟩)] #[]] : Array Value).all (·.oneCell') = true) := ⟨by simp [Value.oneCell']⟩
      have HSW : Keep (w1.heap.size ≤ w2.heap.size ∧ b0 < w1.heap.size) := ⟨by omega, by omega⟩
      go_wp2_with (first | ((with_reducible refine arm_loadRow HRA.out aggS HSA.out ?_ ?_); (focus rfl); simp only [Act.put, List.setIfInBounds_toArray, List.set_cons_succ, List.set_cons_zero]) | ((with_reducible refine arm_storeRow HRB.out aggS HSB.out HSA.out HON.out ?_ ?_ ?_); (focus rfl); (focus rfl); simp only [Act.put]))
      have hoth : ∀ b, b ≠ b0 → (wr.setRow b0 #[.map (some (b0 + 1)), .map (some (b0 + 2)), .map (some (b0 + 3)), .func (.func 18) #[.pointer (some ⟨T, 0, none⟩)] #[]]).heap[b]? = wr.heap[b]? := fun b hb => Go.setRow_other wr b0 b _ hb
      have hsr : (wr.setRow b0 #[.map (some (b0 + 1)), .map (some (b0 + 2)), .map (some (b0 + 3)), .func (.func 18) #[.pointer (some ⟨T, 0, none⟩)] #[]]).heap.size = wr.heap.size := by simp [World.setRow]
      have hsame : ∀ b, (w1.heap.size ≤ b ∧ b < w2.heap.size) → wr.heap[b]? = w2.heap[b]? := HH.out.get 5 rfl
      have hsb : ∀ b, (w1.heap.size ≤ b ∧ b < w2.heap.size) → b < wr.heap.size := fun b hb => ((HH.out.p _ (List.mem_of_getElem? (i := 5) rfl)).2 b hb).2
      have hnam : NamesIn wr b0 (b0 + 2) M2 L := HH.out.get 2 rfl
      refine bodyPost_ret (results_row (p := 2) (ty := 110) rfl (HRB.out.setRow _) aggS HSA.out rfl) rfl ⟨b0 + 1, b0 + 2, b0 + 3, rfl, ⟨⟨M1, MapS.loc (HH.out.get 1 rfl) (hoth _ (by omega)), ?_⟩, ⟨M2, MapS.loc hnam.map (hoth _ (by omega)), fun d => ?_⟩, ⟨Y, MapS.loc (HH.out.get 3 rfl) (hoth _ (by omega)), HCN.out⟩⟩, by omega, ?_⟩
      · refine (HNO.out.loc (fun b hb => ?_)).mono (fun b hb => ⟨?_, ?_⟩)
        · rw [hoth b (by have := HSW.out; omega), hsame b hb]
        · have := HSW.out; omega
        · rw [hsr]; exact hsb b hb
      · have ho := hnam.at d
        have hbk : ∀ b, ((SM.look M2 d).getD nilV).ownBlock = some b → b ≠ b0 := fun b hb e => by
          have hl : SM.look M2 d = some ((SM.look M2 d).getD nilV) := by
            cases hl : SM.look M2 d with
            | none => rw [hl] at hb; cases hb
            | some u => rfl
          have := HH.out.d 0 2 _ _ rfl rfl b e (.inr ⟨d, _, hl, hb⟩)
          omega
        exact ((ownsV_reads ho).loc (fun b hb => hoth b (hbk b hb.2.2))).mono (fun b hb => ⟨by have := HB0.out; have := hb.1; omega, by rw [hsr]; exact hb.2.1⟩)
      · exact ((Chg.of_below (M := NoM) HH.out.below).setRow (.inl (by omega)) _).below (fun _ _ h => h)
    | succ g =>
      have hk : k < L.length := by omega
      have hk6 : k < l6.length := by rw [HN6.out]; exact hk
      have hLk : l6[k].1 = L[k] := by
        have : (l6.map (·.1))[k]? = L[k]? := by rw [HL6.out]
        rw [List.getElem?_map, List.getElem?_eq_getElem hk6, List.getElem?_eq_getElem hk] at this
        simpa using this
      obtain ⟨b, off, rfl, hbl⟩ : ∃ b off, a6 = some ⟨b, off, none⟩ ∧ (w1.heap.size ≤ b ∧ b < w2.heap.size) := by
        rcases H36.out with h | ⟨b, off, h, hb⟩
        · omega
        · exact ⟨b, off, h, hb⟩
      have hsame : ∀ b, (w1.heap.size ≤ b ∧ b < w2.heap.size) → wr.heap[b]? = w2.heap[b]? := HH.out.get 5 rfl
      have hmb6 : Mbs wr (fun b => w1.heap.size ≤ b ∧ b < w2.heap.size) (fun b => w1.heap.size ≤ b ∧ b < w2.heap.size) (.slice (some ⟨b, off, none⟩) L.length c6) l6 := ⟨by
        have := HRD6.out.loc hsame
        exact this, fun x hx => (HND6.out x hx).r.loc hsame⟩
      have hld := hmb6.load hk6
      have HND := Keep.keep (HND6.out _ (List.getElem_mem hk6))
      have HTK : Keep (L.take (k + 1) = L.take k ++ [L[k]]) := ⟨List.take_succ_eq_append_getElem hk⟩
      have HFT := Keep.keep (flat_take hk)
      have HNE : Keep (∀ y ∈ L.take k, y.1 ≠ L[k].1) := ⟨fun y hy e => by
        obtain ⟨j, hj, rfl⟩ := List.mem_iff_getElem.1 hy
        rw [List.length_take] at hj
        rw [List.getElem_take] at e
        have := (List.pairwise_iff_getElem.1 HSR.out) j k (by omega) hk (by omega)
        rw [e] at this
        exact tx_irrefl _ this⟩
      have hsx := HSM.out L[k] (List.getElem_mem hk)
      have HLB : Keep (((L.take k).flatMap keysM).length ≤ k * 400002) := ⟨by
        have := flatk_len (L := L.take k) (fun m hm => (HSM.out m (List.mem_of_mem_take hm)).p)
        rw [List.length_take, Nat.min_eq_left (by omega)] at this
        exact this⟩
      rw [← hLk] at HTK HFT HNE hsx
      clear hsame hmb6 hLk
      generalize l6[k] = x at *
      obtain ⟨⟨xp, ⟨kind, mode, uid, gid, time, attrs, data, link⟩⟩, av, dv⟩ := x
      obtain ⟨aa, la, ca, ad, ld, cd, e1, e2⟩ := HND.out.shape
      dsimp only at e1 e2 hsx HTK HFT HNE
      have hxp := hsx.p
      dsimp only at hxp
      subst e1 e2
      have HMC : Keep (mcell (((xp, ⟨kind, mode, uid, gid, time, attrs, data, link⟩), .slice aa la ca, .slice ad ld cd) : Mv) = #[.string ⟨xp.toArray⟩, .int .i64 kind, .int .u32 mode, .int .u32 uid, .int .u32 gid, .int .i64 time, .slice aa la ca, .slice ad ld cd, .string ⟨link.toArray⟩]) := ⟨rfl⟩
      rw [HMC.out] at hld
      have HPA := Keep.keep (fun w => parent_any xp (by omega) w)
      have HAB := Keep.keep (fun w => above_any xp (by omega) w)
      have HKM : Keep (keysM (xp, ⟨kind, mode, uid, gid, time, attrs, data, link⟩) = xp :: (aboveP xp ++ [[]])) := ⟨rfl⟩
      have HABL : Keep ((aboveP xp).length ≤ xp.length ∧ ∀ q ∈ aboveP xp, q.length ≤ xp.length) := ⟨by
        have := abvT_len xp xp.length
        rw [abvT_all] at this
        exact ⟨this, fun q hq => above_mem_len hq⟩⟩
      have hdl : (parentP xp).length ≤ xp.length := by unfold parentP; simp; omega
      rw [HKM.out] at HFT
      obtain ⟨dir, hdir⟩ : ∃ d, parentP xp = d := ⟨_, rfl⟩
      have HPR : Keep (∀ y : Mb, y = (xp, ⟨kind, mode, uid, gid, time, attrs, data, link⟩) → parentP y.1 = dir) := ⟨fun y e => by rw [e]; exact hdir⟩
      rw [hdir] at HPA hdl
      clear hdir
      generalize aboveP xp = ab at *
      clear hsx
      go_upto_region 5 with ((with_reducible refine arm_loadM hld ?_ ?_); (focus rfl); simp only [Act.put, List.setIfInBounds_toArray, List.set_cons_succ, List.set_cons_zero])
      obtain ⟨b5, hb5⟩ : ∃ b5, wr.heap.size = b5 := ⟨_, rfl⟩
      refine wp_world (R := fun w3 => Hp NoM w w3 [rowA b0 110 #[.map none, .map none, .map none, .nilFunc], msA 9 (b0 + 1) M1, namA b0 (b0 + 2) M2 (L.take k), msA 9 (b0 + 3) Y, rowA (b0 + 4) 110 #[.map (some (b0 + 1)), .map (some (b0 + 2)), .map (some (b0 + 3)), .func (.func 18) #[.pointer (some ⟨T, 0, none⟩)] #[]], sameA (fun b => w1.heap.size ≤ b ∧ b < w2.heap.size) w2, rowA b5 41 #[.string ⟨xp.toArray⟩, .int .i64 kind, .int .u32 mode, .int .u32 uid, .int .u32 gid, .int .i64 time, .slice aa la ca, .slice ad ld cd, .string ⟨link.toArray⟩]]) (by have := HH.out.newRow 41 #[.string ⟨xp.toArray⟩, .int .i64 kind, .int .u32 mode, .int .u32 uid, .int .u32 gid, .int .i64 time, .slice aa la ca, .slice ad ld cd, .string ⟨link.toArray⟩]; rw [hb5] at this; exact this) ?_
      intro w3 H3
      rw [hb5]
      have hla : (Instr.loadAt 39 (.pointer (some ⟨b5, 1, none⟩))).run Tryz.prog w3 = .ok (.agg #[.int .i64 kind, .int .u32 mode, .int .u32 uid, .int .u32 gid, .int .i64 time, .slice aa la ca, .slice ad ld cd, .string ⟨link.toArray⟩]) w3 := by
        have := run_loadAt_mid (P := Tryz.prog) w3 b5 1 39 [.int .i64 kind, .int .u32 mode, .int .u32 uid, .int .u32 gid, .int .i64 time, .slice aa la ca, .slice ad ld cd, .string ⟨link.toArray⟩] _ (fun j z hj => ((H3.out.row 6 rfl).cell (i := 1 + j) (by rw [Nat.add_comm]; simpa using hj))) Tryz.underlying39 rfl (by kernel_rfl)
        simpa using this
      have c30 := (H3.out.row 4 rfl).cell (i := 0) rfl
      have c50 := (H3.out.row 6 rfl).cell (i := 0) rfl
      have hm1 : MapS w3 9 (b0 + 1) M1 := H3.out.get 1 rfl
      have HM1 := Keep.keep hm1
      clear hm1 hld HH
      go_wp2_with (first | ((with_reducible refine arm_loadM hla ?_ ?_); (focus rfl); simp only [Act.put, List.setIfInBounds_toArray, List.set_cons_succ, List.set_cons_zero]) | (first | (with_reducible refine arm_sRange ?_) | (with_reducible refine arm_sNext ?_) | (with_reducible refine arm_sDel ?_) | (with_reducible refine arm_sPut ?_) | (with_reducible refine arm_sIns ?_)))
      refine StM.out ?_
      refine arm_putS Tryz.underlying9 Tryz.underlying86 HM1.out (p := xp) (u := .agg #[.int .i64 kind, .int .u32 mode, .int .u32 uid, .int .u32 gid, .int .i64 time, .slice aa la ca, .slice ad ld cd, .string ⟨link.toArray⟩]) (by unfold maxLen; omega) (by unfold maxLen; omega) rfl rfl rfl ?_
      intro w4 hm4 hc4
      have H4 := Keep.keep (H3.out.upd 1 rfl (msA 9 (b0 + 1) (SM.put M1 (xp, .agg #[.int .i64 kind, .int .u32 mode, .int .u32 uid, .int .u32 gid, .int .i64 time, .slice aa la ca, .slice ad ld cd, .string ⟨link.toArray⟩]))) hc4 hm4 (fun b hb => .inl hb))
      have HNO4 : Keep (NodesIsO w2 (fun b => w1.heap.size ≤ b ∧ b < w2.heap.size) (SM.put M1 (xp, .agg #[.int .i64 kind, .int .u32 mode, .int .u32 uid, .int .u32 gid, .int .i64 time, .slice aa la ca, .slice ad ld cd, .string ⟨link.toArray⟩])) (L.take (k + 1))) := ⟨by
        rw [HTK.out]
        exact NodesIsO.put (x := (xp, ⟨kind, mode, uid, gid, time, attrs, data, link⟩)) HM1.out.s HNO.out HNE.out HND.out⟩
      have HL4 : Keep ((SM.put M1 (xp, .agg #[.int .i64 kind, .int .u32 mode, .int .u32 uid, .int .u32 gid, .int .i64 time, .slice aa la ca, .slice ad ld cd, .string ⟨link.toArray⟩])).length ≤ k + 1) := ⟨by rw [HM1.out.s.length_put]; split <;> omega⟩
      generalize SM.put M1 (xp, .agg #[.int .i64 kind, .int .u32 mode, .int .u32 uid, .int .u32 gid, .int .i64 time, .slice aa la ca, .slice ad ld cd, .string ⟨link.toArray⟩]) = M1' at *
      clear hm4 hc4 H3 HM1 hla c30 c50 HNO
      simp only [Act.put]
      have c50 := (H4.out.row 6 rfl).cell (i := 0) rfl
      go_wp2_with fail
      refine (HPA.out w4).mono ?_
      rintro e w5 ⟨rfl, rfl⟩
      go_upto_region 7 with fail
      have hnm : NamesIn w4 b0 (b0 + 2) M2 (L.take k) := H4.out.get 2 rfl
      obtain ⟨vK, hvK⟩ : ∃ v, (SM.look M2 dir).getD nilV = v := ⟨_, rfl⟩
      have HVK := Keep.keep hvK
      have HOK : Keep (OwnS w4 b0 vK ((kids dir (L.take k)).map (·.1))) := ⟨by rw [← hvK]; exact hnm.at dir⟩
      have HKL : Keep (((kids dir (L.take k)).map (·.1)).length ≤ k) := ⟨by
        rw [List.length_map]
        unfold kids
        exact Nat.le_trans (List.length_filter_le _ _) (by rw [List.length_take]; omega)⟩
      have HNM := Keep.keep hnm
      have HOB : Keep (∀ b, vK.ownBlock = some b → b ≠ b0 + 2 ∧ b ≠ b0 + 4 ∧ b ≠ b5) := ⟨fun b hb => by
        have hl : SM.look M2 dir = some vK := by
          cases hl : SM.look M2 dir with
          | none => rw [hl] at hvK; subst hvK; cases hb
          | some u => rw [hl] at hvK; rw [show u = vK from hvK]
        refine ⟨hnm.ne _ _ b hl hb, fun e => ?_, fun e => ?_⟩
        · have := H4.out.d 2 4 _ _ rfl rfl b (.inr ⟨_, _, hl, hb⟩) e; omega
        · have := H4.out.d 2 6 _ _ rfl rfl b (.inr ⟨_, _, hl, hb⟩) e; omega⟩
      obtain ⟨aK, cK, hvK2, -⟩ := (ownsV_reads HOK.out).shape
      obtain ⟨nK, hnK⟩ : ∃ n, ((kids dir (L.take k)).map (·.1)).length = n := ⟨_, rfl⟩
      have HNK := Keep.keep hnK
      rw [hnK] at hvK2
      clear hnm hvK hnK
      subst hvK2
      have hr4 := (H4.out.row 4 rfl).lt
      have hr6 := (H4.out.row 6 rfl).lt
      have hmb4 := HNM.out.map.lt
      refine wp_region_one 11 10 [31, 32, 33, 34, 35, 36, 37, 38, 39, 40, 41] (ofC w4 b0 (.slice aK nK cK) ((kids dir (L.take k)).map (·.1) ++ [xp])) (ofT (b0 + 2) (b0 + 4) b5 dir xp (.slice aK nK cK)) (fun w w' => Chg (fun j => (Value.slice aK nK cK).ownBlock = some j) w.heap.size w w') (by kernel_rfl) rfl rfl (by decide) (by show ∀ d ∈ _, d < 66; decide) (by kernel_rfl) (by kernel_rfl) (by decide) (Below.refl _ _).drew (fun i v w w' h hb => ofT_stays i v w w' h hb) ?_ ?_ ?_
      · intro q hq hqc b a1 w5 hF hC hT
        have hsz : a1.tmps.size = 66 := hF.size
        have t3 : a1.eval (.tmp 3) = .pointer (some ⟨b0 + 4, 0, none⟩) := (hF.same 3 (by decide)).trans rfl
        have t5 : a1.eval (.tmp 5) = .pointer (some ⟨b5, 0, none⟩) := (hF.same 5 (by decide)).trans rfl
        have t6 : a1.eval (.tmp 6) = .string ⟨dir.toArray⟩ := (hF.same 6 (by decide)).trans rfl
        have hch := ofC_chg hC
        have RS := (H4.out.row 4 rfl).chg hch hr4 (fun e => (HOB.out _ e).2.1 rfl)
        have RM := (H4.out.row 6 rfl).chg hch hr6 (fun e => (HOB.out _ e).2.2 rfl)
        have hon : ∀ s : Nat → Value, s 41 = slot a1 41 → ofC w4 b0 (.slice aK nK cK) ((kids dir (L.take k)).map (·.1) ++ [xp]) b s w5 := fun s hs => ofC_on hC hs (Below.refl _ _)
        have hkr : Chg (fun j => (Value.slice aK nK cK).ownBlock = some j) w5.heap.size w5 w5 := .refl _ _ _
        rcases (by omega : q = 0 ∨ q = 1 ∨ q = 2 ∨ q = 3 ∨ q = 4 ∨ q = 5 ∨ q = 6 ∨ q = 7 ∨ q = 8 ∨ q = 9) with rfl | rfl | rfl | rfl | rfl | rfl | rfl | rfl | rfl | rfl
        · exact one_val (d := 31) rfl (by omega) (run_fieldAddr (m := 0) Tryz.underlying110 rfl (by kernel_rfl) t3) (fun s _ h => hon s (h 41 (by decide))) hkr rfl
        · have hx : a1.eval (.tmp 31) = .pointer (some ⟨b0 + 4, 1, none⟩) := hT 0 (by decide) (by kernel_rfl)
          exact one_val (d := 32) rfl (by omega) (run_loadCell (run_isAgg_plain Tryz.underlying108 rfl) (RS.cell (i := 1) rfl) hx) (fun s _ h => hon s (h 41 (by decide))) hkr rfl
        · exact one_val (d := 33) rfl (by omega) run_move (fun s _ h => hon s (h 41 (by decide))) hkr t6
        · exact one_val (d := 34) rfl (by omega) (run_fieldAddr (m := 0) Tryz.underlying110 rfl (by kernel_rfl) t3) (fun s _ h => hon s (h 41 (by decide))) hkr rfl
        · have hx : a1.eval (.tmp 34) = .pointer (some ⟨b0 + 4, 1, none⟩) := hT 3 (by decide) (by kernel_rfl)
          exact one_val (d := 35) rfl (by omega) (run_loadCell (run_isAgg_plain Tryz.underlying108 rfl) (RS.cell (i := 1) rfl) hx) (fun s _ h => hon s (h 41 (by decide))) hkr rfl
        · exact one_val (d := 36) rfl (by omega) run_move (fun s _ h => hon s (h 41 (by decide))) hkr t6
        · have hx : a1.eval (.tmp 35) = .map (some (b0 + 2)) := hT 4 (by decide) (by kernel_rfl)
          have hy : a1.eval (.tmp 36) = .string ⟨dir.toArray⟩ := hT 5 (by decide) (by kernel_rfl)
          have hm5 : MapS w5 9 (b0 + 2) M2 := HNM.out.map.loc (hch.block _ hmb4 (fun e => (HOB.out _ e).1 rfl))
          have hl := hm5.look1 Tryz.underlying9 Tryz.underlying108 (zeroSt w5) (p := dir) (by unfold maxLen; omega)
          rw [HVK.out] at hl
          exact one_val (d := 37) rfl (by omega) (v := .slice aK nK cK) (by simp [execOp, hx, hy, hl]) (fun s _ h => hon s (h 41 (by decide))) hkr rfl
        · exact one_val (d := 38) rfl (by omega) (run_fieldAddr (m := 0) Tryz.underlying41 rfl (by kernel_rfl) t5) (fun s _ h => hon s (h 41 (by decide))) hkr rfl
        · have hx : a1.eval (.tmp 38) = .pointer (some ⟨b5, 0, none⟩) := hT 7 (by decide) (by kernel_rfl)
          exact one_val (d := 39) rfl (by omega) (run_loadCell (run_isAgg_plain Tryz.underlying9 rfl) (RM.cell (i := 0) rfl) hx) (fun s _ h => hon s (h 41 (by decide))) hkr rfl
        · have hx : a1.eval (.tmp 39) = .string ⟨xp.toArray⟩ := hT 8 (by decide) (by kernel_rfl)
          have hal2 : Below w5.heap.size w5 (w5.alloc (.cells (a1.eval (.tmp 39)).cells 9)) := (Below.refl _ _).alloc (Nat.le_refl _) _
          refine one_val (d := 40) rfl (by omega) (run_build1 slS (by decide) (by rw [hx]; rfl)) (fun s _ h => ofC_on hC (h 41 (by decide)) hal2) (.of_below hal2) ?_
          rw [hx]
          refine ⟨w5.heap.size, rfl, RdV.new 9 [.string ⟨xp.toArray⟩] 1 1 w5.heap.size rfl rfl (by unfold maxLen; omega) rfl, by simp, fun e => ?_⟩
          have := (World.ownsRow.lt HOK.out _ e).2
          have := hch.size
          omega
      · intro a1 w5 hF hC hT
        have hsz : a1.tmps.size = 66 := hF.size
        have hC : Below w4.heap.size w4 w5 := hC
        have hx : a1.eval (.tmp 37) = .slice aK nK cK := hT 6 (by decide) (by kernel_rfl)
        obtain ⟨bl, t9, hrd, hbl9, hblo⟩ : ∃ bl, slot a1 40 = .slice (some ⟨bl, 0, none⟩) 1 1 ∧ RdV w5 (fun b => b = bl) 1 (slot a1 40) 1 [.string ⟨xp.toArray⟩] ∧ bl < w5.heap.size ∧ (Value.slice aK nK cK).ownBlock ≠ some bl := hT 9 (by decide) (by kernel_rfl)
        have ho5 : OwnS w5 b0 (.slice aK nK cK) ((kids dir (L.take k)).map (·.1)) := ownsRow_loc _ _ (fun b e => hC.block b (World.ownsRow.lt HOK.out b e).2) HOK.out
        have hb05 : b0 ≤ w5.heap.size := by have := H4.out.size; have := HB0.out; have := hC.size; omega
        obtain ⟨v', w', hr, ho, hg, hov⟩ := run_appV (ρ := a1.eval) (d := some 41) (tp := 42) (pos := "differ.go:42") (af := _) (g := none) slS (m := 1) (s := .tmp 37) (x := .tmp 40) ho5 hrd (by simp [Value.oneCell']) (by unfold maxLen; rw [HNK.out]; have := HKL.out; rw [HNK.out] at this; omega) (by rw [HNK.out]; have := HKL.out; rw [HNK.out] at this; omega) hb05 hx rfl
        have hch := (chg_grown hg)
        refine one_val (d := 41) rfl (by omega) hr (fun s hs _ => ?_) hch trivial
        refine ⟨(Chg.of_below hC).trans (hch.lower hC.size), ?_, ?_⟩
        · rw [hs]
          show w'.ownsRow b0 9 1 v' ((kids dir (L.take k)).map (·.1) ++ [xp]).length (((kids dir (L.take k)).map (·.1) ++ [xp]).map strV)
          rw [List.length_append, List.map_append]
          exact ho
        · rw [hs]
          rcases hov with h | h
          · exact .inl h
          · exact .inr ⟨_, h, hC.size⟩
      · intro a2 w6 ha hC hT
        obtain ⟨hch6, ho6, hov6⟩ := hC
        have t1 : a2.eval (.tmp 32) = .map (some (b0 + 2)) := hT 1 (by decide)
        have t2 : a2.eval (.tmp 33) = .string ⟨dir.toArray⟩ := hT 2 (by decide)
        have t3 : a2.eval (.tmp 41) = slot a2 41 := rfl
        have hmap6 : MapS w6 9 (b0 + 2) M2 := HNM.out.map.loc (hch6.block _ hmb4 (fun e => (HOB.out _ e).1 rfl))
        obtain ⟨w7, hr7, hm7, hc7⟩ := hmap6.put Tryz.underlying9 Tryz.underlying108 (p := dir) (by unfold maxLen; omega) (by unfold maxLen; omega) (slot a2 41)
        have hput := NamesIn.put (x := (xp, ⟨kind, mode, uid, gid, time, attrs, data, link⟩)) HNM.out hmb4 (by rw [HPR.out _ rfl]; exact HVK.out) (by rw [HPR.out _ rfl]; exact ho6) hch6 hov6 (by rw [HPR.out _ rfl]; exact hm7) hc7
        rw [HPR.out _ rfl] at hput
        obtain ⟨M2', hM2'⟩ : ∃ M, SM.put M2 (dir, slot a2 41) = M := ⟨_, rfl⟩
        have HL2 : Keep (M2'.length ≤ k + 1) := ⟨by rw [← hM2', hmap6.s.length_put]; split <;> omega⟩
        rw [hM2', ← HTK.out] at hput
        have hcx : Chg (fun j => (namA b0 (b0 + 2) M2 (L.take k)).blk j) w4.heap.size w4 w7 := by
          refine (hch6.mono (Nat.le_refl _) (fun j hj => ?_)).trans ((hc7.lower hch6.size).mono (Nat.le_refl _) (fun j hj => .inl hj))
          right
          have hl : SM.look M2 dir = some (.slice aK nK cK) := by
            have := HVK.out
            cases hl : SM.look M2 dir with
            | none => rw [hl] at this; rw [← show nilV = _ from this] at hj; cases hj
            | some u => rw [hl] at this; rw [show u = _ from this]
          exact ⟨_, _, hl, hj⟩
        have H7 := Keep.keep (H4.out.upd 2 rfl (namA b0 (b0 + 2) M2' (L.take (k + 1))) hcx hput.1 (fun b hb => by
          rcases hb with h | h
          · exact .inl (.inl h)
          · obtain ⟨d, u, hd, hu⟩ := h
            rcases hput.2 b ⟨d, u, hd, hu⟩ with h2 | h2
            · exact .inl (.inr h2)
            · exact .inr ⟨h2, (World.ownsRow.lt (hput.1.own d u hd) b hu).2⟩))
        refine one_last rfl (w2 := w7) (by simp [execOp, t1, t2, t3, hr7, Result.andThen]) ⟨rfl, ?_⟩
        simp only [List.foldl_cons, List.foldl_nil] at ha
        clear hT t1 t2 t3 hch6 ho6 hov6 hmap6 hr7 hm7 hc7 hput hM2' hcx H4 c50 HOK HNM HOB HVK HKL HNK hr4 hr6 hmb4
        generalize slot a2 31 = y31 at *
        generalize slot a2 32 = y32 at *
        generalize slot a2 33 = y33 at *
        generalize slot a2 34 = y34 at *
        generalize slot a2 35 = y35 at *
        generalize slot a2 36 = y36 at *
        generalize slot a2 37 = y37 at *
        generalize slot a2 38 = y38 at *
        generalize slot a2 39 = y39 at *
        generalize slot a2 40 = y40 at *
        generalize slot a2 41 = y41 at *
        subst ha
        simp only [Act.put, List.setIfInBounds_toArray, List.set_cons_succ, List.set_cons_zero]
        have k42 := (H7.out.row 4 rfl).cell (i := 2) rfl
        have c50 := (H7.out.row 6 rfl).cell (i := 0) rfl
        have hmY : MapS w7 9 (b0 + 3) Y := H7.out.get 3 rfl
        have HMY := Keep.keep hmY
        have hlk := hmY.look1 Tryz.underlying9 Tryz.underlying73 (zeroI w7) (p := xp) (by unfold maxLen; omega)
        rw [HCN.out xp] at hlk
        dsimp only at hlk
        have hkb : k * 400002 ≤ 100000 * 400002 := Nat.mul_le_mul_right _ (by omega)
        have hlb := HLB.out
        generalize (L.take k).flatMap keysM = ks at *
        have hcb : ks.count xp ≤ ks.length := List.count_le_length
        have HP8 := Keep.keep (CntIs.put HMY.out.s HCN.out xp)
        have HL8 : Keep ((SM.put Y (xp, .int .i64 (((ks.count xp : Nat) : Int) + 1))).length ≤ ks.length + 1) := ⟨by rw [HMY.out.s.length_put]; split <;> omega⟩
        generalize hcc : ks.count xp = cc at *
        clear hmY hcc
        go_wp2_with (first | (with_reducible refine arm_sRange ?_) | (with_reducible refine arm_sNext ?_) | (with_reducible refine arm_sDel ?_) | (with_reducible refine arm_sPut ?_) | (with_reducible refine arm_sIns ?_))
        refine StM.out ?_
        refine arm_putS Tryz.underlying9 Tryz.underlying73 HMY.out (p := xp) (u := .int .i64 ((cc : Int) + 1)) (by unfold maxLen; omega) (by unfold maxLen; omega) rfl rfl rfl ?_
        intro w8 hm8 hc8
        have H8 := Keep.keep (H7.out.upd 3 rfl (msA 9 (b0 + 3) (SM.put Y (xp, .int .i64 ((cc : Int) + 1)))) hc8 hm8 (fun b hb => .inl hb))
        generalize SM.put Y (xp, .int .i64 ((cc : Int) + 1)) = Y1 at *
        clear hm8 hc8 H7 HMY hlk k42 c50 HCN hcb
        simp only [Act.put]
        have c50 := (H8.out.row 6 rfl).cell (i := 0) rfl
        go_wp2_with fail
        refine (HAB.out w8).mono ?_
        rintro e w9 ⟨v50, rfl, ho50, hb9⟩
        have H9 := Keep.keep (H8.out.push (slA w8.heap.size 9 1 v50 ab.length (ab.map strV)) (.of_below hb9) ho50 (fun b hb => World.ownsRow.lt ho50 b hb))
        have hs9 := hb9.size
        obtain ⟨a50, c50', hv50, -⟩ := (ownsV_reads ho50).shape
        have habl := HABL.out.1
        clear ho50 hb9 H8 c50 HAB
        subst hv50
        go_wp2_with (with_reducible refine arm_stop ?_)
        refine Stopped.out ?_
        refine arm_appendV slS (m := 1) ((H9.out.alloc _).sl 7 rfl) (RdV.new (N := fun _ => True) 9 [strV []] 1 1 _ rfl rfl (by unfold maxLen; omega) trivial) (by simp [strV, Value.oneCell']) (by unfold maxLen; omega) (by omega) (by simp; omega) rfl rfl ?_
        intro v52 w10 ho hg hov _
        have H10 := Keep.keep ((H9.out.alloc _).grow 7 rfl hg ho hov)
        obtain ⟨g52, c52, rfl⟩ : ∃ g c, v52 = .slice (some ⟨g, 0, none⟩) (ab.length + 1) c := by
          rcases ho.2 with ⟨_, h⟩ | ⟨g, cap, cur, h, _⟩
          · omega
          · exact ⟨g, cap, h⟩
        clear ho hg hov H9
        simp only [Act.put, List.setIfInBounds_toArray, List.set_cons_succ, List.set_cons_zero]
        obtain ⟨abl, habl2⟩ : ∃ l, ab ++ [([] : Tx)] = l := ⟨_, rfl⟩
        have HABE : Keep (abl.length = ab.length + 1 ∧ (∀ q ∈ abl, q.length ≤ xp.length) ∧ ab.map strV ++ [strV []] = abl.map strV ∧ (L.take (k + 1)).flatMap keysM = ks ++ (xp :: abl)) := ⟨by rw [← habl2]; simp, fun q hq => by
          rw [← habl2] at hq
          rcases List.mem_append.1 hq with hq | hq
          · exact HABL.out.2 q hq
          · obtain rfl : q = [] := by simpa using hq
            exact Nat.zero_le _, by rw [← habl2]; simp, by rw [← habl2]; exact HFT.out⟩
        obtain ⟨na, hna⟩ : ∃ n, ab.length + 1 = n := ⟨_, rfl⟩
        rw [hna, HABE.out.2.2.1] at H10
        rw [hna] at HABE
        rw [hna]
        have hnab : na ≤ 400001 := by omega
        clear habl2 hna habl
        go_wp2_with fail
        go_loopg [8, 54] na (fun g _ u54 wx => ∃ (j : Nat) (Y' : List (Tx × Value)), j + g = na ∧ u54 = .int .i64 (j : Int) ∧ Y'.length ≤ ks.length + 1 + j ∧ CntIs Y' (ks ++ [xp] ++ abl.take j) ∧
          Hp NoM w wx [rowA b0 110 #[.map none, .map none, .map none, .nilFunc], msA 9 (b0 + 1) M1', namA b0 (b0 + 2) M2' (L.take (k + 1)), msA 9 (b0 + 3) Y', rowA (b0 + 4) 110 #[.map (some (b0 + 1)), .map (some (b0 + 2)), .map (some (b0 + 3)), .func (.func 18) #[.pointer (some ⟨T, 0, none⟩)] #[]], sameA (fun b => w1.heap.size ≤ b ∧ b < w2.heap.size) w2, rowA b5 41 #[.string ⟨xp.toArray⟩, .int .i64 kind, .int .u32 mode, .int .u32 uid, .int .u32 gid, .int .i64 time, .slice aa la ca, .slice ad ld cd, .string ⟨link.toArray⟩], slA w8.heap.size 9 1 (.slice (some ⟨g52, 0, none⟩) na c52) na (abl.map strV)])
        case atStart => exact ⟨0, Y1, by omega, rfl, HL8.out, by rw [List.take_zero, List.append_nil]; exact HP8.out, H10.out⟩
        case round =>
          obtain ⟨j, Y', hjg, rfl, hlY', hcnt, hH⟩ := hrel
          have HC2 := Keep.keep hcnt; have HH := Keep.keep hH
          clear hcnt hH H10
          cases gk with
          | zero =>
            obtain rfl : j = na := by omega
            have HTA : Keep (abl.take j = abl) := ⟨List.take_of_length_le (by rw [HABE.out.1]; exact Nat.le_refl _)⟩
            have HC3 : Keep (CntIs Y' ((L.take (k + 1)).flatMap keysM)) := ⟨by
              have := HC2.out
              rw [HTA.out, List.append_assoc] at this
              rw [HABE.out.2.2.2]; exact this⟩
            have HL3 : Keep (Y'.length ≤ ((L.take (k + 1)).flatMap keysM).length) := ⟨by
              rw [HABE.out.2.2.2, List.length_append, List.length_cons, HABE.out.1]; omega⟩
            go_wp2_with fail
            go_roundg g
            case measure => omega
            case rel => exact ⟨k + 1, M1', M2', Y', by omega, by simp, HL4.out, HL2.out, HL3.out, HNO4.out, HC3.out, HH.out.init.init⟩
          | succ g2 =>
            have hj : j < abl.length := by rw [HABE.out.1]; omega
            have hcell := (ownsV_reads (HH.out.sl 7 rfl)).cell g52 0 _ _ rfl j (strV abl[j]) (by simp [hj])
            have hql := HABE.out.2.1 abl[j] (List.getElem_mem hj)
            have HTJ : Keep (abl.take (j + 1) = abl.take j ++ [abl[j]]) := ⟨List.take_succ_eq_append_getElem hj⟩
            generalize abl[j] = q at *
            unfold strV at hcell
            rw [Nat.zero_add] at hcell
            have k42 := (HH.out.row 4 rfl).cell (i := 2) rfl
            have hmY : MapS wr 9 (b0 + 3) Y' := HH.out.get 3 rfl
            have HMY := Keep.keep hmY
            have hlk := hmY.look1 Tryz.underlying9 Tryz.underlying73 (zeroI wr) (p := q) (by unfold maxLen; omega)
            rw [HC2.out q] at hlk
            dsimp only at hlk
            have hcb : (ks ++ [xp] ++ abl.take j).count q ≤ ks.length + 1 + j := by
              refine Nat.le_trans List.count_le_length ?_
              simp; omega
            have HP9 := Keep.keep (CntIs.put HMY.out.s HC2.out q)
            have HL9 : Keep ((SM.put Y' (q, .int .i64 ((((ks ++ [xp] ++ abl.take j).count q : Nat) : Int) + 1))).length ≤ ks.length + 1 + (j + 1)) := ⟨by rw [HMY.out.s.length_put]; split <;> omega⟩
            have htj : ks ++ [xp] ++ abl.take j ++ [q] = ks ++ [xp] ++ abl.take (j + 1) := by rw [HTJ.out, List.append_assoc (ks ++ [xp])]
            rw [htj] at HP9
            clear htj
            generalize hcc : (ks ++ [xp] ++ abl.take j).count q = cc2 at *
            have hcb2 : cc2 ≤ 50000000000 := by omega
            have hYb : Y'.length ≤ 50000000000 := by omega
            clear hmY hcc HTJ hcb hlb hkb hlY hlY'
            go_wp2_with (first | (with_reducible refine arm_sRange ?_) | (with_reducible refine arm_sNext ?_) | (with_reducible refine arm_sDel ?_) | (with_reducible refine arm_sPut ?_) | (with_reducible refine arm_sIns ?_))
            refine StM.out ?_
            refine arm_putS Tryz.underlying9 Tryz.underlying73 HMY.out (p := q) (u := .int .i64 ((cc2 : Int) + 1)) (by unfold maxLen; omega) (by unfold maxLen; omega) rfl rfl rfl ?_
            intro w11 hm11 hc11
            have H11 := Keep.keep (HH.out.upd 3 rfl (msA 9 (b0 + 3) (SM.put Y' (q, .int .i64 ((cc2 : Int) + 1)))) hc11 hm11 (fun b hb => .inl hb))
            generalize SM.put Y' (q, .int .i64 ((cc2 : Int) + 1)) = Y2 at *
            clear hm11 hc11 HH HMY hlk k42 hcell HC2 hcb2
            simp only [Act.put]
            go_wp2_with fail
            go_roundg g2
            case measure => omega
            case rel => exact ⟨j + 1, Y2, by omega, by simp, HL9.out, HP9.out, H11.out⟩
end Go.Proofs.YtmnknmpfkjhgbaaGreatDoor
/- As in DfSort, with nodes whose slices are rows of their types (printed by gen_o.py). -/
namespace Go.Proofs.YtmnknmpfkjhgbaaGreatDoor
open Go.RowKit Go.Sort Go.Shelf
instance : Inhabited MvS := ⟨⟨(([], nd0), nilV, nilV), ⟨none, 0, 0, none, 0, 0, rfl, rfl⟩⟩⟩
set_option maxHeartbeats 1000000 in
theorem sort_mbO (base : Nat) (K : Nat → Prop) (v : Value) (l : List Mv) (w : World) (hB : base ≤ w.heap.size) (h : RowO base K w v l) (hl : l.length ≤ 1000000000000) :
    Calls Tryz.prog 81 #[v, .func (.func 82) #[] #[]] w fun e w' => e = .returned (.tuple #[]) ∧ (∃ l', RowO base K w' v l' ∧ l'.Perm l ∧ l'.Pairwise (fun x y => x.1.1 ≤ y.1.1)) ∧ Below base w w' := by
  have h0 := h
  rcases h.own.2 with ⟨rfl, hz⟩ | ⟨g, cap, cur, rfl, hb, hh, hn, hm, hs, ht⟩
  · obtain rfl : l = [] := List.eq_nil_of_length_eq_zero hz
    refine (AnyF.slices_SortFunc_none Tryz.sortMb none 0 _ w).mono ?_
    rintro e w' ⟨rfl, rfl⟩
    exact ⟨rfl, ⟨[], h0, List.Perm.refl _, List.Pairwise.nil⟩, Below.refl _ _⟩
  · obtain ⟨ls, rfl⟩ := list_sub l (fun x hx => (h.nd x hx).shape)
    have hlt : g < w.heap.size := (Array.getElem?_eq_some_iff.1 hh).1
    have hsz : ls.toArray.size = (ls.map (·.1)).length := by simp
    have hH : HoldsK encS 9 w g 0 ls.toArray := by
      intro j hj
      rw [size_flatK, hsz] at hj
      have h1 := flat_get ls.toArray j (by rw [hsz]; exact hj)
      rw [Nat.zero_add, h.own.cellAt j hj, h.own.frozenAt j]
      exact ⟨h1, rfl⟩
    have hcon := AnyQ.slices_SortFunc Tryz.sortMb 9 (fun w => by kernel_rfl) (fun w => by kernel_rfl) encS (fun x => mcell_len x.1) (fun x v hv => by
      have := mcells_one (l := [x.1]) (fun y hy => by rw [List.mem_singleton.1 hy]; exact x.2) v (by rw [mcells_cons]; exact List.mem_append_left _ hv)
      exact this) cfS swoS 82 #[] g 0 cap ls.toArray w ent_all1 (fun m os dk _ x y => all1_any x y _) hH hlt (by rw [hsz]; omega)
    rw [hsz] at hcon
    refine hcon.mono ?_
    rintro e w' ⟨rfl, d', n, os, ⟨hp1, _, hp3⟩, hs2, rfl⟩
    have hd' : d'.size = (ls.map (·.1)).length := by rw [hp1, hsz]
    have hperm : d'.toList.Perm ls := by
      have e1 : d'.extract 0 (ls.map (·.1)).length = d' := by rw [← hd']; simp
      have e2 : ls.toArray.extract 0 (ls.map (·.1)).length = ls.toArray := by rw [← hsz]; simp
      rw [e1, e2] at hp3
      exact hp3
    have hlen : (d'.toList.map (·.1)).length = (ls.map (·.1)).length := by simpa using hd'
    have hF : (flatK encS 9 d').size = (ls.map (·.1)).length * 9 := by rw [size_flatK, hd']
    have hgr := grownBy_sortedK (w := w) (g := g) (n := n) (os := os) (flatK encS 9 d')
    refine ⟨rfl, ⟨d'.toList.map (·.1), ⟨?_, fun x hx => ?_⟩, hperm.map _, ?_⟩, ?_⟩
    · rw [hlen]
      refine ⟨by rw [mcells_length, hlen], .inr ⟨g, cap, _, rfl, hb, heap_sortedK _ hh, hn, hm, by simp [putCells, hs], ?_⟩⟩
      rw [← hF, take_putCellsK _ _ (by rw [hF, hs]; exact Nat.mul_le_mul_right 9 hn), flat_list]
    · have hx2 : x ∈ ls.map (·.1) := (hperm.map _).mem_iff.1 hx
      refine ((h.nd x hx2).loc (fun b e => hgr.block b e.2.1 (fun e2 => e.2.2 (by injection e2 with e2; rw [e2]; rfl)))).mono (fun b e => ⟨e.1, Nat.lt_of_lt_of_le e.2.1 hgr.size, e.2.2⟩)
    · rw [List.pairwise_map, List.pairwise_iff_getElem]
      intro i j hi hj hij
      have hjd : j < d'.size := by simpa using hj
      have := hs2 i j (Nat.zero_le _) hij (by rw [← hd']; exact hjd)
      rw [ltS, getElem!_pos d' j hjd, getElem!_pos d' i (by omega)] at this
      have h2 := of_decide_eq_false this
      rw [List.not_lt] at h2
      simpa using h2
    · exact (Chg.grown (M := NoM) (.refl _ _ _) hgr hB (fun k e => .inl (by injection e with e; omega))).below (fun _ _ h => h)
end Go.Proofs.YtmnknmpfkjhgbaaGreatDoor
/- As in DfTold, with nodes whose slices are rows of their types (printed by gen_o.py). -/
namespace Go.Proofs.YtmnknmpfkjhgbaaGreatDoor
open Go.RowKit
theorem bel_anyO (d : TD) (T : Nat) (hA : WellL d.A) (hB : WellL d.B) (hLA : d.A.length ≤ 100000) (hLB : d.B.length ≤ 100000) (hp : ∀ x, x ∈ d.A ∨ x ∈ d.B → x.1.length ≤ 400000) :
    ∀ (n : Nat) (dir : Tx) (w : World), Tabs T w → TInO w d → dir.length ≤ 400000 → (dir = [] ∨ dirB d.B dir = true) → (∀ x, x ∈ d.A ∨ x ∈ d.B → x.1.length < n + dir.length) →
    Calls Tryz.prog 120 #[.string ⟨dir.toArray⟩, .pointer (some ⟨d.ba, 0, none⟩), .pointer (some ⟨d.bb, 0, none⟩), .pointer (some ⟨d.bo, 0, none⟩)] w (BelAnsO d (belF d.A d.B (ksT d.A d.B) n dir) w) := by
  intro n
  induction n with
  | zero =>
    intro dir w hT h hdl hdir hf
    rw [bel_step hA hB (ksT_kids hA hB) 0 dir hf]
    exact below_anyO d _ dir T w hT hA hB hLA hLB hdl hdir (fun c => by
      have := bel_len d.A d.B (ksT d.A d.B) (0 - 1) c
      have h2 := List.countP_le_length (p := fun q : Mb => underP c q.1) (l := d.B)
      omega) h (fun c hc wx hb => by
      have := kid_facts hA hB hf hp hc
      omega)
  | succ n ih =>
    intro dir w hT h hdl hdir hf
    rw [bel_step hA hB (ksT_kids hA hB) (n + 1) dir hf]
    have hlen : ∀ c, (belF d.A d.B (ksT d.A d.B) n c).length ≤ 1 + d.B.length := fun c => by
      have := bel_len d.A d.B (ksT d.A d.B) n c
      have h2 := List.countP_le_length (p := fun q : Mb => underP c q.1) (l := d.B)
      omega
    refine below_anyO d _ dir T w hT hA hB hLA hLB hdl hdir hlen h (fun c hc wx hb => ?_)
    obtain ⟨f1, f2, f3⟩ := kid_facts hA hB hf hp hc
    refine one_anyO d c _ T wx (hT.on (hb.mono hT.b)) f1 hLB (Nat.le_trans (hlen c) (by omega)) (h.below hb) (fun ⟨y, hy, hk⟩ wy hb2 => ?_)
    refine ih c wy ((hT.on (hb.mono hT.b)).on (hb2.mono (hT.on (hb.mono hT.b)).b)) ((h.below hb).below hb2) f1 (.inr (dirB_iff.2 ⟨y, hy, hk⟩)) (fun x hx => ?_)
    have := hf x hx
    omega
theorem RowO.widen {B B' : Nat} {K : Nat → Prop} {w : World} {v : Value} {l : List Mv} (h : RowO B K w v l) (hB : B' ≤ B) (hK : ∀ b, K b → B' ≤ b) : RowO B' NoM w v l :=
  ⟨ownsRow_base h.own hB, fun x hx => (h.nd x hx).mono (fun b e => ⟨.inr (e.1.elim (hK b) (Nat.le_trans hB)), e.2⟩)⟩
set_option maxHeartbeats 4000000 in
set_option maxRecDepth 100000 in
theorem told_anyO (na ma ya Ta nb mb yb Tb tb : Nat) (Na Nb Bk : Nat → Prop) (f : Tx → Value × Value) (A B : List Mb) (T : Nat) (w : World) (hT : Tabs T w) (hA : WellL A) (hB : WellL B) (hLA : A.length ≤ 100000) (hLB : B.length ≤ 100000) (hp : ∀ x, x ∈ A ∨ x ∈ B → x.1.length ≤ 400000)
    (sa : SideInO w Na na ma ya A) (sb : SideInO w Nb nb mb yb B) (tr : TreeIn w Tb tb Bk f B) (lt : ∀ b, Na b ∨ Nb b ∨ Bk b → b < w.heap.size) :
    Calls Tryz.prog 79 #[.agg #[.map (some na), .map (some ma), .map (some ya), .func (.func 18) #[.pointer (some ⟨Ta, 0, none⟩)] #[]], .agg #[.map (some nb), .map (some mb), .map (some yb), .func (.func 18) #[.pointer (some ⟨Tb, 0, none⟩)] #[]]] w fun e w' => ∃ v l, e = .returned v ∧ l.map (·.1) = toldL A B ∧ RowO w.heap.size Nb w' v l ∧ Below w.heap.size w w' := by
  have HBEL : Keep (∀ b0 b6 wx, Below w.heap.size w wx → TInO wx ⟨b0, b0 + 1, b0 + 1 + 1, b6, na, ma, ya, Ta, nb, mb, yb, Tb, tb, Na, Nb, Bk, f, A, B⟩ → Calls Tryz.prog 120 #[.string ⟨#[]⟩, .pointer (some ⟨b0, 0, none⟩), .pointer (some ⟨b0 + 1, 0, none⟩), .pointer (some ⟨b6, 0, none⟩)] wx (fun e w' => ∃ v l, e = .returned v ∧ l.map (·.1) = toldL A B ∧ RowO wx.heap.size Nb w' v l ∧ Below wx.heap.size wx w')) := ⟨fun b0 b6 wx hb h => bel_anyO ⟨b0, b0 + 1, b0 + 1 + 1, b6, na, ma, ya, Ta, nb, mb, yb, Tb, tb, Na, Nb, Bk, f, A, B⟩ T hA hB hLA hLB hp 500000 [] wx (hT.on (hb.mono hT.b)) h (by simp) (.inl rfl) (fun x hx => by have := hp x hx; simp; omega)⟩
  have HSA := Keep.keep sa; have HSB := Keep.keep sb; have HTR := Keep.keep tr; have HLT := Keep.keep lt
  have hent2 := ent_below
  clear hT hA hB sa sb tr lt
  go_enter Tryz.func79, Tryz.ntmps79
  go_upto_region 2 with fail
  refine wp_world (R := fun w1 => Hp NoM w w1 [rowA w.heap.size 110 #[.map (some na), .map (some ma), .map (some ya), .func (.func 18) #[.pointer (some ⟨Ta, 0, none⟩)] #[]], rowA (w.heap.size + 1) 110 #[.map (some nb), .map (some mb), .map (some yb), .func (.func 18) #[.pointer (some ⟨Tb, 0, none⟩)] #[]], rowA (w.heap.size + 1 + 1) 44 #[.nilFunc]]) ?_ ?_
  · have := (((Hp.begin NoM w).newRow 110 #[.map (some na), .map (some ma), .map (some ya), .func (.func 18) #[.pointer (some ⟨Ta, 0, none⟩)] #[]]).newRow 110 #[.map (some nb), .map (some mb), .map (some yb), .func (.func 18) #[.pointer (some ⟨Tb, 0, none⟩)] #[]]).newRow 44 #[.nilFunc]
    simpa using this
  intro w1 H1
  obtain ⟨b0, hb0⟩ : ∃ b, w.heap.size = b := ⟨_, rfl⟩
  have HB0 := Keep.keep hb0
  have hw1 : w1.heap.size = w1.heap.size := rfl
  rw [hb0] at H1 ⊢
  clear hb0 hw1
  go_wp2_with (with_reducible refine arm_sSt ?_)
  refine StM.out ?_
  refine wpList_world (R := fun w2 => Hp NoM w w2 [rowA b0 110 #[.map (some na), .map (some ma), .map (some ya), .func (.func 18) #[.pointer (some ⟨Ta, 0, none⟩)] #[]], rowA (b0 + 1) 110 #[.map (some nb), .map (some mb), .map (some yb), .func (.func 18) #[.pointer (some ⟨Tb, 0, none⟩)] #[]], rowA (b0 + 1 + 1) 44 #[.nilFunc], rowA w1.heap.size 44 #[.nilFunc]]) (H1.out.newRow _ _) ?_
  intro w2 H2
  obtain ⟨b6, hb6⟩ : ∃ b, w1.heap.size = b := ⟨_, rfl⟩
  rw [hb6] at H2 ⊢
  clear hb6 H1
  refine wpList_skip rfl (run_storeF ((H2.out.row 3 rfl).cell (i := 0) rfl) ((H2.out.row 3 rfl).frozen 0) rfl rfl) ?_
  refine wpList_world (R := fun w3 => Hp NoM w w3 [rowA b0 110 #[.map (some na), .map (some ma), .map (some ya), .func (.func 18) #[.pointer (some ⟨Ta, 0, none⟩)] #[]], rowA (b0 + 1) 110 #[.map (some nb), .map (some mb), .map (some yb), .func (.func 18) #[.pointer (some ⟨Tb, 0, none⟩)] #[]], rowA (b0 + 1 + 1) 44 #[.nilFunc], rowA b6 44 #[.func (.func 119) #[] #[.pointer (some ⟨b0, 0, none⟩), .pointer (some ⟨b0 + 1, 0, none⟩), .pointer (some ⟨b0 + 1 + 1, 0, none⟩)]]]) (H2.out.setCell 3 rfl 0 _ rfl) ?_
  intro w3 H3
  clear H2
  simp only [Act.put]
  go_wp2_with (with_reducible refine arm_sSt ?_)
  refine StM.out ?_
  refine wpList_skip rfl (run_storeF ((H3.out.row 2 rfl).cell (i := 0) rfl) ((H3.out.row 2 rfl).frozen 0) rfl rfl) ?_
  refine wpList_world (R := fun w4 => Hp NoM w w4 [rowA b0 110 #[.map (some na), .map (some ma), .map (some ya), .func (.func 18) #[.pointer (some ⟨Ta, 0, none⟩)] #[]], rowA (b0 + 1) 110 #[.map (some nb), .map (some mb), .map (some yb), .func (.func 18) #[.pointer (some ⟨Tb, 0, none⟩)] #[]], rowA (b0 + 1 + 1) 44 #[.func (.func 120) #[] #[.pointer (some ⟨b0, 0, none⟩), .pointer (some ⟨b0 + 1, 0, none⟩), .pointer (some ⟨b6, 0, none⟩)]], rowA b6 44 #[.func (.func 119) #[] #[.pointer (some ⟨b0, 0, none⟩), .pointer (some ⟨b0 + 1, 0, none⟩), .pointer (some ⟨b0 + 1 + 1, 0, none⟩)]]]) (H3.out.setCell 2 rfl 0 _ rfl) ?_
  intro w4 H4
  clear H3
  simp only [Act.put]
  have hb4 := H4.out.below
  have hsw := HB0.out
  have HTIN : Keep (TInO w4 ⟨b0, b0 + 1, b0 + 1 + 1, b6, na, ma, ya, Ta, nb, mb, yb, Tb, tb, Na, Nb, Bk, f, A, B⟩) := ⟨⟨H4.out.row 0 rfl, H4.out.row 1 rfl, H4.out.row 2 rfl, H4.out.row 3 rfl, HSA.out.loc (fun b hb => hb4.block b (by
      have := HSA.out.lt
      rcases hb with rfl | rfl | rfl | h
      · omega
      · omega
      · omega
      · exact HLT.out b (.inl h))), HSB.out.loc (fun b hb => hb4.block b (by
      have := HSB.out.lt
      rcases hb with rfl | rfl | rfl | h
      · omega
      · omega
      · omega
      · exact HLT.out b (.inr (.inl h)))), HTR.out.loc (fun b hb => hb4.block b (by
      rcases hb with rfl | rfl | h
      · exact HTR.out.row.lt
      · exact HTR.out.map.lt
      · exact HLT.out b (.inr (.inr h)))), fun b hb => Nat.lt_of_lt_of_le (HLT.out b hb) hb4.size⟩⟩
  have cw := (H4.out.row 2 rfl).cell (i := 0) rfl
  have HB4 := Keep.keep hb4
  clear hb4 hsw H4
  go_wp2_with fail
  refine (HBEL.out b0 b6 w4 HB4.out HTIN.out).mono ?_
  rintro e w5 ⟨v5, l5, rfl, hl5, hr5, hb5⟩
  have HL5 := Keep.keep hl5
  have HR5 := Keep.keep (hr5.lower HB4.out.size (fun b hb => hb))
  have HB5 := Keep.keep (HB4.out.trans (hb5.mono HB4.out.size))
  obtain ⟨a5, c5, hv5, -⟩ := (ownsV_reads hr5.own).shape
  generalize l5.length = n5 at hv5
  clear hl5 hr5 hb5 cw
  subst hv5
  go_wp2_with fail
  go_ret
  exact ⟨_, l5, rfl, HL5.out, by first | exact HR5.out | (rw [← HB0.out]; exact HR5.out), by first | exact HB5.out | (rw [← HB0.out]; exact HB5.out)⟩
set_option maxHeartbeats 4000000 in
set_option maxRecDepth 100000 in
theorem all_anyO (Ta ta : Nat) (Ba : Nat → Prop) (fa : Tx → Value × Value) (A : List Mb) (Tb tb : Nat) (Bb : Nat → Prop) (fb : Tx → Value × Value) (B : List Mb) (T : Nat) (w : World) (hT : Tabs T w) (hA : WellL A) (hB : WellL B) (hLA : A.length ≤ 100000) (hLB : B.length ≤ 100000)
    (ha : TreeIn w Ta ta Ba fa A) (hBa : ∀ b, Ba b → b < w.heap.size) (hb : TreeIn w Tb tb Bb fb B) (hBb : ∀ b, Bb b → b < w.heap.size) :
    Calls Tryz.prog 39 #[.pointer (some ⟨Ta, 0, none⟩), .pointer (some ⟨Tb, 0, none⟩)] w fun e w' => ∃ v l, e = .returned (.tuple #[v, .int .i64 0]) ∧ (l.map (·.1)).Perm (toldL A B) ∧ srtM l ∧ RowO w.heap.size NoM w' v l ∧ Below w.heap.size w w' := by
  have HAO : Keep (∀ wx, Below w.heap.size w wx → TreeIn wx Ta ta Ba fa A) := ⟨fun wx hx => ha.loc (fun b hb' => hx.block b (by
    rcases hb' with rfl | rfl | h
    · exact ha.row.lt
    · exact ha.map.lt
    · exact hBa b h))⟩
  have HBO : Keep (∀ wx, Below w.heap.size w wx → TreeIn wx Tb tb Bb fb B) := ⟨fun wx hx => hb.loc (fun b hb' => hx.block b (by
    rcases hb' with rfl | rfl | h
    · exact hb.row.lt
    · exact hb.map.lt
    · exact hBb b h))⟩
  have HBa := Keep.keep hBa; have HBb := Keep.keep hBb; have HT := Keep.keep hT
  have HWA := Keep.keep hA; have HWB := Keep.keep hB
  have HP : Keep (∀ x, x ∈ A ∨ x ∈ B → x.1.length ≤ 400000) := ⟨fun x hx => by
    rcases hx with h | h
    · exact (ha.sm x h).p
    · exact (hb.sm x h).p⟩
  clear hBa hBb hT hA hB ha hb
  go_enter Tryz.func39, Tryz.ntmps39
  go_wp2_with fail
  refine (dnone_any Ta ta Ba fa A w (HAO.out w (Below.refl _ _)) HBa.out).mono ?_
  rintro e w1 ⟨rfl, hb1⟩
  have HW1 := Keep.keep hb1
  clear hb1
  go_wp2_with fail
  refine (dnone_any Tb tb Bb fb B w1 (HBO.out w1 HW1.out) (fun b hb => Nat.lt_of_lt_of_le (HBb.out b hb) HW1.out.size)).mono ?_
  rintro e w2 ⟨rfl, hb2⟩
  have HW2 := Keep.keep (HW1.out.trans (hb2.mono HW1.out.size))
  clear hb2
  go_wp2_with fail
  refine (dof_anyO Ta ta Ba fa A w2 hLA (HAO.out w2 HW2.out) (fun b hb => Nat.lt_of_lt_of_le (HBa.out b hb) HW2.out.size)).mono ?_
  rintro e w3 ⟨na, ma, ya, rfl, hsa, hga, hb3⟩
  have HSA := Keep.keep hsa
  have HW3 := Keep.keep (HW2.out.trans (hb3.mono HW2.out.size))
  clear hsa hga hb3
  go_wp2_with fail
  refine (dof_anyO Tb tb Bb fb B w3 hLB (HBO.out w3 HW3.out) (fun b hb => Nat.lt_of_lt_of_le (HBb.out b hb) HW3.out.size)).mono ?_
  rintro e w4 ⟨nb, mb, yb, rfl, hsb, hgb, hb4⟩
  have hsa4 : SideInO w4 (Fresh w2.heap.size w3) na ma ya A := HSA.out.loc (fun b hb => hb4.block b (by
    have := HSA.out.lt
    rcases hb with rfl | rfl | rfl | h
    · omega
    · omega
    · omega
    · exact h.2))
  have HW4 := Keep.keep (HW3.out.trans (hb4.mono HW3.out.size))
  have hs4 := hb4.size
  have HTO := Keep.keep (told_anyO na ma ya Ta nb mb yb Tb tb (Fresh w2.heap.size w3) (Fresh w3.heap.size w4) Bb fb A B T w4 (HT.out.on (HW4.out.mono HT.out.b)) HWA.out HWB.out hLA hLB HP.out hsa4 hsb (HBO.out w4 HW4.out) (fun b hb => by
    rcases hb with h | h | h
    · have := h.2; omega
    · exact h.2
    · exact Nat.lt_of_lt_of_le (HBb.out b h) HW4.out.size))
  clear hsb hgb hb4 hsa4 HSA
  go_wp2_with fail
  refine HTO.out.mono ?_
  rintro e w5 ⟨v5, l5, rfl, hl5, hr5, hb5⟩
  have HL5 := Keep.keep hl5
  have HW5 := Keep.keep (HW4.out.trans (hb5.mono HW4.out.size))
  have HR5 : Keep (RowO w.heap.size NoM w5 v5 l5) := ⟨hr5.widen HW4.out.size (fun b hb => Nat.le_trans HW3.out.size hb.1)⟩
  have hn5 : l5.length ≤ 100001 := by
    rw [← List.length_map (f := fun x : Mv => x.1), hl5]
    have := bel_len A B (ksT A B) 500000 []
    have h2 := List.countP_le_length (p := fun q : Mb => underP [] q.1) (l := B)
    unfold toldL
    omega
  have HSO := Keep.keep (sort_mbO w.heap.size NoM v5 l5 w5 HW5.out.size HR5.out (by omega))
  obtain ⟨a5, c5, hv5, -⟩ := (ownsV_reads hr5.own).shape
  generalize l5.length = n5 at hv5
  clear hl5 hr5 hb5 HTO hs4
  subst hv5
  go_wp2_with fail
  refine HSO.out.mono ?_
  rintro e w6 ⟨rfl, ⟨l6, hr6, hp6, hs6⟩, hb6⟩
  have HR6 := Keep.keep hr6; have HP6 := Keep.keep hp6; have HS6 := Keep.keep hs6
  have HW6 : Keep (Below w.heap.size w w6) := ⟨HW5.out.trans hb6⟩
  clear hr6 hp6 hs6 hb6 HSO
  go_wp2_with fail
  go_ret2
  exact ⟨_, l6, rfl, by rw [← HL5.out]; exact HP6.out.map _, HS6.out, HR6.out, HW6.out⟩
set_option maxHeartbeats 1000000 in
set_option maxRecDepth 100000 in
theorem Of_anyO (Ta ta : Nat) (Ba : Nat → Prop) (fa : Tx → Value × Value) (A : List Mb) (Tb tb : Nat) (Bb : Nat → Prop) (fb : Tx → Value × Value) (B : List Mb) (T : Nat) (w : World) (hT : Tabs T w) (hA : WellL A) (hB : WellL B) (hLA : A.length ≤ 100000) (hLB : B.length ≤ 4095)
    (ha : TreeIn w Ta ta Ba fa A) (hBa : ∀ b, Ba b → b < w.heap.size) (hb : TreeIn w Tb tb Bb fb B) (hBb : ∀ b, Bb b → b < w.heap.size) :
    Calls Tryz.prog 9 #[.pointer (some ⟨Ta, 0, none⟩), .pointer (some ⟨Tb, 0, none⟩)] w fun e w' => ∃ v l, e = .returned (.tuple #[v, .int .i64 0]) ∧ (l.map (·.1)).Perm (toldL A B) ∧ srtM l ∧ RowO w.heap.size NoM w' v l ∧ Below w.heap.size w w' := by
  have HAL := Keep.keep (all_anyO Ta ta Ba fa A Tb tb Bb fb B T w hT hA hB hLA (by omega) ha hBa hb hBb)
  clear hT hA hB ha hb hBa hBb
  go_enter Tryz.func9, Tryz.ntmps9
  go_wp2_with fail
  refine HAL.out.mono ?_
  rintro e w1 ⟨v, l, rfl, hp, hs, hr, hb⟩
  have HP := Keep.keep hp; have HS := Keep.keep hs; have HR := Keep.keep hr; have HB := Keep.keep hb
  obtain ⟨a1, c1, hv1, -⟩ := (ownsV_reads hr.own).shape
  have hn : l.length ≤ 4096 := by
    have h1 := hp.length_eq
    rw [List.length_map] at h1
    have := bel_len A B (ksT A B) 500000 []
    have h2 := List.countP_le_length (p := fun q : Mb => underP [] q.1) (l := B)
    unfold toldL at h1
    omega
  generalize l.length = n at hv1 hn
  have hd : decide (4096 < (n : Int)) = false := decide_eq_false (by omega)
  have hd2 : decide (4096 < n) = false := decide_eq_false (by omega)
  clear hp hs hr hb HAL
  subst hv1
  go_wp2_with fail
  go_ret2
  exact ⟨_, l, rfl, HP.out, HS.out, HR.out, HB.out⟩
end Go.Proofs.YtmnknmpfkjhgbaaGreatDoor
/- differ.Cost. -/
namespace Go.Proofs.YtmnknmpfkjhgbaaGreatDoor
open Go.RowKit
set_option maxHeartbeats 1000000 in
set_option maxRecDepth 100000 in
theorem cost_tr {w : World} {Ta Tb : Nat} {A B : List Mb} (T : Nat) (hT : Tabs T w) (hA : WellL A) (hB : WellL B) (hLA : A.length ≤ 100000) (hLB : B.length ≤ 100000) (h1 : TrL w Ta A) (h2 : TrL w Tb B) :
    Calls Tryz.prog 21 #[.pointer (some ⟨Ta, 0, none⟩), .pointer (some ⟨Tb, 0, none⟩)] w fun e w' => e = .returned (.tuple #[.int .i64 ((toldL A B).length : Int), .int .i64 0]) ∧ Below w.heap.size w w' := by
  obtain ⟨ta, Ba, fa, ha, hBa⟩ := h1
  obtain ⟨tb, Bb, fb, hb, hBb⟩ := h2
  have HAL := Keep.keep (all_anyO Ta ta Ba fa A Tb tb Bb fb B T w hT hA hB hLA hLB ha hBa hb hBb)
  obtain ⟨n, hn⟩ : ∃ n, (toldL A B).length = n := ⟨_, rfl⟩
  have HNN := Keep.keep hn
  rw [hn]
  clear hT hA hB ha hb hBa hBb hn
  go_enter Tryz.func21, Tryz.ntmps21
  go_wp2_with fail
  refine HAL.out.mono ?_
  rintro e w1 ⟨v, l, rfl, hp, -, hr, hb⟩
  have HB := Keep.keep hb
  obtain ⟨a1, c1, hv1, -⟩ := (ownsV_reads hr.own).shape
  have HN : Keep (l.length = n) := ⟨by rw [← HNN.out, ← hp.length_eq, List.length_map]⟩
  rw [HN.out] at hv1
  clear hp hr hb HAL
  subst hv1
  go_wp2_with fail
  go_ret2
  exact ⟨rfl, HB.out⟩
end Go.Proofs.YtmnknmpfkjhgbaaGreatDoor
/- A tree that is none: nil, or without a map. -/
namespace Go.Proofs.YtmnknmpfkjhgbaaGreatDoor
open Go.RowKit Go.Shelf
/-- a pointer to no tree -/
def IsNone (w : World) (pv : Value) : Prop := ∃ a, pv = .pointer a ∧ ∀ wx, Below w.heap.size w wx → Calls Tryz.prog 50 #[.pointer a] wx fun e w' => e = .returned (.bool true) ∧ wx = w'
theorem IsNone.on {w w' : World} {pv : Value} (h : IsNone w pv) (hb : Below w.heap.size w w') : IsNone w' pv := by
  obtain ⟨a, e, h⟩ := h
  exact ⟨a, e, fun wx hx => h wx (hb.trans (hx.mono hb.size))⟩
set_option maxHeartbeats 400000 in
set_option maxRecDepth 100000 in
theorem none_nil (w : World) : IsNone w (.pointer none) := ⟨none, rfl, fun wx _ => by
  go_enter Tryz.func50, Tryz.ntmps50
  go_wp2_with fail
  go_ret
  exact ⟨rfl, rfl⟩⟩
set_option maxHeartbeats 1000000 in
set_option maxRecDepth 100000 in
theorem get_none (pv : Value) (p : Tx) (w : World) (h : IsNone w pv) :
    Calls Tryz.prog 118 #[pv, .string ⟨p.toArray⟩] w fun e w' => e = .returned (.tuple #[.agg (ndC nd0 nilV nilV), .bool false]) ∧ Below w.heap.size w w' := by
  obtain ⟨a, rfl, hn⟩ := h
  have HN := Keep.keep hn
  have HZ : Keep ((ndC nd0 nilV nilV).size = 8) := ⟨rfl⟩
  have HO0 : Keep ((ndC nd0 nilV nilV).all (·.oneCell') = true) := ⟨by simp [ndC, nilV, strV, Value.oneCell']⟩
  have hbn := buildN
  clear hn
  go_enter Tryz.func118, Tryz.ntmps118
  go_wp2_with fail
  refine calls_at (R := fun w1 => Hp NoM w w1 [rowA w.heap.size 39 (ndC nd0 nilV nilV)]) ((Hp.begin NoM w).newRow _ _) ?_
  intro w1 H1
  refine (HN.out w1 H1.out.below).mono ?_
  rintro e w2 ⟨rfl, rfl⟩
  have HRW := Keep.keep (H1.out.row 0 rfl)
  go_wp2_with (first | ((with_reducible refine arm_storeRow HRW.out aggN HZ.out HZ.out HO0.out ?_ ?_ ?_); (focus rfl); (focus rfl); simp only [Act.put]))
  have hch : Below w.heap.size w (w1.setRow w.heap.size (ndC nd0 nilV nilV)) := ((Chg.of_below (M := NoM) H1.out.below).setRow (.inl (Nat.le_refl _)) _).below (fun _ _ h => h)
  exact bodyPost_ret (results_row2 (p := 4) (q := 5) (ty := 39) rfl (HRW.out.setRow _) aggN HZ.out rfl rfl) rfl ⟨rfl, hch⟩
end Go.Proofs.YtmnknmpfkjhgbaaGreatDoor
/- differ.Of, Cost: trees that are none; too many Members. -/
namespace Go.Proofs.YtmnknmpfkjhgbaaGreatDoor
open Go.RowKit
set_option maxHeartbeats 1000000 in
set_option maxRecDepth 100000 in
theorem dnone_nil (w : World) : Calls Tryz.prog 78 #[.pointer none] w fun e w' => e = .returned (.bool true) ∧ Below w.heap.size w w' := by
  have HG := Keep.keep (get_none (.pointer none) [] w (none_nil w))
  go_enter Tryz.func78, Tryz.ntmps78
  go_wp2_with fail
  refine HG.out.mono ?_
  rintro e w1 ⟨rfl, hb⟩
  have HB := Keep.keep hb
  clear hb HG
  unfold ndC strV nd0 nilV
  dsimp only
  go_wp2_with fail
  go_ret
  exact ⟨rfl, HB.out.alloc HB.out.size _⟩
set_option maxHeartbeats 1000000 in
theorem all_nil1 (pv : Value) (hpv : pv = .pointer none ∨ ∃ T, pv = .pointer (some ⟨T, 0, none⟩)) (w : World) : Calls Tryz.prog 39 #[.pointer none, pv] w fun e w' => e = .returned (.tuple #[.slice none 0 0, .int .i64 2]) ∧ Below w.heap.size w w' := by
  have HN := Keep.keep (dnone_nil w)
  obtain ⟨a, rfl⟩ : ∃ a, pv = .pointer a := by
    rcases hpv with rfl | ⟨T, rfl⟩ <;> exact ⟨_, rfl⟩
  clear hpv
  go_enter Tryz.func39, Tryz.ntmps39
  go_wp2_with fail
  refine HN.out.mono ?_
  rintro e w1 ⟨rfl, hb⟩
  have HB := Keep.keep hb
  clear hb HN
  go_wp2_with fail
  go_ret2
  exact ⟨rfl, HB.out⟩
set_option maxHeartbeats 1000000 in
theorem all_nil2 {w : World} {T : Nat} {A : List Mb} (h : TrL w T A) : Calls Tryz.prog 39 #[.pointer (some ⟨T, 0, none⟩), .pointer none] w fun e w' => e = .returned (.tuple #[.slice none 0 0, .int .i64 2]) ∧ Below w.heap.size w w' := by
  obtain ⟨mb, Bk, f, h1, h2⟩ := h
  have HN := Keep.keep (dnone_any T mb Bk f A w h1 h2)
  have HN2 := Keep.keep dnone_nil
  clear h1 h2
  go_enter Tryz.func39, Tryz.ntmps39
  go_wp2_with fail
  refine HN.out.mono ?_
  rintro e w1 ⟨rfl, hb⟩
  have HB := Keep.keep hb
  clear hb HN
  go_wp2_with fail
  refine (HN2.out w1).mono ?_
  rintro e w2 ⟨rfl, hb⟩
  have HB2 := Keep.keep (HB.out.trans (hb.mono HB.out.size))
  clear hb HN2
  go_wp2_with fail
  go_ret2
  exact ⟨rfl, HB2.out⟩
set_option maxHeartbeats 1000000 in
theorem Of_err (a b : Option Addr) (k : Int) (hk : k ≠ 0) (w : World) (h : Calls Tryz.prog 39 #[.pointer a, .pointer b] w fun e w' => e = .returned (.tuple #[.slice none 0 0, .int .i64 k]) ∧ Below w.heap.size w w') :
    Calls Tryz.prog 9 #[.pointer a, .pointer b] w fun e w' => e = .returned (.tuple #[.slice none 0 0, .int .i64 k]) ∧ Below w.heap.size w w' := by
  have HH := Keep.keep h
  have hx : (k != 0) = true := by simpa using hk
  clear h hk
  go_enter Tryz.func9, Tryz.ntmps9
  go_wp2_with fail
  refine HH.out.mono ?_
  rintro e w1 ⟨rfl, hb⟩
  have HB := Keep.keep hb
  clear hb HH
  go_wp2_with fail
  go_ret2
  exact ⟨rfl, HB.out⟩
set_option maxHeartbeats 1000000 in
theorem cost_err (a b : Option Addr) (k : Int) (w : World) (h : Calls Tryz.prog 39 #[.pointer a, .pointer b] w fun e w' => e = .returned (.tuple #[.slice none 0 0, .int .i64 k]) ∧ Below w.heap.size w w') :
    Calls Tryz.prog 21 #[.pointer a, .pointer b] w fun e w' => e = .returned (.tuple #[.int .i64 0, .int .i64 k]) ∧ Below w.heap.size w w' := by
  have HH := Keep.keep h
  clear h
  go_enter Tryz.func21, Tryz.ntmps21
  go_wp2_with fail
  refine HH.out.mono ?_
  rintro e w1 ⟨rfl, hb⟩
  have HB := Keep.keep hb
  clear hb HH
  go_wp2_with fail
  go_ret2
  exact ⟨rfl, HB.out⟩
set_option maxHeartbeats 1000000 in
set_option maxRecDepth 100000 in
/-- more than a changeset may hold -/
theorem Of_many {w : World} {Ta Tb : Nat} {A B : List Mb} (T : Nat) (hT : Tabs T w) (hA : WellL A) (hB : WellL B) (hLA : A.length ≤ 100000) (hLB : B.length ≤ 100000) (h1 : TrL w Ta A) (h2 : TrL w Tb B) (hm : 4096 < (toldL A B).length) :
    Calls Tryz.prog 9 #[.pointer (some ⟨Ta, 0, none⟩), .pointer (some ⟨Tb, 0, none⟩)] w fun e w' => e = .returned (.tuple #[.slice none 0 0, .int .i64 42]) ∧ Below w.heap.size w w' := by
  obtain ⟨ta, Ba, fa, ha, hBa⟩ := h1
  obtain ⟨tb, Bb, fb, hb, hBb⟩ := h2
  have HAL := Keep.keep (all_anyO Ta ta Ba fa A Tb tb Bb fb B T w hT hA hB hLA hLB ha hBa hb hBb)
  clear hT hA hB ha hb hBa hBb
  go_enter Tryz.func9, Tryz.ntmps9
  go_wp2_with fail
  refine HAL.out.mono ?_
  rintro e w1 ⟨v, l, rfl, hp, -, hr, hb⟩
  have HB := Keep.keep hb
  obtain ⟨a1, c1, hv1, -⟩ := (ownsV_reads hr.own).shape
  have hn : 4096 < l.length := by rw [← List.length_map (f := fun x : Mv => x.1), hp.length_eq]; exact hm
  generalize l.length = n at hv1 hn
  have hd : decide (4096 < (n : Int)) = true := decide_eq_true (by omega)
  have hd2 : decide (4096 < n) = true := decide_eq_true hn
  clear hp hr hb HAL hm
  subst hv1
  go_wp2_with fail
  go_ret2
  exact ⟨rfl, HB.out⟩
end Go.Proofs.YtmnknmpfkjhgbaaGreatDoor
