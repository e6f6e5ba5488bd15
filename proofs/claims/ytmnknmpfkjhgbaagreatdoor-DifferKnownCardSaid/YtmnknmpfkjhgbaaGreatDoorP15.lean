/- PARTS OF ONE PROOF, set in one file: DfBelow, SpcOne, DfOf, Sf, DfSort. Each part tells its own conditions. -/
import Derived.Shelf.SlSortCmp.WholeK
import Derived.Ground.SlsfProg
import Derived.Test.YtmnknmpfkjhgbaaGreatDoorProg
import Derived.Shelf.SlSortCmp.NoneTotal
import Derived.Test.YtmnknmpfkjhgbaaGreatDoorP4
import Derived.Test.YtmnknmpfkjhgbaaGreatDoorP8
import Derived.Test.YtmnknmpfkjhgbaaGreatDoorP9
import Derived.Test.YtmnknmpfkjhgbaaGreatDoorP13
import Derived.Test.YtmnknmpfkjhgbaaGreatDoorP14
/- differ.told's closure 'below': what is told below a Dir. -/
namespace Go.Proofs.YtmnknmpfkjhgbaaGreatDoor
open Go.RowKit
/-- the paths in a Dir of either tree, each once, rising -/
def ksT (A B : List Mb) (d : Tx) : List Tx := Lib.compact (((kids d A).map (·.1) ++ (kids d B).map (·.1)).mergeSort fun x y => decide (x ≤ y))
theorem ksT_kids {A B : List Mb} (hA : WellL A) (hB : WellL B) : KidsOf A B (ksT A B) :=
  kids_of hA hB (fun d => ⟨_, List.mergeSort_perm _ _, by
    have := List.pairwise_mergeSort (le := fun x y : Tx => decide (x ≤ y)) (fun a b c h1 h2 => decide_eq_true (List.le_trans (of_decide_eq_true h1) (of_decide_eq_true h2))) (fun a b => by
      rcases List.le_total a b with e | e
      · simp [e]
      · simp [e]) ((kids d A).map (·.1) ++ (kids d B).map (·.1))
    exact List.Pairwise.imp (fun h => of_decide_eq_true h) this, rfl⟩)
theorem ent_del1 : ∀ args w, (callFunc 122 args).run Tryz.prog w = .ok (.enter 122 args) w := enters_of Tryz.func122 (by kernel_rfl) rfl
set_option maxHeartbeats 1000000 in
set_option maxRecDepth 100000 in
theorem del1_any (x : Mv) (hsh : NdS x) (q : Tx) (bd : Nat) (w : World) (hc : w.cell? ⟨bd, 0, none⟩ = some (.string ⟨q.toArray⟩)) :
    Calls Tryz.prog 122 #[.agg (mcell x), .pointer (some ⟨bd, 0, none⟩)] w fun e w' => e = .returned (.bool (x.1.1 == q)) ∧ Below w.heap.size w w' := by
  obtain ⟨⟨xp, ⟨kind, mode, uid, gid, time, attrs, data, link⟩⟩, av, dv⟩ := x
  obtain ⟨aa, la, ca, ad, ld, cd, e1, e2⟩ := hsh
  dsimp only at e1 e2 ⊢
  subst e1 e2
  have HMC : Keep (mcell ((xp, ⟨kind, mode, uid, gid, time, attrs, data, link⟩), .slice aa la ca, .slice ad ld cd) = #[.string ⟨xp.toArray⟩, .int .i64 kind, .int .u32 mode, .int .u32 uid, .int .u32 gid, .int .i64 time, .slice aa la ca, .slice ad ld cd, .string ⟨link.toArray⟩]) := ⟨rfl⟩
  rw [HMC.out]
  have hlt : bd < w.heap.size := World.block_lt_of_cell? w _ hc
  have HC : Keep (∀ wx, Below w.heap.size w wx → wx.cell? ⟨bd, 0, none⟩ = some (.string ⟨q.toArray⟩)) := ⟨fun wx hb => by rw [hb.cell (p := ⟨bd, 0, none⟩) hlt]; exact hc⟩
  clear hc
  go_enter Tryz.func122, Tryz.ntmps122
  go_upto_region 1 with fail
  refine wp_world (R := fun w1 => Hp NoM w w1 [rowA w.heap.size 41 #[.string ⟨xp.toArray⟩, .int .i64 kind, .int .u32 mode, .int .u32 uid, .int .u32 gid, .int .i64 time, .slice aa la ca, .slice ad ld cd, .string ⟨link.toArray⟩]]) ((Hp.begin NoM w).newRow _ _) ?_
  intro w1 H1
  have hc := HC.out w1 H1.out.below
  have c0 := (H1.out.row 0 rfl).cell (i := 0) rfl
  have HB := Keep.keep H1.out.below
  go_wp2_with fail
  go_ret
  exact ⟨rfl, HB.out⟩
theorem flatF_take {A B : List Mb} {ks : List Tx} {F : Tx → List Mb} {k : Nat} (hk : k < ks.length) : flatF A B (ks.take (k + 1)) F = flatF A B (ks.take k) F ++ oneF A B (F ks[k]) ks[k] := by
  unfold flatF
  rw [List.take_succ_eq_append_getElem hk, List.flatMap_append]
  simp
set_option maxHeartbeats 8000000 in
set_option maxRecDepth 100000 in
theorem below_any (d : TD) (F : Tx → List Mb) (dir : Tx) (T : Nat) (w : World) (hT : Tabs T w) (_hA : WellL d.A) (hB : WellL d.B) (hLA : d.A.length ≤ 100000) (hLB : d.B.length ≤ 100000) (hdl : dir.length ≤ 400000) (hdir : dir = [] ∨ dirB d.B dir = true) (hF : ∀ c, (F c).length ≤ 1 + d.B.length) (h : TIn w d)
    (hone : ∀ c ∈ ksT d.A d.B dir, ∀ wx, Below w.heap.size w wx → Calls Tryz.prog 119 #[.string ⟨c.toArray⟩, .pointer (some ⟨d.ba, 0, none⟩), .pointer (some ⟨d.bb, 0, none⟩), .pointer (some ⟨d.bw, 0, none⟩)] wx (BelAns d (oneF d.A d.B (F c) c) wx)) :
    Calls Tryz.prog 120 #[.string ⟨dir.toArray⟩, .pointer (some ⟨d.ba, 0, none⟩), .pointer (some ⟨d.bb, 0, none⟩), .pointer (some ⟨d.bo, 0, none⟩)] w (BelAns d (bodyF d.A d.B (ksT d.A d.B dir) F dir) w) := by
  have HT := Keep.keep hT
  have HON : Keep (∀ wx, Below w.heap.size w wx → TIn wx d) := ⟨fun wx hb => h.below hb⟩
  have HLT : Keep (∀ b, d.Na b ∨ d.Nb b ∨ d.Bk b → b < w.heap.size) := ⟨h.lt⟩
  have HONE := Keep.keep hone
  have hlt4 : d.ba < w.heap.size ∧ d.bb < w.heap.size ∧ d.bo < w.heap.size := ⟨h.ra.lt, h.rb.lt, h.ro.lt⟩
  obtain ⟨MA, hma, hra⟩ := h.sa.names
  obtain ⟨MB, hmb, hrb⟩ := h.sb.names
  obtain ⟨Y, hmy, hy⟩ := h.sb.many
  obtain ⟨vA, hvA⟩ : ∃ v, (SM.look MA dir).getD nilV = v := ⟨_, rfl⟩
  obtain ⟨vB, hvB⟩ : ∃ v, (SM.look MB dir).getD nilV = v := ⟨_, rfl⟩
  have hrA := hra dir
  have hrB := hrb dir
  rw [hvA] at hrA
  rw [hvB] at hrB
  have HLA : Keep (∀ wx, Below w.heap.size w wx → (Instr.lookup 108 (.map (some d.ma)) (.string ⟨dir.toArray⟩) false).run Tryz.prog wx = .ok vA wx) := ⟨fun wx hb => by
    have := (hma.loc (hb.block _ hma.lt)).look1 Tryz.underlying9 Tryz.underlying108 (zeroSt wx) (p := dir) (by unfold maxLen; omega)
    rw [hvA] at this; exact this⟩
  have HLB : Keep (∀ wx, Below w.heap.size w wx → (Instr.lookup 108 (.map (some d.mb)) (.string ⟨dir.toArray⟩) false).run Tryz.prog wx = .ok vB wx) := ⟨fun wx hb => by
    have := (hmb.loc (hb.block _ hmb.lt)).look1 Tryz.underlying9 Tryz.underlying108 (zeroSt wx) (p := dir) (by unfold maxLen; omega)
    rw [hvB] at this; exact this⟩
  have HLY : Keep (∀ wx, Below w.heap.size w wx → (Instr.lookup 73 (.map (some d.yb)) (.string ⟨dir.toArray⟩) false).run Tryz.prog wx = .ok (.int .i64 ((cntM d.B dir : Nat) : Int)) wx) := ⟨fun wx hb => by
    have := (hmy.loc (hb.block _ hmy.lt)).look1 Tryz.underlying9 Tryz.underlying73 (zeroI wx) (p := dir) (by unfold maxLen; omega)
    rw [hy dir] at this; exact this⟩
  have hkA : ((kids dir d.A).map (·.1)).length ≤ 100000 := by
    rw [List.length_map]; unfold kids; exact Nat.le_trans (List.length_filter_le _ _) hLA
  have hkB : ((kids dir d.B).map (·.1)).length ≤ 100000 := by
    rw [List.length_map]; unfold kids; exact Nat.le_trans (List.length_filter_le _ _) hLB
  have HBO : Keep (∀ wx, Below w.heap.size w wx → Calls Tryz.prog 121 #[vA, vB] wx fun e w' => ∃ v, e = .returned v ∧ OwnS w' wx.heap.size v (ksT d.A d.B dir) ∧ Below wx.heap.size wx w') :=
    ⟨fun wx hb => both_any vA vB _ _ wx ((hrA.below hb (fun b hb' => h.lt b (.inl hb'))).mono (fun b hb' => Nat.lt_of_lt_of_le (h.lt b (.inl hb')) hb.size)) ((hrB.below hb (fun b hb' => h.lt b (.inr (.inl hb')))).mono (fun b hb' => Nat.lt_of_lt_of_le (h.lt b (.inr (.inl hb'))) hb.size)) (by omega) (by omega)⟩
  have HKL : Keep ((ksT d.A d.B dir).length ≤ 200000 ∧ ∀ c ∈ ksT d.A d.B dir, True) := ⟨by
    unfold ksT
    refine Nat.le_trans (compact_len _) ?_
    rw [List.length_mergeSort, List.length_append]; omega, fun _ _ => trivial⟩
  have HCN := Keep.keep (cnt_dir hB hdir)
  have hcb : cntM d.B dir ≤ 1000000 := by
    have h1 := cnt_all (fun q hq => hB.path hq) dir
    have h2 := List.countP_le_length (p := fun q : Mb => q.1 == dir) (l := d.B)
    have h3 := List.countP_le_length (p := fun q : Mb => underP dir q.1) (l := d.B)
    omega
  have HUN : Keep (∀ wx, Below w.heap.size w wx → Calls Tryz.prog 18 #[.pointer (some ⟨d.Tb, 0, none⟩), .string ⟨dir.toArray⟩] wx (BelAns d (underL dir d.B) wx)) := ⟨fun wx hb => by
    have ht := h.below hb
    refine (under_own d.Tb d.tb d.Bk d.f d.B dir wx hLB hdl ht.tr ⟨ht.tr.row.lt, ht.tr.map.lt, fun b hb => ht.lt b (.inr (.inr hb))⟩).mono ?_
    rintro e w' ⟨v, l, rfl, hl, ho, hb'⟩
    exact ⟨v, l, rfl, hl, RowM.ofOwn ho _, hb'⟩⟩
  have HMK : Keep (∀ wx, Below w.heap.size w wx → Calls Tryz.prog 16 #[.string ⟨dir.toArray⟩] wx fun e w' => e = .returned (.agg (mbC (mkM dir) nilV nilV)) ∧ Below wx.heap.size wx w') := ⟨fun wx hb => dmark_any dir (by omega) T wx (Nat.le_trans hT.b hb.size) (hT.m.on (hb.mono hT.b))⟩
  have HONL : Keep (∀ c, (oneF d.A d.B (F c) c).length ≤ 300000) := ⟨fun c => by
    have := one_len d.A d.B (F c) c
    have := hF c
    omega⟩
  have HBY : Keep (bodyF d.A d.B (ksT d.A d.B dir) F dir = if (flatF d.A d.B (ksT d.A d.B dir) F).length ≤ 1 + d.B.countP (fun q => underP dir q.1) then flatF d.A d.B (ksT d.A d.B dir) F else d.B.filter (fun q => underP dir q.1) ++ [mkM dir]) := ⟨rfl⟩
  have HFL : Keep ((underL dir d.B).filter (fun m => !(m.1 == dir)) = d.B.filter (fun q => underP dir q.1)) := ⟨by
    unfold underL
    rw [List.filter_filter]
    refine List.filter_congr (fun x _ => ?_)
    unfold hitU
    by_cases e : x.1 = dir
    · rw [e]
      have : underP dir dir = false := by
        cases hu : underP dir dir with
        | false => rfl
        | true => exact (under_asym hu hu).elim
      simp [this]
    · have : (x.1 == dir) = false := by simpa using e
      simp [this]⟩
  obtain ⟨aA, cA, hvA2, -⟩ := hrA.shape
  obtain ⟨aB, cB, hvB2, -⟩ := hrB.shape
  generalize ((kids dir d.A).map (·.1)).length = nA at *
  generalize ((kids dir d.B).map (·.1)).length = nB at *
  have ca1 : Keep (∀ wx, Below w.heap.size w wx → wx.cell? ⟨d.ba, 1, none⟩ = some (.map (some d.ma)) ∧ wx.cell? ⟨d.bb, 1, none⟩ = some (.map (some d.mb)) ∧ wx.cell? ⟨d.bb, 2, none⟩ = some (.map (some d.yb)) ∧ wx.cell? ⟨d.bb, 3, none⟩ = some (.func (.func 18) #[.pointer (some ⟨d.Tb, 0, none⟩)] #[]) ∧ wx.cell? ⟨d.bo, 0, none⟩ = some (.func (.func 119) #[] #[.pointer (some ⟨d.ba, 0, none⟩), .pointer (some ⟨d.bb, 0, none⟩), .pointer (some ⟨d.bw, 0, none⟩)])) := ⟨fun wx hb => by
    have ht := h.below hb
    exact ⟨ht.ra.cell rfl, ht.rb.cell rfl, ht.rb.cell rfl, ht.rb.cell rfl, ht.ro.cell rfl⟩⟩
  have hent1 := ent_undf
  have hent3 := ent_one
  clear hone h hma hra hmb hrb hmy hy hrA hrB hvA hvB hT hB hF
  subst hvA2 hvB2
  generalize bodyF d.A d.B (ksT d.A d.B dir) F dir = out at *
  generalize ksT d.A d.B dir = ks at *
  obtain ⟨qw, kw, hqw⟩ := signM_cells (opaqueP dir)
  have HMC : Keep (mbC (mkM dir) nilV nilV = #[.string ⟨qw.toArray⟩, .int .i64 kw, .int .u32 0, .int .u32 0, .int .u32 0, .int .i64 0, .slice none 0 0, .slice none 0 0, .string ⟨#[]⟩]) := ⟨hqw⟩
  rw [HMC.out] at HMK
  obtain ⟨cc, hcc⟩ : ∃ c, cntM d.B dir = c := ⟨_, rfl⟩
  rw [hcc] at HLY HCN hcb
  obtain ⟨cP, hcP⟩ : ∃ c, 1 + d.B.countP (fun q => underP dir q.1) = c := ⟨_, rfl⟩
  rw [hcP] at HCN HBY
  obtain ⟨nk, hnk⟩ : ∃ n, ks.length = n := ⟨_, rfl⟩
  have HNK := Keep.keep hnk
  have hnkb : nk ≤ 200000 := by rw [← hnk]; exact HKL.out.1
  clear hqw hcc hcP hnk
  go_enter Tryz.func120, Tryz.ntmps120
  go_upto_region 1 with fail
  refine wp_world (R := fun w1 => Hp NoM w w1 [rowA w.heap.size 9 #[.string ⟨dir.toArray⟩]]) ((Hp.begin NoM w).newRow _ _) ?_
  intro w1 H1
  have hla := HLA.out w1 H1.out.below
  have hlb := HLB.out w1 H1.out.below
  have cd := (H1.out.row 0 rfl).cell (i := 0) rfl
  obtain ⟨c1, c2, c3, c4, c5⟩ := ca1.out w1 H1.out.below
  go_wp2_with fail
  refine (HBO.out w1 H1.out.below).mono ?_
  rintro e w2 ⟨v19, rfl, ho19, hb2⟩
  have H2 := Keep.keep ((H1.out.push (slA w1.heap.size 9 1 v19 ks.length (ks.map strV)) (.of_below hb2) ho19 (fun b hb => World.ownsRow.lt ho19 b hb)).nilS w.heap.size 41 9)
  rw [HNK.out] at H2
  obtain ⟨a19, c19, hv19, -⟩ := (ownsV_reads ho19).shape
  rw [HNK.out] at hv19
  clear ho19 hb2 HBO hla hlb cd c1 c2 c3 c4 c5 HLA HLB H1
  subst hv19
  go_wp2_with fail
  go_loopg [6, 8, 21] nk (fun g u6 _ u21 wx => ∃ (k : Nat) (acc : List Mv), k + g = nk ∧ u21 = .int .i64 (k : Int) ∧ acc.map (·.1) = flatF d.A d.B (ks.take k) F ∧ acc.length ≤ k * 300000 ∧ RowM w.heap.size d.Nb wx u6 acc ∧ Hp NoM w wx [rowA w.heap.size 9 #[.string ⟨dir.toArray⟩], slA w1.heap.size 9 1 (.slice a19 nk c19) nk (ks.map strV), slA w.heap.size 41 9 u6 acc.length (mcells acc)])
  case atStart => exact ⟨0, [], by omega, rfl, rfl, Nat.zero_le _, RowM.nil _ _ _, H2.out⟩
  case round =>
    obtain ⟨k, acc, hkg, rfl, hmap, hal, hrow, hH⟩ := hrel
    have HM := Keep.keep hmap; have HR := Keep.keep hrow; have HH := Keep.keep hH
    obtain ⟨a6, c6, hv6, -⟩ := (ownsV_reads hrow.own).shape
    obtain ⟨n6, hn6⟩ : ∃ n, acc.length = n := ⟨_, rfl⟩
    have HN6 := Keep.keep hn6
    rw [hn6] at hv6 HH hal
    clear hmap hrow hH hn6 H2
    subst hv6
    cases gk with
    | zero =>
      obtain rfl : k = nk := by omega
      have HACC : Keep (acc.map (·.1) = flatF d.A d.B ks F) := ⟨by rw [HM.out, List.take_of_length_le (by rw [HNK.out]; exact Nat.le_refl _)]⟩
      have hb := HH.out.below
      obtain ⟨c1, c2, c3, c4, c5⟩ := ca1.out wr hb
      have cd := (HH.out.row 0 rfl).cell (i := 0) rfl
      have hly := HLY.out wr hb
      have HLEN : Keep ((flatF d.A d.B ks F).length = n6) := ⟨by rw [← HACC.out, List.length_map]; exact HN6.out⟩
      rw [HLEN.out] at HBY
      have HWB := Keep.keep hb
      clear c1 c2 c5 hb
      by_cases hz : dir = []
      focus
        have he : dir.isEmpty = true := by rw [hz]; rfl
        have HCC : Keep (1 + cc = cP) := ⟨by have := HCN.out; rw [if_pos hz] at this; exact this⟩
        clear hz
        cases hd : decide (n6 ≤ cP)
        case true =>
          have hle := of_decide_eq_true hd
          have HO : Keep (out = flatF d.A d.B ks F) := ⟨by rw [HBY.out, if_pos hle]⟩
          have hcP := HCC.out
          have g1 : decide ((n6 : Int) ≤ 1 + (cc : Int)) = true := decide_eq_true (by omega)
          clear hd hle hcP
          go_wp2_with fail
          go_ret
          exact ⟨_, acc, rfl, by rw [HO.out]; exact HACC.out, HR.out, HWB.out⟩
        have hle := of_decide_eq_false hd
        have HO : Keep (out = d.B.filter (fun q => underP dir q.1) ++ [mkM dir]) := ⟨by rw [HBY.out, if_neg hle]⟩
        have hcP := HCC.out
        have g1 : decide ((n6 : Int) ≤ 1 + (cc : Int)) = false := decide_eq_false (by omega)
        clear hd hle hcP
        go_upto_region 12 with fail
      rotate_left
      focus
        have he : dir.isEmpty = false := by simpa using hz
        have HCC : Keep (cc = cP) := ⟨by have := HCN.out; rw [if_neg hz] at this; exact this⟩
        clear hz
        cases hd : decide (n6 ≤ cP)
        case true =>
          have hle := of_decide_eq_true hd
          have HO : Keep (out = flatF d.A d.B ks F) := ⟨by rw [HBY.out, if_pos hle]⟩
          have hcP := HCC.out
          have g1 : decide ((n6 : Int) ≤ 1 + (cc : Int) - 1) = true := decide_eq_true (by omega)
          have g2 : decide (n6 ≤ cc) = true := decide_eq_true (by omega)
          clear hd hle hcP
          go_wp2_with fail
          go_ret
          exact ⟨_, acc, rfl, by rw [HO.out]; exact HACC.out, HR.out, HWB.out⟩
        have hle := of_decide_eq_false hd
        have HO : Keep (out = d.B.filter (fun q => underP dir q.1) ++ [mkM dir]) := ⟨by rw [HBY.out, if_neg hle]⟩
        have hcP := HCC.out
        have g1 : decide ((n6 : Int) ≤ 1 + (cc : Int) - 1) = false := decide_eq_false (by omega)
        have g2 : decide (n6 ≤ cc) = false := decide_eq_false (by omega)
        clear hd hle hcP
        go_upto_region 12 with fail
      all_goals
        go_wp2_with fail
        refine (HUN.out wr HWB.out).mono ?_
        rintro e w5 ⟨v5, l5, rfl, hl5, hr5, hb5⟩
        have HL5 := Keep.keep hl5
        have HW5 := Keep.keep (HWB.out.trans (hb5.mono HWB.out.size))
        have HR5 := Keep.keep (hr5.lower HWB.out.size (fun b hb => hb))
        have HLO : Keep (∀ b, v5.ownBlock = some b → wr.heap.size ≤ b) := ⟨fun b hb => (hr5.lt hb).1⟩
        have HBD : Keep (Row w5 w.heap.size 9 #[.string ⟨dir.toArray⟩] ∧ w.heap.size < wr.heap.size) := ⟨(HH.out.row 0 rfl).below hb5 (HH.out.row 0 rfl).lt, (HH.out.row 0 rfl).lt⟩
        have hn5 : l5.length ≤ 100000 := by
          rw [← List.length_map (f := fun x : Mv => x.1), hl5]
          exact Nat.le_trans (List.length_filter_le _ _) hLB
        have HDF := Keep.keep (dfuncM 122 #[.pointer (some ⟨w.heap.size, 0, none⟩)] (fun m => m.1 == dir) v5 l5 w.heap.size d.Nb w5 ent_del1 HW5.out.size (by omega) (fun wx hch x hx => by
          have := del1_any x (HR5.out.nd x hx).shape dir w.heap.size wx (by
            rw [hch.cell (p := ⟨w.heap.size, 0, none⟩) HBD.out.1.lt (fun e => by have := HLO.out w.heap.size e; have := HBD.out.2; omega)]
            exact HBD.out.1.cell rfl)
          simpa using this) HR5.out)
        obtain ⟨a5, c5, hv5, -⟩ := (ownsV_reads hr5.own).shape
        generalize l5.length = n5 at hv5
        clear hl5 hr5 hb5 c3 c4 cd hly HH HM HR
        subst hv5
        have cd := HBD.out.1.cell (i := 0) rfl
        go_wp2_with fail
        refine HDF.out.mono ?_
        rintro e w6 ⟨v6, rfl, hr6, ho6, hc6⟩
        have HR6 := Keep.keep hr6
        have HW6 : Keep (Below w.heap.size w w6) := ⟨HW5.out.trans ((hc6.lower HW5.out.size).below (fun b hb e => by have := HLO.out _ e; have := HBD.out.2; omega))⟩
        have HBD6 : Keep (Row w6 w.heap.size 9 #[.string ⟨dir.toArray⟩]) := ⟨HBD.out.1.chg hc6 HBD.out.1.lt (fun e => by have := HLO.out _ e; have := HBD.out.2; omega)⟩
        obtain ⟨a6', c6', hv6, -⟩ := (ownsV_reads hr6.own).shape
        have HL6 : Keep ((l5.filter fun x => !(x.1.1 == dir)).map (·.1) = d.B.filter (fun q => underP dir q.1)) := ⟨by
          rw [← HFL.out, ← HL5.out, List.filter_map]; rfl⟩
        have hn6' : (l5.filter fun x => !(x.1.1 == dir)).length ≤ 100000 := Nat.le_trans (List.length_filter_le _ _) hn5
        generalize (l5.filter fun x => !(x.1.1 == dir)) = l6 at *
        generalize hnl6 : l6.length = n6' at hv6
        have HNL6 := Keep.keep hnl6
        clear hr6 ho6 hc6 HDF cd hnl6 HBD HR5
        subst hv6
        have cd := HBD6.out.cell (i := 0) rfl
        go_wp2_with fail
        refine (HMK.out w6 HW6.out).mono ?_
        rintro e w7 ⟨rfl, hb7⟩
        have HR7 := Keep.keep (HR6.out.below hb7)
        have HW7 := Keep.keep (HW6.out.trans (hb7.mono HW6.out.size))
        clear hb7 cd HBD6 HR6
        go_wp2_with (with_reducible refine arm_stop ?_)
        refine Stopped.out ?_
        have hal : Below w7.heap.size w7 (w7.alloc (.cells #[.string ⟨qw.toArray⟩, .int .i64 kw, .int .u32 0, .int .u32 0, .int .u32 0, .int .i64 0, .slice none 0 0, .slice none 0 0, .string ⟨#[]⟩] 41)) := (Below.refl _ _).alloc (Nat.le_refl _) _
        have hrA := HR7.out.below hal
        have hs7 := HW7.out.size
        have hmN : Mbs (w7.alloc (.cells #[.string ⟨qw.toArray⟩, .int .i64 kw, .int .u32 0, .int .u32 0, .int .u32 0, .int .i64 0, .slice none 0 0, .slice none 0 0, .string ⟨#[]⟩] 41)) (fun _ => True) d.Nb (.slice (some ⟨w7.heap.size, 0, none⟩) 1 1) [((mkM dir, nilV, nilV) : Mv)] := ⟨by
          have := RdV.new (w := w7) (N := fun _ => True) 41 (mcells [((mkM dir, nilV, nilV) : Mv)]) 9 1 w7.heap.size rfl rfl (by unfold maxLen; omega) trivial
          have hmc : (mcells [((mkM dir, nilV, nilV) : Mv)]).toArray = #[.string ⟨qw.toArray⟩, .int .i64 kw, .int .u32 0, .int .u32 0, .int .u32 0, .int .i64 0, .slice none 0 0, .slice none 0 0, .string ⟨#[]⟩] := by
            rw [mcells_cons]
            show (mcell ((mkM dir, nilV, nilV) : Mv)).toList.toArray = _
            exact HMC.out
          rw [hmc] at this
          exact this, fun y hy => by
          obtain rfl : y = ((mkM dir, nilV, nilV) : Mv) := by simpa using hy
          exact ndR_nil (by unfold mkM signM; split <;> rfl) (by unfold mkM signM; split <;> rfl)⟩
        refine arm_appM (B := w.heap.size) hrA (Nat.le_trans hs7 hal.size) hmN (fun b hb => ⟨.inl hb, by have := HLT.out b (.inr (.inl hb)); have := hal.size; omega, fun e => by have := (hrA.lt e).1; have := HLT.out b (.inr (.inl hb)); omega⟩) (by rw [List.length_singleton]; omega) rfl rfl ?_
        intro v8 w8 hr8 hg8 hov8 hsh8
        obtain ⟨a8, c8, rfl⟩ := hsh8
        have HR8 := Keep.keep hr8
        have HB8 : Keep (Below w.heap.size w w8) := ⟨(HW7.out.trans (hal.mono HW7.out.size)).trans (hrA.chg (Nat.le_trans hs7 hal.size) hg8)⟩
        clear hr8 hg8 hov8 hmN hrA hal
        simp only [Act.put, List.setIfInBounds_toArray, List.set_cons_succ, List.set_cons_zero]
        go_wp2_with fail
        go_ret
        exact ⟨_, _, rfl, by rw [List.map_append, HL6.out, HO.out]; rfl, HR8.out, HB8.out⟩
    | succ g =>
      have hk : k < ks.length := by rw [HNK.out]; omega
      have hb := HH.out.below
      obtain ⟨c1, c2, c3, c4, c5⟩ := ca1.out wr hb
      have ho19 := HH.out.sl 1 rfl
      obtain ⟨g19, rfl⟩ : ∃ g, a19 = some ⟨g, 0, none⟩ := by
        rcases ho19.2 with ⟨_, h0⟩ | ⟨g, cap, cur, h, _⟩
        · omega
        · injection h with h; exact ⟨g, h⟩
      have hcell := (ownsV_reads ho19).cell g19 0 _ _ rfl k (strV ks[k]) (by simp [hk])
      have HC := Keep.keep (HONE.out ks[k] (List.getElem_mem hk) wr hb)
      have HTK := Keep.keep (flatF_take (A := d.A) (B := d.B) (F := F) hk)
      have hol := HONL.out ks[k]
      generalize oneF d.A d.B (F ks[k]) ks[k] = of1 at *
      generalize ks[k] = cq at *
      unfold strV at hcell
      rw [Nat.zero_add] at hcell
      clear hb c1 c2 c3 c4 ho19
      go_wp2_with fail
      refine HC.out.mono ?_
      rintro e w3 ⟨v3, l3, rfl, hl3, hr3, hb3⟩
      have HL3 := Keep.keep hl3; have HR3 := Keep.keep hr3
      have HH3 := Keep.keep (HH.out.call hb3)
      have HRA := Keep.keep (HR.out.below hb3)
      have HRLT := Keep.keep (fun b e => (HR.out.lt (b := b) e))
      have hn3 : l3.length ≤ 300000 := by rw [← List.length_map (f := fun x : Mv => x.1), hl3]; exact hol
      obtain ⟨a3, c3, hv3, -⟩ := (ownsV_reads hr3.own).shape
      have hsw := HH.out.size
      have hs3 := hb3.size
      clear hl3 hr3 hb3 HC hcell c5 HR HH
      subst hv3
      go_wp2_with (with_reducible refine arm_stop ?_)
      refine Stopped.out ?_
      have hkb : k * 300000 ≤ 200000 * 300000 := Nat.mul_le_mul_right _ (by omega)
      refine arm_appM (B := w.heap.size) HRA.out (Nat.le_trans hsw hs3) HR3.out.mbs (fun b hb => ⟨?_, hb.2.1, fun e => ?_⟩) (by rw [HN6.out]; omega) rfl rfl ?_
      · rcases hb.1 with h | h
        · exact .inl h
        · exact .inr (by omega)
      · have h1 := HRLT.out b e
        rcases hb.1 with h | h
        · have := HLT.out b (.inr (.inl h)); omega
        · omega
      intro v4 w4 hr4 hg4 hov4 hsh4
      have H4 := Keep.keep (HH3.out.grow 2 rfl hg4 hr4.own hov4)
      obtain ⟨a4, c4, rfl⟩ := hsh4
      have HR4 := Keep.keep hr4
      clear hr4 hg4 hov4 HH3 HRA
      simp only [Act.put, List.setIfInBounds_toArray, List.set_cons_succ, List.set_cons_zero]
      rw [HN6.out]
      go_wp2_with fail
      go_roundg g
      case measure => omega
      case rel =>
        refine ⟨k + 1, acc ++ l3, by omega, by simp, by rw [List.map_append, HM.out, HTK.out, HL3.out], ?_, ?_, ?_⟩
        · rw [List.length_append, HN6.out]; omega
        · have := HR4.out; rw [HN6.out] at this; exact this
        · have := H4.out; rw [HN6.out] at this; exact this
end Go.Proofs.YtmnknmpfkjhgbaaGreatDoor
/- A REGION THAT DRAWS ITS ORDER, ONE OPERATION OF WHICH CHANGES THE MEMORY, and so does the last one, which waits for all others: one fact an operation; what is known of slots and memory before that operation and behind it. -/
namespace Go.Proofs.YtmnknmpfkjhgbaaGreatDoor
open Go.RowKit
theorem wp_region_one {P : Program} {ops : Array Oper} {id : Nat} {Q : Exit → Act → World → Prop} {a : Act} {w : World} (n c : Nat) (D : List Nat) (C : Bool → (Nat → Value) → World → Prop) (T : Nat → Value → World → Prop) (St : World → World → Prop) (hm : P.follows .mixedOrders = true)
    (hsz : ops.size = n + 1) (hlen : D.length = n) (hnd : D.Nodup) (hds : ∀ d ∈ D, d < a.tmps.size) (hB : inOrderB ops = true) (hlast : ((List.range n).all fun i => Region.waitsFor .any ops n i) = true) (hcn : c < n) (h0 : C false (slot a) w.drew)
    (hst : ∀ i v w w', T i v w → St w w' → T i v w')
    (hs : ∀ i, i < n → i ≠ c → ∀ b a1 w1, Fr a D a1 → C b (slot a1) w1 → (∀ j, j < n → Region.waitsFor .any ops i j = true → T j (slot a1 (D.getD j 0)) w1) →
      wpOp P ops Q i (fun a2 w2 => ∃ v, a2 = a1.put (some (D.getD i 0)) v ∧ C b (slot a2) w2 ∧ St w1 w2 ∧ T i v w2) a1 w1)
    (h1 : ∀ a1 w1, Fr a D a1 → C false (slot a1) w1 → (∀ j, j < n → Region.waitsFor .any ops c j = true → T j (slot a1 (D.getD j 0)) w1) →
      wpOp P ops Q c (fun a2 w2 => ∃ v, a2 = a1.put (some (D.getD c 0)) v ∧ C true (slot a2) w2 ∧ St w1 w2 ∧ T c v w2) a1 w1)
    (he : ∀ a1 w1, a1 = D.foldl (fun b d => b.put (some d) (slot a1 d)) a → C true (slot a1) w1 → (∀ j, j < n → T j (slot a1 (D.getD j 0)) w1) → wpOp P ops Q n (fun a2 w2 => a2 = a1 ∧ Q .normal a2 w2) a1 w1) : (Code.region id ops true).wp P Q a w := by
  have hmem : ∀ i, i < n → D.getD i 0 ∈ D := fun i hi => by
    rw [List.getD_eq_getElem?_getD, List.getElem?_eq_getElem (by omega)]
    exact List.getElem_mem _
  have hinj : ∀ i j, i < n → j < n → D.getD i 0 = D.getD j 0 → i = j := fun i j hi hj h => by
    rw [List.getD_eq_getElem?_getD, List.getD_eq_getElem?_getD, List.getElem?_eq_getElem (by omega), List.getElem?_eq_getElem (by omega)] at h
    exact (List.getElem_inj hnd).1 h
  have hl : ∀ i, i < n → Region.waitsFor .any ops n i = true := fun i hi => List.all_eq_true.1 hlast i (List.mem_range.2 hi)
  refine wp_region_fr D (fun done s w1 => (done.getD n false = true → ∀ a2, Fr a D a2 → slot a2 = s → Q .normal a2 w1) ∧ (done.getD n false = false → C (done.getD c false) s w1 ∧ ∀ j, j < n → done.getD j false = true → T j (s (D.getD j 0)) w1)) hm ⟨fun h => ?_, fun _ => ⟨?_, fun j hj hd => ?_⟩⟩ ?_ ?_
  · rw [Array.getD_eq_getD_getElem?] at h
    simp [show n < ops.size by omega] at h
  · have : (Array.replicate ops.size false).getD c false = false := by
      rw [Array.getD_eq_getD_getElem?]; simp [show c < ops.size by omega]
    rw [this]; exact h0
  · rw [Array.getD_eq_getD_getElem?] at hd
    simp [show j < ops.size by omega] at hd
  · intro done a1 w1 hF hI hz hcl i hi
    have hlt := ready_lt hi
    have hu : done.getD i false = false := by
      have := (ready_at hi (Array.getElem?_eq_getElem hlt)).1
      rw [Array.getD_eq_getD_getElem?, Array.getElem?_eq_getElem (by omega)] at this ⊢
      exact this
    have hset : ∀ q, q ≠ i → (done.setIfInBounds i true).getD q false = done.getD q false := fun q hq => by
      simp [Array.getD_eq_getD_getElem?, Array.getElem?_setIfInBounds_ne (Ne.symm hq)]
    have hself : (done.setIfInBounds i true).getD i false = true := by
      have : i < done.size := by omega
      simp [Array.getD_eq_getD_getElem?, this]
    have hrdy : ∀ j, Region.waitsFor .any ops i j = true → done.getD j false = true := fun j hj => by
      obtain ⟨e, he1, he2, he3⟩ := waits_of (Array.getElem?_eq_getElem hlt) hj
      have hdn := (ready_at hi (Array.getElem?_eq_getElem hlt)).2 e he1 he2
      rw [he3] at hdn
      exact hdn
    by_cases hin : i = n
    · subst hin
      have hC := hI.2 hu
      have hT : ∀ j, j < i → T j (slot a1 (D.getD j 0)) w1 := fun j hj => hC.2 j hj (hrdy j (hl j hj))
      have hcd : done.getD c false = true := hrdy c (hl c hcn)
      rw [hcd] at hC
      refine wpOp_mono ?_ (he a1 w1 hF.eq hC.1 hT)
      rintro a2 w2 ⟨rfl, hQ⟩
      refine ⟨hF, fun _ a3 hF3 hs3 => ?_, fun h => by rw [hself] at h; cases h⟩
      have e3 := hF3.eq
      rw [hs3] at e3
      rw [e3, ← hF.eq]
      exact hQ
    · have hin' : i < n := by omega
      have hnd' : done.getD n false = false := by
        cases h : done.getD n false with
        | false => rfl
        | true =>
          obtain ⟨e, he1, he2, he3⟩ := waits_of (Array.getElem?_eq_getElem (show n < ops.size by omega)) (hl i hin')
          have := hcl n _ (Array.getElem?_eq_getElem (show n < ops.size by omega)) h e he1 he2
          rw [he3, hu] at this
          cases this
      obtain ⟨hC, hTs⟩ := hI.2 hnd'
      have hT : ∀ j, j < n → Region.waitsFor .any ops i j = true → T j (slot a1 (D.getD j 0)) w1 := fun j hj hw => hTs j hj (hrdy j hw)
      have fin : ∀ b, (done.setIfInBounds i true).getD c false = b → ∀ a2 w2, (∃ v, a2 = a1.put (some (D.getD i 0)) v ∧ C b (slot a2) w2 ∧ St w1 w2 ∧ T i v w2) → Fr a D a2 ∧ ((done.setIfInBounds i true).getD n false = true → ∀ a3, Fr a D a3 → slot a3 = slot a2 → Q .normal a3 w2) ∧
          ((done.setIfInBounds i true).getD n false = false → C ((done.setIfInBounds i true).getD c false) (slot a2) w2 ∧ ∀ j, j < n → (done.setIfInBounds i true).getD j false = true → T j (slot a2 (D.getD j 0)) w2) := by
        rintro b hb a2 w2 ⟨v, rfl, hC2, hSt, hTv⟩
        refine ⟨hF.put _ (hmem i hin') v, fun h => ?_, fun _ => ⟨by rw [hb]; exact hC2, fun j hj hd => ?_⟩⟩
        · rw [hset n (Ne.symm hin), hnd'] at h; cases h
        · by_cases e : i = j
          · subst e
            rw [slot_put_same _ _ _ (by rw [hF.size]; exact hds _ (hmem i hin'))]
            exact hTv
          · rw [hset j (Ne.symm e)] at hd
            rw [slot_put_ne _ _ _ _ (fun e2 => e (hinj i j hin' hj e2))]
            exact hst j _ _ _ (hTs j hj hd) hSt
      by_cases hic : i = c
      · subst hic
        rw [hu] at hC
        exact wpOp_mono (fin true hself) (h1 a1 w1 hF hC hT)
      · exact wpOp_mono (fin _ (hset c (Ne.symm hic))) (hs i hin' hic _ a1 w1 hF hC hT)
  · intro done a1 w1 ha hI hz hr
    refine hI.1 (all_done hB hz hr n (by omega)) a1 ?_ rfl
    rw [ha]
    have : ∀ (l : List Nat) (b : Act), (∀ d ∈ l, d ∈ D) → Fr a D b → Fr a D (l.foldl (fun b d => b.put (some d) (slot a1 d)) b) := by
      intro l
      induction l with
      | nil => intro b _ hb; exact hb
      | cons d l ih => intro b hd hb; exact ih _ (fun x hx => hd x (by simp [hx])) (hb.put d (hd d (by simp)) _)
    exact this D a (fun d hd => hd) (Fr.refl _ _)
section
variable {P : Program} {ops : Array Oper} {Q : Exit → Act → World → Prop} {C : (Nat → Value) → World → Prop} {T : Value → World → Prop} {St : World → World → Prop} {i d : Nat} {a1 : Act} {w1 w2 : World} {op : Op} {tp : TypeId} {pos : String} {af : Array Edge} {v : Value}
/-- an operation that yields a value at once -/
theorem one_val (hi : ops[i]? = some ⟨some d, op, tp, pos, af, none⟩) (hd : d < a1.tmps.size) (hr : (execOp a1.eval (⟨some d, op, tp, pos, af, none⟩ : Oper)).run P w1 = .ok (.value v) w2)
    (hC : ∀ s : Nat → Value, s d = v → (∀ j, j ≠ d → s j = slot a1 j) → C s w2) (hS : St w1 w2) (hT : T v w2) : wpOp P ops Q i (fun a2 w2 => ∃ v, a2 = a1.put (some d) v ∧ C (slot a2) w2 ∧ St w1 w2 ∧ T v w2) a1 w1 :=
  inv_op (o := ⟨some d, op, tp, pos, af, none⟩) hi rfl hr ⟨v, rfl, hC _ (slot_put_same _ _ _ hd) (fun _j hj => slot_put_ne _ _ _ _ (Ne.symm hj)), hS, hT⟩
/-- the last one, that yields nothing -/
theorem one_last {K : Act → World → Prop} (hi : ops[i]? = some ⟨none, op, tp, pos, af, none⟩) (hr : (execOp a1.eval (⟨none, op, tp, pos, af, none⟩ : Oper)).run P w1 = .ok .skip w2) (hK : K a1 w2) : wpOp P ops Q i K a1 w1 := by
  unfold wpOp
  rw [hi]
  simp only
  rw [if_pos (by simp [Region.wanted])]
  refine .inl ?_
  unfold Oper.wp
  rw [hr]
  exact hK
end
end Go.Proofs.YtmnknmpfkjhgbaaGreatDoor
/- differ.of: a tree's side. -/
namespace Go.Proofs.YtmnknmpfkjhgbaaGreatDoor
open Go.RowKit
/-- region 7: what each operation yields -/
def ofT (mb b3 b5 : Nat) (dir xp : Tx) (vK : Value) : Nat → Value → World → Prop
  | 0, v, _ => v = .pointer (some ⟨b3, 1, none⟩)
  | 1, v, _ => v = .map (some mb)
  | 2, v, _ => v = .string ⟨dir.toArray⟩
  | 3, v, _ => v = .pointer (some ⟨b3, 1, none⟩)
  | 4, v, _ => v = .map (some mb)
  | 5, v, _ => v = .string ⟨dir.toArray⟩
  | 6, v, _ => v = vK
  | 7, v, _ => v = .pointer (some ⟨b5, 0, none⟩)
  | 8, v, _ => v = .string ⟨xp.toArray⟩
  | 9, v, w => ∃ bl, v = .slice (some ⟨bl, 0, none⟩) 1 1 ∧ RdV w (fun b => b = bl) 1 v 1 [.string ⟨xp.toArray⟩] ∧ bl < w.heap.size ∧ vK.ownBlock ≠ some bl
  | _, _, _ => True
theorem ofT_stays {mb b3 b5 : Nat} {dir xp : Tx} {vK : Value} (i : Nat) (v : Value) (w w' : World) (h : ofT mb b3 b5 dir xp vK i v w) (hb : Chg (fun j => vK.ownBlock = some j) w.heap.size w w') : ofT mb b3 b5 dir xp vK i v w' := by
  unfold ofT at h ⊢
  split at h
  · exact h
  · exact h
  · exact h
  · exact h
  · exact h
  · exact h
  · exact h
  · exact h
  · exact h
  · obtain ⟨bl, e, h1, h2, h3⟩ := h
    exact ⟨bl, e, h1.chg hb (fun b e => by subst e; exact ⟨h2, h3⟩), Nat.lt_of_lt_of_le h2 hb.size, h3⟩
  · trivial
/-- .. and what is known of the memory, before the append and behind it -/
def ofC (W : World) (b0 : Nat) (vK : Value) (ks : List Tx) : Bool → (Nat → Value) → World → Prop
  | false, _, w => Below W.heap.size W w
  | true, s, w => Chg (fun j => vK.ownBlock = some j) W.heap.size W w ∧ OwnS w b0 (s 41) ks ∧ ((s 41).ownBlock = vK.ownBlock ∨ ∃ g, (s 41).ownBlock = some g ∧ W.heap.size ≤ g)
theorem ofC_chg {W : World} {b0 : Nat} {vK : Value} {ks : List Tx} {b : Bool} {s : Nat → Value} {w : World} (h : ofC W b0 vK ks b s w) : Chg (fun j => vK.ownBlock = some j) W.heap.size W w := by
  cases b with
  | false => exact .of_below h
  | true => exact h.1
theorem ofC_on {W : World} {b0 : Nat} {vK : Value} {ks : List Tx} {b : Bool} {s s' : Nat → Value} {w w' : World} (h : ofC W b0 vK ks b s w) (hs : s' 41 = s 41) (hb : Below w.heap.size w w') : ofC W b0 vK ks b s' w' := by
  cases b with
  | false => exact (show Below W.heap.size W w from h).trans (hb.mono (show Below W.heap.size W w from h).size)
  | true =>
    obtain ⟨h1, h2, h3⟩ := h
    exact ⟨h1.trans ((Chg.of_below hb).lower h1.size), by rw [hs]; exact ownsRow_loc _ _ (fun b e => hb.block b (World.ownsRow.lt h2 b e).2) h2, by rw [hs]; exact h3⟩
theorem keysM_len (m : Mb) : (keysM m).length ≤ m.1.length + 2 := by
  unfold keysM
  rw [List.length_cons, List.length_append, List.length_singleton]
  have := abvT_len m.1 m.1.length
  rw [abvT_all] at this
  omega
theorem flat_take {L : List Mb} {k : Nat} (hk : k < L.length) : (L.take (k + 1)).flatMap keysM = (L.take k).flatMap keysM ++ keysM L[k] := by
  rw [List.take_succ_eq_append_getElem hk, List.flatMap_append]
  simp
theorem flatk_len {L : List Mb} (h : ∀ m ∈ L, m.1.length ≤ 400000) : (L.flatMap keysM).length ≤ L.length * 400002 := by
  induction L with
  | nil => simp
  | cons m L ih =>
    rw [List.flatMap_cons, List.length_append, List.length_cons]
    have h1 := keysM_len m
    have h2 := h m (by simp)
    have h3 := ih (fun x hx => h x (by simp [hx]))
    omega
theorem NamesIn.made (w : World) (base : Nat) : NamesIn (w.alloc (.map #[] 0)) base w.heap.size [] [] :=
  ⟨MapS.made w, fun d v h => by simp [SM.look] at h, fun _ _ => rfl, fun d d' v v' b h => by simp [SM.look] at h, fun d v b h => by simp [SM.look] at h⟩
theorem Hp.newNam {M : Nat → Prop} {w wr : World} {ls : List As} (h : Hp M w wr ls) (base : Nat) : Hp M w (wr.alloc (.map #[] 0)) (ls ++ [namA base wr.heap.size [] []]) :=
  h.push _ (.of_below ((Below.refl _ _).alloc (Nat.le_refl _) _)) (NamesIn.made wr base) (fun b hb => by
    rcases hb with hb | ⟨d, v, hd, _⟩
    · subst hb; simp
    · simp [SM.look] at hd)
/-- blocks that stay as they were in W -/
def sameA (N : Nat → Prop) (W : World) : As := ⟨N, fun w => ∀ b, N b → w.heap[b]? = W.heap[b]?, fun _ _ h hp b hb => (h b hb).trans (hp b hb)⟩
set_option maxHeartbeats 8000000 in
set_option maxRecDepth 100000 in
theorem dof_any (T tb : Nat) (Bk : Nat → Prop) (f : Tx → Value × Value) (L : List Mb) (w : World) (hL : L.length ≤ 100000) (hT : TreeIn w T tb Bk f L) (hBk : ∀ b, Bk b → b < w.heap.size) :
    Calls Tryz.prog 80 #[.pointer (some ⟨T, 0, none⟩)] w fun e w' => ∃ nb mb yb, e = .returned (.agg #[.map (some nb), .map (some mb), .map (some yb), .func (.func 18) #[.pointer (some ⟨T, 0, none⟩)] #[]]) ∧ SideIn w' (Fresh w.heap.size w') nb mb yb L ∧ (w.heap.size ≤ nb ∧ w.heap.size ≤ mb ∧ w.heap.size ≤ yb) ∧ Below w.heap.size w w' := by
  have HT := Keep.keep hT; have HBK := Keep.keep hBk
  have HSR := Keep.keep hT.srt
  have HSM := Keep.keep hT.sm
  have hTw := hT.row.lt
  have hmw := hT.map.lt
  have hmm := @run_makeMap Tryz.prog
  have hsb := sideB
  clear hT hBk
  go_enter Tryz.func80, Tryz.ntmps80
  have HSZN : Keep ((#[.map (some (w.heap.size + 1)), .map (some (w.heap.size + 1 + 1)), .map (some (w.heap.size + 1 + 1 + 1)), .func (.func 18) #[.pointer (some ⟨T, 0, none⟩)] #[]] : Array Value).size = 4) := ⟨rfl⟩
  have HONN : Keep ((#[.map (some (w.heap.size + 1)), .map (some (w.heap.size + 1 + 1)), .map (some (w.heap.size + 1 + 1 + 1)), .func (.func 18) #[.pointer (some ⟨T, 0, none⟩)] #[]] : Array Value).all (·.oneCell') = true) := ⟨by simp [Value.oneCell']⟩
  have HZZ : Keep ((#[.map none, .map none, .map none, .nilFunc] : Array Value).size = 4) := ⟨rfl⟩
  go_wp2_with (with_reducible refine arm_stopS ?_)
  refine Stopped.out ?_
  refine arm_storeRow (c := #[.map none, .map none, .map none, .nilFunc]) (e := 110) (Row.new' (by simp) rfl) aggS HZZ.out HSZN.out HONN.out rfl rfl ?_
  simp only [Act.put]
  go_upto_region 2 with fail
  obtain ⟨b0, hb0⟩ : ∃ b0, w.heap.size = b0 := ⟨_, rfl⟩
  have HB0 := Keep.keep hb0
  refine wp_world (R := fun w1 => Hp NoM w w1 [rowA b0 110 #[.map none, .map none, .map none, .nilFunc], msA 9 (b0 + 1) [], namA b0 (b0 + 2) [] [], msA 9 (b0 + 3) [], rowA (b0 + 4) 110 #[.map (some (b0 + 1)), .map (some (b0 + 2)), .map (some (b0 + 3)), .func (.func 18) #[.pointer (some ⟨T, 0, none⟩)] #[]]]) ?_ ?_
  · have h1 := (((Hp.begin NoM w).newRow 110 #[.map none, .map none, .map none, .nilFunc]).newMap 9).newNam b0
    have h2 := (h1.newMap 9).newRow 110 #[.map none, .map none, .map none, .nilFunc]
    have h3 := h2.setRow 4 rfl #[.map (some (b0 + 1)), .map (some (b0 + 2)), .map (some (b0 + 3)), .func (.func 18) #[.pointer (some ⟨T, 0, none⟩)] #[]]
    simpa [hb0, Nat.add_assoc] using h3
  intro w1 H1
  have hb1 := H1.out.below
  have hs1 := hb1.size
  have hw1b := (H1.out.row 4 rfl).lt
  have hAL := all_own T tb Bk f L w1 hL (HT.out.loc (fun b hb' => hb1.block b (by
    rcases hb' with rfl | rfl | h
    · exact hTw
    · exact hmw
    · exact HBK.out b h))) ⟨by omega, by omega, fun b hb => by have := HBK.out b hb; omega⟩
  have HAL := Keep.keep hAL
  clear hmm hsb hb1 hAL
  go_wp2_with fail
  refine HAL.out.mono ?_
  rintro e w2 ⟨v16, l6, rfl, hl6, hm6, hb2⟩
  have H2 := Keep.keep (H1.out.push (sameA (fun b => w1.heap.size ≤ b ∧ b < w2.heap.size) w2) (.of_below hb2) (fun _ _ => rfl) (fun b hb => hb))
  have HL6 := Keep.keep hl6
  have hs2 := hb2.size
  have HM6 : Keep (Mbs w2 (Fresh b0 w2) (Fresh b0 w2) v16 l6) := ⟨hm6.mbs.mono (fun b hb => ⟨by have := hb.1; omega, hb.2⟩) (fun b hb => ⟨by have := hb.1; omega, hb.2⟩)⟩
  have HRL : Keep (∀ b, v16.ownBlock = some b → w1.heap.size ≤ b) := ⟨fun b hb => (World.ownsRow.lt hm6.own b hb).1⟩
  have HN6 : Keep (l6.length = L.length) := ⟨by rw [← hl6, List.length_map]⟩
  have HND6 : Keep (∀ x ∈ l6, NdR w2 (fun b => w1.heap.size ≤ b ∧ b < w2.heap.size) x.1.2 x.2.1 x.2.2) := ⟨fun x hx => (hm6.nd x hx).r.mono (fun b hb => ⟨hb.1, hb.2.1⟩)⟩
  have HRD6 : Keep (RdV w2 (fun b => w1.heap.size ≤ b ∧ b < w2.heap.size) 9 v16 l6.length (mcells l6)) := ⟨(ownsV_reads hm6.own).mono (fun b hb => ⟨hb.1, hb.2.1⟩)⟩
  obtain ⟨a6, c6, hv6, hc6, hx6, h36⟩ := HRD6.out.shape
  have H36 := Keep.keep h36
  rw [HN6.out] at hv6 hc6
  clear hl6 hm6 hb2 HAL H1 h36
  subst hv6
  go_wp2_with fail
  go_loopg [18] L.length (fun g u18 wx => ∃ (k : Nat) (M1 M2 Y : List (Tx × Value)), k + g = L.length ∧ u18 = .int .i64 (k : Int) ∧ M1.length ≤ k ∧ M2.length ≤ k ∧ Y.length ≤ ((L.take k).flatMap keysM).length ∧ NodesIs w2 (fun b => w1.heap.size ≤ b ∧ b < w2.heap.size) M1 (L.take k) ∧ CntIs Y ((L.take k).flatMap keysM) ∧
    Hp NoM w wx [rowA b0 110 #[.map none, .map none, .map none, .nilFunc], msA 9 (b0 + 1) M1, namA b0 (b0 + 2) M2 (L.take k), msA 9 (b0 + 3) Y, rowA (b0 + 4) 110 #[.map (some (b0 + 1)), .map (some (b0 + 2)), .map (some (b0 + 3)), .func (.func 18) #[.pointer (some ⟨T, 0, none⟩)] #[]], sameA (fun b => w1.heap.size ≤ b ∧ b < w2.heap.size) w2])
  case atStart => exact ⟨0, [], [], [], by omega, rfl, Nat.le_refl _, Nat.le_refl _, Nat.zero_le _, (fun p => ⟨nilV, nilV, rfl, fun n hn => by simp [SM.look] at hn⟩), (fun q => rfl), H2.out⟩
  case round =>
    obtain ⟨k, M1, M2, Y, hkg, rfl, hl1, hl2, hlY, hnod, hcnt, hH⟩ := hrel
    have HNO := Keep.keep hnod; have HCN := Keep.keep hcnt; have HH := Keep.keep hH
    clear hnod hcnt hH H2
    cases gk with
    | zero =>
      obtain rfl : k = L.length := by omega
      have HTK : Keep (L.take L.length = L) := ⟨List.take_length⟩
      rw [HTK.out] at HNO HCN HH
      have HRA := Keep.keep (HH.out.row 4 rfl)
      have HRB := Keep.keep (HH.out.row 0 rfl)
      have HSA : Keep ((#[.map (some (b0 + 1)), .map (some (b0 + 2)), .map (some (b0 + 3)), .func (.func 18) #[.pointer (some ⟨T, 0, none⟩)] #[]] : Array Value).size = 4) := ⟨rfl⟩
      have HSB : Keep ((#[.map none, .map none, .map none, .nilFunc] : Array Value).size = 4) := ⟨rfl⟩
      have HON : Keep ((#[.map (some (b0 + 1)), .map (some (b0 + 2)), .map (some (b0 + 3)), .func (.func 18) #[.pointer (some ⟨T, 0, none⟩)] #[]] : Array Value).all (·.oneCell') = true) := ⟨by simp [Value.oneCell']⟩
      have HSW : Keep (w1.heap.size ≤ w2.heap.size ∧ b0 < w1.heap.size) := ⟨by omega, by omega⟩
      go_wp2_with (first | ((with_reducible refine arm_loadRow HRA.out aggS HSA.out ?_ ?_); (focus rfl); simp only [Act.put, List.setIfInBounds_toArray, List.set_cons_succ, List.set_cons_zero]) | ((with_reducible refine arm_storeRow HRB.out aggS HSB.out HSA.out HON.out ?_ ?_ ?_); (focus rfl); (focus rfl); simp only [Act.put]))
      have hoth : ∀ b, b ≠ b0 → (wr.setRow b0 #[.map (some (b0 + 1)), .map (some (b0 + 2)), .map (some (b0 + 3)), .func (.func 18) #[.pointer (some ⟨T, 0, none⟩)] #[]]).heap[b]? = wr.heap[b]? := fun b hb => Go.setRow_other wr b0 b _ hb
      have hsr : (wr.setRow b0 #[.map (some (b0 + 1)), .map (some (b0 + 2)), .map (some (b0 + 3)), .func (.func 18) #[.pointer (some ⟨T, 0, none⟩)] #[]]).heap.size = wr.heap.size := by simp [World.setRow]
      have hsame : ∀ b, (w1.heap.size ≤ b ∧ b < w2.heap.size) → wr.heap[b]? = w2.heap[b]? := HH.out.get 5 rfl
      have hsb : ∀ b, (w1.heap.size ≤ b ∧ b < w2.heap.size) → b < wr.heap.size := fun b hb => ((HH.out.p _ (List.mem_of_getElem? (i := 5) rfl)).2 b hb).2
      have hnam : NamesIn wr b0 (b0 + 2) M2 L := HH.out.get 2 rfl
      refine bodyPost_ret (results_row (p := 2) (ty := 110) rfl (HRB.out.setRow _) aggS HSA.out rfl) rfl ⟨b0 + 1, b0 + 2, b0 + 3, rfl, ⟨⟨M1, MapS.loc (HH.out.get 1 rfl) (hoth _ (by omega)), ?_⟩, ⟨M2, MapS.loc hnam.map (hoth _ (by omega)), fun d => ?_⟩, ⟨Y, MapS.loc (HH.out.get 3 rfl) (hoth _ (by omega)), HCN.out⟩⟩, by omega, ?_⟩
      · refine (HNO.out.loc (fun b hb => ?_)).mono (fun b hb => ⟨?_, ?_⟩)
        · rw [hoth b (by have := HSW.out; omega), hsame b hb]
        · have := HSW.out; omega
        · rw [hsr]; exact hsb b hb
      · have ho := hnam.at d
        have hbk : ∀ b, ((SM.look M2 d).getD nilV).ownBlock = some b → b ≠ b0 := fun b hb e => by
          have hl : SM.look M2 d = some ((SM.look M2 d).getD nilV) := by
            cases hl : SM.look M2 d with
            | none => rw [hl] at hb; cases hb
            | some u => rfl
          have := HH.out.d 0 2 _ _ rfl rfl b e (.inr ⟨d, _, hl, hb⟩)
          omega
        exact ((ownsV_reads ho).loc (fun b hb => hoth b (hbk b hb.2.2))).mono (fun b hb => ⟨by have := HB0.out; have := hb.1; omega, by rw [hsr]; exact hb.2.1⟩)
      · exact ((Chg.of_below (M := NoM) HH.out.below).setRow (.inl (by omega)) _).below (fun _ _ h => h)
    | succ g =>
      have hk : k < L.length := by omega
      have hk6 : k < l6.length := by rw [HN6.out]; exact hk
      have hLk : l6[k].1 = L[k] := by
        have : (l6.map (·.1))[k]? = L[k]? := by rw [HL6.out]
        rw [List.getElem?_map, List.getElem?_eq_getElem hk6, List.getElem?_eq_getElem hk] at this
        simpa using this
      obtain ⟨b, off, rfl, hbl⟩ : ∃ b off, a6 = some ⟨b, off, none⟩ ∧ (w1.heap.size ≤ b ∧ b < w2.heap.size) := by
        rcases H36.out with h | ⟨b, off, h, hb⟩
        · omega
        · exact ⟨b, off, h, hb⟩
      have hsame : ∀ b, (w1.heap.size ≤ b ∧ b < w2.heap.size) → wr.heap[b]? = w2.heap[b]? := HH.out.get 5 rfl
      have hmb6 : Mbs wr (fun b => w1.heap.size ≤ b ∧ b < w2.heap.size) (fun b => w1.heap.size ≤ b ∧ b < w2.heap.size) (.slice (some ⟨b, off, none⟩) L.length c6) l6 := ⟨by
        have := HRD6.out.loc hsame
        exact this, fun x hx => (HND6.out x hx).loc hsame⟩
      have hld := hmb6.load hk6
      have HND := Keep.keep (HND6.out _ (List.getElem_mem hk6))
      have HTK : Keep (L.take (k + 1) = L.take k ++ [L[k]]) := ⟨List.take_succ_eq_append_getElem hk⟩
      have HFT := Keep.keep (flat_take hk)
      have HNE : Keep (∀ y ∈ L.take k, y.1 ≠ L[k].1) := ⟨fun y hy e => by
        obtain ⟨j, hj, rfl⟩ := List.mem_iff_getElem.1 hy
        rw [List.length_take] at hj
        rw [List.getElem_take] at e
        have := (List.pairwise_iff_getElem.1 HSR.out) j k (by omega) hk (by omega)
        rw [e] at this
        exact tx_irrefl _ this⟩
      have hsx := HSM.out L[k] (List.getElem_mem hk)
      have HLB : Keep (((L.take k).flatMap keysM).length ≤ k * 400002) := ⟨by
        have := flatk_len (L := L.take k) (fun m hm => (HSM.out m (List.mem_of_mem_take hm)).p)
        rw [List.length_take, Nat.min_eq_left (by omega)] at this
        exact this⟩
      rw [← hLk] at HTK HFT HNE hsx
      clear hsame hmb6 hLk
      generalize l6[k] = x at *
      obtain ⟨⟨xp, ⟨kind, mode, uid, gid, time, attrs, data, link⟩⟩, av, dv⟩ := x
      obtain ⟨aa, la, ca, ad, ld, cd, e1, e2⟩ := HND.out.shape
      dsimp only at e1 e2 hsx HTK HFT HNE
      have hxp := hsx.p
      dsimp only at hxp
      subst e1 e2
      have HMC : Keep (mcell (((xp, ⟨kind, mode, uid, gid, time, attrs, data, link⟩), .slice aa la ca, .slice ad ld cd) : Mv) = #[.string ⟨xp.toArray⟩, .int .i64 kind, .int .u32 mode, .int .u32 uid, .int .u32 gid, .int .i64 time, .slice aa la ca, .slice ad ld cd, .string ⟨link.toArray⟩]) := ⟨rfl⟩
      rw [HMC.out] at hld
      have HPA := Keep.keep (fun w => parent_any xp (by omega) w)
      have HAB := Keep.keep (fun w => above_any xp (by omega) w)
      have HKM : Keep (keysM (xp, ⟨kind, mode, uid, gid, time, attrs, data, link⟩) = xp :: (aboveP xp ++ [[]])) := ⟨rfl⟩
      have HABL : Keep ((aboveP xp).length ≤ xp.length ∧ ∀ q ∈ aboveP xp, q.length ≤ xp.length) := ⟨by
        have := abvT_len xp xp.length
        rw [abvT_all] at this
        exact ⟨this, fun q hq => above_mem_len hq⟩⟩
      have hdl : (parentP xp).length ≤ xp.length := by unfold parentP; simp; omega
      rw [HKM.out] at HFT
      obtain ⟨dir, hdir⟩ : ∃ d, parentP xp = d := ⟨_, rfl⟩
      have HPR : Keep (∀ y : Mb, y = (xp, ⟨kind, mode, uid, gid, time, attrs, data, link⟩) → parentP y.1 = dir) := ⟨fun y e => by rw [e]; exact hdir⟩
      rw [hdir] at HPA hdl
      clear hdir
      generalize aboveP xp = ab at *
      clear hsx
      go_upto_region 5 with ((with_reducible refine arm_loadM hld ?_ ?_); (focus rfl); simp only [Act.put, List.setIfInBounds_toArray, List.set_cons_succ, List.set_cons_zero])
      obtain ⟨b5, hb5⟩ : ∃ b5, wr.heap.size = b5 := ⟨_, rfl⟩
      refine wp_world (R := fun w3 => Hp NoM w w3 [rowA b0 110 #[.map none, .map none, .map none, .nilFunc], msA 9 (b0 + 1) M1, namA b0 (b0 + 2) M2 (L.take k), msA 9 (b0 + 3) Y, rowA (b0 + 4) 110 #[.map (some (b0 + 1)), .map (some (b0 + 2)), .map (some (b0 + 3)), .func (.func 18) #[.pointer (some ⟨T, 0, none⟩)] #[]], sameA (fun b => w1.heap.size ≤ b ∧ b < w2.heap.size) w2, rowA b5 41 #[.string ⟨xp.toArray⟩, .int .i64 kind, .int .u32 mode, .int .u32 uid, .int .u32 gid, .int .i64 time, .slice aa la ca, .slice ad ld cd, .string ⟨link.toArray⟩]]) (by have := HH.out.newRow 41 #[.string ⟨xp.toArray⟩, .int .i64 kind, .int .u32 mode, .int .u32 uid, .int .u32 gid, .int .i64 time, .slice aa la ca, .slice ad ld cd, .string ⟨link.toArray⟩]; rw [hb5] at this; exact this) ?_
      intro w3 H3
      rw [hb5]
      have hla : (Instr.loadAt 39 (.pointer (some ⟨b5, 1, none⟩))).run Tryz.prog w3 = .ok (.agg #[.int .i64 kind, .int .u32 mode, .int .u32 uid, .int .u32 gid, .int .i64 time, .slice aa la ca, .slice ad ld cd, .string ⟨link.toArray⟩]) w3 := by
        have := run_loadAt_mid (P := Tryz.prog) w3 b5 1 39 [.int .i64 kind, .int .u32 mode, .int .u32 uid, .int .u32 gid, .int .i64 time, .slice aa la ca, .slice ad ld cd, .string ⟨link.toArray⟩] _ (fun j z hj => ((H3.out.row 6 rfl).cell (i := 1 + j) (by rw [Nat.add_comm]; simpa using hj))) Tryz.underlying39 rfl (by kernel_rfl)
        simpa using this
      have c30 := (H3.out.row 4 rfl).cell (i := 0) rfl
      have c50 := (H3.out.row 6 rfl).cell (i := 0) rfl
      have hm1 : MapS w3 9 (b0 + 1) M1 := H3.out.get 1 rfl
      have HM1 := Keep.keep hm1
      clear hm1 hld HH
      go_wp2_with (first | ((with_reducible refine arm_loadM hla ?_ ?_); (focus rfl); simp only [Act.put, List.setIfInBounds_toArray, List.set_cons_succ, List.set_cons_zero]) | (first | (with_reducible refine arm_sRange ?_) | (with_reducible refine arm_sNext ?_) | (with_reducible refine arm_sDel ?_) | (with_reducible refine arm_sPut ?_) | (with_reducible refine arm_sIns ?_)))
      refine StM.out ?_
      refine arm_putS Tryz.underlying9 Tryz.underlying86 HM1.out (p := xp) (u := .agg #[.int .i64 kind, .int .u32 mode, .int .u32 uid, .int .u32 gid, .int .i64 time, .slice aa la ca, .slice ad ld cd, .string ⟨link.toArray⟩]) (by unfold maxLen; omega) (by unfold maxLen; omega) rfl rfl rfl ?_
      intro w4 hm4 hc4
      have H4 := Keep.keep (H3.out.upd 1 rfl (msA 9 (b0 + 1) (SM.put M1 (xp, .agg #[.int .i64 kind, .int .u32 mode, .int .u32 uid, .int .u32 gid, .int .i64 time, .slice aa la ca, .slice ad ld cd, .string ⟨link.toArray⟩]))) hc4 hm4 (fun b hb => .inl hb))
      have HNO4 : Keep (NodesIs w2 (fun b => w1.heap.size ≤ b ∧ b < w2.heap.size) (SM.put M1 (xp, .agg #[.int .i64 kind, .int .u32 mode, .int .u32 uid, .int .u32 gid, .int .i64 time, .slice aa la ca, .slice ad ld cd, .string ⟨link.toArray⟩])) (L.take (k + 1))) := ⟨by
        rw [HTK.out]
        exact NodesIs.put (x := (xp, ⟨kind, mode, uid, gid, time, attrs, data, link⟩)) HM1.out.s HNO.out HNE.out HND.out⟩
      have HL4 : Keep ((SM.put M1 (xp, .agg #[.int .i64 kind, .int .u32 mode, .int .u32 uid, .int .u32 gid, .int .i64 time, .slice aa la ca, .slice ad ld cd, .string ⟨link.toArray⟩])).length ≤ k + 1) := ⟨by rw [HM1.out.s.length_put]; split <;> omega⟩
      generalize SM.put M1 (xp, .agg #[.int .i64 kind, .int .u32 mode, .int .u32 uid, .int .u32 gid, .int .i64 time, .slice aa la ca, .slice ad ld cd, .string ⟨link.toArray⟩]) = M1' at *
      clear hm4 hc4 H3 HM1 hla c30 c50 HNO
      simp only [Act.put]
      have c50 := (H4.out.row 6 rfl).cell (i := 0) rfl
      go_wp2_with fail
      refine (HPA.out w4).mono ?_
      rintro e w5 ⟨rfl, rfl⟩
      go_upto_region 7 with fail
      have hnm : NamesIn w4 b0 (b0 + 2) M2 (L.take k) := H4.out.get 2 rfl
      obtain ⟨vK, hvK⟩ : ∃ v, (SM.look M2 dir).getD nilV = v := ⟨_, rfl⟩
      have HVK := Keep.keep hvK
      have HOK : Keep (OwnS w4 b0 vK ((kids dir (L.take k)).map (·.1))) := ⟨by rw [← hvK]; exact hnm.at dir⟩
      have HKL : Keep (((kids dir (L.take k)).map (·.1)).length ≤ k) := ⟨by
        rw [List.length_map]
        unfold kids
        exact Nat.le_trans (List.length_filter_le _ _) (by rw [List.length_take]; omega)⟩
      have HNM := Keep.keep hnm
      have HOB : Keep (∀ b, vK.ownBlock = some b → b ≠ b0 + 2 ∧ b ≠ b0 + 4 ∧ b ≠ b5) := ⟨fun b hb => by
        have hl : SM.look M2 dir = some vK := by
          cases hl : SM.look M2 dir with
          | none => rw [hl] at hvK; subst hvK; cases hb
          | some u => rw [hl] at hvK; rw [show u = vK from hvK]
        refine ⟨hnm.ne _ _ b hl hb, fun e => ?_, fun e => ?_⟩
        · have := H4.out.d 2 4 _ _ rfl rfl b (.inr ⟨_, _, hl, hb⟩) e; omega
        · have := H4.out.d 2 6 _ _ rfl rfl b (.inr ⟨_, _, hl, hb⟩) e; omega⟩
      obtain ⟨aK, cK, hvK2, -⟩ := (ownsV_reads HOK.out).shape
      obtain ⟨nK, hnK⟩ : ∃ n, ((kids dir (L.take k)).map (·.1)).length = n := ⟨_, rfl⟩
      have HNK := Keep.keep hnK
      rw [hnK] at hvK2
      clear hnm hvK hnK
      subst hvK2
      have hr4 := (H4.out.row 4 rfl).lt
      have hr6 := (H4.out.row 6 rfl).lt
      have hmb4 := HNM.out.map.lt
      refine wp_region_one 11 10 [31, 32, 33, 34, 35, 36, 37, 38, 39, 40, 41] (ofC w4 b0 (.slice aK nK cK) ((kids dir (L.take k)).map (·.1) ++ [xp])) (ofT (b0 + 2) (b0 + 4) b5 dir xp (.slice aK nK cK)) (fun w w' => Chg (fun j => (Value.slice aK nK cK).ownBlock = some j) w.heap.size w w') (by kernel_rfl) rfl rfl (by decide) (by show ∀ d ∈ _, d < 66; decide) (by kernel_rfl) (by kernel_rfl) (by decide) (Below.refl _ _).drew (fun i v w w' h hb => ofT_stays i v w w' h hb) ?_ ?_ ?_
      · intro q hq hqc b a1 w5 hF hC hT
        have hsz : a1.tmps.size = 66 := hF.size
        have t3 : a1.eval (.tmp 3) = .pointer (some ⟨b0 + 4, 0, none⟩) := (hF.same 3 (by decide)).trans rfl
        have t5 : a1.eval (.tmp 5) = .pointer (some ⟨b5, 0, none⟩) := (hF.same 5 (by decide)).trans rfl
        have t6 : a1.eval (.tmp 6) = .string ⟨dir.toArray⟩ := (hF.same 6 (by decide)).trans rfl
        have hch := ofC_chg hC
        have RS := (H4.out.row 4 rfl).chg hch hr4 (fun e => (HOB.out _ e).2.1 rfl)
        have RM := (H4.out.row 6 rfl).chg hch hr6 (fun e => (HOB.out _ e).2.2 rfl)
        have hon : ∀ s : Nat → Value, s 41 = slot a1 41 → ofC w4 b0 (.slice aK nK cK) ((kids dir (L.take k)).map (·.1) ++ [xp]) b s w5 := fun s hs => ofC_on hC hs (Below.refl _ _)
        have hkr : Chg (fun j => (Value.slice aK nK cK).ownBlock = some j) w5.heap.size w5 w5 := .refl _ _ _
        rcases (by omega : q = 0 ∨ q = 1 ∨ q = 2 ∨ q = 3 ∨ q = 4 ∨ q = 5 ∨ q = 6 ∨ q = 7 ∨ q = 8 ∨ q = 9) with rfl | rfl | rfl | rfl | rfl | rfl | rfl | rfl | rfl | rfl
        · exact one_val (d := 31) rfl (by omega) (run_fieldAddr (m := 0) Tryz.underlying110 rfl (by kernel_rfl) t3) (fun s _ h => hon s (h 41 (by decide))) hkr rfl
        · have hx : a1.eval (.tmp 31) = .pointer (some ⟨b0 + 4, 1, none⟩) := hT 0 (by decide) (by kernel_rfl)
          exact one_val (d := 32) rfl (by omega) (run_loadCell (run_isAgg_plain Tryz.underlying108 rfl) (RS.cell (i := 1) rfl) hx) (fun s _ h => hon s (h 41 (by decide))) hkr rfl
        · exact one_val (d := 33) rfl (by omega) run_move (fun s _ h => hon s (h 41 (by decide))) hkr t6
        · exact one_val (d := 34) rfl (by omega) (run_fieldAddr (m := 0) Tryz.underlying110 rfl (by kernel_rfl) t3) (fun s _ h => hon s (h 41 (by decide))) hkr rfl
        · have hx : a1.eval (.tmp 34) = .pointer (some ⟨b0 + 4, 1, none⟩) := hT 3 (by decide) (by kernel_rfl)
          exact one_val (d := 35) rfl (by omega) (run_loadCell (run_isAgg_plain Tryz.underlying108 rfl) (RS.cell (i := 1) rfl) hx) (fun s _ h => hon s (h 41 (by decide))) hkr rfl
        · exact one_val (d := 36) rfl (by omega) run_move (fun s _ h => hon s (h 41 (by decide))) hkr t6
        · have hx : a1.eval (.tmp 35) = .map (some (b0 + 2)) := hT 4 (by decide) (by kernel_rfl)
          have hy : a1.eval (.tmp 36) = .string ⟨dir.toArray⟩ := hT 5 (by decide) (by kernel_rfl)
          have hm5 : MapS w5 9 (b0 + 2) M2 := HNM.out.map.loc (hch.block _ hmb4 (fun e => (HOB.out _ e).1 rfl))
          have hl := hm5.look1 Tryz.underlying9 Tryz.underlying108 (zeroSt w5) (p := dir) (by unfold maxLen; omega)
          rw [HVK.out] at hl
          exact one_val (d := 37) rfl (by omega) (v := .slice aK nK cK) (by simp [execOp, hx, hy, hl]) (fun s _ h => hon s (h 41 (by decide))) hkr rfl
        · exact one_val (d := 38) rfl (by omega) (run_fieldAddr (m := 0) Tryz.underlying41 rfl (by kernel_rfl) t5) (fun s _ h => hon s (h 41 (by decide))) hkr rfl
        · have hx : a1.eval (.tmp 38) = .pointer (some ⟨b5, 0, none⟩) := hT 7 (by decide) (by kernel_rfl)
          exact one_val (d := 39) rfl (by omega) (run_loadCell (run_isAgg_plain Tryz.underlying9 rfl) (RM.cell (i := 0) rfl) hx) (fun s _ h => hon s (h 41 (by decide))) hkr rfl
        · have hx : a1.eval (.tmp 39) = .string ⟨xp.toArray⟩ := hT 8 (by decide) (by kernel_rfl)
          have hal2 : Below w5.heap.size w5 (w5.alloc (.cells (a1.eval (.tmp 39)).cells 9)) := (Below.refl _ _).alloc (Nat.le_refl _) _
          refine one_val (d := 40) rfl (by omega) (run_build1 slS (by decide) (by rw [hx]; rfl)) (fun s _ h => ofC_on hC (h 41 (by decide)) hal2) (.of_below hal2) ?_
          rw [hx]
          refine ⟨w5.heap.size, rfl, RdV.new 9 [.string ⟨xp.toArray⟩] 1 1 w5.heap.size rfl rfl (by unfold maxLen; omega) rfl, by simp, fun e => ?_⟩
          have := (World.ownsRow.lt HOK.out _ e).2
          have := hch.size
          omega
      · intro a1 w5 hF hC hT
        have hsz : a1.tmps.size = 66 := hF.size
        have hC : Below w4.heap.size w4 w5 := hC
        have hx : a1.eval (.tmp 37) = .slice aK nK cK := hT 6 (by decide) (by kernel_rfl)
        obtain ⟨bl, t9, hrd, hbl9, hblo⟩ : ∃ bl, slot a1 40 = .slice (some ⟨bl, 0, none⟩) 1 1 ∧ RdV w5 (fun b => b = bl) 1 (slot a1 40) 1 [.string ⟨xp.toArray⟩] ∧ bl < w5.heap.size ∧ (Value.slice aK nK cK).ownBlock ≠ some bl := hT 9 (by decide) (by kernel_rfl)
        have ho5 : OwnS w5 b0 (.slice aK nK cK) ((kids dir (L.take k)).map (·.1)) := ownsRow_loc _ _ (fun b e => hC.block b (World.ownsRow.lt HOK.out b e).2) HOK.out
        have hb05 : b0 ≤ w5.heap.size := by have := H4.out.size; have := HB0.out; have := hC.size; omega
        obtain ⟨v', w', hr, ho, hg, hov⟩ := run_appV (ρ := a1.eval) (d := some 41) (tp := 42) (pos := "differ.go:42") (af := _) (g := none) slS (m := 1) (s := .tmp 37) (x := .tmp 40) ho5 hrd (by simp [Value.oneCell']) (by unfold maxLen; rw [HNK.out]; have := HKL.out; rw [HNK.out] at this; omega) (by rw [HNK.out]; have := HKL.out; rw [HNK.out] at this; omega) hb05 hx rfl
        have hch := (chg_grown hg)
        refine one_val (d := 41) rfl (by omega) hr (fun s hs _ => ?_) hch trivial
        refine ⟨(Chg.of_below hC).trans (hch.lower hC.size), ?_, ?_⟩
        · rw [hs]
          show w'.ownsRow b0 9 1 v' ((kids dir (L.take k)).map (·.1) ++ [xp]).length (((kids dir (L.take k)).map (·.1) ++ [xp]).map strV)
          rw [List.length_append, List.map_append]
          exact ho
        · rw [hs]
          rcases hov with h | h
          · exact .inl h
          · exact .inr ⟨_, h, hC.size⟩
      · intro a2 w6 ha hC hT
        obtain ⟨hch6, ho6, hov6⟩ := hC
        have t1 : a2.eval (.tmp 32) = .map (some (b0 + 2)) := hT 1 (by decide)
        have t2 : a2.eval (.tmp 33) = .string ⟨dir.toArray⟩ := hT 2 (by decide)
        have t3 : a2.eval (.tmp 41) = slot a2 41 := rfl
        have hmap6 : MapS w6 9 (b0 + 2) M2 := HNM.out.map.loc (hch6.block _ hmb4 (fun e => (HOB.out _ e).1 rfl))
        obtain ⟨w7, hr7, hm7, hc7⟩ := hmap6.put Tryz.underlying9 Tryz.underlying108 (p := dir) (by unfold maxLen; omega) (by unfold maxLen; omega) (slot a2 41)
        have hput := NamesIn.put (x := (xp, ⟨kind, mode, uid, gid, time, attrs, data, link⟩)) HNM.out hmb4 (by rw [HPR.out _ rfl]; exact HVK.out) (by rw [HPR.out _ rfl]; exact ho6) hch6 hov6 (by rw [HPR.out _ rfl]; exact hm7) hc7
        rw [HPR.out _ rfl] at hput
        obtain ⟨M2', hM2'⟩ : ∃ M, SM.put M2 (dir, slot a2 41) = M := ⟨_, rfl⟩
        have HL2 : Keep (M2'.length ≤ k + 1) := ⟨by rw [← hM2', hmap6.s.length_put]; split <;> omega⟩
        rw [hM2', ← HTK.out] at hput
        have hcx : Chg (fun j => (namA b0 (b0 + 2) M2 (L.take k)).blk j) w4.heap.size w4 w7 := by
          refine (hch6.mono (Nat.le_refl _) (fun j hj => ?_)).trans ((hc7.lower hch6.size).mono (Nat.le_refl _) (fun j hj => .inl hj))
          right
          have hl : SM.look M2 dir = some (.slice aK nK cK) := by
            have := HVK.out
            cases hl : SM.look M2 dir with
            | none => rw [hl] at this; rw [← show nilV = _ from this] at hj; cases hj
            | some u => rw [hl] at this; rw [show u = _ from this]
          exact ⟨_, _, hl, hj⟩
        have H7 := Keep.keep (H4.out.upd 2 rfl (namA b0 (b0 + 2) M2' (L.take (k + 1))) hcx hput.1 (fun b hb => by
          rcases hb with h | h
          · exact .inl (.inl h)
          · obtain ⟨d, u, hd, hu⟩ := h
            rcases hput.2 b ⟨d, u, hd, hu⟩ with h2 | h2
            · exact .inl (.inr h2)
            · exact .inr ⟨h2, (World.ownsRow.lt (hput.1.own d u hd) b hu).2⟩))
        refine one_last rfl (w2 := w7) (by simp [execOp, t1, t2, t3, hr7, Result.andThen]) ⟨rfl, ?_⟩
        simp only [List.foldl_cons, List.foldl_nil] at ha
        clear hT t1 t2 t3 hch6 ho6 hov6 hmap6 hr7 hm7 hc7 hput hM2' hcx H4 c50 HOK HNM HOB HVK HKL HNK hr4 hr6 hmb4
        generalize slot a2 31 = y31 at *
        generalize slot a2 32 = y32 at *
        generalize slot a2 33 = y33 at *
        generalize slot a2 34 = y34 at *
        generalize slot a2 35 = y35 at *
        generalize slot a2 36 = y36 at *
        generalize slot a2 37 = y37 at *
        generalize slot a2 38 = y38 at *
        generalize slot a2 39 = y39 at *
        generalize slot a2 40 = y40 at *
        generalize slot a2 41 = y41 at *
        subst ha
        simp only [Act.put, List.setIfInBounds_toArray, List.set_cons_succ, List.set_cons_zero]
        have k42 := (H7.out.row 4 rfl).cell (i := 2) rfl
        have c50 := (H7.out.row 6 rfl).cell (i := 0) rfl
        have hmY : MapS w7 9 (b0 + 3) Y := H7.out.get 3 rfl
        have HMY := Keep.keep hmY
        have hlk := hmY.look1 Tryz.underlying9 Tryz.underlying73 (zeroI w7) (p := xp) (by unfold maxLen; omega)
        rw [HCN.out xp] at hlk
        dsimp only at hlk
        have hkb : k * 400002 ≤ 100000 * 400002 := Nat.mul_le_mul_right _ (by omega)
        have hlb := HLB.out
        generalize (L.take k).flatMap keysM = ks at *
        have hcb : ks.count xp ≤ ks.length := List.count_le_length
        have HP8 := Keep.keep (CntIs.put HMY.out.s HCN.out xp)
        have HL8 : Keep ((SM.put Y (xp, .int .i64 (((ks.count xp : Nat) : Int) + 1))).length ≤ ks.length + 1) := ⟨by rw [HMY.out.s.length_put]; split <;> omega⟩
        generalize hcc : ks.count xp = cc at *
        clear hmY hcc
        go_wp2_with (first | (with_reducible refine arm_sRange ?_) | (with_reducible refine arm_sNext ?_) | (with_reducible refine arm_sDel ?_) | (with_reducible refine arm_sPut ?_) | (with_reducible refine arm_sIns ?_))
        refine StM.out ?_
        refine arm_putS Tryz.underlying9 Tryz.underlying73 HMY.out (p := xp) (u := .int .i64 ((cc : Int) + 1)) (by unfold maxLen; omega) (by unfold maxLen; omega) rfl rfl rfl ?_
        intro w8 hm8 hc8
        have H8 := Keep.keep (H7.out.upd 3 rfl (msA 9 (b0 + 3) (SM.put Y (xp, .int .i64 ((cc : Int) + 1)))) hc8 hm8 (fun b hb => .inl hb))
        generalize SM.put Y (xp, .int .i64 ((cc : Int) + 1)) = Y1 at *
        clear hm8 hc8 H7 HMY hlk k42 c50 HCN hcb
        simp only [Act.put]
        have c50 := (H8.out.row 6 rfl).cell (i := 0) rfl
        go_wp2_with fail
        refine (HAB.out w8).mono ?_
        rintro e w9 ⟨v50, rfl, ho50, hb9⟩
        have H9 := Keep.keep (H8.out.push (slA w8.heap.size 9 1 v50 ab.length (ab.map strV)) (.of_below hb9) ho50 (fun b hb => World.ownsRow.lt ho50 b hb))
        have hs9 := hb9.size
        obtain ⟨a50, c50', hv50, -⟩ := (ownsV_reads ho50).shape
        have habl := HABL.out.1
        clear ho50 hb9 H8 c50 HAB
        subst hv50
        go_wp2_with (with_reducible refine arm_stop ?_)
        refine Stopped.out ?_
        refine arm_appendV slS (m := 1) ((H9.out.alloc _).sl 7 rfl) (RdV.new (N := fun _ => True) 9 [strV []] 1 1 _ rfl rfl (by unfold maxLen; omega) trivial) (by simp [strV, Value.oneCell']) (by unfold maxLen; omega) (by omega) (by simp; omega) rfl rfl ?_
        intro v52 w10 ho hg hov _
        have H10 := Keep.keep ((H9.out.alloc _).grow 7 rfl hg ho hov)
        obtain ⟨g52, c52, rfl⟩ : ∃ g c, v52 = .slice (some ⟨g, 0, none⟩) (ab.length + 1) c := by
          rcases ho.2 with ⟨_, h⟩ | ⟨g, cap, cur, h, _⟩
          · omega
          · exact ⟨g, cap, h⟩
        clear ho hg hov H9
        simp only [Act.put, List.setIfInBounds_toArray, List.set_cons_succ, List.set_cons_zero]
        obtain ⟨abl, habl2⟩ : ∃ l, ab ++ [([] : Tx)] = l := ⟨_, rfl⟩
        have HABE : Keep (abl.length = ab.length + 1 ∧ (∀ q ∈ abl, q.length ≤ xp.length) ∧ ab.map strV ++ [strV []] = abl.map strV ∧ (L.take (k + 1)).flatMap keysM = ks ++ (xp :: abl)) := ⟨by rw [← habl2]; simp, fun q hq => by
          rw [← habl2] at hq
          rcases List.mem_append.1 hq with hq | hq
          · exact HABL.out.2 q hq
          · obtain rfl : q = [] := by simpa using hq
            exact Nat.zero_le _, by rw [← habl2]; simp, by rw [← habl2]; exact HFT.out⟩
        obtain ⟨na, hna⟩ : ∃ n, ab.length + 1 = n := ⟨_, rfl⟩
        rw [hna, HABE.out.2.2.1] at H10
        rw [hna] at HABE
        rw [hna]
        have hnab : na ≤ 400001 := by omega
        clear habl2 hna habl
        go_wp2_with fail
        go_loopg [8, 54] na (fun g _ u54 wx => ∃ (j : Nat) (Y' : List (Tx × Value)), j + g = na ∧ u54 = .int .i64 (j : Int) ∧ Y'.length ≤ ks.length + 1 + j ∧ CntIs Y' (ks ++ [xp] ++ abl.take j) ∧
          Hp NoM w wx [rowA b0 110 #[.map none, .map none, .map none, .nilFunc], msA 9 (b0 + 1) M1', namA b0 (b0 + 2) M2' (L.take (k + 1)), msA 9 (b0 + 3) Y', rowA (b0 + 4) 110 #[.map (some (b0 + 1)), .map (some (b0 + 2)), .map (some (b0 + 3)), .func (.func 18) #[.pointer (some ⟨T, 0, none⟩)] #[]], sameA (fun b => w1.heap.size ≤ b ∧ b < w2.heap.size) w2, rowA b5 41 #[.string ⟨xp.toArray⟩, .int .i64 kind, .int .u32 mode, .int .u32 uid, .int .u32 gid, .int .i64 time, .slice aa la ca, .slice ad ld cd, .string ⟨link.toArray⟩], slA w8.heap.size 9 1 (.slice (some ⟨g52, 0, none⟩) na c52) na (abl.map strV)])
        case atStart => exact ⟨0, Y1, by omega, rfl, HL8.out, by rw [List.take_zero, List.append_nil]; exact HP8.out, H10.out⟩
        case round =>
          obtain ⟨j, Y', hjg, rfl, hlY', hcnt, hH⟩ := hrel
          have HC2 := Keep.keep hcnt; have HH := Keep.keep hH
          clear hcnt hH H10
          cases gk with
          | zero =>
            obtain rfl : j = na := by omega
            have HTA : Keep (abl.take j = abl) := ⟨List.take_of_length_le (by rw [HABE.out.1]; exact Nat.le_refl _)⟩
            have HC3 : Keep (CntIs Y' ((L.take (k + 1)).flatMap keysM)) := ⟨by
              have := HC2.out
              rw [HTA.out, List.append_assoc] at this
              rw [HABE.out.2.2.2]; exact this⟩
            have HL3 : Keep (Y'.length ≤ ((L.take (k + 1)).flatMap keysM).length) := ⟨by
              rw [HABE.out.2.2.2, List.length_append, List.length_cons, HABE.out.1]; omega⟩
            go_wp2_with fail
            go_roundg g
            case measure => omega
            case rel => exact ⟨k + 1, M1', M2', Y', by omega, by simp, HL4.out, HL2.out, HL3.out, HNO4.out, HC3.out, HH.out.init.init⟩
          | succ g2 =>
            have hj : j < abl.length := by rw [HABE.out.1]; omega
            have hcell := (ownsV_reads (HH.out.sl 7 rfl)).cell g52 0 _ _ rfl j (strV abl[j]) (by simp [hj])
            have hql := HABE.out.2.1 abl[j] (List.getElem_mem hj)
            have HTJ : Keep (abl.take (j + 1) = abl.take j ++ [abl[j]]) := ⟨List.take_succ_eq_append_getElem hj⟩
            generalize abl[j] = q at *
            unfold strV at hcell
            rw [Nat.zero_add] at hcell
            have k42 := (HH.out.row 4 rfl).cell (i := 2) rfl
            have hmY : MapS wr 9 (b0 + 3) Y' := HH.out.get 3 rfl
            have HMY := Keep.keep hmY
            have hlk := hmY.look1 Tryz.underlying9 Tryz.underlying73 (zeroI wr) (p := q) (by unfold maxLen; omega)
            rw [HC2.out q] at hlk
            dsimp only at hlk
            have hcb : (ks ++ [xp] ++ abl.take j).count q ≤ ks.length + 1 + j := by
              refine Nat.le_trans List.count_le_length ?_
              simp; omega
            have HP9 := Keep.keep (CntIs.put HMY.out.s HC2.out q)
            have HL9 : Keep ((SM.put Y' (q, .int .i64 ((((ks ++ [xp] ++ abl.take j).count q : Nat) : Int) + 1))).length ≤ ks.length + 1 + (j + 1)) := ⟨by rw [HMY.out.s.length_put]; split <;> omega⟩
            have htj : ks ++ [xp] ++ abl.take j ++ [q] = ks ++ [xp] ++ abl.take (j + 1) := by rw [HTJ.out, List.append_assoc (ks ++ [xp])]
            rw [htj] at HP9
            clear htj
            generalize hcc : (ks ++ [xp] ++ abl.take j).count q = cc2 at *
            have hcb2 : cc2 ≤ 50000000000 := by omega
            have hYb : Y'.length ≤ 50000000000 := by omega
            clear hmY hcc HTJ hcb hlb hkb hlY hlY'
            go_wp2_with (first | (with_reducible refine arm_sRange ?_) | (with_reducible refine arm_sNext ?_) | (with_reducible refine arm_sDel ?_) | (with_reducible refine arm_sPut ?_) | (with_reducible refine arm_sIns ?_))
            refine StM.out ?_
            refine arm_putS Tryz.underlying9 Tryz.underlying73 HMY.out (p := q) (u := .int .i64 ((cc2 : Int) + 1)) (by unfold maxLen; omega) (by unfold maxLen; omega) rfl rfl rfl ?_
            intro w11 hm11 hc11
            have H11 := Keep.keep (HH.out.upd 3 rfl (msA 9 (b0 + 3) (SM.put Y' (q, .int .i64 ((cc2 : Int) + 1)))) hc11 hm11 (fun b hb => .inl hb))
            generalize SM.put Y' (q, .int .i64 ((cc2 : Int) + 1)) = Y2 at *
            clear hm11 hc11 HH HMY hlk k42 hcell HC2 hcb2
            simp only [Act.put]
            go_wp2_with fail
            go_roundg g2
            case measure => omega
            case rel => exact ⟨j + 1, Y2, by omega, by simp, HL9.out, HP9.out, H11.out⟩
end Go.Proofs.YtmnknmpfkjhgbaaGreatDoor
/- THE LIBRARY's FORM of slices.SortFunc at structs, laid at this translation by the shelf's own program (lay-plain). -/
namespace Go.Proofs
open Go.Shelf
def Tryz.sortMb_ren : Go.Shelf.Ren := ⟨fun | 6 => 81 | 15 => 124 | 14 => 123 | 28 => 151 | 29 => 152 | 20 => 143 | 21 => 144 | 22 => 145 | 23 => 146 | 24 => 147 | 25 => 148 | 26 => 149 | 27 => 150 | 46 => 163 | 47 => 164 | 48 => 165 | 49 => 166 | 50 => 167 | 57 => 185 | n => n, fun | 22 => 23 | 24 => 41 | 25 => 114 | 3 => 3 | 39 => 144 | 0 => 0 | 53 => 35 | 55 => 159 | 4 => 4 | 46 => 152 | 45 => 151 | 50 => 132 | 5 => 5 | 9 => 9 | 66 => 174 | 70 => 178 | 76 => 194 | 77 => 195 | n => n, fun | n => n⟩
theorem Tryz.sortMb : Go.Proofs.SlLaysF0.n6 Tryz.prog Tryz.sortMb_ren := {
  mixed := by kernel_rfl
  f6 := ⟨Tryz.f81.name, by decide, Tryz.func81.trans (congrArg some (by kernel_rfl))⟩
  f14 := ⟨Tryz.f123.name, by decide, Tryz.func123.trans (congrArg some (by kernel_rfl))⟩
  f15 := Tryz.func124.trans (congrArg some (by kernel_rfl))
  f20 := ⟨Tryz.f143.name, by decide, Tryz.func143.trans (congrArg some (by kernel_rfl))⟩
  f21 := ⟨Tryz.f144.name, by decide, Tryz.func144.trans (congrArg some (by kernel_rfl))⟩
  f22 := ⟨Tryz.f145.name, by decide, Tryz.func145.trans (congrArg some (by kernel_rfl))⟩
  f23 := ⟨Tryz.f146.name, by decide, Tryz.func146.trans (congrArg some (by kernel_rfl))⟩
  f24 := ⟨Tryz.f147.name, by decide, Tryz.func147.trans (congrArg some (by kernel_rfl))⟩
  f25 := ⟨Tryz.f148.name, by decide, Tryz.func148.trans (congrArg some (by kernel_rfl))⟩
  f26 := ⟨Tryz.f149.name, by decide, Tryz.func149.trans (congrArg some (by kernel_rfl))⟩
  f27 := ⟨Tryz.f150.name, by decide, Tryz.func150.trans (congrArg some (by kernel_rfl))⟩
  f28 := Tryz.func151.trans (congrArg some (by kernel_rfl))
  f29 := Tryz.func152.trans (congrArg some (by kernel_rfl))
  f46 := ⟨Tryz.f163.name, by decide, Tryz.func163.trans (congrArg some (by kernel_rfl))⟩
  f47 := Tryz.func164.trans (congrArg some (by kernel_rfl))
  f48 := Tryz.func165.trans (congrArg some (by kernel_rfl))
  f49 := ⟨Tryz.f166.name, by decide, Tryz.func166.trans (congrArg some (by kernel_rfl))⟩
  f50 := ⟨Tryz.f167.name, by decide, Tryz.func167.trans (congrArg some (by kernel_rfl))⟩
  f57 := ⟨Tryz.f185.name, by decide, Tryz.func185.trans (congrArg some (by kernel_rfl))⟩
  t0 := Tryz.underlying0
  a0 := Tryz.isAgg0
  z0 := Tryz.sizeOf0
  v0 := Tryz.zeroValue0
  t3 := Tryz.underlying3
  a3 := Tryz.isAgg3
  z3 := Tryz.sizeOf3
  v3 := Tryz.zeroValue3
  t4 := Tryz.underlying4
  a4 := Tryz.isAgg4
  z4 := Tryz.sizeOf4
  v4 := Tryz.zeroValue4
  t5 := Tryz.underlying5
  a5 := Tryz.isAgg5
  z5 := Tryz.sizeOf5
  v5 := Tryz.zeroValue5
  t9 := Tryz.underlying9
  a9 := Tryz.isAgg9
  z9 := Tryz.sizeOf9
  v9 := Tryz.zeroValue9
  t22 := Tryz.underlying23
  a22 := Tryz.isAgg23
  z22 := Tryz.sizeOf23
  v22 := Tryz.zeroValue23
  t25 := Tryz.underlying114
  a25 := Tryz.isAgg114
  z25 := Tryz.sizeOf114
  v25 := Tryz.zeroValue114
  t39 := Tryz.underlying144
  a39 := Tryz.isAgg144
  z39 := Tryz.sizeOf144
  v39 := Tryz.zeroValue144
  t45 := Tryz.underlying151
  a45 := Tryz.isAgg151
  z45 := Tryz.sizeOf151
  v45 := Tryz.zeroValue151
  t46 := Tryz.underlying152
  a46 := Tryz.isAgg152
  z46 := Tryz.sizeOf152
  v46 := Tryz.zeroValue152
  t50 := Tryz.underlying132
  a50 := Tryz.isAgg132
  z50 := Tryz.sizeOf132
  v50 := Tryz.zeroValue132
  t53 := Tryz.underlying35
  a53 := Tryz.isAgg35
  z53 := Tryz.sizeOf35
  v53 := Tryz.zeroValue35
  t55 := Tryz.underlying159
  a55 := Tryz.isAgg159
  z55 := Tryz.sizeOf159
  v55 := Tryz.zeroValue159
  t66 := Tryz.underlying174
  a66 := Tryz.isAgg174
  z66 := Tryz.sizeOf174
  v66 := Tryz.zeroValue174
  t70 := Tryz.underlying178
  a70 := Tryz.isAgg178
  z70 := Tryz.sizeOf178
  v70 := Tryz.zeroValue178
  t76 := Tryz.underlying194
  a76 := Tryz.isAgg194
  z76 := Tryz.sizeOf194
  v76 := Tryz.zeroValue194
  t77 := Tryz.underlying195
  a77 := Tryz.isAgg195
  z77 := Tryz.sizeOf195
  v77 := Tryz.zeroValue195 }
end Go.Proofs
/- slices.SortFunc over Members of one's own, by their paths (differ.all's closure, cmp.Compare). -/
namespace Go.Proofs.YtmnknmpfkjhgbaaGreatDoor
open Go.RowKit Go.Sort Go.Shelf
abbrev MvS := {x : Mv // NdS x}
instance : Inhabited MvS := ⟨⟨(([], nd0), nilV, nilV), ⟨none, 0, 0, none, 0, 0, rfl, rfl⟩⟩⟩
def encS (x : MvS) : List Value := (mcell x.1).toList
def cmpS (a b : Tx) : Int := if a < b then -1 else if b < a then 1 else 0
def cfS (x y : MvS) : Int := cmpS x.1.1.1 y.1.1.1
theorem ltS (x y : MvS) : ltOf cfS x y = decide (x.1.1.1 < y.1.1.1) := by
  unfold ltOf cfS cmpS
  by_cases h : x.1.1.1 < y.1.1.1
  · simp [h]
  · by_cases k : y.1.1.1 < x.1.1.1 <;> simp [h, k]
theorem swoS : SWO (ltOf cfS) where
  irrefl x := by rw [ltS]; simp [tx_irrefl]
  trans x y z h1 h2 := by
    rw [ltS] at *
    simp only [decide_eq_true_eq] at *
    exact tx_trans h1 h2
  ntrans x y z h1 h2 := by
    rw [ltS] at *
    simp only [decide_eq_false_iff_not, List.not_lt] at *
    exact List.le_trans h2 h1
theorem nan_any (x : Tx) (w : World) : Calls Tryz.prog 125 #[.string ⟨x.toArray⟩] w fun e w' => e = .returned (.bool false) ∧ w = w' := by
  have hx : (x != x) = false := by simp
  go_enter Tryz.func125, Tryz.ntmps125
  go_wp2_with fail
  go_ret
  exact ⟨rfl, rfl⟩
set_option maxHeartbeats 1000000 in
theorem cmp_any (x y : Tx) (w : World) : Calls Tryz.prog 83 #[.string ⟨x.toArray⟩, .string ⟨y.toArray⟩] w fun e w' => e = .returned (.int .i64 (cmpS x y)) ∧ w = w' := by
  have HN := Keep.keep nan_any
  have HX : Keep (cmpS x y = if Op.bytesLess x y = true then -1 else if (x == y) = true then 0 else 1) := ⟨by
    unfold cmpS
    rw [less_lt]
    rcases tx_tri x y with e | e | e
    · simp [e]
    · subst e; simp [tx_irrefl]
    · have e2 : ¬ x = y := fun h => tx_irrefl x (by rw [← h] at e; exact e)
      simp [tx_asymm e, e, e2]⟩
  obtain ⟨b1, h1⟩ : ∃ b, Op.bytesLess x y = b := ⟨_, rfl⟩
  obtain ⟨b2, h2⟩ : ∃ b, (x == y) = b := ⟨_, rfl⟩
  rw [h1, h2] at HX
  generalize cmpS x y = out at *
  go_enter Tryz.func83, Tryz.ntmps83
  go_wp2_with fail
  refine (HN.out x _).mono ?_
  rintro e w' ⟨rfl, rfl⟩
  go_wp2_with fail
  refine (HN.out y _).mono ?_
  rintro e w' ⟨rfl, rfl⟩
  cases b1 with
  | true =>
    go_wp2_with fail
    go_ret
    exact ⟨by rw [HX.out]; rfl, rfl⟩
  | false =>
  cases b2 with
  | true =>
    go_wp2_with fail
    go_ret
    exact ⟨by rw [HX.out]; rfl, rfl⟩
  | false =>
    go_wp2_with fail
    go_ret
    exact ⟨by rw [HX.out]; rfl, rfl⟩
set_option maxHeartbeats 1000000 in
set_option maxRecDepth 100000 in
theorem all1_any (x y : MvS) (W : World) : Calls Tryz.prog 82 #[.agg (encS x).toArray, .agg (encS y).toArray] W fun e w' => e = .returned (.int .i64 (cfS x y)) ∧ ∃ q os', w' = grow (W.drewN q) os' := by
  obtain ⟨⟨⟨xp, ⟨kind, mode, uid, gid, time, attrs, data, link⟩⟩, av, dv⟩, ⟨aa, la, ca, ad, ld, cd, e1, e2⟩⟩ := x
  obtain ⟨⟨⟨yp, ⟨kind', mode', uid', gid', time', attrs', data', link'⟩⟩, bv, ev⟩, ⟨ba, lb, cb, bd, ldb, cdb, f1, f2⟩⟩ := y
  dsimp only at e1 e2 f1 f2
  subst e1 e2 f1 f2
  have HC := Keep.keep (fun w => cmp_any xp yp w)
  have hx : (encS ⟨((xp, ⟨kind, mode, uid, gid, time, attrs, data, link⟩), .slice aa la ca, .slice ad ld cd), ⟨aa, la, ca, ad, ld, cd, rfl, rfl⟩⟩).toArray = #[.string ⟨xp.toArray⟩, .int .i64 kind, .int .u32 mode, .int .u32 uid, .int .u32 gid, .int .i64 time, .slice aa la ca, .slice ad ld cd, .string ⟨link.toArray⟩] := rfl
  have hy : (encS ⟨((yp, ⟨kind', mode', uid', gid', time', attrs', data', link'⟩), .slice ba lb cb, .slice bd ldb cdb), ⟨ba, lb, cb, bd, ldb, cdb, rfl, rfl⟩⟩).toArray = #[.string ⟨yp.toArray⟩, .int .i64 kind', .int .u32 mode', .int .u32 uid', .int .u32 gid', .int .i64 time', .slice ba lb cb, .slice bd ldb cdb, .string ⟨link'.toArray⟩] := rfl
  rw [hx, hy]
  have hcf : cfS ⟨((xp, ⟨kind, mode, uid, gid, time, attrs, data, link⟩), .slice aa la ca, .slice ad ld cd), ⟨aa, la, ca, ad, ld, cd, rfl, rfl⟩⟩ ⟨((yp, ⟨kind', mode', uid', gid', time', attrs', data', link'⟩), .slice ba lb cb, .slice bd ldb cdb), ⟨ba, lb, cb, bd, ldb, cdb, rfl, rfl⟩⟩ = cmpS xp yp := rfl
  rw [hcf]
  clear hx hy hcf
  generalize cmpS xp yp = r at *
  go_enter Tryz.func82, Tryz.ntmps82
  go_wp2_with fail
  refine (HC.out _).mono ?_
  rintro e w' ⟨rfl, rfl⟩
  go_wp2_with fail
  go_ret
  exact ⟨rfl, 0, _, by rw [alloc_eq_grow, alloc_eq_grow, grow_grow]; rfl⟩
theorem ent_all1 : ∀ args w, (callFunc 82 args).run Tryz.prog w = .ok (.enter 82 args) w := enters_of Tryz.func82 (by kernel_rfl) rfl
theorem list_sub (l : List Mv) (h : ∀ x ∈ l, NdS x) : ∃ ls : List MvS, ls.map (·.1) = l := by
  induction l with
  | nil => exact ⟨[], rfl⟩
  | cons x l ih =>
    obtain ⟨ls, hls⟩ := ih (fun y hy => h y (by simp [hy]))
    exact ⟨⟨x, h x (by simp)⟩ :: ls, by simp [hls]⟩
theorem flat_get (d : Array MvS) (t : Nat) (h : t < d.size * 9) : (mcells (d.toList.map (·.1)))[t]? = some ((flatK encS 9 d)[t]!) := by
  rw [get_flatK _ _ _ _ h]
  have ht : t = t / 9 * 9 + t % 9 := by omega
  have hlt : t / 9 < d.size := by omega
  conv => lhs; rw [ht, mcells_at _ _ _ (Nat.mod_lt _ (by omega))]
  rw [List.getElem?_map, Array.getElem?_toList, Array.getElem?_eq_getElem hlt]
  have h9 : t % 9 < (encS d[t / 9]).length := by
    show t % 9 < (mcell _).toList.length
    rw [mcell_len]; exact Nat.mod_lt _ (by omega)
  rw [getElem!_pos d _ hlt, getElem!_pos (encS d[t / 9]) _ h9]
  show (encS d[t / 9])[t % 9]? = _
  rw [List.getElem?_eq_getElem h9]
theorem flat_list (d : Array MvS) : (flatK encS 9 d).toList = mcells (d.toList.map (·.1)) := by
  apply List.ext_getElem?
  intro t
  by_cases h : t < d.size * 9
  · rw [flat_get d t h, Array.getElem?_toList, Array.getElem?_eq_getElem (by rw [size_flatK]; exact h), getElem!_pos _ _ (by rw [size_flatK]; exact h)]
  · rw [List.getElem?_eq_none (by simp; omega), List.getElem?_eq_none (by rw [mcells_length]; simp; omega)]
theorem heap_sortedK {w : World} {g n : Nat} {os : Array Obj} {cur : Array Value} {e : TypeId} {fr : Nat × Nat} (F : Array Value) (hb : w.heap[g]? = some (.cells cur e fr)) :
    (grow (putRow id (Sort.ahead w n) g 0 F) os).heap[g]? = some (.cells (putCells id 0 F cur) e fr) := by
  have hg : g < w.heap.size := (Array.getElem?_eq_some_iff.1 hb).1
  rw [heap_grow_old _ _ (by simpa using hg)]
  simp [putRow, mapBlock, Sort.ahead, Array.getElem?_modify, hb, onCells]
theorem grownBy_sortedK {w : World} {g n : Nat} {os : Array Obj} (F : Array Value) : w.grownBy (grow (putRow id (Sort.ahead w n) g 0 F) os) (some g) := by
  refine ⟨rfl, rfl, rfl, by simp, fun k hk hne => ?_⟩
  rw [heap_grow_old _ _ (by simpa using hk)]
  have : g ≠ k := fun e => hne (by rw [e])
  simp [putRow, mapBlock, Sort.ahead, Array.getElem?_modify, this]
theorem take_putCellsK (cur F : Array Value) (h : F.size ≤ cur.size) : (putCells id 0 F cur).toList.take F.size = F.toList := by
  apply List.ext_getElem?
  intro j
  by_cases hj : j < F.size
  · rw [List.getElem?_take_of_lt hj, Array.getElem?_toList]
    simp [putCells, hj, show j < cur.size by omega]
  · rw [List.getElem?_take_eq_none (by omega), List.getElem?_eq_none (by simp; omega)]
set_option maxHeartbeats 1000000 in
theorem sort_mb (base : Nat) (K : Nat → Prop) (v : Value) (l : List Mv) (w : World) (hB : base ≤ w.heap.size) (h : RowM base K w v l) (hl : l.length ≤ 1000000000000) :
    Calls Tryz.prog 81 #[v, .func (.func 82) #[] #[]] w fun e w' => e = .returned (.tuple #[]) ∧ (∃ l', RowM base K w' v l' ∧ l'.Perm l ∧ l'.Pairwise (fun x y => x.1.1 ≤ y.1.1)) ∧ Below base w w' := by
  have h0 := h
  rcases h.own.2 with ⟨rfl, hz⟩ | ⟨g, cap, cur, rfl, hb, hh, hn, hm, hs, ht⟩
  · obtain rfl : l = [] := List.eq_nil_of_length_eq_zero hz
    refine (AnyF.slices_SortFunc_none Tryz.sortMb none 0 _ w).mono ?_
    rintro e w' ⟨rfl, rfl⟩
    exact ⟨rfl, ⟨[], h0, List.Perm.refl _, List.Pairwise.nil⟩, Below.refl _ _⟩
  · obtain ⟨ls, rfl⟩ := list_sub l (fun x hx => (h.nd x hx).shape)
    have hlt : g < w.heap.size := (Array.getElem?_eq_some_iff.1 hh).1
    have hsz : ls.toArray.size = (ls.map (·.1)).length := by simp
    have hH : HoldsK encS 9 w g 0 ls.toArray := by
      intro j hj
      rw [size_flatK, hsz] at hj
      have h1 := flat_get ls.toArray j (by rw [hsz]; exact hj)
      rw [Nat.zero_add, h.own.cellAt j hj, h.own.frozenAt j]
      exact ⟨h1, rfl⟩
    have hcon := AnyQ.slices_SortFunc Tryz.sortMb 9 (fun w => by kernel_rfl) (fun w => by kernel_rfl) encS (fun x => mcell_len x.1) (fun x v hv => by
      have := mcells_one (l := [x.1]) (fun y hy => by rw [List.mem_singleton.1 hy]; exact x.2) v (by rw [mcells_cons]; exact List.mem_append_left _ hv)
      exact this) cfS swoS 82 #[] g 0 cap ls.toArray w ent_all1 (fun m os dk _ x y => all1_any x y _) hH hlt (by rw [hsz]; omega)
    rw [hsz] at hcon
    refine hcon.mono ?_
    rintro e w' ⟨rfl, d', n, os, ⟨hp1, _, hp3⟩, hs2, rfl⟩
    have hd' : d'.size = (ls.map (·.1)).length := by rw [hp1, hsz]
    have hperm : d'.toList.Perm ls := by
      have e1 : d'.extract 0 (ls.map (·.1)).length = d' := by rw [← hd']; simp
      have e2 : ls.toArray.extract 0 (ls.map (·.1)).length = ls.toArray := by rw [← hsz]; simp
      rw [e1, e2] at hp3
      exact hp3
    have hlen : (d'.toList.map (·.1)).length = (ls.map (·.1)).length := by simpa using hd'
    have hF : (flatK encS 9 d').size = (ls.map (·.1)).length * 9 := by rw [size_flatK, hd']
    have hgr := grownBy_sortedK (w := w) (g := g) (n := n) (os := os) (flatK encS 9 d')
    refine ⟨rfl, ⟨d'.toList.map (·.1), ⟨?_, fun x hx => ?_⟩, hperm.map _, ?_⟩, ?_⟩
    · rw [hlen]
      refine ⟨by rw [mcells_length, hlen], .inr ⟨g, cap, _, rfl, hb, heap_sortedK _ hh, hn, hm, by simp [putCells, hs], ?_⟩⟩
      rw [← hF, take_putCellsK _ _ (by rw [hF, hs]; exact Nat.mul_le_mul_right 9 hn), flat_list]
    · have hx2 : x ∈ ls.map (·.1) := (hperm.map _).mem_iff.1 hx
      refine ((h.nd x hx2).loc (fun b e => hgr.block b e.2.1 (fun e2 => e.2.2 (by injection e2 with e2; rw [e2]; rfl)))).mono (fun b e => ⟨e.1, Nat.lt_of_lt_of_le e.2.1 hgr.size, e.2.2⟩)
    · rw [List.pairwise_map, List.pairwise_iff_getElem]
      intro i j hi hj hij
      have hjd : j < d'.size := by simpa using hj
      have := hs2 i j (Nat.zero_le _) hij (by rw [← hd']; exact hjd)
      rw [ltS, getElem!_pos d' j hjd, getElem!_pos d' i (by omega)] at this
      have h2 := of_decide_eq_false this
      rw [List.not_lt] at h2
      simpa using h2
    · exact (Chg.grown (M := NoM) (.refl _ _ _) hgr hB (fun k e => .inl (by injection e with e; omega))).below (fun _ _ h => h)
end Go.Proofs.YtmnknmpfkjhgbaaGreatDoor

