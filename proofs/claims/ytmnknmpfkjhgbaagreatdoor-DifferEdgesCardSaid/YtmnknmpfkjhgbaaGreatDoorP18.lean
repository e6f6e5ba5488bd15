/- PARTS OF ONE PROOF, set in one file: ChApply, LdLeast, SpcFlip, AppRead, AccM, DifferChain. Each part tells its own conditions. -/
import Derived.Test.YtmnknmpfkjhgbaaGreatDoorP3
import Derived.Test.YtmnknmpfkjhgbaaGreatDoorP4
import Derived.Test.YtmnknmpfkjhgbaaGreatDoorP7
import Derived.Test.YtmnknmpfkjhgbaaGreatDoorP8
import Derived.Test.YtmnknmpfkjhgbaaGreatDoorP9
import Derived.Test.YtmnknmpfkjhgbaaGreatDoorP10
import Derived.Test.YtmnknmpfkjhgbaaGreatDoorP16
import Derived.Test.YtmnknmpfkjhgbaaGreatDoorP17
/- change.Plain, keeps, Apply. -/
namespace Go.Proofs.YtmnknmpfkjhgbaaGreatDoor
open Go.RowKit
def isPl (x : Mv) : Bool := decide (cls x.1 = 1)
theorem plain_map (l : List Mv) : (l.filter isPl).map (·.1) = plainC (l.map (·.1)) := by
  unfold plainC isPl
  rw [List.filter_map]; rfl
set_option maxHeartbeats 4000000 in
set_option maxRecDepth 100000 in
theorem plain_any (v : Value) (l : List Mv) (B : Nat) (w : World) (hT : Tabs B w) (K : Nat → Prop) (hK : ∀ b, K b → b < w.heap.size) (hr : Mbs w (· < w.heap.size) K v l) (hs : ∀ x ∈ l, Sm x.1) (hl : l.length ≤ 1000000) :
    Calls Tryz.prog 49 #[v] w fun e w' => ∃ v', e = .returned v' ∧ RowM w.heap.size K w' v' (l.filter isPl) ∧ Below w.heap.size w w' := by
  obtain ⟨a, cap, hv, hcap, hmx, h3⟩ := hr.rd.shape
  have HR := Keep.keep hr; have H3 := Keep.keep h3; have HT := Keep.keep hT; have HS := Keep.keep hs; have HKK := Keep.keep hK
  unfold maxLen at hmx
  clear hr h3 hT hs hK
  subst hv
  go_enter Tryz.func49, Tryz.ntmps49
  go_wp2_with fail
  go_loopg [3, 10] l.length (fun g u3 u10 wx => ∃ (k : Nat), k + g = l.length ∧ u10 = .int .i64 (k : Int) ∧ RowM w.heap.size K wx u3 ((l.take k).filter isPl) ∧ Below w.heap.size w wx)
  case atStart => exact ⟨0, by omega, rfl, RowM.nil _ _ _, Below.refl _ _⟩
  case round =>
    obtain ⟨k, hkg, rfl, hrow, hb⟩ := hrel
    have HRW := Keep.keep hrow; have HB := Keep.keep hb
    obtain ⟨a3, c3, hv3, -⟩ := (ownsV_reads hrow.own).shape
    clear hrow hb
    subst hv3
    cases gk with
    | zero =>
      obtain rfl : k = l.length := by omega
      have HTK : Keep (l.take l.length = l) := ⟨List.take_length⟩
      rw [HTK.out] at HRW ⊢
      go_wp2_with fail
      go_ret
      exact ⟨_, rfl, HRW.out, HB.out⟩
    | succ g =>
      have hk : k < l.length := by omega
      obtain ⟨b, off, rfl, hbl⟩ : ∃ b off, a = some ⟨b, off, none⟩ ∧ b < w.heap.size := by
        rcases H3.out with h | ⟨b, off, h, hb⟩
        · omega
        · exact ⟨b, off, h, hb⟩
      have hrx := HR.out.below HB.out (fun b hb => hb) HKK.out
      have hld := hrx.load hk
      have HTK : Keep ((l.take (k + 1)).filter isPl = (l.take k).filter isPl ++ (if isPl l[k] = true then [l[k]] else [])) := ⟨by
        rw [List.take_succ_eq_append_getElem hk, List.filter_append]
        cases h : isPl l[k] <;> simp [h]⟩
      have hsx := HS.out l[k] (List.getElem_mem hk)
      have HND := Keep.keep (HR.out.nd l[k] (List.getElem_mem hk))
      have hlen : ((l.take k).filter isPl).length ≤ k := Nat.le_trans (List.length_filter_le _ _) (by rw [List.length_take]; omega)
      clear hrx
      generalize l[k] = x at *
      generalize (l.take k).filter isPl = acc at *
      obtain ⟨⟨xp, ⟨kind, mode, uid, gid, time, attrs, data, link⟩⟩, av, dv⟩ := x
      obtain ⟨aa, la, ca, ad, ld, cd, e1, e2⟩ := HND.out.shape
      dsimp only at e1 e2 hsx HTK
      have hxp := hsx.p
      dsimp only at hxp
      subst e1 e2
      have HMC : Keep (mcell ((xp, ⟨kind, mode, uid, gid, time, attrs, data, link⟩), .slice aa la ca, .slice ad ld cd) = #[.string ⟨xp.toArray⟩, .int .i64 kind, .int .u32 mode, .int .u32 uid, .int .u32 gid, .int .i64 time, .slice aa la ca, .slice ad ld cd, .string ⟨link.toArray⟩]) := ⟨rfl⟩
      rw [HMC.out] at hld
      have HCL := Keep.keep (fun wx (hb : Below w.heap.size w wx) => class_any xp (by omega) B wx (Nat.le_trans HT.out.b hb.size) (HT.out.m.on (hb.mono HT.out.b)) (HT.out.c.on (hb.mono HT.out.b)))
      have HPL : Keep (isPl ((xp, ⟨kind, mode, uid, gid, time, attrs, data, link⟩), .slice aa la ca, .slice ad ld cd) = ((classP xp).1 == 1)) := ⟨rfl⟩
      obtain ⟨⟨cl, tg⟩, hcp⟩ : ∃ c, classP xp = c := ⟨_, rfl⟩
      rw [hcp] at HCL HPL
      dsimp only at HCL HPL
      clear hsx hcp
      go_wp2_with ((with_reducible refine arm_loadM hld ?_ ?_); (focus rfl); simp only [Act.put, List.setIfInBounds_toArray, List.set_cons_succ, List.set_cons_zero])
      refine calls_at (R := fun wq => Hp NoM wr wq [rowA wr.heap.size 41 #[.string ⟨xp.toArray⟩, .int .i64 kind, .int .u32 mode, .int .u32 uid, .int .u32 gid, .int .i64 time, .slice aa la ca, .slice ad ld cd, .string ⟨link.toArray⟩]]) ((Hp.begin NoM wr).newRow _ _) ?_
      intro w2 H2
      have hbw2 := HB.out.trans (H2.out.below.mono HB.out.size)
      refine (HCL.out w2 hbw2).mono ?_
      rintro e w3 ⟨rfl, hb3⟩
      have H3' := Keep.keep (H2.out.call hb3)
      have HB3 := Keep.keep (HB.out.trans (H3'.out.below.mono HB.out.size))
      have HRW3 := Keep.keep (HRW.out.below H3'.out.below)
      obtain ⟨b5, hb5⟩ : ∃ b5, wr.heap.size = b5 := ⟨_, rfl⟩
      have HB5 := Keep.keep hb5
      rw [hb5] at H3' ⊢
      have HMR := Keep.keep (H3'.out.row 0 rfl)
      have HSZ : Keep ((#[.string ⟨xp.toArray⟩, .int .i64 kind, .int .u32 mode, .int .u32 uid, .int .u32 gid, .int .i64 time, .slice aa la ca, .slice ad ld cd, .string ⟨link.toArray⟩] : Array Value).size = 9) := ⟨rfl⟩
      have hsw3 := HB3.out.size
      clear hb3 H2 HCL hbw2 hld HRW
      cases hz : (cl == 1) with
      | false =>
        rw [hz] at HPL
        rw [HPL.out, if_neg (by decide), List.append_nil] at HTK
        go_wp2_with fail
        go_roundg g
        case measure => omega
        case rel => exact ⟨k + 1, by omega, by simp, by rw [HTK.out]; exact HRW3.out, HB3.out⟩
      | true =>
        rw [hz] at HPL
        rw [HPL.out, if_pos rfl] at HTK
        go_wp2_with (first | ((with_reducible refine arm_loadRow HMR.out aggM HSZ.out ?_ ?_); (focus rfl); simp only [Act.put, List.setIfInBounds_toArray, List.set_cons_succ, List.set_cons_zero]) | (with_reducible refine arm_stop ?_))
        refine Stopped.out ?_
        have hal : Below w3.heap.size w3 (w3.alloc (.cells #[.string ⟨xp.toArray⟩, .int .i64 kind, .int .u32 mode, .int .u32 uid, .int .u32 gid, .int .i64 time, .slice aa la ca, .slice ad ld cd, .string ⟨link.toArray⟩] 41)) := (Below.refl _ _).alloc (Nat.le_refl _) _
        have HAL := Keep.keep hal
        have hrA := HRW3.out.below hal
        have hm : Mbs (w3.alloc (.cells #[.string ⟨xp.toArray⟩, .int .i64 kind, .int .u32 mode, .int .u32 uid, .int .u32 gid, .int .i64 time, .slice aa la ca, .slice ad ld cd, .string ⟨link.toArray⟩] 41)) (fun _ => True) K (.slice (some ⟨w3.heap.size, 0, none⟩) 1 1) [((xp, ⟨kind, mode, uid, gid, time, attrs, data, link⟩), .slice aa la ca, .slice ad ld cd)] :=
          ⟨RdV.new (N := fun _ => True) 41 [.string ⟨xp.toArray⟩, .int .i64 kind, .int .u32 mode, .int .u32 uid, .int .u32 gid, .int .i64 time, .slice aa la ca, .slice ad ld cd, .string ⟨link.toArray⟩] 9 1 _ rfl rfl (by unfold maxLen; omega) trivial, fun y hy => by
            obtain rfl : y = ((xp, ⟨kind, mode, uid, gid, time, attrs, data, link⟩), .slice aa la ca, .slice ad ld cd) := by simpa using hy
            exact ((HND.out.below HB3.out HKK.out).below (hal.mono HB3.out.size) HKK.out)⟩
        refine arm_appM (B := w.heap.size) hrA (Nat.le_trans hsw3 hal.size) hm (fun b hb => ⟨.inl hb, by have := HKK.out b hb; have := hal.size; omega, fun e => by have := (hrA.lt e).1; have := HKK.out b hb; omega⟩) (by simp; omega) rfl rfl ?_
        intro v4 w4 hr4 hg4 hov4 hsh4
        obtain ⟨a4, c4, rfl⟩ := hsh4
        have HR4 := Keep.keep hr4
        have HB4 : Keep (Below w.heap.size w w4) := ⟨(HB3.out.trans (hal.mono HB3.out.size)).trans (hrA.chg (Nat.le_trans hsw3 hal.size) hg4)⟩
        clear hr4 hg4 hov4 hm hrA hal HRW3 HAL
        simp only [Act.put, List.setIfInBounds_toArray, List.set_cons_succ, List.set_cons_zero]
        go_wp2_with fail
        go_roundg g
        case measure => omega
        case rel => exact ⟨k + 1, by omega, by simp, by rw [HTK.out]; exact HR4.out, HB4.out⟩
theorem ent_keeps1 : ∀ args w, (callFunc 93 args).run Tryz.prog w = .ok (.enter 93 args) w := enters_of Tryz.func93 (by kernel_rfl) rfl
theorem ent_stays : ∀ args w, (callFunc 48 args).run Tryz.prog w = .ok (.enter 48 args) w := enters_of Tryz.func48 (by kernel_rfl) rfl
set_option maxHeartbeats 1000000 in
set_option maxRecDepth 100000 in
theorem keeps1_any (x : Mv) (hs : Sm x.1) (hsh : NdS x) (b1 b2 b3 bf : Nat) (S : List Mb) (w : World) (h : EffIn w b1 b2 b3 S) (hc : w.cell? ⟨bf, 0, none⟩ = some (.func (.func 48) #[.agg #[.map (some b1), .map (some b2), .map (some b3)]] #[])) :
    Calls Tryz.prog 93 #[.agg (mcell x), .pointer (some ⟨bf, 0, none⟩)] w fun e w' => e = .returned (.bool (!staysC S x.1.1)) ∧ Below w.heap.size w w' := by
  obtain ⟨⟨xp, ⟨kind, mode, uid, gid, time, attrs, data, link⟩⟩, av, dv⟩ := x
  obtain ⟨aa, la, ca, ad, ld, cd, e1, e2⟩ := hsh
  dsimp only at e1 e2
  have hxp := hs.p
  dsimp only at hxp ⊢
  subst e1 e2
  have HMC : Keep (mcell ((xp, ⟨kind, mode, uid, gid, time, attrs, data, link⟩), .slice aa la ca, .slice ad ld cd) = #[.string ⟨xp.toArray⟩, .int .i64 kind, .int .u32 mode, .int .u32 uid, .int .u32 gid, .int .i64 time, .slice aa la ca, .slice ad ld cd, .string ⟨link.toArray⟩]) := ⟨rfl⟩
  rw [HMC.out]
  have hlt : bf < w.heap.size := World.block_lt_of_cell? w _ hc
  have HS : Keep (∀ wx, Below w.heap.size w wx → Calls Tryz.prog 48 #[.agg #[.map (some b1), .map (some b2), .map (some b3)], .string ⟨xp.toArray⟩] wx fun e w' => e = .returned (.bool (staysC S xp)) ∧ Below wx.heap.size wx w') := ⟨fun wx hb => stays_any b1 b2 b3 S xp (by omega) wx (h.below hb)⟩
  generalize staysC S xp = st at *
  have hent := ent_stays
  have HC : Keep (∀ wx, Below w.heap.size w wx → wx.cell? ⟨bf, 0, none⟩ = some (.func (.func 48) #[.agg #[.map (some b1), .map (some b2), .map (some b3)]] #[])) := ⟨fun wx hb => by rw [hb.cell (p := ⟨bf, 0, none⟩) hlt]; exact hc⟩
  clear h hc hs
  go_enter Tryz.func93, Tryz.ntmps93
  go_upto_region 1 with fail
  refine wp_world (R := fun w1 => Hp NoM w w1 [rowA w.heap.size 41 #[.string ⟨xp.toArray⟩, .int .i64 kind, .int .u32 mode, .int .u32 uid, .int .u32 gid, .int .i64 time, .slice aa la ca, .slice ad ld cd, .string ⟨link.toArray⟩]]) ((Hp.begin NoM w).newRow _ _) ?_
  intro w1 H1
  have hc := HC.out w1 H1.out.below
  have c0 := (H1.out.row 0 rfl).cell (i := 0) rfl
  go_wp2_with fail
  refine (HS.out w1 H1.out.below).mono ?_
  rintro e w2 ⟨rfl, hb2⟩
  have H2 := Keep.keep (H1.out.call hb2).below
  clear hb2
  go_wp2_with fail
  go_ret
  exact ⟨rfl, H2.out⟩
set_option maxHeartbeats 1000000 in
set_option maxRecDepth 100000 in
theorem keeps_any (v : Value) (l : List Mv) (base : Nat) (K : Nat → Prop) (b1 b2 b3 : Nat) (S : List Mb) (w : World) (hB : base ≤ w.heap.size) (hl : l.length ≤ 1000000) (hs : ∀ x ∈ l, Sm x.1) (h : RowM base K w v l) (hE : EffIn w b1 b2 b3 S) (hne : ∀ b, v.ownBlock = some b → b ≠ b1 ∧ b ≠ b2 ∧ b ≠ b3) :
    Calls Tryz.prog 46 #[v, .func (.func 48) #[.agg #[.map (some b1), .map (some b2), .map (some b3)]] #[]] w fun e w' => ∃ v', e = .returned v' ∧ RowM base K w' v' (l.filter fun x => staysC S x.1.1) ∧ v'.ownBlock = v.ownBlock ∧ Chg (fun b => v.ownBlock = some b) w.heap.size w w' := by
  have HH := Keep.keep h; have HE := Keep.keep hE
  have HLT := Keep.keep (fun b e => (h.lt (b := b) e).2)
  have HNS := Keep.keep (fun x hx => (h.nd x hx).shape)
  have hf2 : (fun x : Mv => !!staysC S x.1.1) = fun x => staysC S x.1.1 := by funext x; simp
  have HD : Keep (∀ w1 bf, Below w.heap.size w w1 → bf = w.heap.size → w1.cell? ⟨bf, 0, none⟩ = some (.func (.func 48) #[.agg #[.map (some b1), .map (some b2), .map (some b3)]] #[]) →
      Calls Tryz.prog 92 #[v, .func (.func 93) #[] #[.pointer (some ⟨bf, 0, none⟩)]] w1 fun e w' => ∃ v', e = .returned v' ∧ RowM base K w' v' (l.filter fun x => staysC S x.1.1) ∧ v'.ownBlock = v.ownBlock ∧ Chg (fun b => v.ownBlock = some b) w1.heap.size w1 w') := ⟨fun w1 bf hb hbf hc => by
    have := dfuncM 93 #[.pointer (some ⟨bf, 0, none⟩)] (fun m => !staysC S m.1) v l base K w1 ent_keeps1 (Nat.le_trans hB hb.size) (by omega) (fun wx hch x hx => by
      have hEx : EffIn wx b1 b2 b3 S := (hE.below hb).loc (fun b hb' => hch.block b (by
        have := (hE.below hb).lt
        rcases hb' with rfl | rfl | rfl <;> omega) (fun e => by
        have := hne b e
        rcases hb' with rfl | rfl | rfl <;> simp at this))
      have hcx : wx.cell? ⟨bf, 0, none⟩ = some (.func (.func 48) #[.agg #[.map (some b1), .map (some b2), .map (some b3)]] #[]) := by
        rw [hch.cell (p := ⟨bf, 0, none⟩) (World.block_lt_of_cell? w1 _ hc) (fun e => by have := HLT.out bf e; omega)]; exact hc
      have := keeps1_any x (hs x hx) (HNS.out x hx) b1 b2 b3 bf S wx hEx hcx
      simpa using this) (h.below hb)
    rw [hf2] at this
    exact this⟩
  obtain ⟨a, cap, hv, -⟩ := (ownsV_reads h.own).shape
  clear h hE hs hf2
  subst hv
  go_enter Tryz.func46, Tryz.ntmps46
  go_wp2_with fail
  refine calls_at (R := fun w1 => Below w.heap.size w w1 ∧ w1.cell? ⟨w.heap.size, 0, none⟩ = some (.func (.func 48) #[.agg #[.map (some b1), .map (some b2), .map (some b3)]] #[])) ⟨(Below.refl _ _).alloc (Nat.le_refl _) _, (Row.new w _ _).cell (i := 0) rfl⟩ ?_
  intro w1 H1
  refine (HD.out w1 _ H1.out.1 rfl H1.out.2).mono ?_
  rintro e w2 ⟨v2, rfl, hr2, ho2, hc2⟩
  have HR2 := Keep.keep hr2; have HO2 := Keep.keep ho2
  have HC2 : Keep (Chg (fun b => (Value.slice a l.length cap).ownBlock = some b) w.heap.size w w2) := ⟨(Chg.of_below H1.out.1).trans (hc2.lower H1.out.1.size)⟩
  obtain ⟨a2, c2, hv2, -⟩ := (ownsV_reads hr2.own).shape
  clear hr2 ho2 hc2
  subst hv2
  go_wp2_with fail
  go_ret
  exact ⟨_, rfl, HR2.out, HO2.out, HC2.out⟩
set_option maxHeartbeats 4000000 in
set_option maxRecDepth 100000 in
theorem apply_any (T mb : Nat) (Bk : Nat → Prop) (f : Tx → Value × Value) (A : List Mb) (v : Value) (l : List Mv) (B : Nat) (w : World) (hT : Tabs B w) (hTr : TreeIn w T mb Bk f A) (hBk : ∀ b, Bk b → b < w.heap.size) (hA : A.length ≤ 100000) (hr : Mbs w (· < w.heap.size) (· < w.heap.size) v l) (hs : ∀ x ∈ l, Sm x.1) (hl : l.length ≤ 100000) :
    Calls Tryz.prog 11 #[.pointer (some ⟨T, 0, none⟩), v] w fun e w' => (∃ pv, e = .returned (.tuple #[pv, .int .i64 (applyC A (l.map (·.1))).1]) ∧ NewIs w w' pv (applyC A (l.map (·.1))).2) ∧ Below w.heap.size w w' := by
  obtain ⟨a, cap, hv, hcap, hmx, h3⟩ := hr.rd.shape
  have HR := Keep.keep hr; have HT := Keep.keep hT; have HS := Keep.keep hs; have HBK := Keep.keep hBk; have HTR := Keep.keep hTr
  have HON : Keep (∀ wx, Below w.heap.size w wx → TreeIn wx T mb Bk f A) := ⟨fun wx hb => hTr.loc (fun b hb' => hb.block b (by
    rcases hb' with rfl | rfl | h
    · exact hTr.row.lt
    · exact hTr.map.lt
    · exact hBk b h))⟩
  have HMB : Keep (∀ wx, Below w.heap.size w wx → Mbs wx (· < wx.heap.size) (· < wx.heap.size) v l) := ⟨fun wx hb => (hr.below hb (fun b hb => hb) (fun b hb => hb)).mono (fun b hb' => Nat.lt_of_lt_of_le hb' hb.size) (fun b hb' => Nat.lt_of_lt_of_le hb' hb.size)⟩
  have HCP := Keep.keep (copy_tree T mb Bk f A w hTr hBk hA)
  have HAP : Keep (applyC A (l.map (·.1)) = if mayC (l.map (·.1)) ≠ 0 then (mayC (l.map (·.1)), none) else newT (A.filter (fun m => staysC (l.map (·.1)) m.1) ++ plainC (l.map (·.1)))) := ⟨rfl⟩
  have HSA := Keep.keep hTr.sm
  have hTlt := hTr.row.lt
  clear hr h3 hT hs hBk hTr
  unfold maxLen at hmx
  subst hv
  generalize hout : applyC A (l.map (·.1)) = out at *
  go_enter Tryz.func11, Tryz.ntmps11
  go_wp2_with fail
  refine HCP.out.mono ?_
  rintro e w1 ⟨T2, m2, Bk2, f2, rfl, -, -, hb1⟩
  have HB1 := Keep.keep hb1
  have HMY := Keep.keep (chmay_any _ l B w1 (HT.out.on (hb1.mono HT.out.b)) (HMB.out w1 hb1) HS.out (by omega))
  generalize mayC (l.map (·.1)) = me at *
  clear hb1 HCP
  go_wp2_with fail
  refine HMY.out.mono ?_
  rintro e w2 ⟨rfl, hb2⟩
  have HB2 := Keep.keep (HB1.out.trans (hb2.mono HB1.out.size))
  clear hb2 HMY
  cases hz : (me != 0) with
  | true =>
    have hz2 : me ≠ 0 := by simpa using hz
    have HX : Keep (out = (me, none)) := ⟨by rw [HAP.out, if_pos hz2]⟩
    go_wp2_with fail
    go_ret2
    exact ⟨⟨.pointer none, by rw [HX.out]; rfl, by rw [HX.out]; rfl⟩, HB2.out⟩
  | false =>
    have hz2 : me = 0 := by simpa using hz
    have HX : Keep (out = newT (A.filter (fun m => staysC (l.map (·.1)) m.1) ++ plainC (l.map (·.1)))) := ⟨by rw [HAP.out, if_neg (by simpa using hz2)]⟩
    have hsz2 := HB2.out.size
    have HAL := Keep.keep (all_own T mb Bk f A w2 hA (HON.out w2 HB2.out) ⟨by omega, by have := (HTR.out.map.lt); omega, fun b hb => by have := HBK.out b hb; omega⟩)
    clear hz
    go_wp2_with fail
    refine HAL.out.mono ?_
    rintro e w3 ⟨v6, l6, rfl, hl6, hm6, hb3⟩
    have HR6 : Keep (RowM w.heap.size (· < w.heap.size) w3 v6 l6) := ⟨(RowM.ofOwn hm6 (· < w.heap.size)).lower hsz2 (fun b hb => hb)⟩
    have HL6 := Keep.keep hl6
    have hn6 : l6.length = A.length := by rw [← hl6, List.length_map]
    have HB3 := Keep.keep (HB2.out.trans (hb3.mono HB2.out.size))
    have hsz3 := HB3.out.size
    obtain ⟨a6, c6, hv6, -⟩ := (ownsV_reads hm6.own).shape
    have HOF := Keep.keep (of_any _ l B w3 (HT.out.on (HB3.out.mono HT.out.b)) (HMB.out w3 HB3.out) HS.out (by omega))
    have HN6 := Keep.keep hn6
    rw [hn6] at hv6
    clear hl6 hm6 hb3 HAL hn6
    subst hv6
    go_wp2_with fail
    refine HOF.out.mono ?_
    rintro e w4 ⟨b1, b2, b3, rfl, hE, hge, hb4⟩
    have HB4 := Keep.keep (HB3.out.trans (hb4.mono HB3.out.size))
    have hsz4 := HB4.out.size
    have HKP := Keep.keep (keeps_any _ l6 w.heap.size (· < w.heap.size) b1 b2 b3 (l.map (·.1)) w4 hsz4 (by rw [HN6.out]; omega) (fun x hx => HSA.out x.1 (by rw [← HL6.out]; exact List.mem_map.2 ⟨x, hx, rfl⟩)) (HR6.out.below hb4) hE (fun b hb => by have := (HR6.out.lt hb).2; omega))
    clear hE hb4 HOF
    go_wp2_with fail
    refine HKP.out.mono ?_
    rintro e w5 ⟨v7, rfl, hr7, ho7, hc5⟩
    have HR7 := Keep.keep hr7
    have HB5 : Keep (Below w.heap.size w w5) := ⟨HB4.out.trans ((hc5.lower hsz4).below (fun k hk e => by have := (HR6.out.lt e).1; omega))⟩
    have hsz5 := HB5.out.size
    obtain ⟨a7, c7, hv7, -⟩ := (ownsV_reads hr7.own).shape
    have HPL := Keep.keep (plain_any _ l B w5 (HT.out.on (HB5.out.mono HT.out.b)) (fun b => b < w.heap.size) (fun b hb => by omega) ((HR.out.below HB5.out (fun b hb => hb) (fun b hb => hb)).mono (fun b hb => Nat.lt_of_lt_of_le hb hsz5) (fun b hb => hb)) HS.out (by omega))
    clear hr7 ho7 hc5 HKP
    obtain ⟨n7, hn7⟩ : ∃ n, (l6.filter fun x => staysC (l.map (·.1)) x.1.1).length = n := ⟨_, rfl⟩
    have HN7 := Keep.keep hn7
    have hn7l : n7 ≤ A.length := by rw [← hn7, ← HN6.out]; exact List.length_filter_le _ _
    rw [hn7] at hv7
    clear hn7
    subst hv7
    go_wp2_with fail
    refine HPL.out.mono ?_
    rintro e w6 ⟨v8, rfl, hr8, hb6⟩
    have HR8 := Keep.keep hr8
    have HR7' := Keep.keep (HR7.out.below hb6)
    have HB6 := Keep.keep (HB5.out.trans (hb6.mono HB5.out.size))
    have hsz6 := HB6.out.size
    have hsz56 := hb6.size
    obtain ⟨a8, c8, hv8, -⟩ := (ownsV_reads hr8.own).shape
    obtain ⟨n8, hn8⟩ : ∃ n, (l.filter isPl).length = n := ⟨_, rfl⟩
    have HN8 := Keep.keep hn8
    have hn8l : n8 ≤ l.length := by rw [← hn8]; exact List.length_filter_le _ _
    rw [hn8] at hv8
    clear hr8 hb6 hn8 HPL
    subst hv8
    go_wp2_with (with_reducible refine arm_stop ?_)
    refine Stopped.out ?_
    refine arm_appM (B := w.heap.size) HR7'.out hsz6 HR8.out.mbs (fun b hb => ⟨?_, hb.2.1, fun e => ?_⟩) (by rw [HN7.out, HN8.out]; omega) rfl rfl ?_
    · rcases hb.1 with h | h
      · exact .inl h
      · exact .inr (by omega)
    · have h1 := (HR7.out.lt e)
      rcases hb.1 with h | h
      · omega
      · omega
    intro v9 w7 hr9 hg9 hov9 hsh9
    have HB7 : Keep (Below w.heap.size w w7) := ⟨HB6.out.trans (HR7'.out.chg hsz6 hg9)⟩
    have HNW := Keep.keep (new_tree v9 _ B w7 (HT.out.on (HB7.out.mono HT.out.b)) (hr9.mbs.mono (fun b hb => hb.2) (fun b hb => hb.2.1)) (fun x hx => by
      rcases List.mem_append.1 hx with hx | hx
      · exact HSA.out x.1 (by rw [← HL6.out]; exact List.mem_map.2 ⟨x, (List.mem_filter.1 hx).1, rfl⟩)
      · exact HS.out x (List.mem_filter.1 hx).1) (by rw [List.length_append, HN7.out, HN8.out]; omega))
    have hmap : ((l6.filter fun x => staysC (l.map (·.1)) x.1.1) ++ l.filter isPl).map (·.1) = A.filter (fun m => staysC (l.map (·.1)) m.1) ++ plainC (l.map (·.1)) := by
      rw [List.map_append, plain_map, ← HL6.out, List.filter_map]; rfl
    rw [hmap, ← HX.out] at HNW
    obtain ⟨a9, c9, hv9⟩ := hsh9
    rw [HN7.out, HN8.out] at hv9
    clear hr9 hg9 hov9 hmap HR7 HR8 HR7'
    subst hv9
    simp only [Act.put, List.setIfInBounds_toArray, List.set_cons_succ, List.set_cons_zero]
    go_wp2_with fail
    refine HNW.out.mono ?_
    rintro e w8 ⟨⟨pv, rfl, hnew⟩, hb8⟩
    have HB8 := Keep.keep (HB7.out.trans (hb8.mono HB7.out.size))
    have HNI : Keep (NewIs w w8 pv out.2) := ⟨by
      have := HB7.out.size
      cases ho : out.2 with
      | none => rw [ho] at hnew; exact hnew
      | some t =>
        rw [ho] at hnew
        obtain ⟨T3, m3, Bk3, f3, e1, h1, h2, h3, h4⟩ := hnew
        exact ⟨T3, m3, Bk3, f3, e1, h1, by omega, by omega, fun b hb => (h4 b hb).mono this (Nat.le_refl _)⟩⟩
    have hpv : ∃ q, pv = .pointer q := by
      cases ho : out.2 with
      | none => rw [ho] at hnew; exact ⟨_, hnew⟩
      | some t =>
        rw [ho] at hnew
        obtain ⟨T3, m3, Bk3, f3, e1, -⟩ := hnew
        exact ⟨_, e1⟩
    obtain ⟨q, hq⟩ := hpv
    clear hnew hb8 HNW
    subst hq
    go_wp2_with fail
    go_ret2
    exact ⟨⟨_, rfl, HNI.out⟩, HB8.out⟩
end Go.Proofs.YtmnknmpfkjhgbaaGreatDoor
/- portolanlaw20.DifferLeads's closure 'least': no set of fewer Members leads from a to b. -/
namespace Go.Proofs.YtmnknmpfkjhgbaaGreatDoor
open Go.RowKit
theorem applyC_cases (A S : List Mb) : (∃ t, applyC A S = (0, some t)) ∨ ∃ er, er ≠ 0 ∧ applyC A S = (er, none) := by
  unfold applyC newT
  split
  · rename_i h; exact .inr ⟨_, h, rfl⟩
  · split
    · exact .inr ⟨1, by decide, rfl⟩
    · split
      · exact .inr ⟨9, by decide, rfl⟩
      · split
        · exact .inr ⟨33, by decide, rfl⟩
        · split
          · exact .inr ⟨42, by decide, rfl⟩
          · exact .inl ⟨_, rfl⟩
/-- the boxes that the closure has hold of -/
structure LdIn (w : World) (lb ab bb Ta Tb : Nat) (al : Option Addr) (nl cl : Nat) (A B : List Mb) : Prop where
  rl : Row w lb 23 #[.slice al nl cl]
  ra : Row w ab 24 #[.pointer (some ⟨Ta, 0, none⟩)]
  rb : Row w bb 24 #[.pointer (some ⟨Tb, 0, none⟩)]
  ta : TrL w Ta A
  tb : TrL w Tb B
  len : nl = (toldL A B).length
theorem LdIn.on {w w' : World} {lb ab bb Ta Tb : Nat} {al : Option Addr} {nl cl : Nat} {A B : List Mb} (h : LdIn w lb ab bb Ta Tb al nl cl A B) (hb : Below w.heap.size w w') : LdIn w' lb ab bb Ta Tb al nl cl A B :=
  ⟨h.rl.below hb h.rl.lt, h.ra.below hb h.ra.lt, h.rb.below hb h.rb.lt, h.ta.on hb, h.tb.on hb, h.len⟩
theorem RowM.on {w w' : World} {v : Value} {l : List Mv} {B : Nat} {K : Nat → Prop} (h : RowM B K w v l) (hb : Below w.heap.size w w') : MbL w' v l := (h.below hb).mbs.mono (fun _ h => h.2) (fun _ h => h.2.1)
theorem grow_len (l : List Mb) : (growT l).length ≤ l.length := by
  generalize hn : l.length = n
  induction n generalizing l with
  | zero =>
    obtain rfl := List.eq_nil_of_length_eq_zero hn
    exact Nat.le_refl _
  | succ n ih =>
    obtain ⟨Q, m, rfl⟩ : ∃ Q m, l = Q ++ [m] := ⟨l.dropLast, l.getLast (by intro e; rw [e] at hn; cases hn), (List.dropLast_concat_getLast _).symm⟩
    have := ih Q (by simpa using hn)
    rw [growT_snoc, (growT_srt Q).length_put]
    split <;> omega
theorem apply_len {A S t : List Mb} (h : applyC A S = (0, some t)) : t.length ≤ 100000 := by
  unfold applyC newT at h
  split at h
  · injection h with _ h; cases h
  · split at h
    · cases h
    · split at h
      · cases h
      · split at h
        · cases h
        · split at h
          · cases h
          · injection h with _ h
            injection h with h
            subst h
            refine Nat.le_trans (grow_len _) ?_
            omega
theorem same_says {w : World} {T T2 : Nat} {A B : List Mb} (h1 : TrL w T A) (h2 : TrL w T2 B) (hA : A.length ≤ 100000) :
    Calls Tryz.prog 12 #[.pointer (some ⟨T, 0, none⟩), .pointer (some ⟨T2, 0, none⟩)] w fun e w' => SaysB (A = B) e ∧ Below w.heap.size w w' := by
  obtain ⟨mb, Bk, f, h1, h1'⟩ := h1
  obtain ⟨mb2, Bk2, f2, h2, h2'⟩ := h2
  exact same_tree T mb Bk f A T2 mb2 Bk2 f2 B w h1 h1' h2 h2' hA
set_option maxHeartbeats 4000000 in
set_option maxRecDepth 100000 in
theorem least_any (lb ab bb Ta Tb : Nat) (al : Option Addr) (nl cl : Nat) (A B : List Mb) (T : Nat) (v : Value) (l : List Mv) (w : World) (hT : Tabs T w) (h : LdIn w lb ab bb Ta Tb al nl cl A B) (hA : WellL A) (hB : WellL B) (hLA : A.length ≤ 100000) (hr : MbL w v l) (hs : ∀ x ∈ l, Sm x.1) (hl : l.length ≤ 100000) :
    Calls Tryz.prog 13 #[v, .pointer (some ⟨lb, 0, none⟩), .pointer (some ⟨ab, 0, none⟩), .pointer (some ⟨bb, 0, none⟩)] w fun e w' => e = .returned (.bool true) ∧ Below w.heap.size w w' := by
  have HT := Keep.keep hT; have HIN := Keep.keep h
  have HSO := Keep.keep (sorted_any v l w hr (by omega))
  have HOS : Keep (∀ out : List Mv, out.map (·.1) = sortedS (l.map (·.1)) → (∀ x ∈ out, Sm x.1) ∧ out.length ≤ 100000) := ⟨fun out ho => ⟨fun x hx => by
    have h1 : x.1 ∈ out.map (·.1) := List.mem_map.2 ⟨x, hx, rfl⟩
    rw [ho] at h1
    obtain ⟨y, hy, he⟩ := List.mem_map.1 (sortedS_mem h1)
    rw [← he]
    exact hs y hy, by
    have h1 := congrArg List.length ho
    rw [List.length_map] at h1
    have h2 := sortedS_len (l.map (·.1))
    rw [List.length_map] at h2
    omega⟩⟩
  have HTL : Keep (∀ S, applyC A S = (0, some B) → nl ≤ S.length) := ⟨fun S hS => by rw [h.len]; exact told_least hA hB hS⟩
  obtain ⟨a, c, hv, -⟩ := hr.rd.shape
  generalize l.length = n0 at hv
  clear hT h hr hs hA hB
  subst hv
  go_enter Tryz.func13, Tryz.ntmps13
  go_wp2_with fail
  refine HSO.out.mono ?_
  rintro e w1 ⟨a1, c1, out, rfl, hout, hro, hb⟩
  have HB1 := Keep.keep hb; have HR1 := Keep.keep hro
  have HOU := Keep.keep (HOS.out out hout)
  obtain ⟨n, hn⟩ : ∃ n, out.length = n := ⟨_, rfl⟩
  have HN := Keep.keep hn
  rw [hn] at hro HR1 ⊢
  clear hb hro hout HSO HOS hn
  have hin := HIN.out.on HB1.out
  have cl0 := hin.rl.cell (i := 0) rfl
  clear hin
  by_cases hd : nl ≤ n
  · have hd2 : decide (nl ≤ n) = true := decide_eq_true (by omega)
    go_wp2_with fail
    go_ret
    exact ⟨rfl, HB1.out⟩
  · have hd2 : decide (nl ≤ n) = false := decide_eq_false (by omega)
    have HD := Keep.keep hd
    have hin := HIN.out.on HB1.out
    have ca0 := hin.ra.cell (i := 0) rfl
    obtain ⟨mb, Bk, f, t1, t2⟩ := hin.ta
    have HAP := Keep.keep (apply_any Ta mb Bk f A (.slice a1 n c1) out T w1 (HT.out.on (HB1.out.mono HT.out.b)) t1 t2 hLA (HR1.out.on (Below.refl _ _)) HOU.out.1 HOU.out.2)
    clear t1 t2 hin hd
    rcases applyC_cases A (out.map (·.1)) with ⟨t, ht⟩ | ⟨er, her, ht⟩
    · have HX : Keep (t ≠ B) := ⟨fun e => HD.out (by
        have := HTL.out _ (by rw [ht, e])
        rw [List.length_map] at this
        have := HN.out
        omega)⟩
      have HTN : Keep (t.length ≤ 100000) := ⟨apply_len ht⟩
      rw [ht] at HAP
      clear ht HTL
      go_wp2_with fail
      refine HAP.out.mono ?_
      rintro e w2 ⟨⟨pv, rfl, hnew⟩, hb⟩
      obtain ⟨T2, mb2, Bk2, f2, rfl, h2, -, -, h4⟩ := hnew
      have HB2 := Keep.keep (HB1.out.trans (hb.mono HB1.out.size))
      have HT2 : Keep (TrL w2 T2 t) := ⟨⟨mb2, Bk2, f2, h2, fun b hb => (h4 b hb).2⟩⟩
      have hin := HIN.out.on HB2.out
      have HSM := Keep.keep (same_says HT2.out hin.tb HTN.out)
      have cb0 := hin.rb.cell (i := 0) rfl
      clear hb h2 h4 hin ca0
      go_wp2_with fail
      refine HSM.out.mono ?_
      rintro e w3 ⟨⟨r, rfl, hr⟩, hb⟩
      obtain rfl : r = false := by
        cases r with
        | false => rfl
        | true => exact (HX.out (hr.1 rfl)).elim
      have HB3 := Keep.keep (HB2.out.trans (hb.mono HB2.out.size))
      clear hr hb
      go_wp2_with fail
      go_ret
      exact ⟨rfl, HB3.out⟩
    · have HX : Keep ((er != 0) = true) := ⟨by simpa using her⟩
      have hx := HX.out
      rw [ht] at HAP
      clear ht HTL her
      go_wp2_with fail
      refine HAP.out.mono ?_
      rintro e w2 ⟨⟨pv, rfl, hnew⟩, hb⟩
      have hnew : pv = .pointer none := hnew
      subst hnew
      have HB2 := Keep.keep (HB1.out.trans (hb.mono HB1.out.size))
      clear hb ca0
      go_wp2_with fail
      go_ret
      exact ⟨rfl, HB2.out⟩
end Go.Proofs.YtmnknmpfkjhgbaaGreatDoor
/- A REGION THAT DRAWS ITS ORDER, ONE OPERATION OF WHICH SPENDS WHAT OTHERS MADE: one fact an operation, of its own slot, of the slots that it waits for and of the memory; what is said may differ before and behind that operation. -/
namespace Go.Proofs.YtmnknmpfkjhgbaaGreatDoor
open Go.RowKit
theorem wp_region_flip {P : Program} {ops : Array Oper} {id : Nat} {Q : Exit → Act → World → Prop} {a : Act} {w : World} (c : Nat) (D : List Nat) (C : Bool → World → Prop) (T : Bool → Nat → (Nat → Value) → World → Prop) (St : World → World → Prop) (hm : P.follows .mixedOrders = true)
    (hD : ops.toList.map (·.dst) = D.map some) (hnd : D.Nodup) (_hds : ∀ d ∈ D, d < a.tmps.size) (hB : inOrderB ops = true) (hcl : c < ops.size) (h0 : C false w.drew)
    (hst : ∀ b i s s' w w', s (D.getD i 0) = s' (D.getD i 0) → (∀ j, Region.waitsFor .any ops i j = true → s (D.getD j 0) = s' (D.getD j 0)) → T b i s w → St w w' → T b i s' w')
    (hs : ∀ i, i < ops.size → i ≠ c → ∀ b a1 w1, Fr a D a1 → C b w1 → (∀ j, Region.waitsFor .any ops i j = true → T b j (slot a1) w1) →
      wpOp P ops Q i (fun a2 w2 => ∃ v, a2 = a1.put (some (D.getD i 0)) v ∧ C b w2 ∧ St w1 w2 ∧ T b i (slot a2) w2) a1 w1)
    (h1 : ∀ a1 w1, Fr a D a1 → C false w1 → (∀ j, Region.waitsFor .any ops c j = true → T false j (slot a1) w1) →
      wpOp P ops Q c (fun a2 w2 => ∃ v, a2 = a1.put (some (D.getD c 0)) v ∧ C true w2 ∧ (∀ j s s', j ≠ c → Region.waitsFor .any ops j c = false → s (D.getD j 0) = s' (D.getD j 0) → (∀ k, Region.waitsFor .any ops j k = true → s (D.getD k 0) = s' (D.getD k 0)) → T false j s w1 → T true j s' w2) ∧ T true c (slot a2) w2) a1 w1)
    (he : ∀ a1 w1, a1 = D.foldl (fun b d => b.put (some d) (slot a1 d)) a → C true w1 → (∀ j, j < ops.size → T true j (slot a1) w1) → Q .normal a1 w1) : (Code.region id ops true).wp P Q a w := by
  have hlen : D.length = ops.size := by have := congrArg List.length hD; simpa using this.symm
  have hmem : ∀ i, i < ops.size → D.getD i 0 ∈ D := fun i hi => by
    rw [List.getD_eq_getElem?_getD, List.getElem?_eq_getElem (by omega)]
    exact List.getElem_mem _
  have hinj : ∀ i j, i < ops.size → j < ops.size → D.getD i 0 = D.getD j 0 → i = j := fun i j hi hj h => by
    rw [List.getD_eq_getElem?_getD, List.getD_eq_getElem?_getD, List.getElem?_eq_getElem (by omega), List.getElem?_eq_getElem (by omega)] at h
    exact (List.getElem_inj hnd).1 h
  refine wp_region_fr D (fun done s w1 => C (done.getD c false) w1 ∧ ∀ j, j < ops.size → done.getD j false = true → T (done.getD c false) j s w1) hm ⟨?_, fun j hj hd => ?_⟩ ?_ ?_
  · have : (Array.replicate ops.size false).getD c false = false := by
      rw [Array.getD_eq_getD_getElem?]; simp [hcl]
    rw [this]; exact h0
  · rw [Array.getD_eq_getD_getElem?] at hd
    simp [hj] at hd
  · intro done a1 w1 hF hI hz hclo i hi
    have hlt := ready_lt hi
    have hu : done.getD i false = false := by
      have := (ready_at hi (Array.getElem?_eq_getElem hlt)).1
      rw [Array.getD_eq_getD_getElem?, Array.getElem?_eq_getElem (by omega)] at this ⊢
      exact this
    have hset : ∀ q, q ≠ i → (done.setIfInBounds i true).getD q false = done.getD q false := fun q hq => by
      simp [Array.getD_eq_getD_getElem?, Array.getElem?_setIfInBounds_ne (Ne.symm hq)]
    have hself : (done.setIfInBounds i true).getD i false = true := by
      have : i < done.size := by omega
      simp [Array.getD_eq_getD_getElem?, this]
    have hrdy : ∀ j, Region.waitsFor .any ops i j = true → done.getD j false = true := fun j hj => by
      obtain ⟨e, he1, he2, he3⟩ := waits_of (Array.getElem?_eq_getElem hlt) hj
      have hdn := (ready_at hi (Array.getElem?_eq_getElem hlt)).2 e he1 he2
      rw [he3] at hdn
      exact hdn
    have hlts : ∀ j, done.getD j false = true → j < ops.size := fun j hdn => by
      rcases Nat.lt_or_ge j done.size with h | h
      · omega
      · simp [Array.getD_eq_getD_getElem?, Array.getElem?_eq_none h] at hdn
    -- what an operation that is done waited for is done
    have hold : ∀ j, j < ops.size → done.getD j false = true → ∀ k, Region.waitsFor .any ops j k = true → done.getD k false = true := fun j hj hdn k hk => by
      obtain ⟨e, he1, he2, he3⟩ := waits_of (Array.getElem?_eq_getElem hj) hk
      have := hclo j _ (Array.getElem?_eq_getElem hj) hdn e he1 he2
      rw [he3] at this
      exact this
    have hsame : ∀ v j, done.getD j false = true → slot a1 (D.getD j 0) = slot (a1.put (some (D.getD i 0)) v) (D.getD j 0) := fun v j hdn => by
      rw [slot_put_ne _ _ _ _ (fun e2 => by
        have := hinj i j hlt (hlts j hdn) e2
        subst this
        rw [hu] at hdn
        cases hdn)]
    have hT : ∀ j, Region.waitsFor .any ops i j = true → T (done.getD c false) j (slot a1) w1 := fun j hj => hI.2 j (hlts j (hrdy j hj)) (hrdy j hj)
    by_cases hic : i = c
    · subst hic
      have hC := hI.1
      rw [hu] at hC hT
      refine wpOp_mono ?_ (h1 a1 w1 hF hC hT)
      rintro a2 w2 ⟨v, rfl, hC2, hfl, hTc⟩
      refine ⟨hF.put _ (hmem i hlt) v, by rw [hself]; exact hC2, fun j hj hd => ?_⟩
      rw [hself]
      by_cases e : i = j
      · subst e; exact hTc
      · rw [hset j (Ne.symm e)] at hd
        have hTj := hI.2 j hj hd
        rw [hu] at hTj
        refine hfl j _ _ (Ne.symm e) ?_ (hsame v j hd) (fun k hk => hsame v k (hold j hj hd k hk)) hTj
        cases hw : Region.waitsFor .any ops j i with
        | false => rfl
        | true =>
          have := hold j hj hd i hw
          rw [hu] at this; cases this
    · refine wpOp_mono ?_ (hs i hlt hic _ a1 w1 hF hI.1 hT)
      rintro a2 w2 ⟨v, rfl, hC2, hSt, hTi⟩
      refine ⟨hF.put _ (hmem i hlt) v, by rw [hset c (Ne.symm hic)]; exact hC2, fun j hj hd => ?_⟩
      rw [hset c (Ne.symm hic)]
      by_cases e : i = j
      · subst e; exact hTi
      · rw [hset j (Ne.symm e)] at hd
        exact hst _ j _ _ _ _ (hsame v j hd) (fun k hk => hsame v k (hold j hj hd k hk)) (hI.2 j hj hd) hSt
  · intro done a1 w1 ha hI hz hr
    have hall := all_done hB hz hr
    have hC := hI.1
    rw [hall c hcl] at hC
    exact he a1 w1 ha hC (fun j hj => by
      have := hI.2 j hj (hall j hj)
      rw [hall c hcl] at this
      exact this)
section
variable {P : Program} {ops : Array Oper} {Q : Exit → Act → World → Prop} {C : World → Prop} {T : (Nat → Value) → World → Prop} {X : World → Prop} {i d : Nat} {a1 : Act} {w1 w2 : World} {op : Op} {tp : TypeId} {pos : String} {af : Array Edge} {v : Value}
/-- an operation that yields a value at once -/
theorem flip_val (hi : ops[i]? = some ⟨some d, op, tp, pos, af, none⟩) (hd : d < a1.tmps.size) (hr : (execOp a1.eval (⟨some d, op, tp, pos, af, none⟩ : Oper)).run P w1 = .ok (.value v) w2)
    (hC : C w2) (hS : X w2) (hT : ∀ s : Nat → Value, s d = v → (∀ j, j ≠ d → s j = slot a1 j) → T s w2) : wpOp P ops Q i (fun a2 w2 => ∃ v, a2 = a1.put (some d) v ∧ C w2 ∧ X w2 ∧ T (slot a2) w2) a1 w1 :=
  inv_op (o := ⟨some d, op, tp, pos, af, none⟩) hi rfl hr ⟨v, rfl, hC, hS, hT _ (slot_put_same _ _ _ hd) (fun _j hj => slot_put_ne _ _ _ _ (Ne.symm hj))⟩
/-- an operation that calls -/
theorem flip_call {f : FuncId} {args : Array Operand} {ts : Array TypeId} {vs : Array Value}
    (hi : ops[i]? = some ⟨some d, .call ⟨.value (.func f), args, ts⟩, tp, pos, af, none⟩) (hd : d < a1.tmps.size)
    (hent : Enters P f) (hargs : args.map a1.eval = vs) (hc : Calls P f vs w1 fun e w2 => ∃ v, e = .returned v ∧ C w2 ∧ X w2 ∧ ∀ s : Nat → Value, s d = v → (∀ j, j ≠ d → s j = slot a1 j) → T s w2) :
    wpOp P ops Q i (fun a2 w2 => ∃ v, a2 = a1.put (some d) v ∧ C w2 ∧ X w2 ∧ T (slot a2) w2) a1 w1 := by
  unfold wpOp
  rw [hi]
  simp only
  rw [if_pos (wanted_none rfl)]
  refine .inl ?_
  unfold Oper.wp
  have : (execOp a1.eval (⟨some d, .call ⟨.value (.func f), args, ts⟩, tp, pos, af, none⟩ : Oper)).run P w1 = .ok (.enter f vs) w1 := by
    have h1 : a1.eval (.func f) = .func (.func f) #[] #[] := rfl
    unfold execOp
    simp only [resolve, Deferred.ofValue, hargs, h1, invoke, Sem.run_bind, Sem.run_pure, Result.andThen_ok]
    simp [hent vs w1]
  rw [this, Oper.upon_enter]
  refine hc.mono ?_
  rintro e w2 ⟨v, rfl, hC, hS, hT⟩
  exact ⟨v, rfl, hC, hS, hT _ (slot_put_same _ _ _ hd) (fun j hj => slot_put_ne _ _ _ _ (Ne.symm hj))⟩
end
end Go.Proofs.YtmnknmpfkjhgbaaGreatDoor
/- append TO A FULL SLICE OF MEMBERS that is anybody's: a slice that reads as both. -/
namespace Go.Proofs.YtmnknmpfkjhgbaaGreatDoor
open Go.RowKit
variable {P : Program}
theorem below_grown {w w' : World} (hg : w.grownBy w' none) : Below w.heap.size w w' := (Chg.grown (M := NoM) (.refl _ _ _) hg (Nat.le_refl _) (fun k e => by cases e)).below (fun _ _ h => h)
theorem run_appRead {ρ : Operand → Value} {w : World} {t e tp : TypeId} {d : Option Tmp} {s x : Operand} {pos : String} {af : Array Edge} {g : Option (Nat × Bool)} {k n m bytes : Nat} {a0 : Option Addr} {z xv : Value} {vs us : List Value} {N0 N : Nat → Prop}
    (hT : SlK P t e z k bytes) (h0 : RdV w N0 k (.slice a0 n n) n vs) (hrd : RdV w N k xv m us) (h1 : ∀ u ∈ us, u.oneCell' = true) (hbd : n + m ≤ maxLen) (hbd2 : (n + m) * bytes ≤ 140737488355328)
    (hs : ρ s = .slice a0 n n) (hx : ρ x = xv) :
    ∃ v' w', (execOp ρ (⟨d, .call ⟨.builtin .append, #[s, x], #[t, t]⟩, tp, pos, af, g⟩ : Oper)).run P w = .ok (.value v') w' ∧ RdV w' (fun b => N0 b ∨ Fresh w.heap.size w' b) k v' (n + m) (vs ++ us) ∧ (m = 0 ∨ w'.ownsRow w.heap.size e k v' (n + m) (vs ++ us)) ∧ Below w.heap.size w w' := by
  obtain ⟨i, hi, hz, hsize, hby⟩ := hT.i
  by_cases hm : m = 0
  · subst hm
    have hus : us = [] := List.eq_nil_of_length_eq_zero (by have := hrd.len; omega)
    refine ⟨.slice a0 n n, w, ?_, ?_, .inl rfl, Below.refl _ _⟩
    · obtain ⟨_, ⟨ad, cap, rfl, -⟩, -⟩ := hrd
      have key : (Builtin.append_ #[t, t] tp #[.slice a0 n n, .slice ad 0 cap]).run P w = .ok (.slice a0 n n) w := by
        cases ad <;> cases a0 <;> simp [Builtin.append_, run_underlying hT.u, sizeOf, typeInfo, hi, Builtin.lenOf, Builtin.firstCells, loadCells, loadCellsFrom, storeCells]
      unfold execOp
      simp only [resolve, invoke, builtin, Sem.run_bind, Sem.run_pure, Result.andThen_ok, List.map_toArray, List.map_cons, List.map_nil, hs, hx, key]
    · subst hus
      rw [List.append_nil, Nat.add_zero]
      exact h0.mono (fun b hb => .inl hb)
  · have hlen := hrd.len
    obtain ⟨_, ⟨ad, cap, rfl, h1', h2, h3⟩, hc⟩ := hrd
    obtain ⟨b, off, rfl, -⟩ := h3.resolve_left (fun e => hm (by omega))
    have hcells : ∀ j u, us[j]? = some u → w.cell? ((⟨b, off, none⟩ : Addr).add j) = some u := by
      intro j u hu
      rw [Addr.add_mid]
      exact hc b off _ _ rfl j u hu
    have key : ∃ v' w', (Builtin.append_ #[t, t] tp #[.slice a0 n n, .slice (some ⟨b, off, none⟩) m cap]).run P w = .ok v' w' ∧ w'.ownsRow w.heap.size e k v' (n + m) (vs ++ us) ∧ w.grownBy w' none := by
      obtain ⟨hl0, ⟨a9, c9, he9, g1, g2, g3⟩, hc0⟩ := h0
      injection he9 with e1 e2 e3
      subst e1 e3
      rcases g3 with g3 | ⟨b0, off0, rfl, -⟩
      · subst g3
        obtain rfl : vs = [] := List.eq_nil_of_length_eq_zero (by omega)
        cases a0 with
        | none =>
          obtain ⟨v', w', hrun, ho, hg, hn, hb⟩ := run_append_own_at (P := P) w w.heap.size t tp e i z k bytes hT.u hi hz hsize hby hT.z hT.k (.slice none 0 0) 0 [] (World.ownsRow_nil _ _ _ _) ⟨b, off, none⟩ m cap us hlen hcells h1 hbd hbd2 (Nat.le_refl _)
          exact ⟨v', w', hrun, ho, hg⟩
        | some a0 => exact run_append_arg_grows (P := P) w t tp e i z k bytes hT.u hi hz hsize hby hT.z hT.k a0 0 0 [] hl0 (fun j u hu => by simp at hu) ⟨b, off, none⟩ m cap us hlen hcells (by omega) hbd hbd2
      · exact run_append_arg_grows (P := P) w t tp e i z k bytes hT.u hi hz hsize hby hT.z hT.k ⟨b0, off0, none⟩ n n vs hl0 (fun j u hu => by rw [Addr.add_mid]; exact hc0 b0 off0 _ _ rfl j u hu) ⟨b, off, none⟩ m cap us hlen hcells (by omega) hbd hbd2
    obtain ⟨v', w', hrun, ho, hg⟩ := key
    refine ⟨v', w', ?_, (ownsV_reads ho).mono (fun b hb => .inr ⟨hb.1, hb.2.1⟩), .inr ho, below_grown hg⟩
    unfold execOp
    simp only [resolve, invoke, builtin, Sem.run_bind, Sem.run_pure, Result.andThen_ok, List.map_toArray, List.map_cons, List.map_nil, hs, hx, hrun]
theorem MbL.nds {w : World} {v : Value} {l : List Mv} (h : MbL w v l) : ∀ u ∈ mcells l, u.oneCell' = true := mcells_one (fun y hy => (h.nd y hy).shape)
/-- append(s[:n:n], x...), whosever s is -/
theorem run_appL {ρ : Operand → Value} {w : World} {tp : TypeId} {d : Option Tmp} {s x : Operand} {pos : String} {af : Array Edge} {g : Option (Nat × Bool)} {n : Nat} {a0 : Option Addr} {xv : Value} {l l2 : List Mv}
    (h0 : MbL w (.slice a0 n n) l) (h2 : MbL w xv l2) (hl : l.length + l2.length ≤ 1000000000) (hs : ρ s = .slice a0 n n) (hx : ρ x = xv) :
    ∃ a' c' w', (execOp ρ (⟨d, .call ⟨.builtin .append, #[s, x], #[23, 23]⟩, tp, pos, af, g⟩ : Oper)).run Tryz.prog w = .ok (.value (.slice a' (l.length + l2.length) c')) w' ∧ MbL w' (.slice a' (l.length + l2.length) c') (l ++ l2) ∧ (l2 ≠ [] → RowM w.heap.size (· < w.heap.size) w' (.slice a' (l.length + l2.length) c') (l ++ l2)) ∧ Below w.heap.size w w' := by
  have hn : l.length = n := by
    obtain ⟨_, _, he, -⟩ := h0.rd.shape
    injection he with _ e2 _
    exact e2.symm
  subst hn
  obtain ⟨v', w', hr, hrd, how, hb⟩ := run_appRead (d := d) (tp := tp) (pos := pos) (af := af) (g := g) slMb h0.rd h2.rd h2.nds (by unfold maxLen; omega) (by omega) hs hx
  have hnd : ∀ y ∈ l ++ l2, NdR w (· < w.heap.size) y.1.2 y.2.1 y.2.2 := fun y hy => by
    rcases List.mem_append.1 hy with hy | hy
    · exact h0.nd y hy
    · exact h2.nd y hy
  have hnd' : ∀ y ∈ l ++ l2, NdR w' (· < w.heap.size) y.1.2 y.2.1 y.2.2 := fun y hy => (hnd y hy).below hb (fun _ h => h)
  obtain ⟨a', c', hv, -⟩ := hrd.shape
  subst hv
  refine ⟨a', c', w', hr, ⟨?_, fun y hy => (hnd' y hy).mono (fun b h => Nat.lt_of_lt_of_le h hb.size)⟩, fun hne => ?_, hb⟩
  · rw [mcells_append, List.length_append]
    exact hrd.mono (fun b h => h.elim (fun h => Nat.lt_of_lt_of_le h hb.size) (fun h => h.2))
  · have ho := how.resolve_left (fun e => hne (List.eq_nil_of_length_eq_zero e))
    refine ⟨by rw [List.length_append, mcells_append]; exact ho, fun y hy => (hnd' y hy).mono (fun b h => ⟨.inl h, Nat.lt_of_lt_of_le h hb.size, fun e => ?_⟩)⟩
    have := (World.ownsRow.lt ho b e).1
    omega
/-- append(nil, x...) -/
theorem run_appNil {ρ : Operand → Value} {w w0 : World} {tp : TypeId} {d : Option Tmp} {s x : Operand} {pos : String} {af : Array Edge} {g : Option (Nat × Bool)} {n c : Nat} {a : Option Addr} {l : List Mv} (B : Nat) (hB : w0.heap.size ≤ B) (hB2 : B ≤ w.heap.size)
    (hm : MbL w0 (.slice a n c) l) (hb : Below w0.heap.size w0 w) (hl : l.length ≤ 1000000000) (hs : ρ s = .slice none 0 0) (hx : ρ x = .slice a n c) :
    ∃ v' w', (execOp ρ (⟨d, .call ⟨.builtin .append, #[s, x], #[23, 23]⟩, tp, pos, af, g⟩ : Oper)).run Tryz.prog w = .ok (.value v') w' ∧ RowM B (· < w0.heap.size) w' v' l ∧ Below w.heap.size w w' := by
  have hm' : Mbs w (· < w0.heap.size) (· < w0.heap.size) (.slice a n c) l := Mbs.below hm hb (fun _ h => h) (fun _ h => h)
  obtain ⟨v', w', hr, ho, hg, -⟩ := run_appV (d := d) (tp := tp) (pos := pos) (af := af) (g := g) slMb (World.ownsRow_nil w B 41 9) hm'.rd (mcells_one (fun y hy => (hm'.nd y hy).shape)) (by unfold maxLen; omega) (by omega) hB2 hs hx
  rw [Nat.zero_add, List.nil_append] at ho
  have hb2 := below_grown hg
  refine ⟨v', w', hr, ⟨ho, fun y hy => ?_⟩, hb2⟩
  exact ((hm'.nd y hy).below hb2 (fun b h => Nat.lt_of_lt_of_le h hb.size)).mono (fun b h => ⟨.inl h, Nat.lt_of_lt_of_le h (Nat.le_trans hb.size hb2.size), fun e => by have := (World.ownsRow.lt ho b e).1; omega⟩)
section
variable {ops : Array Oper} {rest : List Oper} {a : Act} {w : World} {Q : Exit → Act → World → Prop} {tp : TypeId} {dst : Option Tmp} {args : Array Operand} {ts : Array TypeId} {s x : Operand} {pos : String} {after : Array Edge} {g : Option (Nat × Bool)}
theorem arm_stopAG (_ : Region.wanted (⟨dst, .call ⟨.builtin .append, args, ts⟩, tp, pos, after, g⟩ : Oper) (yielded ops a.tmps) = true) (h : StoppedG P ops rest a w Q ⟨dst, .call ⟨.builtin .append, args, ts⟩, tp, pos, after, g⟩) : wpList P ops Q (⟨dst, .call ⟨.builtin .append, args, ts⟩, tp, pos, after, g⟩ :: rest) a w := by cases h; assumption
theorem arm_runG {o : Oper} {v : Value} {w' : World} (hwt : Region.wanted o (yielded ops a.tmps) = true) (hr : (execOp a.eval o).run P w = .ok (.value v) w') (h : wpList P ops Q rest (a.put o.dst v) w') : wpList P ops Q (o :: rest) a w := by
  refine Go.BigFrame.wpList_want hwt fun K hK => ?_
  unfold Oper.wp
  rw [hr]
  exact hK _ _ h
end
/-- ARM: append(s[:n:n], x...), whosever s is -/
theorem arm_appLG {ops : Array Oper} {rest : List Oper} {a : Act} {w : World} {Q : Exit → Act → World → Prop} {tp : TypeId} {dst : Option Tmp} {s x : Operand} {pos : String} {after : Array Edge} {g : Option (Nat × Bool)} {n : Nat} {a0 : Option Addr} {xv : Value} {l l2 : List Mv}
    (hwt : Region.wanted (⟨dst, .call ⟨.builtin .append, #[s, x], #[23, 23]⟩, tp, pos, after, g⟩ : Oper) (yielded ops a.tmps) = true)
    (h0 : MbL w (.slice a0 n n) l) (h2 : MbL w xv l2) (hl : l.length + l2.length ≤ 1000000000) (hs : a.eval s = .slice a0 n n) (hx : a.eval x = xv)
    (k : ∀ a' c' w', MbL w' (.slice a' (l.length + l2.length) c') (l ++ l2) → (l2 ≠ [] → RowM w.heap.size (· < w.heap.size) w' (.slice a' (l.length + l2.length) c') (l ++ l2)) → Below w.heap.size w w' → wpList Tryz.prog ops Q rest (a.put dst (.slice a' (l.length + l2.length) c')) w') :
    wpList Tryz.prog ops Q (⟨dst, .call ⟨.builtin .append, #[s, x], #[23, 23]⟩, tp, pos, after, g⟩ :: rest) a w := by
  obtain ⟨a', c', w', hr, h1, h3, hb⟩ := run_appL (d := dst) (tp := tp) (pos := pos) (af := after) (g := g) h0 h2 hl hs hx
  exact arm_runG hwt hr (k a' c' w' h1 h3 hb)
/-- s[:n:n] -/
theorem slice_m3 (a : Option Addr) (n cap : Nat) (hn : n ≤ cap) (w : World) : (Instr.slice 23 (.slice a n cap) none (some (.int .i64 (n : Int))) (some (.int .i64 (n : Int)))).run Tryz.prog w = .ok (.slice a n n) w := by
  have he : Tryz.prog.elem 23 = 41 := by simp [Program.elem, Tryz.underlying23]
  have hs : ∀ w, (sizeOf 41).run Tryz.prog w = .ok 9 w := fun w => by kernel_rfl
  rw [run_slice_hm w 23 a n cap (by rw [he]; exact Tryz.underlying23) .i64 .i64 (n : Int) (n : Int) (by omega) (by omega) (by omega), he, hs]
  have ha : a.map (·.add 0) = a := by cases a <;> simp [Addr.add]
  simp [Result.andThen, sliced, ha]
theorem Mbs.full {w : World} {N N' : Nat → Prop} {a : Option Addr} {n cap : Nat} {l : List Mv} (h : Mbs w N N' (.slice a n cap) l) : Mbs w N N' (.slice a n n) l := by
  obtain ⟨⟨hl, ⟨a0, cap0, he0, g1, g2, g3⟩, hc⟩, hn⟩ := h
  injection he0 with e1 e2 e3
  subst e1 e3
  refine ⟨⟨hl, ⟨a, n, by rw [e2], by omega, by omega, ?_⟩, fun b off m c he j u hj => ?_⟩, hn⟩
  · rcases g3 with g3 | g3
    · exact .inl (by omega)
    · exact .inr g3
  · injection he with e4 e5 e6
    subst e4
    exact hc b off _ _ rfl j u hj
end Go.Proofs.YtmnknmpfkjhgbaaGreatDoor
/- A SLICE OF MEMBERS UNDER WAY: a row of the call's own, or one Member, full. -/
namespace Go.Proofs.YtmnknmpfkjhgbaaGreatDoor
open Go.RowKit
theorem MbL.ofRowK {w : World} {v : Value} {l : List Mv} {B : Nat} {K : Nat → Prop} (h : RowM B K w v l) : MbL w v l := h.mbs.mono (fun _ hb => hb.2) (fun _ hb => hb.2.1)
theorem RowM.any {B n0 : Nat} {K : Nat → Prop} {w : World} {v : Value} {l : List Mv} (h : RowM B K w v l) (hB : n0 ≤ B) : RowM n0 (· < n0) w v l :=
  ⟨ownsRow_base h.own hB, fun x hx => (h.nd x hx).mono (fun b e => ⟨Nat.lt_or_ge b n0, e.2⟩)⟩
def Acc (n0 : Nat) (w : World) (v : Value) (l : List Mv) : Prop := RowM n0 (· < n0) w v l ∨ ∃ a, v = .slice a 1 1 ∧ MbL w v l
theorem Acc.mbl {n0 : Nat} {w : World} {v : Value} {l : List Mv} (h : Acc n0 w v l) : MbL w v l := by
  rcases h with h | ⟨_, _, h⟩
  · exact MbL.ofRowK h
  · exact h
theorem Acc.on {n0 : Nat} {w w' : World} {v : Value} {l : List Mv} (h : Acc n0 w v l) (hb : Below w.heap.size w w') : Acc n0 w' v l := by
  rcases h with h | ⟨a, e, h⟩
  · exact .inl (h.below hb)
  · exact .inr ⟨a, e, h.on hb⟩
/-- ARM: Members are appended -/
theorem arm_acc {ops : Array Oper} {rest : List Oper} {a : Act} {w : World} {Q : Exit → Act → World → Prop} {tp : TypeId} {dst : Option Tmp} {s x : Operand} {pos : String} {after : Array Edge} {n0 : Nat} {N N' : Nat → Prop} {v xv : Value} {l l2 : List Mv}
    (h : Acc n0 w v l) (hb0 : n0 ≤ w.heap.size) (h2 : Mbs w N N' xv l2) (hN : ∀ b, N b → b < w.heap.size) (hN' : ∀ b, N' b → b < w.heap.size ∧ v.ownBlock ≠ some b) (hne : l2 ≠ []) (hl : l.length + l2.length ≤ 1000000000)
    (hs : a.eval s = v) (hx : a.eval x = xv)
    (k : ∀ a' c' w', Acc n0 w' (.slice a' (l.length + l2.length) c') (l ++ l2) → Chg (fun b => v.ownBlock = some b) w.heap.size w w' → (∀ b, (Value.slice a' (l.length + l2.length) c').ownBlock = some b → v.ownBlock = some b ∨ w.heap.size ≤ b) → wpList Tryz.prog ops Q rest (a.put dst (.slice a' (l.length + l2.length) c')) w') :
    wpList Tryz.prog ops Q (⟨dst, .call ⟨.builtin .append, #[s, x], #[23, 23]⟩, tp, pos, after, none⟩ :: rest) a w := by
  rcases h with h | ⟨a0, rfl, h⟩
  · refine arm_appM h hb0 h2 (fun b hb => ⟨Nat.lt_or_ge b n0, hN' b hb⟩) (by omega) hs hx ?_
    intro v' w' hr hg hov hv
    obtain ⟨a', c', rfl⟩ := hv
    refine k a' c' w' (.inl hr) (chg_grown hg) (fun b hb => ?_)
    rcases hov with e | e
    · exact .inl (by rw [← e]; exact hb)
    · rw [e] at hb
      injection hb with hb
      exact .inr (Nat.le_of_eq hb)
  · refine arm_appLG (wanted_none rfl) h (Mbs.mono h2 hN (fun b hb => (hN' b hb).1)) hl hs hx ?_
    intro a' c' w' _ h3 hb
    have h3 := h3 hne
    exact k a' c' w' (.inl (h3.any hb0)) (.of_below hb) (fun b hb2 => .inr (h3.lt hb2).1)
/-- one of two Members just made -/
theorem acc_pair {w : World} {x y : Mb} (hx : x.2.attrs = [] ∧ x.2.data = []) (hy : y.2.attrs = [] ∧ y.2.data = []) {j : Nat} (hj : j < 2) :
    Acc w.heap.size (w.alloc (.cells (mcells [(x, nilV, nilV), (y, nilV, nilV)]).toArray 41)) (.slice (some ⟨w.heap.size, j * 9, none⟩) 1 (2 - j)) [(if j = 0 then x else y, nilV, nilV)] := by
  have hm : MbL (w.alloc (.cells (mcells [(x, nilV, nilV), (y, nilV, nilV)]).toArray 41)) (.slice (some ⟨w.heap.size, 0, none⟩) 2 2) [(x, nilV, nilV), (y, nilV, nilV)] :=
    ⟨RdV.new 41 (mcells [(x, nilV, nilV), (y, nilV, nilV)]) 9 2 _ rfl rfl (by unfold maxLen; omega) (by simp), fun z hz => by
      simp only [List.mem_cons, List.not_mem_nil, or_false] at hz
      rcases hz with rfl | rfl
      · exact ndR_nil hx.1 hx.2
      · exact ndR_nil hy.1 hy.2⟩
  rcases (by omega : j = 0 ∨ j = 1) with rfl | rfl
  · refine .inl ⟨⟨rfl, .inr ⟨w.heap.size, 2, (mcells [(x, nilV, nilV), (y, nilV, nilV)]).toArray, rfl, Nat.le_refl _, heap_alloc_new w _, by simp, by unfold maxLen; omega, rfl, rfl⟩⟩, fun z hz => ?_⟩
    obtain rfl : z = (x, nilV, nilV) := by simpa using hz
    exact ndR_nil hx.1 hx.2
  · exact .inr ⟨_, rfl, by have := Mbs.win hm (k := 1) (by simp) (by omega); rw [Nat.zero_add] at this; exact this⟩
end Go.Proofs.YtmnknmpfkjhgbaaGreatDoor
/- portolanlaw20.DifferChain: the law's walk. -/
namespace Go.Proofs.YtmnknmpfkjhgbaaGreatDoor
open Go.RowKit
def ActL (w : World) (v : Value) (l : List Av) : Prop := ActsR w (· < w.heap.size) (· < w.heap.size) v l
theorem ActL.on {w w' : World} {v : Value} {l : List Av} (h : ActL w v l) (hb : Below w.heap.size w w') : ActL w' v l :=
  ⟨(h.rd.below hb (fun _ hb => hb)).mono (fun _ h => Nat.lt_of_lt_of_le h hb.size), fun x hx => ((h.nd x hx).below hb (fun _ hb => hb)).mono (fun _ h => Nat.lt_of_lt_of_le h hb.size)⟩
def actT (l : List Av) : List Mb := grownL (l.map fun x => (x.1, x.2.1))
theorem actT_well (l : List Av) : WellL (actT l) := grown_well _
theorem actT_len (l : List Av) : (actT l).length ≤ 40 := grown_len _
theorem grown_tr {w : World} {v : Value} {l : List Av} (B : Nat) (hT : Tabs B w) (hr : ActL w v l) (hs : ∀ x ∈ l, Kb x.2.1) :
    Calls Tryz.prog 8 #[v] w fun e w' => ∃ T, e = .returned (.pointer (some ⟨T, 0, none⟩)) ∧ TrL w' T (actT l) ∧ Below w.heap.size w w' := by
  refine (grown_any B v l w hT hr hs).mono ?_
  rintro e w' ⟨T, mb, Bk, f, he, h1, h2, h3⟩
  exact ⟨T, he, ⟨mb, Bk, f, h1, fun b hb => (h2.2.2 b hb).2⟩, h3⟩
theorem apply_tr {w : World} {T : Nat} {A B : List Mb} {v : Value} {l : List Mv} (n : Nat) (hT : Tabs n w) (hTr : TrL w T A) (hA : A.length ≤ 100000) (hr : MbL w v l) (hs : ∀ x ∈ l, Sm x.1) (hl : l.length ≤ 100000) (ha : applyC A (l.map (·.1)) = (0, some B)) :
    Calls Tryz.prog 11 #[.pointer (some ⟨T, 0, none⟩), v] w fun e w' => ∃ T', e = .returned (.tuple #[.pointer (some ⟨T', 0, none⟩), .int .i64 0]) ∧ TrL w' T' B ∧ Below w.heap.size w w' := by
  obtain ⟨mb, Bk, f, h1, h2⟩ := hTr
  refine (apply_any T mb Bk f A v l n w hT h1 h2 hA hr hs hl).mono ?_
  rintro e w' ⟨⟨pv, he, hn⟩, hb⟩
  rw [ha] at he hn
  obtain ⟨T', mb', Bk', f', rfl, h3, -, -, h4⟩ := hn
  exact ⟨T', he, ⟨mb', Bk', f', h3, fun b hb => (h4 b hb).2⟩, hb⟩
theorem same_tr {w : World} {T T2 : Nat} {A B : List Mb} (h1 : TrL w T A) (h2 : TrL w T2 B) (hA : A.length ≤ 100000) (he : A = B) :
    Calls Tryz.prog 12 #[.pointer (some ⟨T, 0, none⟩), .pointer (some ⟨T2, 0, none⟩)] w fun e w' => e = .returned (.bool true) ∧ Below w.heap.size w w' := by
  obtain ⟨mb, Bk, f, h1, h1'⟩ := h1
  obtain ⟨mb2, Bk2, f2, h2, h2'⟩ := h2
  refine (same_tree T mb Bk f A T2 mb2 Bk2 f2 B w h1 h1' h2 h2' hA).mono ?_
  rintro e w' ⟨⟨r, rfl, hr⟩, hb⟩
  rw [hr.2 he]
  exact ⟨rfl, hb⟩
/-- what Of gives, at hand -/
structure ToldIs (w : World) (A B : List Mb) (v : Value) (l : List Mv) : Prop where
  mb : MbL w v l
  sm : ∀ x ∈ l, Sm x.1
  len : l.length ≤ 100000
  ap : applyC A (l.map (·.1)) = (0, some B)
theorem ToldIs.on {w w' : World} {A B : List Mb} {v : Value} {l : List Mv} (h : ToldIs w A B v l) (hb : Below w.heap.size w w') : ToldIs w' A B v l := ⟨h.mb.on hb, h.sm, h.len, h.ap⟩
end Go.Proofs.YtmnknmpfkjhgbaaGreatDoor

