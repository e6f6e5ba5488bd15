/- PARTS OF ONE PROOF, set in one file: Tr19, GrwL, FewS2, EqP, CompG, CompM, CompN, CompR. Each part tells its own conditions. -/
import Derived.Test.YtplafpokgpolkaaGreatDoorY1
/- portolanlaw19: dir, file, paths; what stands while it is gone on. -/
namespace Go.Proofs.YtplafpokgpolkaaGreatDoor
open Go.RowKit
/-- a tree at hand -/
def TrL (w : World) (T : Nat) (t : List Mb) : Prop := ∃ mb Bk f, TreeIn w T mb Bk f t ∧ ∀ b, Bk b → b < w.heap.size
theorem TrL.on {w w' : World} {T : Nat} {t : List Mb} (h : TrL w T t) (hb : Below w.heap.size w w') : TrL w' T t := by
  obtain ⟨mb, Bk, f, h1, h2⟩ := h
  exact ⟨mb, Bk, f, h1.loc (fun b hb' => hb.block b (by
    rcases hb' with rfl | rfl | h
    · exact h1.row.lt
    · exact h1.map.lt
    · exact h2 b h)), fun b hb' => Nat.lt_of_lt_of_le (h2 b hb') hb.size⟩
theorem TrL.ofNew {w w' : World} {pv : Value} {t : List Mb} (h : NewIs w w' pv (some t)) : ∃ T, pv = .pointer (some ⟨T, 0, none⟩) ∧ TrL w' T t := by
  obtain ⟨T, mb, Bk, f, he, h1, h2⟩ := h
  exact ⟨T, he, mb, Bk, f, h1, fun b hb => (h2.2.2 b hb).2⟩
def NdL (w : World) (n : Nd) (av dv : Value) : Prop := NdR w (· < w.heap.size) n av dv
theorem NdL.on {w w' : World} {n : Nd} {av dv : Value} (h : NdL w n av dv) (hb : Below w.heap.size w w') : NdL w' n av dv := (h.below hb (fun _ hb => hb)).mono (fun _ hb' => Nat.lt_of_lt_of_le hb' hb.size)
def MbL (w : World) (v : Value) (l : List Mv) : Prop := Mbs w (· < w.heap.size) (· < w.heap.size) v l
theorem MbL.on {w w' : World} {v : Value} {l : List Mv} (h : MbL w v l) (hb : Below w.heap.size w w') : MbL w' v l := (Mbs.below h hb (fun _ hb => hb) (fun _ hb => hb)).mono (fun _ hb' => Nat.lt_of_lt_of_le hb' hb.size) (fun _ hb' => Nat.lt_of_lt_of_le hb' hb.size)
theorem MbL.ofRow {w : World} {v : Value} {l : List Mv} {B : Nat} {K : Nat → Prop} (h : RowM B K w v l) : MbL w v l := h.mbs.mono (fun _ hb => hb.2) (fun _ hb => hb.2.1)
theorem RdS.on' {w w' : World} {v : Value} {l : List Tx} (h : RdS w (· < w.heap.size) v l) (hb : Below w.heap.size w w') : RdS w' (· < w'.heap.size) v l := (RdV.below h hb (fun _ hb => hb)).mono (fun _ hb' => Nat.lt_of_lt_of_le hb' hb.size)
theorem OwnS.rd' {w : World} {B : Nat} {v : Value} {l : List Tx} (h : OwnS w B v l) : RdS w (· < w.heap.size) v l := (ownsV_reads h).mono (fun _ hb => hb.2.1)
def dirM (mode : Int) : Nd := ⟨1, mode, 0, 0, 0, [], [], []⟩
def fileD (d : Tx) : Nd := ⟨2, 0, 0, 0, 0, [], d, []⟩
theorem dirL (w : World) (mode : Int) : NdL w (dirM mode) nilV nilV := ndR_nil rfl rfl
theorem sm_dirM (p : Tx) (mode : Int) (hp : p.length ≤ 400000) : Sm (p, dirM mode) := ⟨hp, by simp [dirM], by simp [dirM], by simp [dirM], fun x hx => by simp [dirM] at hx, by simp [dirM]⟩
theorem sm_fileD (p d : Tx) (hp : p.length ≤ 400000) (hd : d.length ≤ 1000) : Sm (p, fileD d) := ⟨hp, by simp [fileD], by simp [fileD]; omega, by simp [fileD], fun x hx => by simp [fileD] at hx, by simp [fileD]⟩
set_option maxHeartbeats 1000000 in
set_option maxRecDepth 100000 in
theorem dir_any (p : Tx) (mode : Int) (w : World) : Calls Tryz.prog 9 #[.string ⟨p.toArray⟩, .int .u32 mode] w fun e w' => e = .returned (.agg #[.string ⟨p.toArray⟩, .int .i64 1, .int .u32 mode, .int .u32 0, .int .u32 0, .int .i64 0, .slice none 0 0, .slice none 0 0, .string ⟨#[]⟩]) ∧ Below w.heap.size w w' := by
  have hb1 : ∀ w, (Instr.build 30 #[(0, .int .i64 1), (1, .int .u32 mode)]).run Tryz.prog w = .ok (.agg #[.int .i64 1, .int .u32 mode, .int .u32 0, .int .u32 0, .int .i64 0, .slice none 0 0, .slice none 0 0, .string ⟨#[]⟩]) w := fun w => by kernel_rfl
  have hb3 : ∀ w, (Instr.build 32 #[(0, .string ⟨p.toArray⟩), (1, .agg #[.int .i64 1, .int .u32 mode, .int .u32 0, .int .u32 0, .int .i64 0, .slice none 0 0, .slice none 0 0, .string ⟨#[]⟩])]).run Tryz.prog w = .ok (.agg #[.string ⟨p.toArray⟩, .int .i64 1, .int .u32 mode, .int .u32 0, .int .u32 0, .int .i64 0, .slice none 0 0, .slice none 0 0, .string ⟨#[]⟩]) w := fun w => buildM (p, dirM mode) nilV nilV w
  have HX : Keep (mbC (p, dirM mode) nilV nilV = #[.string ⟨p.toArray⟩, .int .i64 1, .int .u32 mode, .int .u32 0, .int .u32 0, .int .i64 0, .slice none 0 0, .slice none 0 0, .string ⟨#[]⟩]) := ⟨rfl⟩
  have HZ : Keep ((#[.string ⟨#[]⟩, .int .i64 0, .int .u32 0, .int .u32 0, .int .u32 0, .int .i64 0, .slice none 0 0, .slice none 0 0, .string ⟨#[]⟩] : Array Value).size = 9) := ⟨rfl⟩
  have HSZ : Keep ((#[.string ⟨p.toArray⟩, .int .i64 1, .int .u32 mode, .int .u32 0, .int .u32 0, .int .i64 0, .slice none 0 0, .slice none 0 0, .string ⟨#[]⟩] : Array Value).size = 9) := ⟨rfl⟩
  have HON : Keep ((#[.string ⟨p.toArray⟩, .int .i64 1, .int .u32 mode, .int .u32 0, .int .u32 0, .int .i64 0, .slice none 0 0, .slice none 0 0, .string ⟨#[]⟩] : Array Value).all (·.oneCell') = true) := ⟨by simp [Value.oneCell']⟩
  go_enter Tryz.func9, Tryz.ntmps9
  go_upto_region 1 with fail
  refine wp_world (R := fun w1 => Hp NoM w w1 [rowA w.heap.size 32 #[.string ⟨#[]⟩, .int .i64 0, .int .u32 0, .int .u32 0, .int .u32 0, .int .i64 0, .slice none 0 0, .slice none 0 0, .string ⟨#[]⟩]]) ((Hp.begin NoM w).newRow _ _) ?_
  intro w1 H1
  have HRW := Keep.keep (H1.out.row 0 rfl)
  have HB := Keep.keep ((Chg.of_below (M := NoM) H1.out.below))
  go_wp2_with ((with_reducible refine arm_storeRow HRW.out aggM HZ.out HSZ.out HON.out ?_ ?_ ?_); (focus rfl); (focus rfl); simp only [Act.put])
  exact bodyPost_ret (results_row (p := 4) (ty := 32) rfl (HRW.out.setRow _) aggM HSZ.out rfl) rfl ⟨rfl, (HB.out.setRow (.inl (Nat.le_refl _)) _).below (fun _ _ h => h)⟩
set_option maxHeartbeats 1000000 in
set_option maxRecDepth 100000 in
theorem file_any0 (p data : Tx) (hd : data.length ≤ 1000) (w : World) : Calls Tryz.prog 10 #[.string ⟨p.toArray⟩, .string ⟨data.toArray⟩] w fun e w' => ∃ dv, e = .returned (.agg (mbC (p, fileD data) nilV dv)) ∧ NdR w' (Fresh w.heap.size w') (fileD data) nilV dv ∧ Below w.heap.size w w' := by
  obtain ⟨n, hn⟩ : ∃ n, data.length = n := ⟨_, rfl⟩
  obtain ⟨cf, rf, mf, hcv, hcr⟩ := convS data n hn (by unfold maxLen; omega)
  have HCR := Keep.keep hcr
  have hb1 : ∀ a n c w, (Instr.build 30 #[(0, .int .i64 2), (6, .slice a n c)]).run Tryz.prog w = .ok (.agg #[.int .i64 2, .int .u32 0, .int .u32 0, .int .u32 0, .int .i64 0, .slice none 0 0, .slice a n c, .string ⟨#[]⟩]) w := fun a n c w => by kernel_rfl
  have hb3 : ∀ a n c w, (Instr.build 32 #[(0, .string ⟨p.toArray⟩), (1, .agg #[.int .i64 2, .int .u32 0, .int .u32 0, .int .u32 0, .int .i64 0, .slice none 0 0, .slice a n c, .string ⟨#[]⟩])]).run Tryz.prog w = .ok (.agg #[.string ⟨p.toArray⟩, .int .i64 2, .int .u32 0, .int .u32 0, .int .u32 0, .int .i64 0, .slice none 0 0, .slice a n c, .string ⟨#[]⟩]) w := fun a n c w => buildM (p, fileD data) nilV (.slice a n c) w
  have HZ : Keep ((#[.string ⟨#[]⟩, .int .i64 0, .int .u32 0, .int .u32 0, .int .u32 0, .int .i64 0, .slice none 0 0, .slice none 0 0, .string ⟨#[]⟩] : Array Value).size = 9) := ⟨rfl⟩
  have HX : Keep (∀ a n c, mbC (p, fileD data) nilV (.slice a n c) = #[.string ⟨p.toArray⟩, .int .i64 2, .int .u32 0, .int .u32 0, .int .u32 0, .int .i64 0, .slice none 0 0, .slice a n c, .string ⟨#[]⟩]) := ⟨fun _ _ _ => rfl⟩
  clear hcr hn hd
  go_enter Tryz.func10, Tryz.ntmps10
  go_upto_region 1 with fail
  refine wp_world (R := fun w1 => Hp NoM w w1 [rowA w.heap.size 32 #[.string ⟨#[]⟩, .int .i64 0, .int .u32 0, .int .u32 0, .int .u32 0, .int .i64 0, .slice none 0 0, .slice none 0 0, .string ⟨#[]⟩]]) ((Hp.begin NoM w).newRow _ _) ?_
  intro w1 H1
  obtain ⟨b0, hb0⟩ : ∃ b, w.heap.size = b := ⟨_, rfl⟩
  have HB0 := Keep.keep hb0
  rw [hb0] at H1 ⊢
  clear hb0
  go_wp2_with (with_reducible refine arm_sSt ?_)
  refine StM.out ?_
  refine wpList_world (R := fun w2 => Hp NoM w w2 [rowA b0 32 #[.string ⟨#[]⟩, .int .i64 0, .int .u32 0, .int .u32 0, .int .u32 0, .int .i64 0, .slice none 0 0, .slice none 0 0, .string ⟨#[]⟩]] ∧ Reads w2 (fun b => b = w1.heap.size) (.slice (some ⟨w1.heap.size, 0, none⟩) n (cf w1)) data ∧ w1.heap.size < w2.heap.size) ⟨H1.out.call (((Below.refl w1.heap.size w1).drew).alloc (Nat.le_refl _) _), HCR.out w1, Nat.lt_of_lt_of_le (Nat.lt_succ_self w1.heap.size) (Nat.le_of_eq (World.size_alloc w1 _).symm)⟩ ?_
  intro w2 H2
  obtain ⟨b7, hb7⟩ : ∃ b, w1.heap.size = b := ⟨_, rfl⟩
  have hs1 := (H1.out.row 0 rfl).lt
  have hsw := H1.out.size
  have HHB := Keep.keep HB0.out
  rw [hb7] at H2 hs1 hsw ⊢
  generalize cf w1 = c7 at *
  clear hb7 hcv H1 hb1 hb3
  have HRW := Keep.keep (H2.out.1.row 0 rfl)
  have HSZ : Keep ((#[.string ⟨p.toArray⟩, .int .i64 2, .int .u32 0, .int .u32 0, .int .u32 0, .int .i64 0, .slice none 0 0, .slice (some ⟨b7, 0, none⟩) n c7, .string ⟨#[]⟩] : Array Value).size = 9) := ⟨rfl⟩
  have HON : Keep ((#[.string ⟨p.toArray⟩, .int .i64 2, .int .u32 0, .int .u32 0, .int .u32 0, .int .i64 0, .slice none 0 0, .slice (some ⟨b7, 0, none⟩) n c7, .string ⟨#[]⟩] : Array Value).all (·.oneCell') = true) := ⟨by simp [Value.oneCell']⟩
  refine arm_storeRow HRW.out aggM HZ.out HSZ.out HON.out rfl rfl ?_
  simp only [Act.put]
  go_wp2_with fail
  have hch : Chg (fun k => k = b0) w2.heap.size w2 (w2.setRow b0 #[.string ⟨p.toArray⟩, .int .i64 2, .int .u32 0, .int .u32 0, .int .u32 0, .int .i64 0, .slice none 0 0, .slice (some ⟨b7, 0, none⟩) n c7, .string ⟨#[]⟩]) := Chg.setRow (M := fun k => k = b0) (.refl _ _ _) (.inr rfl) _
  refine bodyPost_ret (results_row (p := 4) (ty := 32) rfl (HRW.out.setRow _) aggM HSZ.out rfl) rfl ⟨.slice (some ⟨b7, 0, none⟩) n c7, rfl, ⟨RdV.ofNil, ?_⟩, ?_⟩
  · exact (H2.out.2.1.chg hch (fun b e => by subst e; exact ⟨H2.out.2.2, by omega⟩)).mono (fun b e => by subst e; exact ⟨by have := HB0.out; omega, by have := hch.size; have := H2.out.2.2; omega⟩)
  · exact ((Chg.of_below (M := NoM) H2.out.1.below).setRow (.inl (by have := HB0.out; omega)) _).below (fun _ _ h => h)
theorem file_any (p data : Tx) (n : Nat) (hn : data.length = n) (hd : n ≤ 1000) (w : World) : Calls Tryz.prog 10 #[.string ⟨p.toArray⟩, .string ⟨data.toArray⟩] w fun e w' => ∃ a c, e = .returned (.agg #[.string ⟨p.toArray⟩, .int .i64 2, .int .u32 0, .int .u32 0, .int .u32 0, .int .i64 0, .slice none 0 0, .slice a n c, .string ⟨#[]⟩]) ∧ NdL w' (fileD data) nilV (.slice a n c) ∧ Below w.heap.size w w' := by
  refine (file_any0 p data (by omega) w).mono ?_
  rintro e w' ⟨dv, rfl, hn', hb⟩
  obtain ⟨a, c, he, -⟩ := hn'.dt.shape
  have he : dv = .slice a n c := by rw [he, ← hn]; rfl
  subst he
  exact ⟨a, c, rfl, hn'.mono (fun _ h => h.2), hb⟩
/-- what a row of one's own grows by -/
theorem own_chg {base k n : Nat} {e : TypeId} {w w' : World} {v : Value} {vs : List Value} (h : w.ownsRow base e k v n vs) (hB : base ≤ w.heap.size) (hg : w.grownBy w' v.ownBlock) : Below base w w' :=
  (Chg.grown (M := NoM) (.refl _ _ _) hg hB (fun k e => .inl (ownsV_lt h k e).1)).below (fun _ _ h => h)
set_option maxHeartbeats 1000000 in
set_option maxRecDepth 100000 in
theorem paths_any {w : World} {T : Nat} {L : List Mb} (h : TrL w T L) (hL : L.length ≤ 100000) :
    Calls Tryz.prog 14 #[.pointer (some ⟨T, 0, none⟩)] w fun e w' => ∃ v, e = .returned v ∧ OwnS w' w.heap.size v (L.map (·.1)) ∧ Below w.heap.size w w' := by
  obtain ⟨mb, Bk, f, hti, hBk⟩ := h
  have HA := Keep.keep (all_own T mb Bk f L w hL hti ⟨hti.row.lt, hti.map.lt, hBk⟩)
  clear hti
  go_enter Tryz.func14, Tryz.ntmps14
  go_wp2_with fail
  refine HA.out.mono ?_
  rintro e w1 ⟨v1, l, rfl, hl, ho, hb1⟩
  have HB1 := Keep.keep hb1
  have HM : Keep (MbL w1 v1 l) := ⟨MbL.ofRow (RowM.ofOwn ho NoM)⟩
  obtain ⟨a, cap, hv, hcap, hmx, h3⟩ := HM.out.rd.shape
  have H3 := Keep.keep h3
  unfold maxLen at hmx
  have hll : l.length ≤ 100000 := by rw [← hl, List.length_map] at hL; exact hL
  have HLL : Keep (L = l.map (·.1)) := ⟨hl.symm⟩
  clear ho hb1 HA h3 hl hL
  subst hv
  go_wp2_with fail
  go_loopg [3, 9] l.length (fun g u3 u9 wx => ∃ (k : Nat), k + g = l.length ∧ u9 = .int .i64 (k : Int) ∧ wx.ownsRow w1.heap.size 9 1 u3 k (((l.take k).map (·.1.1)).map strV) ∧ Below w1.heap.size w1 wx)
  case atStart => exact ⟨0, by omega, rfl, World.ownsRow_nil _ _ _ _, Below.refl _ _⟩
  case round =>
    obtain ⟨k, hkg, rfl, hown, hb⟩ := hrel
    have HO := Keep.keep hown; have HB := Keep.keep hb
    obtain ⟨a3, c3, hv3, -⟩ := (ownsV_reads hown).shape
    clear hown hb
    subst hv3
    cases gk with
    | zero =>
      obtain rfl : k = l.length := by omega
      have HF : Keep (L.map (·.1) = (l.take l.length).map (·.1.1)) := ⟨by rw [HLL.out, List.take_length, List.map_map]; rfl⟩
      go_wp2_with fail
      go_ret
      refine ⟨_, rfl, ?_, HB1.out.trans (HB.out.mono HB1.out.size)⟩
      rw [HF.out]
      unfold OwnS
      rw [List.length_map, List.length_take, Nat.min_self]
      exact ownsV_mono HO.out HB1.out.size
    | succ g =>
      have hk : k < l.length := by omega
      obtain ⟨b, off, rfl, hbl⟩ : ∃ b off, a = some ⟨b, off, none⟩ ∧ b < w1.heap.size := by
        rcases H3.out with h | ⟨b, off, h, hb⟩
        · omega
        · exact ⟨b, off, h, hb⟩
      have hrx := Mbs.below (w' := wr) HM.out HB.out (fun b hb => hb) (fun b hb => hb)
      have hld := hrx.load hk
      have HND := Keep.keep (hrx.nd l[k] (List.getElem_mem hk))
      have HTK : Keep (((l.take (k + 1)).map (·.1.1)).map strV = ((l.take k).map (·.1.1)).map strV ++ [strV l[k].1.1]) := ⟨by
        rw [List.take_succ_eq_append_getElem hk, List.map_append, List.map_append]; rfl⟩
      clear hrx
      generalize l[k] = x at *
      obtain ⟨⟨xp, ⟨kind, mode, uid, gid, time, attrs, data, link⟩⟩, av, dv⟩ := x
      obtain ⟨aa, la, ca, ad, ld, cd, e1, e2⟩ := HND.out.shape
      dsimp only at e1 e2 HTK
      subst e1 e2
      have HMC : Keep (mcell ((xp, ⟨kind, mode, uid, gid, time, attrs, data, link⟩), .slice aa la ca, .slice ad ld cd) = #[.string ⟨xp.toArray⟩, .int .i64 kind, .int .u32 mode, .int .u32 uid, .int .u32 gid, .int .i64 time, .slice aa la ca, .slice ad ld cd, .string ⟨link.toArray⟩]) := ⟨rfl⟩
      rw [HMC.out] at hld
      go_upto_region 5 with ((with_reducible refine arm_loadM hld ?_ ?_); (focus rfl); simp only [Act.put, List.setIfInBounds_toArray, List.set_cons_succ, List.set_cons_zero])
      refine wp_world (R := fun wq => Hp NoM wr wq [rowA wr.heap.size 32 #[.string ⟨xp.toArray⟩, .int .i64 kind, .int .u32 mode, .int .u32 uid, .int .u32 gid, .int .i64 time, .slice aa la ca, .slice ad ld cd, .string ⟨link.toArray⟩]]) ((Hp.begin NoM wr).newRow _ _) ?_
      intro w2 H2
      obtain ⟨b5, hb5⟩ : ∃ b5, wr.heap.size = b5 := ⟨_, rfl⟩
      have HB5 := Keep.keep hb5
      have HB2 := Keep.keep H2.out.below
      rw [hb5] at H2 ⊢
      have c50 := (H2.out.row 0 rfl).cell (i := 0) rfl
      clear hld hb5
      go_wp2_with (with_reducible refine arm_stop ?_)
      refine Stopped.out ?_
      have hal : Below w2.heap.size w2 (w2.alloc (.cells #[.string ⟨xp.toArray⟩] 9)) := (Below.refl _ _).alloc (Nat.le_refl _) _
      have hbA : Below wr.heap.size wr (w2.alloc (.cells #[.string ⟨xp.toArray⟩] 9)) := HB2.out.trans (hal.mono HB2.out.size)
      have hoA := ownsRow_loc _ _ (fun b hb => hbA.block b (ownsV_lt HO.out b hb).2) HO.out
      have hws := HB.out.size
      have hwA := hbA.size
      refine arm_appendV slS hoA (RdV.new (N := fun _ => True) 9 [strV xp] 1 1 _ rfl rfl (by unfold maxLen; omega) trivial) (by simp [Value.oneCell', strV]) (by unfold maxLen; omega) (by omega) (by omega) rfl rfl ?_
      intro v4 w4 ho hg hov _
      obtain ⟨a4, c4, hv4, -⟩ := (ownsV_reads ho).shape
      have HO4 : Keep (w4.ownsRow w1.heap.size 9 1 v4 (k + 1) (((l.take (k + 1)).map (·.1.1)).map strV)) := ⟨by rw [HTK.out]; exact ho⟩
      have HB4 : Keep (Below w1.heap.size w1 w4) := ⟨(HB.out.trans (hbA.mono hws)).trans (own_chg hoA (by omega) hg)⟩
      clear ho hg hov hal hbA hoA HB2 H2 c50
      subst hv4
      simp only [Act.put, List.setIfInBounds_toArray, List.set_cons_succ, List.set_cons_zero]
      go_wp2_with fail
      go_roundg g
      case measure => omega
      case rel => exact ⟨k + 1, by omega, by simp, HO4.out, HB4.out⟩
end Go.Proofs.YtplafpokgpolkaaGreatDoor
/- portolanlaw19.Grown, plainly. -/
namespace Go.Proofs.YtplafpokgpolkaaGreatDoor
/-- the Dirs that stand above -/
def abvM (m : Mb) : List Mb := (aboveP m.1).map fun p => (p, dirM 493)
def grown19 (l : List Mb) : List Mb := sortedS (few19 l ++ (few19 l).flatMap abvM)
theorem cut19_idem (m : Mb) : cut19 (cut19 m) = cut19 m := by
  obtain ⟨p, ⟨kind, mode, uid, gid, time, attrs, data, link⟩⟩ := m
  unfold cut19
  simp only [shortS_idem, List.take_take, Nat.min_self]
  congr 2
  rw [← List.map_take, List.take_take, Nat.min_self, List.map_map]
  refine List.map_congr_left fun x _ => ?_
  simp [cutB, List.take_take]
theorem few19_idem (l : List Mb) : few19 (few19 l) = few19 l := by
  unfold few19
  rw [← List.map_take, List.take_take, Nat.min_self, List.map_map]
  exact List.map_congr_left fun x _ => cut19_idem x
theorem aboveP_cnt (p : Tx) : (aboveP p).length = p.countP (· == 47) := by
  have h1 : p = (List.range p.length).map fun i => p.getD i 0 := by
    apply List.ext_getElem
    · simp
    · intro i h1 h2
      simp [h1]
  unfold aboveP
  rw [List.length_filterMap_eq_countP]
  conv => rhs; rw [h1]
  rw [List.countP_map]
  refine List.countP_congr fun i hi => ?_
  have hi := List.mem_range.1 hi
  simp only [Function.comp_apply, List.getD_eq_getElem?_getD, List.getElem?_eq_getElem hi, Option.getD_some, Option.some.injEq]
  by_cases e : p[i] = 47 <;> simp [e]
theorem few19_abv {l : List Mb} {m : Mb} (hm : m ∈ few19 l) : (aboveP m.1).length ≤ 19 := by
  obtain ⟨y, hy, rfl⟩ := List.mem_map.1 hm
  rw [aboveP_cnt]
  have := shortS_cnt y.1
  show (shortS y.1).countP _ ≤ 19
  omega
theorem flatA_len {S : List Mb} (h : ∀ m ∈ S, (aboveP m.1).length ≤ 19) : (S.flatMap abvM).length ≤ S.length * 19 := by
  induction S with
  | nil => simp
  | cons x S ih =>
    rw [List.flatMap_cons, List.length_append, List.length_cons]
    have h1 := ih (fun m hm => h m (List.mem_cons_of_mem _ hm))
    have h2 := h x List.mem_cons_self
    have h3 : (abvM x).length = (aboveP x.1).length := by unfold abvM; simp
    omega
theorem above_len (p q : Tx) (h : q ∈ aboveP p) : q.length ≤ p.length := by
  unfold aboveP at h
  obtain ⟨i, hi, e⟩ := List.mem_filterMap.1 h
  split at e
  · injection e with e
    rw [← e]
    exact List.length_take_le' _ _
  · cases e
/-- sorted, of one path the first one -/
theorem comp_map {l : List Mv} : (compA (fun x : Mv => x.1.1) (l.mergeSort (leK (fun x => x.1.1)))).map (·.1) = sortedS (l.map (·.1)) := by
  rw [compA_map (k := fun x : Mb => x.1) (fun x : Mv => x.1), compA_is _ _ (Nat.le_refl _), ← comp_sorted]
  congr 1
  unfold sortM
  exact List.map_mergeSort (fun a _ b _ => rfl)
theorem sortedS_sub (L : List Mb) : (sortedS L).length ≤ L.length ∧ ∀ x ∈ sortedS L, x ∈ L := by
  rw [← comp_sorted]
  refine ⟨Nat.le_trans (comp_sub _ _ (Nat.le_refl _)).length_le (by unfold sortM; rw [List.length_mergeSort]; exact Nat.le_refl _), fun x hx => ?_⟩
  have h := (comp_sub _ _ (Nat.le_refl _)).subset hx
  exact List.mem_mergeSort.1 h
theorem grown19_len (l : List Mb) : (grown19 l).length ≤ 280 := by
  unfold grown19
  refine Nat.le_trans (sortedS_sub _).1 ?_
  rw [List.length_append]
  have h1 := few19_len l
  have h2 := flatA_len (S := few19 l) (fun m hm => few19_abv hm)
  omega
theorem grown19_sm {l : List Mb} (h : ∀ x ∈ l, Kb x) : ∀ x ∈ grown19 l, Sm x := fun x hx => by
  have hx := (sortedS_sub _).2 x hx
  rcases List.mem_append.1 hx with hx | hx
  · exact few19_sm h x hx
  · obtain ⟨m, hm, hx⟩ := List.mem_flatMap.1 hx
    obtain ⟨p, hp, rfl⟩ := List.mem_map.1 hx
    exact sm_dirM _ _ (Nat.le_trans (above_len _ _ hp) (few19_sm h m hm).p)
end Go.Proofs.YtplafpokgpolkaaGreatDoor
/- portolanlaw19.Few. -/
namespace Go.Proofs.YtplafpokgpolkaaGreatDoor
open Go.RowKit
set_option maxHeartbeats 8000000 in
set_option maxRecDepth 100000 in
theorem few19K (v : Value) (l : List Mv) (w : World) (K : Nat → Prop) (hK : ∀ b, K b → b < w.heap.size) (hr : Mbs w (· < w.heap.size) K v l) :
    Calls Tryz.prog 21 #[v] w fun e w' => ∃ v' l', e = .returned v' ∧ l'.map (·.1) = few19 (l.map (·.1)) ∧ RowM w.heap.size K w' v' l' ∧ Below w.heap.size w w' := by
  have HK := Keep.keep hK
  obtain ⟨a, cap, hv, hcap, hmx, h3⟩ := hr.rd.shape
  have HR := Keep.keep hr; have H3 := Keep.keep h3
  unfold maxLen at hmx
  clear hr h3 hK
  subst hv
  go_enter Tryz.func21, Tryz.ntmps21
  go_wp2_with fail
  go_loopg [3, 10] (min l.length 14) (fun g u3 u10 wx => ∃ (k : Nat) (acc : List Mv), k + g = min l.length 14 ∧ u10 = .int .i64 (k : Int) ∧ acc.map (·.1) = ((l.map (·.1)).take k).map cut19 ∧ acc.length = k ∧ RowM w.heap.size K wx u3 acc ∧ Below w.heap.size w wx)
  case atStart => exact ⟨0, [], by omega, rfl, rfl, rfl, RowM.nil _ _ _, Below.refl _ _⟩
  case round =>
    obtain ⟨k, acc, hkg, rfl, hmap, hal, hrow, hbl⟩ := hrel
    have HM := Keep.keep hmap; have HH := Keep.keep hrow; have HB := Keep.keep hbl
    obtain ⟨a3, c3, hu3, -⟩ := (ownsV_reads hrow.own).shape
    rw [hal] at hu3
    subst hu3
    clear hmap hrow hbl
    cases gk with
    | zero =>
      have HF : Keep (acc.map (·.1) = few19 (l.map (·.1))) := ⟨by
        rw [HM.out]; unfold few19
        congr 1
        rw [List.take_eq_take_iff, List.length_map]; omega⟩
      by_cases hk : k < l.length
      · obtain rfl : k = 14 := by omega
        have hd1 : decide ((14 : Int) < (l.length : Int)) = true := decide_eq_true (by omega)
        obtain ⟨b, off, rfl, hbl⟩ : ∃ b off, a = some ⟨b, off, none⟩ ∧ b < w.heap.size := by
          rcases H3.out with h | ⟨b, off, h, hb⟩
          · omega
          · exact ⟨b, off, h, hb⟩
        have hrx := HR.out.below HB.out (fun b hb => hb) HK.out
        have hld := hrx.load hk
        clear hrx
        obtain ⟨cx, hcx⟩ : ∃ cx, mcell l[14] = cx := ⟨_, rfl⟩
        have hsz : cx.size = 9 := by rw [← hcx]; rfl
        have HSZ := Keep.keep hsz
        have hna := (HR.out.nd _ (List.getElem_mem hk))
        have h1c : cx.all (·.oneCell') = true := by rw [← hcx]; exact mcell_one hna
        have H1C := Keep.keep h1c
        rw [hcx] at hld
        clear hcx hsz h1c hna
        go_wp2_with (first | ((with_reducible refine arm_loadM hld ?_ ?_); (focus rfl); simp only [Act.put, List.setIfInBounds_toArray, List.set_cons_succ, List.set_cons_zero]) | ((with_reducible refine arm_storeRow (Row.new wr 32 _) aggM ?_ HSZ.out H1C.out ?_ ?_ ?_); (focus rfl); (focus rfl); (focus rfl); simp only [Act.put, World.setRow_alloc_new]))
        go_ret
        exact ⟨_, rfl, acc, HF.out, HH.out.below ((Below.refl _ _).alloc (Nat.le_refl _) _), HB.out.trans (((Below.refl _ _).alloc (Nat.le_refl _) _).mono HB.out.size)⟩
      · have hd1 : decide ((k : Int) < (l.length : Int)) = false := decide_eq_false (by omega)
        go_wp2_with fail
        go_ret
        exact ⟨_, rfl, acc, HF.out, HH.out, HB.out⟩
    | succ g =>
      generalize wr = wo at *
      have hk : k < l.length := by omega
      have hd1 : decide ((k : Int) < (l.length : Int)) = true := decide_eq_true (by omega)
      have hd2 : ((k : Int) == 14) = false := by rw [beq_eq_false_iff_ne]; omega
      obtain ⟨b, off, rfl, hbl⟩ : ∃ b off, a = some ⟨b, off, none⟩ ∧ b < w.heap.size := by
        rcases H3.out with h | ⟨b, off, h, hb⟩
        · omega
        · exact ⟨b, off, h, hb⟩
      have hrx := HR.out.below HB.out (fun b hb => hb) HK.out
      have hld := hrx.load hk
      have hndx := HR.out.nd _ (List.getElem_mem hk)
      have HTK : Keep (((l.map (·.1)).take (k + 1)).map cut19 = ((l.map (·.1)).take k).map cut19 ++ [cut19 l[k].1]) := ⟨by
        rw [List.take_succ_eq_append_getElem (by simpa using hk), List.map_append]; simp⟩
      clear hrx
      generalize l[k] = x at *
      obtain ⟨⟨xp, ⟨kind, mode, uid, gid, time, attrs, data, link⟩⟩, av, dv⟩ := x
      obtain ⟨aa, la, ca, ad, ld, cd, e1, e2⟩ := hndx.shape
      dsimp only at hndx e1 e2
      subst e1 e2
      have HX := Keep.keep hndx
      unfold mcell mbC strV at hld
      dsimp only at hld
      clear hndx
      go_upto_region 6 with ((with_reducible refine arm_loadM hld ?_ ?_); (focus rfl); simp only [Act.put, List.setIfInBounds_toArray, List.set_cons_succ, List.set_cons_zero])
      refine wp_world (R := fun w5 => Hp NoM wo w5 [rowA wo.heap.size 32 (fsR kind mode uid gid time (.slice aa la ca) ad ld cd xp link)]) ((Hp.begin NoM wo).newRow _ _) ?_
      intro w5 H5
      obtain ⟨B5, hB5⟩ : ∃ B5, wo.heap.size = B5 := ⟨_, rfl⟩
      have HB5 := Keep.keep hB5
      rw [hB5] at H5 ⊢
      clear hB5
      have hlt5 := (H5.out.row 0 rfl).lt
      have HDL : Keep (ld = data.length ∧ ld ≤ cd) := ⟨⟨HX.out.dt.len.1, by have := HX.out.dt.len; dsimp only at this; omega⟩⟩
      clear hld
      refine wp_region_spcO [some 17, some 18, some 19, some 20, some 21, some 22, some 23, some 24, some 25, some 26, some 27, some 28, some 29, some 30, some 31, some 32, some 33, some 34, some 35, some 36, some 37, some 38, none, some 39, some 40, none, some 41, some 42, none] (fsC w5 B5 kind mode uid gid time (.slice aa la ca) ad ld cd xp link) (fsT B5 xp link ad ld cd) (fsS B5 xp link ad ld cd) (by kernel_rfl) rfl (by decide) (by intro d hd; simp at hd; show d < 91; omega) (by kernel_rfl) ⟨(Chg.refl _ _ _).drew, xp, link, ld, .inl rfl, .inl rfl, .inl rfl, H5.out.row 0 rfl⟩ (fun i v w w' h _ hb => fsT_stays i v w w' h hb) ?_ ?_
      · intro i hi a1 w6 hF hC hT
        have hi : i < 29 := hi
        obtain ⟨hCh, q, j, m, hq, hj, hm, hrow⟩ := id hC
        have b5 : a1.eval (.tmp 5) = .pointer (some ⟨B5, 0, none⟩) := (hF.same 5 (by decide)).trans rfl
        have hkr : fsS B5 xp link ad ld cd w6 w6 := fsS.refl _ _ _ _ _ _ _
        rcases (by omega : i = 0 ∨ i = 1 ∨ i = 2 ∨ i = 3 ∨ i = 4 ∨ i = 5 ∨ i = 6 ∨ i = 7 ∨ i = 8 ∨ i = 9 ∨ i = 10 ∨ i = 11 ∨ i = 12 ∨ i = 13 ∨ i = 14 ∨ i = 15 ∨ i = 16 ∨ i = 17 ∨ i = 18 ∨ i = 19 ∨ i = 20 ∨ i = 21 ∨ i = 22 ∨ i = 23 ∨ i = 24 ∨ i = 25 ∨ i = 26 ∨ i = 27 ∨ i = 28) with rfl | rfl | rfl | rfl | rfl | rfl | rfl | rfl | rfl | rfl | rfl | rfl | rfl | rfl | rfl | rfl | rfl | rfl | rfl | rfl | rfl | rfl | rfl | rfl | rfl | rfl | rfl | rfl | rfl
        · exact spcO_val (d := 17) rfl (wanted_none rfl) (run_fieldAddr (m := 0) Tryz.underlying32 rfl (by kernel_rfl) b5) hC hkr rfl
        · have hx : a1.eval (.tmp 17) = .pointer (some ⟨B5, 0, none⟩) := hT 0 (by kernel_rfl)
          exact spcO_val (d := 18) rfl (wanted_none rfl) (run_loadCell (run_isAgg_plain Tryz.underlying9 rfl) (hrow.cell (i := 0) rfl) hx) hC hkr ⟨q, rfl, hq⟩
        · obtain ⟨q', hx, hq'⟩ := hT 1 (by kernel_rfl)
          have hx : a1.eval (.tmp 18) = .string ⟨q'.toArray⟩ := hx
          refine spcO_call (d := 19) (vs := #[.string ⟨q'.toArray⟩]) rfl (wanted_none rfl) (Go.Proofs.enters_of Tryz.func66 (by kernel_rfl) rfl) (by simp [hx]) ?_
          refine (short_any q' w6).mono ?_
          rintro e wz ⟨rfl, rfl⟩
          refine ⟨_, rfl, hC, hkr, ?_⟩
          show Value.string _ = Value.string _
          rw [hq'.cut]
        · exact spcO_val (d := 20) rfl (wanted_none rfl) (run_fieldAddr (m := 7) Tryz.underlying32 rfl (by kernel_rfl) b5) hC hkr rfl
        · have hx : a1.eval (.tmp 20) = .pointer (some ⟨B5, 1, none⟩) := hT 3 (by kernel_rfl)
          exact spcO_val (d := 21) rfl (wanted_none rfl) (run_fieldAddr (m := 0) Tryz.underlying30 rfl (by kernel_rfl) hx) hC hkr rfl
        · have hx : a1.eval (.tmp 21) = .pointer (some ⟨B5, 8, none⟩) := hT 4 (by kernel_rfl)
          exact spcO_val (d := 22) rfl (wanted_none rfl) (run_loadCell (run_isAgg_plain Tryz.underlying9 rfl) (hrow.cell (i := 8) rfl) hx) hC hkr ⟨j, rfl, hj⟩
        · exact spcO_val (d := 23) rfl (wanted_none rfl) (run_fieldAddr (m := 7) Tryz.underlying32 rfl (by kernel_rfl) b5) hC hkr rfl
        · have hx : a1.eval (.tmp 23) = .pointer (some ⟨B5, 1, none⟩) := hT 6 (by kernel_rfl)
          exact spcO_val (d := 24) rfl (wanted_none rfl) (run_fieldAddr (m := 0) Tryz.underlying30 rfl (by kernel_rfl) hx) hC hkr rfl
        · have hx : a1.eval (.tmp 24) = .pointer (some ⟨B5, 8, none⟩) := hT 7 (by kernel_rfl)
          exact spcO_val (d := 25) rfl (wanted_none rfl) (run_loadCell (run_isAgg_plain Tryz.underlying9 rfl) (hrow.cell (i := 8) rfl) hx) hC hkr ⟨j, rfl, hj⟩
        · obtain ⟨q', hx, hq'⟩ := hT 8 (by kernel_rfl)
          exact spcO_val (d := 26) rfl (wanted_none rfl) (run_lenS hx) hC hkr ⟨q', rfl, hq'⟩
        · obtain ⟨q', hx, hq'⟩ := hT 9 (by kernel_rfl)
          refine spcO_val (d := 27) rfl (wanted_none rfl) (run_minC hx rfl) hC hkr ?_
          show Value.int .i64 _ = Value.int .i64 _
          have := hq'.mn
          congr 1
          omega
        · obtain ⟨q', hx, hq'⟩ := hT 5 (by kernel_rfl)
          have hy : a1.eval (.tmp 27) = .int .i64 ((min link.length 40 : Nat) : Int) := hT 10 (by kernel_rfl)
          refine spcO_val (d := 28) rfl (wanted_none rfl) (run_sliceS hq'.le hx hy) hC hkr ?_
          show Value.string _ = Value.string _
          rw [hq'.cut]
        · exact spcO_val (d := 29) rfl (wanted_none rfl) (run_fieldAddr (m := 7) Tryz.underlying32 rfl (by kernel_rfl) b5) hC hkr rfl
        · have hx : a1.eval (.tmp 29) = .pointer (some ⟨B5, 1, none⟩) := hT 12 (by kernel_rfl)
          exact spcO_val (d := 30) rfl (wanted_none rfl) (run_fieldAddr (m := 0) Tryz.underlying30 rfl (by kernel_rfl) hx) hC hkr rfl
        · have hx : a1.eval (.tmp 30) = .pointer (some ⟨B5, 7, none⟩) := hT 13 (by kernel_rfl)
          exact spcO_val (d := 31) rfl (wanted_none rfl) (run_loadCell (run_isAgg_plain Tryz.underlying28 rfl) (hrow.cell (i := 7) rfl) hx) hC hkr ⟨m, rfl, hm⟩
        · exact spcO_val (d := 32) rfl (wanted_none rfl) (run_fieldAddr (m := 7) Tryz.underlying32 rfl (by kernel_rfl) b5) hC hkr rfl
        · have hx : a1.eval (.tmp 32) = .pointer (some ⟨B5, 1, none⟩) := hT 15 (by kernel_rfl)
          exact spcO_val (d := 33) rfl (wanted_none rfl) (run_fieldAddr (m := 0) Tryz.underlying30 rfl (by kernel_rfl) hx) hC hkr rfl
        · have hx : a1.eval (.tmp 33) = .pointer (some ⟨B5, 7, none⟩) := hT 16 (by kernel_rfl)
          exact spcO_val (d := 34) rfl (wanted_none rfl) (run_loadCell (run_isAgg_plain Tryz.underlying28 rfl) (hrow.cell (i := 7) rfl) hx) hC hkr ⟨m, rfl, hm⟩
        · obtain ⟨m', hx, hm'⟩ := hT 17 (by kernel_rfl)
          exact spcO_val (d := 35) rfl (wanted_none rfl) (run_lenV hx) hC hkr ⟨m', rfl, hm'⟩
        · obtain ⟨m', hx, hm'⟩ := hT 18 (by kernel_rfl)
          refine spcO_val (d := 36) rfl (wanted_none rfl) (run_minC hx rfl) hC hkr ?_
          show Value.int .i64 _ = Value.int .i64 _
          rw [hm'.mn]
        · obtain ⟨m', hx, hm'⟩ := hT 14 (by kernel_rfl)
          have hy : a1.eval (.tmp 36) = .int .i64 ((min ld 40 : Nat) : Int) := hT 19 (by kernel_rfl)
          exact spcO_val (d := 37) rfl (wanted_none rfl) (run_sliceV (by have := HDL.out.2; omega) hx hy) hC hkr rfl
        · exact spcO_val (d := 38) rfl (wanted_none rfl) (run_fieldAddr (m := 0) Tryz.underlying32 rfl (by kernel_rfl) b5) hC hkr rfl
        · have hx : a1.eval (.tmp 38) = .pointer (some ⟨B5, 0, none⟩) := hT 21 (by kernel_rfl)
          have hy : a1.eval (.tmp 19) = .string ⟨(shortS xp).toArray⟩ := hT 2 (by kernel_rfl)
          have hrow' : Row (w6.setCell ⟨B5, 0, none⟩ (.string ⟨(shortS xp).toArray⟩)) B5 32 (fsR kind mode uid gid time (.slice aa la ca) ad m cd (shortS xp) j) := hrow.set' 0 _ rfl
          refine spcO_skip rfl (wanted_none rfl) (run_storeS ⟨_, hrow.cell (i := 0) rfl⟩ (hrow.frozen 0) hx hy) ⟨Chg.setCell (M := fun b => b = B5) hCh (p := ⟨B5, 0, none⟩) (.inr rfl) _, shortS xp, j, m, .inr rfl, hj, hm, hrow'⟩ ⟨fun _ => hrow'.cell (i := 0) rfl, fun h => by rw [hrow'.cell (i := 8) (v := .string ⟨j.toArray⟩) rfl, ← hrow.cell (i := 8) (v := .string ⟨j.toArray⟩) rfl]; exact h, fun h => by rw [hrow'.cell (i := 7) (v := .slice ad m cd) rfl, ← hrow.cell (i := 7) (v := .slice ad m cd) rfl]; exact h⟩ (hrow'.cell (i := 0) rfl)
        · exact spcO_val (d := 39) rfl (wanted_none rfl) (run_fieldAddr (m := 7) Tryz.underlying32 rfl (by kernel_rfl) b5) hC hkr rfl
        · have hx : a1.eval (.tmp 39) = .pointer (some ⟨B5, 1, none⟩) := hT 23 (by kernel_rfl)
          exact spcO_val (d := 40) rfl (wanted_none rfl) (run_fieldAddr (m := 0) Tryz.underlying30 rfl (by kernel_rfl) hx) hC hkr rfl
        · have hx : a1.eval (.tmp 40) = .pointer (some ⟨B5, 8, none⟩) := hT 24 (by kernel_rfl)
          have hy : a1.eval (.tmp 28) = .string ⟨(link.take 40).toArray⟩ := hT 11 (by kernel_rfl)
          have hrow' : Row (w6.setCell ⟨B5, 8, none⟩ (.string ⟨(link.take 40).toArray⟩)) B5 32 (fsR kind mode uid gid time (.slice aa la ca) ad m cd q (link.take 40)) := hrow.set' 8 _ rfl
          refine spcO_skip rfl (wanted_none rfl) (run_storeS ⟨_, hrow.cell (i := 8) rfl⟩ (hrow.frozen 8) hx hy) ⟨Chg.setCell (M := fun b => b = B5) hCh (p := ⟨B5, 8, none⟩) (.inr rfl) _, q, link.take 40, m, hq, .inr rfl, hm, hrow'⟩ ⟨fun h => by rw [hrow'.cell (i := 0) (v := .string ⟨q.toArray⟩) rfl, ← hrow.cell (i := 0) (v := .string ⟨q.toArray⟩) rfl]; exact h, fun _ => hrow'.cell (i := 8) rfl, fun h => by rw [hrow'.cell (i := 7) (v := .slice ad m cd) rfl, ← hrow.cell (i := 7) (v := .slice ad m cd) rfl]; exact h⟩ (hrow'.cell (i := 8) rfl)
        · exact spcO_val (d := 41) rfl (wanted_none rfl) (run_fieldAddr (m := 7) Tryz.underlying32 rfl (by kernel_rfl) b5) hC hkr rfl
        · have hx : a1.eval (.tmp 41) = .pointer (some ⟨B5, 1, none⟩) := hT 26 (by kernel_rfl)
          exact spcO_val (d := 42) rfl (wanted_none rfl) (run_fieldAddr (m := 0) Tryz.underlying30 rfl (by kernel_rfl) hx) hC hkr rfl
        · have hx : a1.eval (.tmp 42) = .pointer (some ⟨B5, 7, none⟩) := hT 27 (by kernel_rfl)
          have hy : a1.eval (.tmp 37) = .slice ad (min ld 40) cd := hT 20 (by kernel_rfl)
          have hrow' : Row (w6.setCell ⟨B5, 7, none⟩ (.slice ad (min ld 40) cd)) B5 32 (fsR kind mode uid gid time (.slice aa la ca) ad (min ld 40) cd q j) := hrow.set' 7 _ rfl
          refine spcO_skip rfl (wanted_none rfl) (run_storeV ⟨_, hrow.cell (i := 7) rfl⟩ (hrow.frozen 7) hx hy) ⟨Chg.setCell (M := fun b => b = B5) hCh (p := ⟨B5, 7, none⟩) (.inr rfl) _, q, j, min ld 40, hq, hj, .inr rfl, hrow'⟩ ⟨fun h => by rw [hrow'.cell (i := 0) (v := .string ⟨q.toArray⟩) rfl, ← hrow.cell (i := 0) (v := .string ⟨q.toArray⟩) rfl]; exact h, fun h => by rw [hrow'.cell (i := 8) (v := .string ⟨j.toArray⟩) rfl, ← hrow.cell (i := 8) (v := .string ⟨j.toArray⟩) rfl]; exact h, fun _ => hrow'.cell (i := 7) rfl⟩ (hrow'.cell (i := 7) rfl)
      · intro a1 w6 ha hC hT
        obtain ⟨hCh, q, j, m, hq, hj, hm, hrow⟩ := hC
        have h22 : w6.cell? ⟨B5, 0, none⟩ = some (.string ⟨(shortS xp).toArray⟩) := hT 22 (by decide)
        have h25 : w6.cell? ⟨B5, 8, none⟩ = some (.string ⟨(link.take 40).toArray⟩) := hT 25 (by decide)
        have h28 : w6.cell? ⟨B5, 7, none⟩ = some (.slice ad (min ld 40) cd) := hT 28 (by decide)
        have e1 := (hrow.cell (i := 0) (v := .string ⟨q.toArray⟩) rfl).symm.trans h22
        have e2 := (hrow.cell (i := 8) (v := .string ⟨j.toArray⟩) rfl).symm.trans h25
        have e3 := (hrow.cell (i := 7) (v := .slice ad m cd) rfl).symm.trans h28
        injection e1 with e1
        injection e2 with e2
        injection e3 with e3
        have hrow6 : Row w6 B5 32 (fsR kind mode uid gid time (.slice aa la ca) ad (min ld 40) cd (shortS xp) (link.take 40)) := by
          unfold fsR at hrow ⊢
          rw [e1, e2, e3] at hrow
          exact hrow
        have H6 := Keep.keep (H5.out.upd 0 rfl (rowA B5 32 (fsR kind mode uid gid time (.slice aa la ca) ad (min ld 40) cd (shortS xp) (link.take 40))) (hCh.mono (Nat.le_refl _) (fun _ h => h)) hrow6 (fun b hb => .inl hb))
        simp only [List.filterMap_cons, List.filterMap_nil, List.foldl_cons, List.foldl_nil] at ha
        clear hT hCh hq hj hm hrow h22 h25 h28 e1 e2 e3 hrow6 H5
        generalize slot a1 17 = x17 at *
        generalize slot a1 18 = x18 at *
        generalize slot a1 19 = x19 at *
        generalize slot a1 20 = x20 at *
        generalize slot a1 21 = x21 at *
        generalize slot a1 22 = x22 at *
        generalize slot a1 23 = x23 at *
        generalize slot a1 24 = x24 at *
        generalize slot a1 25 = x25 at *
        generalize slot a1 26 = x26 at *
        generalize slot a1 27 = x27 at *
        generalize slot a1 28 = x28 at *
        generalize slot a1 29 = x29 at *
        generalize slot a1 30 = x30 at *
        generalize slot a1 31 = x31 at *
        generalize slot a1 32 = x32 at *
        generalize slot a1 33 = x33 at *
        generalize slot a1 34 = x34 at *
        generalize slot a1 35 = x35 at *
        generalize slot a1 36 = x36 at *
        generalize slot a1 37 = x37 at *
        generalize slot a1 38 = x38 at *
        generalize slot a1 39 = x39 at *
        generalize slot a1 40 = x40 at *
        generalize slot a1 41 = x41 at *
        generalize slot a1 42 = x42 at *
        subst ha
        simp only [Act.put, List.setIfInBounds_toArray, List.set_cons_succ, List.set_cons_zero]
        have hfr := H6.out.row 0 rfl
        unfold fsR at hfr
        have k6 := hfr.cell (i := 6) rfl
        have f6 := hfr.frozen 6
        have HLA : Keep (la = attrs.length ∧ la ≤ ca) := ⟨⟨HX.out.at_.lens.1, by have := HX.out.at_.lens; omega⟩⟩
        have hmn : min (la : Int) 4 = ((min la 4 : Nat) : Int) := by omega
        have hsl := fun wx => slice_ato aa la ca (min la 4) .i64 (by have := HLA.out.2; omega) wx
        have hw6 : w.heap.size ≤ w6.heap.size := Nat.le_trans HB.out.size H6.out.size
        have HRA : Keep (RdV w6 (· < w6.heap.size) 2 (.slice aa (min la 4) ca) (attrs.take 4).length (rcells (attrs.take 4))) := ⟨by
          have hb6 : Below w.heap.size w w6 := HB.out.trans (H6.out.below.mono HB.out.size)
          have hx := HX.out.at_.below hb6 HK.out
          dsimp only at hx
          have h1 := RdV.take2 (by rw [HLA.out.1] at hx; exact hx) (min attrs.length 4) (by omega)
          have e : attrs.take (min attrs.length 4) = attrs.take 4 := by rw [List.take_eq_take_iff]; omega
          rw [e] at h1
          rw [HLA.out.1]
          exact h1.mono (fun b hb => Nat.lt_of_lt_of_le (HK.out b hb) hw6)⟩
        have HCL := Keep.keep (clA_own _ (attrs.take 4) w6 HRA.out (by rw [List.length_take]; omega))
        obtain ⟨n4, hn4⟩ : ∃ n4, min la 4 = n4 := ⟨_, rfl⟩
        have HN4 : Keep (n4 = (attrs.take 4).length ∧ n4 ≤ 4) := ⟨⟨by rw [← hn4, List.length_take, HLA.out.1]; omega, by omega⟩⟩
        rw [hn4] at hsl hmn HCL
        clear hfr hn4 HRA
        go_wp2_with fail
        refine HCL.out.mono ?_
        rintro e w7 ⟨v7, rfl, ho7, hb7⟩
        have H7 := Keep.keep (H6.out.push (slA w6.heap.size 97 2 v7 (attrs.take 4).length (rcells (attrs.take 4))) (.of_below hb7) ho7 (fun b hb => World.ownsRow.lt ho7 b hb))
        have HW6 : Keep (wo.heap.size ≤ w6.heap.size) := ⟨H6.out.size⟩
        have hal2 : acc.length = k := hal
        clear HCL hmn hsl H6 hb7
        obtain ⟨a7, c7, hv7, -⟩ := (ownsV_reads ho7).shape
        rw [← HN4.out.1] at hv7
        subst hv7
        have hr7 := H7.out.row 0 rfl
        unfold fsR at hr7
        have k6 := hr7.cell (i := 6) rfl
        have f6 := hr7.frozen 6
        clear ho7 hr7
        go_wp2_with fail
        have hn47 : n4 = (attrs.take 4).length := HN4.out.1
        have hn44 : n4 ≤ 4 := HN4.out.2
        refine wp_world (R := fun w8 => Hp NoM wo w8 [rowA B5 32 (fsR kind mode uid gid time (.slice a7 n4 c7) ad (min ld 40) cd (shortS xp) (link.take 40)), slA w6.heap.size 97 2 (.slice a7 n4 c7) n4 (rcells (attrs.take 4))]) (by rw [hn47] at H7 ⊢; exact H7.out.setCell 0 rfl 6 _ rfl) ?_
        intro w8 H8
        clear H7 k6 f6
        have HN47 := Keep.keep hn47
        clear hn47
        go_loopg [59] n4 (fun g u59 wx => ∃ i : Nat, i + g = n4 ∧ u59 = .int .i64 (i : Int) ∧ Hp NoM wo wx [rowA B5 32 (fsR kind mode uid gid time (.slice a7 n4 c7) ad (min ld 40) cd (shortS xp) (link.take 40)), slA w6.heap.size 97 2 (.slice a7 n4 c7) n4 (rcells (((attrs.take 4).take i).map cutB ++ (attrs.take 4).drop i))])
        case atStart => exact ⟨0, by omega, rfl, by simpa using H8.out⟩
        case round =>
          obtain ⟨i, hig, rfl, hHi⟩ := hrel
          have HI := Keep.keep hHi
          clear hHi H8
          have hll : (((attrs.take 4).take i).map cutB ++ (attrs.take 4).drop i).length = n4 := by
            have := HN47.out
            rw [List.length_append, List.length_map, List.length_take, List.length_drop]; omega
          have HLL := Keep.keep hll
          clear hll
          cases gk with
          | zero =>
            obtain rfl : i = n4 := by omega
            have HFA : Keep (((attrs.take 4).take i).map cutB ++ (attrs.take 4).drop i = (attrs.take 4).map cutB) := ⟨by
              rw [HN47.out, List.take_length, List.drop_length, List.append_nil]⟩
            have HRW := Keep.keep (HI.out.row 0 rfl)
            unfold fsR at HRW
            have HSZ : Keep ((#[.string ⟨(shortS xp).toArray⟩, .int .i64 kind, .int .u32 mode, .int .u32 uid, .int .u32 gid, .int .i64 time, .slice a7 i c7, .slice ad (min ld 40) cd, .string ⟨(link.take 40).toArray⟩] : Array Value).size = 9) := ⟨rfl⟩
            go_wp2_with (first | ((with_reducible refine arm_loadRow HRW.out aggM HSZ.out ?_ ?_); (focus rfl); simp only [Act.put, List.setIfInBounds_toArray, List.set_cons_succ, List.set_cons_zero]) | (with_reducible refine arm_stop ?_))
            refine Stopped.out ?_
            have hoi := HI.out.sl 1 rfl
            rw [HFA.out] at hoi
            have hbx := HI.out.below
            have HAL : Keep (Below wr.heap.size wr (wr.alloc (.cells #[.string ⟨(shortS xp).toArray⟩, .int .i64 kind, .int .u32 mode, .int .u32 uid, .int .u32 gid, .int .i64 time, .slice a7 i c7, .slice ad (min ld 40) cd, .string ⟨(link.take 40).toArray⟩] 32))) := ⟨(Below.refl _ _).alloc (Nat.le_refl _) _⟩
            have hny : NdR wr (fun b => K b ∨ (w6.heap.size ≤ b ∧ b < wr.heap.size)) (cut19 (xp, ⟨kind, mode, uid, gid, time, attrs, data, link⟩)).2 (.slice a7 i c7) (.slice ad (min ld 40) cd) := by
              refine ⟨?_, ?_⟩
              · have h1 := ownsV_reads hoi
                have e : i = ((attrs.take 4).map cutB).length := by rw [List.length_map]; exact HN47.out
                have h2 : RdV wr (fun b => w6.heap.size ≤ b ∧ b < wr.heap.size ∧ (Value.slice a7 i c7).ownBlock = some b) 2 (.slice a7 i c7) ((attrs.take 4).map cutB).length (rcells ((attrs.take 4).map cutB)) := by rw [← e]; exact h1
                exact h2.mono (fun b hb => .inr ⟨hb.1, hb.2.1⟩)
              · have hb6 : Below w.heap.size w wr := HB.out.trans (hbx.mono HB.out.size)
                have h1 := reads_to (HX.out.dt.below hb6 HK.out) (min ld 40) (by have := HDL.out.1; dsimp only; omega)
                have e : data.take (min ld 40) = data.take 40 := by rw [List.take_eq_take_iff]; have := HDL.out.1; omega
                dsimp only at h1
                rw [e] at h1
                exact h1.mono (fun b hb => .inl hb)
            have hsx := hbx.size
            have hal := HAL.out
            have hrA := (HH.out.below hbx).below hal
            have hob := World.ownsRow.lt HH.out.own
            have hm : Mbs (wr.alloc (.cells #[.string ⟨(shortS xp).toArray⟩, .int .i64 kind, .int .u32 mode, .int .u32 uid, .int .u32 gid, .int .i64 time, .slice a7 i c7, .slice ad (min ld 40) cd, .string ⟨(link.take 40).toArray⟩] 32)) (fun _ => True) (fun b => K b ∨ (w6.heap.size ≤ b ∧ b < wr.heap.size)) (.slice (some ⟨wr.heap.size, 0, none⟩) 1 1) [(cut19 (xp, ⟨kind, mode, uid, gid, time, attrs, data, link⟩), .slice a7 i c7, .slice ad (min ld 40) cd)] :=
              ⟨RdV.new (N := fun _ => True) 32 [.string ⟨(shortS xp).toArray⟩, .int .i64 kind, .int .u32 mode, .int .u32 uid, .int .u32 gid, .int .i64 time, .slice a7 i c7, .slice ad (min ld 40) cd, .string ⟨(link.take 40).toArray⟩] 9 1 _ rfl rfl (by unfold maxLen; omega) trivial, fun z hz => by
                obtain rfl : z = (cut19 (xp, ⟨kind, mode, uid, gid, time, attrs, data, link⟩), .slice a7 i c7, .slice ad (min ld 40) cd) := by simpa using hz
                exact hny.below hal (fun b hb => by
                  rcases hb with hb | hb
                  · have := HB.out.size; have := HK.out b hb; omega
                  · exact hb.2)⟩
            have hwr : w.heap.size ≤ wo.heap.size := HB.out.size
            refine arm_appM (B := w.heap.size) (K := K) hrA (by have := hal.size; omega) hm (fun b hb => ⟨hb.imp id (fun hb => by have := HW6.out; omega), by
              have := hal.size
              rcases hb with hb | hb
              · have := HK.out b hb; omega
              · omega, fun e => by
              have h1 := hob b e
              have := HW6.out
              rcases hb with hb | hb
              · have := HK.out b hb; omega
              · omega⟩) (by rw [hal2]; simp; omega) rfl rfl ?_
            intro v4 w4 hr4 hg4 hov4 hsh4
            obtain ⟨a4, c4, hv4⟩ := hsh4
            have HR4 := Keep.keep hr4
            have HB4 : Keep (Below w.heap.size w w4) := ⟨((HB.out.trans (hbx.mono hwr)).trans (hal.mono (by omega))).trans (hrA.chg (by have := hal.size; omega) hg4)⟩
            clear hr4 hg4 hov4 hm hrA hal hny hoi hbx HAL HRW
            subst hv4
            simp only [Act.put, List.setIfInBounds_toArray, List.set_cons_succ, List.set_cons_zero]
            go_wp2_with fail
            go_roundg g
            case measure => omega
            case rel => exact ⟨k + 1, acc ++ [(cut19 (xp, ⟨kind, mode, uid, gid, time, attrs, data, link⟩), .slice a7 i c7, .slice ad (min ld 40) cd)], by omega, by simp, by rw [List.map_append, HM.out, HTK.out]; rfl, by simp [hal2], HR4.out, HB4.out⟩
          | succ gi =>
            have hin : i < n4 := by omega
            have hd3 : decide ((i : Int) < (n4 : Int)) = true := decide_eq_true (by omega)
            have hi4 : i < (attrs.take 4).length := by have := HN47.out; omega
            have hri := HI.out.row 0 rfl
            unfold fsR at hri
            have k6 := hri.cell (i := 6) rfl
            clear hri
            have hoi := HI.out.sl 1 rfl
            obtain ⟨g7, rfl⟩ : ∃ g7, a7 = some ⟨g7, 0, none⟩ := by
              rcases hoi.2 with ⟨h1, h2⟩ | ⟨g', cap', cur, h1, -⟩
              · omega
              · injection h1 with h1; exact ⟨g', h1⟩
            have hxi : (((attrs.take 4).take i).map cutB ++ (attrs.take 4).drop i)[i]? = some (attrs.take 4)[i] := by
              rw [List.getElem?_append_right (by rw [List.length_map, List.length_take]; omega), List.length_map, List.length_take, Nat.min_eq_left (by omega), Nat.sub_self, List.getElem?_drop, Nat.add_zero, List.getElem?_eq_getElem hi4]
            have hld2 := own_loadAtA hoi HLL.out.symm hxi
            have HTA : Keep ((((attrs.take 4).take i).map cutB ++ (attrs.take 4).drop i).set i (cutB (attrs.take 4)[i]) = ((attrs.take 4).take (i + 1)).map cutB ++ (attrs.take 4).drop (i + 1)) := ⟨by
              rw [List.set_append_right _ _ (by rw [List.length_map, List.length_take]; omega), List.length_map, List.length_take, Nat.min_eq_left (by omega), Nat.sub_self, List.drop_eq_getElem_cons hi4, List.set_cons_zero, List.take_succ_eq_append_getElem hi4, List.map_append, List.append_assoc]
              rfl⟩
            clear hxi hoi
            generalize (attrs.take 4)[i] = xa at *
            obtain ⟨an, aw⟩ := xa
            unfold strV at hld2
            dsimp only at hld2
            go_upto_region 11 with ((with_reducible refine arm_loadM hld2 ?_ ?_); (focus rfl); simp only [Act.put, List.setIfInBounds_toArray, List.set_cons_succ, List.set_cons_zero])
            refine wp_world (R := fun w9 => Hp NoM wo w9 [rowA B5 32 (fsR kind mode uid gid time (.slice (some ⟨g7, 0, none⟩) n4 c7) ad (min ld 40) cd (shortS xp) (link.take 40)), slA w6.heap.size 97 2 (.slice (some ⟨g7, 0, none⟩) n4 c7) n4 (rcells (((attrs.take 4).take i).map cutB ++ (attrs.take 4).drop i)), rowA wr.heap.size 97 #[.string ⟨an.toArray⟩, .string ⟨aw.toArray⟩]]) (HI.out.newRow _ _) ?_
            intro w9 H9
            obtain ⟨B7, hB7⟩ : ∃ B7, wr.heap.size = B7 := ⟨_, rfl⟩
            rw [hB7] at H9 ⊢
            clear hB7 hld2 k6
            have hr9 := H9.out.row 0 rfl
            unfold fsR at hr9
            have k6 := hr9.cell (i := 6) rfl
            have c70 := (H9.out.row 2 rfl).cell (i := 0) rfl
            have c71 := (H9.out.row 2 rfl).cell (i := 1) rfl
            have mnA : min (an.length : Int) 40 = ((min an.length 40 : Nat) : Int) := by omega
            have mnB : min (aw.length : Int) 200 = ((min aw.length 200 : Nat) : Int) := by omega
            have slA1 := run_slice_to (P := Tryz.prog) Tryz.underlying9 an .i64 (min an.length 40) (Nat.min_le_left _ _)
            have slB1 := run_slice_to (P := Tryz.prog) Tryz.underlying9 aw .i64 (min aw.length 200) (Nat.min_le_left _ _)
            have eA : an.take (min an.length 40) = an.take 40 := by rw [List.take_eq_take_iff]; omega
            have eB : aw.take (min aw.length 200) = aw.take 200 := by rw [List.take_eq_take_iff]; omega
            rw [eA] at slA1
            rw [eB] at slB1
            have hbA := buildA (an.take 40) (aw.take 200)
            have hCB : Keep (cutB (an, aw) = (an.take 40, aw.take 200)) := ⟨rfl⟩
            obtain ⟨an4, han4⟩ : ∃ x, x = an.take 40 := ⟨_, rfl⟩
            obtain ⟨aw4, haw4⟩ : ∃ x, x = aw.take 200 := ⟨_, rfl⟩
            rw [← han4, ← haw4] at hCB
            rw [← han4] at slA1 hbA
            rw [← haw4] at slB1 hbA
            clear eA eB hr9 han4 haw4
            generalize min an.length 40 = mA at *
            generalize min aw.length 200 = mB at *
            refine wp_region_quiet_tail_drawn 20 (by kernel_rfl) (by kernel_rfl) ?_; simp only [List.take_succ_cons, List.take_zero, List.drop_succ_cons, List.drop_zero]; (repeat (go_big_quiet_step (fail))); refine wpQuiet_nil ?_; rintro _ ⟨nq, rfl⟩
            refine arm_setAt (base := w6.heap.size) (l := ((attrs.take 4).take i).map cutB ++ (attrs.take 4).drop i) (k := i) (cap := c7) (n := n4) (g := g7) (an4, aw4) (((H9.out.drewN nq).sl 1 rfl)) HLL.out.symm (by rw [HLL.out]; exact hin) rfl rfl ?_
            intro w10 ho10 hg10
            have HG := Keep.keep ((H9.out.drewN nq).upd 1 rfl (slA w6.heap.size 97 2 (.slice (some ⟨g7, 0, none⟩) n4 c7) n4 (rcells (((attrs.take 4).take (i + 1)).map cutB ++ (attrs.take 4).drop (i + 1)))) (chg_grown hg10) (by rw [← HTA.out, hCB.out]; exact ho10) (fun b hb => .inl hb))
            clear ho10 hg10 H9 k6 c70 c71 mnA mnB slA1 slB1 hbA
            simp only [Act.put]
            go_wp2_with fail
            go_roundg gi
            case measure => omega
            case rel => exact ⟨i + 1, by omega, by simp, HG.out.init⟩
end Go.Proofs.YtplafpokgpolkaaGreatDoor
/- portolanlaw19.Grown's question: of one path? -/
namespace Go.Proofs.YtplafpokgpolkaaGreatDoor
open Go.RowKit Go.Sort Go.Shelf
set_option maxHeartbeats 1000000 in
set_option maxRecDepth 100000 in
theorem eqp_any (x y : MvS) (W : World) : Calls Tryz.prog 84 #[.agg (encS x).toArray, .agg (encS y).toArray] W fun e w' => e = .returned (.bool (x.1.1.1 == y.1.1.1)) ∧ ∃ q os', w' = grow (W.drewN q) os' := by
  obtain ⟨⟨⟨xp, ⟨kind, mode, uid, gid, time, attrs, data, link⟩⟩, av, dv⟩, ⟨aa, la, ca, ad, ld, cd, e1, e2⟩⟩ := x
  obtain ⟨⟨⟨yp, ⟨kind', mode', uid', gid', time', attrs', data', link'⟩⟩, bv, ev⟩, ⟨ba, lb, cb, bd, ldb, cdb, f1, f2⟩⟩ := y
  dsimp only at e1 e2 f1 f2
  subst e1 e2 f1 f2
  have hx : (encS ⟨((xp, ⟨kind, mode, uid, gid, time, attrs, data, link⟩), .slice aa la ca, .slice ad ld cd), ⟨aa, la, ca, ad, ld, cd, rfl, rfl⟩⟩).toArray = #[.string ⟨xp.toArray⟩, .int .i64 kind, .int .u32 mode, .int .u32 uid, .int .u32 gid, .int .i64 time, .slice aa la ca, .slice ad ld cd, .string ⟨link.toArray⟩] := rfl
  have hy : (encS ⟨((yp, ⟨kind', mode', uid', gid', time', attrs', data', link'⟩), .slice ba lb cb, .slice bd ldb cdb), ⟨ba, lb, cb, bd, ldb, cdb, rfl, rfl⟩⟩).toArray = #[.string ⟨yp.toArray⟩, .int .i64 kind', .int .u32 mode', .int .u32 uid', .int .u32 gid', .int .i64 time', .slice ba lb cb, .slice bd ldb cdb, .string ⟨link'.toArray⟩] := rfl
  rw [hx, hy]
  clear hx hy
  show Calls _ _ _ _ fun e w' => e = .returned (.bool (xp == yp)) ∧ _
  obtain ⟨r, hr⟩ : ∃ r, (xp == yp) = r := ⟨_, rfl⟩
  rw [hr]
  go_enter Tryz.func84, Tryz.ntmps84
  go_wp2_with fail
  go_ret
  exact ⟨rfl, 0, _, by rw [alloc_eq_grow, alloc_eq_grow, grow_grow]; rfl⟩
theorem ent_eqp : ∀ args w, (callFunc 84 args).run Tryz.prog w = .ok (.enter 84 args) w := enters_of Tryz.func84 (by kernel_rfl) rfl
end Go.Proofs.YtplafpokgpolkaaGreatDoor
/- slices.CompactFunc: what its loops keep, plainly. -/
namespace Go.Proofs.YtplafpokgpolkaaGreatDoor
section
variable {α : Type} {k : α → Tx}
/-- nothing dropped up to j -/
def AllA (k : α → Tx) (l : List α) (j : Nat) : Prop := compA k (l.take j) = l.take j
theorem AllA.one (l : List α) : AllA k l 1 := compA_one l
theorem AllA.next {l : List α} {j : Nat} (h : AllA k l j) (h0 : 0 < j) (hj : j < l.length) (hne : ¬ k l[j] = k l[j - 1]) : AllA k l (j + 1) := by
  unfold AllA at h ⊢
  rw [compA_take l j h0 hj, if_neg hne, h, List.take_succ_eq_append_getElem hj]
/-- the row while it is done; from j on it is as it was, and one ahead of that -/
structure CFM (k : α → Tx) (l ls : List α) (j : Nat) : Prop where
  sz : ls.length = l.length
  pre : ls.take (compA k (l.take j)).length = compA k (l.take j)
  post : ∀ m, j ≤ m + 1 → m < l.length → ls[m]? = l[m]?
  less : (compA k (l.take j)).length < j
theorem CFM.start {l : List α} {j : Nat} (h : AllA k l j) (h0 : 0 < j) (hj : j < l.length) (he : k l[j] = k l[j - 1]) : CFM k l l (j + 1) ∧ (compA k (l.take (j + 1))).length = j := by
  unfold AllA at h
  have e : compA k (l.take (j + 1)) = l.take j := by rw [compA_take l j h0 hj, if_pos he, h, List.append_nil]
  have hl : (l.take j).length = j := by rw [List.length_take]; omega
  refine ⟨⟨rfl, by rw [e, hl], fun _ _ _ => rfl, by rw [e, hl]; omega⟩, by rw [e, hl]⟩
theorem CFM.skip {l ls : List α} {j : Nat} (h : CFM k l ls j) (h0 : 0 < j) (hj : j < l.length) (he : k l[j] = k l[j - 1]) : CFM k l ls (j + 1) ∧ compA k (l.take (j + 1)) = compA k (l.take j) := by
  have e : compA k (l.take (j + 1)) = compA k (l.take j) := by rw [compA_take l j h0 hj, if_pos he, List.append_nil]
  exact ⟨⟨h.sz, by rw [e]; exact h.pre, fun m hm hl => h.post m (by omega) hl, by rw [e]; have := h.less; omega⟩, e⟩
theorem CFM.put {l ls : List α} {j : Nat} (h : CFM k l ls j) (h0 : 0 < j) (hj : j < l.length) (he : ¬ k l[j] = k l[j - 1]) : CFM k l (ls.set (compA k (l.take j)).length l[j]) (j + 1) ∧ (compA k (l.take (j + 1))).length = (compA k (l.take j)).length + 1 := by
  have e : compA k (l.take (j + 1)) = compA k (l.take j) ++ [l[j]] := by rw [compA_take l j h0 hj, if_neg he]
  have hs := h.sz
  have hle := h.less
  refine ⟨⟨by simp [hs], ?_, fun m hm hml => ?_, by rw [e, List.length_append, List.length_singleton]; omega⟩, by rw [e, List.length_append, List.length_singleton]⟩
  · rw [e, List.length_append, List.length_singleton, List.take_succ_eq_append_getElem (by rw [List.length_set]; omega), List.getElem_set_self, List.take_set_of_le (Nat.le_refl _), h.pre]
  · rw [List.getElem?_set_ne (by omega)]
    exact h.post m (by omega) hml
theorem CFM.done {l ls : List α} (h : CFM k l ls l.length) : ls.take (compA k l).length = compA k l := by
  have := h.pre
  rwa [List.take_length] at this
end
end Go.Proofs.YtplafpokgpolkaaGreatDoor
/- slices.CompactFunc over Members: in the worlds of a sort. -/
namespace Go.Proofs.YtplafpokgpolkaaGreatDoor
open Go.Shelf Go.RowKit Go.Lib Go.Sort
section
variable {α : Type} [Inhabited α] {enc : α → List Value} {k : Nat} {w0 W : World} {blk off : Nat} {dk : Array α}
/-- what is asked of the question -/
def EqLays (g : Nat) (cb : Array Value) (enc : α → List Value) (k : Nat) (eqf : α → α → Bool) (blk off size : Nat) (w : World) : Prop :=
  ∀ (m : Nat) (os : Array Obj) (dk : Array α), dk.size = size → ∀ x y : α,
    Calls Tryz.prog g (#[.agg (enc x).toArray, .agg (enc y).toArray] ++ cb) (sortWorldK enc k w blk off m dk os) fun e w' => e = .returned (.bool (eqf x y)) ∧ ∃ q os', w' = grow ((sortWorldK enc k w blk off m dk os).drewN q) os'
theorem Swk.eq {g : Nat} {cb : Array Value} {eqf : α → α → Bool} {size : Nat} (h : SWK enc k w0 blk off dk W) (hC : EqLays g cb enc k eqf blk off size w0) (hs : dk.size = size) (x y : α) (n : Nat) (os : Array Obj) :
    Calls Tryz.prog g (#[.agg (enc x).toArray, .agg (enc y).toArray] ++ cb) (grow (W.drewN n) os) fun e w' => e = .returned (.bool (eqf x y)) ∧ ∃ q os', w' = grow ((grow (W.drewN n) os).drewN q) os' := by
  obtain ⟨m, os0, hw⟩ := h.grown n os
  rw [hw]
  exact hC m os0 dk hs x y
end
end Go.Proofs.YtplafpokgpolkaaGreatDoor
/- slices.CompactFunc over Members: in the worlds of a sort; whichever neighbours agree. -/
namespace Go.Proofs.YtplafpokgpolkaaGreatDoor
open Go.Shelf Go.RowKit Go.Lib Go.Sort
section
variable {α : Type} [Inhabited α]
theorem get_toL (d : Array α) {i : Nat} (h : i < d.size) : d.toList[i]? = some d[i]! := by
  rw [Array.getElem?_toList, Array.getElem?_eq_getElem h, getElem!_pos d i h]
omit [Inhabited α] in
theorem set_toL (d : Array α) (i : Nat) (x : α) : (d.setIfInBounds i x).toList = d.toList.set i x := by simp
end
set_option maxHeartbeats 4000000 in
set_option maxRecDepth 1000000 in
theorem cfun_any {α : Type} [Inhabited α] (k : Nat) (zE : ∀ w, (Go.sizeOf 32).run Tryz.prog w = .ok k w) (enc : α → List Value) (g : Nat) (cb : Array Value) (blk off cap : Nat) (key : α → Tx) (d0 : Array α) (w0 : World) (R : RowK enc k w0 blk off d0) (heq : EqLays g cb enc k (fun x y => key x == key y) blk off d0.size w0) (eg : ∀ args w, (callFunc g args).run Tryz.prog w = .ok (.enter g args) w) (hsz : d0.size < 1000000000000) (hcap : d0.size ≤ cap)
    (hsf : ∀ i, i < d0.size → ∀ w, (Instr.slice 35 (.slice (some ⟨blk, off, none⟩) d0.size cap) (some (.int .i64 (i : Int))) none none).run Tryz.prog w = .ok (.slice (some ⟨blk, off + i * k, none⟩) (d0.size - i) (cap - i)) w)
    (hst : ∀ i, i ≤ d0.size → ∀ w, (Instr.slice 35 (.slice (some ⟨blk, off, none⟩) d0.size cap) none (some (.int .i64 (i : Int))) none).run Tryz.prog w = .ok (.slice (some ⟨blk, off, none⟩) i cap) w)
    (Fin : Nat → Array α → World → Prop) (hcl : ∀ (n : Nat) (dk : Array α) (w : World), n < d0.size → dk.size = d0.size → SWK enc k w0 blk off dk w → (∀ x ∈ dk.toList, x ∈ d0.toList) → dk.toList.take n = compA key d0.toList →
      ∃ W, (∀ ty, (Builtin.clear_ #[35] ty #[.slice (some ⟨blk, off + n * k, none⟩) (d0.size - n) (cap - n)]).run Tryz.prog w = .ok (.tuple #[]) W) ∧ Fin n dk W)
    (w : World) (S : SWK enc k w0 blk off d0 w) :
    Calls Tryz.prog 83 #[.slice (some ⟨blk, off, none⟩) d0.size cap, .func (.func g) #[] cb] w fun e w' => (e = .returned (.slice (some ⟨blk, off, none⟩) d0.size cap) ∧ SWK enc k w0 blk off d0 w' ∧ compA key d0.toList = d0.toList) ∨
      ∃ n dk, e = .returned (.slice (some ⟨blk, off, none⟩) n cap) ∧ n = (compA key d0.toList).length ∧ n < d0.size ∧ Fin n dk w' := by
  have aE : ∀ w, (isAgg 32).run Tryz.prog w = .ok true w := fun w => by kernel_rfl
  have mixed : Tryz.prog.follows Departure.mixedOrders = true := by first | rfl | kernel_rfl
  have S0 : Aside (SWK enc k w0 blk off d0 w) := S
  have HC : Aside (EqLays g cb enc k (fun x y => key x == key y) blk off d0.size w0) := heq
  have HSF := Keep.keep hsf; have HST := Keep.keep hst; have HCLR := Keep.keep hcl
  clear S heq hsf hst hcl
  obtain ⟨n, hn⟩ : ∃ x, x = d0.size := ⟨_, rfl⟩
  have HN : Keep (d0.size = n) := ⟨hn.symm⟩
  rw [← hn] at hsz hcap HSF HST HCLR ⊢
  by_cases h2 : n < 2
  · have h2z : (n : Int) < 2 := by omega
    clear hn
    go_enter Tryz.func83, Tryz.ntmps83
    go_wp2_with fail
    go_ret
    refine .inl ⟨rfl, S0.out, ?_⟩
    have hl : d0.toList.length = n := by rw [Array.length_toList]; exact HN.out
    rcases (by omega : n = 0 ∨ n = 1) with h | h
    · have : d0.toList = [] := List.eq_nil_of_length_eq_zero (by omega)
      rw [this]; rfl
    · have e : d0.toList.take 1 = d0.toList := List.take_of_length_le (by omega)
      have := compA_one (k := key) d0.toList
      rwa [e] at this
  · have h2z : ¬ (n : Int) < 2 := by omega
    obtain ⟨d, hd⟩ : ∃ x, x = d0 := ⟨_, rfl⟩
    have hds : d.size = n := by rw [hd, HN.out]
    have HD : Keep (d = d0) := ⟨hd⟩
    have HDS : Keep (d.size = n ∧ d.toList.length = n) := ⟨hds, by rw [Array.length_toList]; exact hds⟩
    have HALL0 : Aside (AllA key d.toList 1) := AllA.one _
    have S0 : Aside (SWK enc k w0 blk off d w) := by rw [hd]; exact S0
    rw [← hd] at HCLR ⊢
    clear hn hd
    go_enter Tryz.func83, Tryz.ntmps83
    go_wp2
    go_loopg [5] n (fun kx s5 wr => ∃ j : Nat, s5 = .int .i64 j ∧ 1 ≤ j ∧ j ≤ n ∧ n - j ≤ kx ∧ Aside (SWK enc k w0 blk off d wr) ∧ Aside (AllA key d.toList j))
    case atStart => exact ⟨1, by go_num, by omega, by omega, by omega, S0, HALL0⟩
    case round =>
      clear S0 HALL0
      obtain ⟨j, rfl, hj1, hjn, hkx, S1, A1⟩ := hrel
      by_cases hlt : j < n
      · have hltz : (j : Int) < (n : Int) := by omega
        obtain ⟨p, hp⟩ : ∃ x, x = j - 1 := ⟨_, rfl⟩
        have rp : (j : Int) - 1 = (p : Int) := by omega
        have rpw : IntKind.i64.wrap (p : Int) = (p : Int) := by rw [IntKind.wrap_i64]; omega
        have hpn : p < n := by omega
        have HJ : Keep (j < d.toList.length ∧ d.toList[j]? = some d[j]! ∧ d.toList[j - 1]? = some d[p]!) := ⟨by have := HDS.out; omega, get_toL d (by omega), by rw [← hp]; exact get_toL d (by omega)⟩
        clear hp
        have bx : ((j : Nat) : Int) < (n : Int) := by omega
        have bp : ((p : Nat) : Int) < (n : Int) := by omega
        obtain ⟨x, hx⟩ : ∃ x, x = d[j]! := ⟨_, rfl⟩
        obtain ⟨y, hy⟩ : ∃ y, y = d[p]! := ⟨_, rfl⟩
        have la := S1.out.ld R (by rw [hds]; exact HN.out.symm) Tryz.prog j (by omega)
        have lb := S1.out.ld R (by rw [hds]; exact HN.out.symm) Tryz.prog p (by omega)
        rw [← hx] at la HJ
        rw [← hy] at lb HJ
        have hc := Swk.eq S1.out HC.out (by rw [hds]; exact HN.out.symm) x y
        by_cases hq : key x = key y
        · have hqb : (key x == key y) = true := by simp [hq]
          simp only [hqb] at hc
          have HST2 : Keep (CFM key d.toList d.toList (j + 1) ∧ (compA key (d.toList.take (j + 1))).length = j) := ⟨CFM.start A1.out (by omega) HJ.out.1 (by
            have e1 := HJ.out.2.1; have e2 := HJ.out.2.2
            rw [List.getElem?_eq_getElem HJ.out.1] at e1
            rw [List.getElem?_eq_getElem (by have := HJ.out.1; omega)] at e2
            injection e1 with e1; injection e2 with e2
            rw [e1, e2]; exact hq)⟩
          clear hx hy hq hqb A1 HJ
          go_wp2_with fail
          go_quiet_grown (first | (go_at_fn g; refine Calls.grown_of (hc _ _)))
          have S2 : Aside (SWK enc k w0 blk off d (grow (wr.drewN nq) osq)) := S1.out.grown nq osq
          clear la lb hc S1
          generalize grow (wr.drewN nq) osq = w2 at S2 ⊢
          clear nq osq
          obtain ⟨m, hm⟩ : ∃ m, m = n - j := ⟨_, rfl⟩
          obtain ⟨c2, hc2⟩ : ∃ c, c = cap - j := ⟨_, rfl⟩
          have hsl := fun w => HSF.out j hlt w
          rw [← hm, ← hc2] at hsl
          have hmn : j + m ≤ n ∧ n ≤ j + m := by omega
          have hm0 : 1 ≤ m := by omega
          have hmc : m ≤ c2 := by omega
          have HM : Keep (j + m = n) := ⟨by omega⟩
          clear hm hc2
          obtain ⟨jk, hjk⟩ : ∃ o, o = off + j * k := ⟨_, rfl⟩
          rw [← hjk] at hsl
          have HJK := Keep.keep hjk
          clear hjk
          go_wp2
          go_loopg [5, 7] m (fun ky s5 s7 wr => ∃ (kk q : Nat) (dk : Array α), s5 = .int .i64 kk ∧ s7 = .int .i64 q ∧ 1 ≤ q ∧ q ≤ m ∧ m - q ≤ ky ∧ Aside (SWK enc k w0 blk off dk wr) ∧ Aside (CFM key d.toList dk.toList (j + q) ∧ (compA key (d.toList.take (j + q))).length = kk ∧ ∀ x ∈ dk.toList, x ∈ d.toList))
          case atStart => exact ⟨j, 1, d, by go_num, by go_num, by omega, by omega, by omega, S2, HST2.out.1, HST2.out.2, fun x hx => hx⟩
          case round =>
            clear S2 HST2
            obtain ⟨kk, q, dk, rfl, rfl, hq1, hqm, hky, S3, C3⟩ := hrel
            have hdk : dk.size = n := by have := C3.out.1.sz; rw [Array.length_toList, HDS.out.2] at this; exact this
            have hdr : dk.size = d0.size := by rw [hdk]; exact HN.out.symm
            have hkk : kk < n := by have := C3.out.1.less; rw [C3.out.2.1] at this; omega
            have HDR := Keep.keep hdr
            clear hdr
            by_cases hqlt : q < m
            · have hqz : (q : Int) < (m : Int) := by omega
              obtain ⟨p2, hp2⟩ : ∃ x, x = q - 1 := ⟨_, rfl⟩
              have rp2 : (q : Int) - 1 = (p2 : Int) := by omega
              have rp2w : IntKind.i64.wrap (p2 : Int) = (p2 : Int) := by rw [IntKind.wrap_i64]; omega
              have hp2m : p2 < m := by omega
              have bq : ((q : Nat) : Int) < (m : Int) := by omega
              have bp2 : ((p2 : Nat) : Int) < (m : Int) := by omega
              have bk : ((kk : Nat) : Int) < (n : Int) := by omega
              obtain ⟨x, hx⟩ : ∃ x, x = dk[j + q]! := ⟨_, rfl⟩
              obtain ⟨y, hy⟩ : ∃ y, y = dk[j + p2]! := ⟨_, rfl⟩
              have HXY : Keep (j + q < d.toList.length ∧ d.toList[j + q]? = some x ∧ d.toList[j + q - 1]? = some y) := ⟨by have := HDS.out; omega, by
                rw [← C3.out.1.post (j + q) (by omega) (by have := HDS.out; omega), hx]; exact get_toL dk (by omega), by
                rw [← C3.out.1.post (j + q - 1) (by omega) (by have := HDS.out; omega), hy, show j + q - 1 = j + p2 by omega]; exact get_toL dk (by omega)⟩
              have la := S3.out.ld R HDR.out Tryz.prog (j + q) (by omega)
              have lb := S3.out.ld R HDR.out Tryz.prog (j + p2) (by omega)
              rw [← hx, Nat.add_mul, ← Nat.add_assoc, ← HJK.out] at la
              rw [← hy, Nat.add_mul, ← Nat.add_assoc, ← HJK.out] at lb
              have hc := Swk.eq S3.out HC.out (by rw [hdk]; exact HN.out.symm) x y
              clear hp2
              have e1 := HXY.out.2.1; have e2 := HXY.out.2.2
              rw [List.getElem?_eq_getElem HXY.out.1] at e1
              rw [List.getElem?_eq_getElem (by have := HXY.out.1; omega)] at e2
              injection e1 with e1; injection e2 with e2
              by_cases hqe : key x = key y
              · have hqb : (key x == key y) = true := by simp [hqe]
                simp only [hqb] at hc
                have C4 : Aside (CFM key d.toList dk.toList (j + (q + 1)) ∧ (compA key (d.toList.take (j + (q + 1)))).length = kk ∧ ∀ x ∈ dk.toList, x ∈ d.toList) := by
                  obtain ⟨h1, h2⟩ := C3.out.1.skip (by omega) HXY.out.1 (by rw [e1, e2]; exact hqe)
                  exact ⟨h1, by rw [← Nat.add_assoc, h2]; exact C3.out.2.1, C3.out.2.2⟩
                clear hx hy hqe hqb e1 e2 HXY C3
                go_wp2_with fail
                go_quiet_grown (first | (go_at_fn g; refine Calls.grown_of (hc _ _)))
                have S4 : Aside (SWK enc k w0 blk off dk (grow (wr.drewN nq) osq)) := S3.out.grown nq osq
                clear la lb hc S3
                generalize grow (wr.drewN nq) osq = w4 at S4 ⊢
                clear nq osq
                go_wp2
                go_roundg (m - (q + 1))
                case measure => omega
                case rel => exact ⟨kk, q + 1, dk, by go_num, by go_num, by omega, by omega, Nat.le_refl _, S4, C4⟩
              · have hqb : (key x == key y) = false := by simp [hqe]
                simp only [hqb] at hc
                have C4 : Aside (CFM key d.toList (dk.setIfInBounds kk x).toList (j + (q + 1)) ∧ (compA key (d.toList.take (j + (q + 1)))).length = kk + 1 ∧ ∀ x' ∈ (dk.setIfInBounds kk x).toList, x' ∈ d.toList) := by
                  obtain ⟨h1, h2⟩ := C3.out.1.put (by omega) HXY.out.1 (by rw [e1, e2]; exact hqe)
                  rw [C3.out.2.1, e1] at h1
                  rw [set_toL]
                  refine ⟨h1, by rw [← Nat.add_assoc, h2, C3.out.2.1], fun x' hx' => ?_⟩
                  rcases List.mem_or_eq_of_mem_set hx' with h | h
                  · exact C3.out.2.2 x' h
                  · rw [h, ← e1]; exact List.getElem_mem _
                have HXE : Keep (dk[j + q]! = x) := ⟨hx.symm⟩
                clear hx hy hqe hqb e1 e2 HXY C3
                go_wp2_with fail
                go_quiet_grown (first | (go_at_fn g; refine Calls.grown_of (hc _ _)))
                have S4 : Aside (SWK enc k w0 blk off dk (grow (wr.drewN nq) osq)) := S3.out.grown nq osq
                clear la lb hc S3
                generalize grow (wr.drewN nq) osq = w4 at S4 ⊢
                clear nq osq
                have l4 := S4.out.load R HDR.out Tryz.prog (j + q) (by omega)
                have l4x : dk[j + q]! = x := HXE.out
                rw [l4x, Nat.add_mul, ← Nat.add_assoc, ← HJK.out] at l4
                have s4 := stores_of_holds Tryz.prog (S4.out.holds R.hblk R.hH HDR.out) (kk * k) (enc x) (by rw [R.hk, size_flatK]; exact rowK_bnd dk k kk (by omega)) (R.h1 _)
                have na : (enc x).length = k := R.hk _
                have S5 : Aside (SWK enc k w0 blk off (dk.setIfInBounds kk x) (w4.setCells blk (off + kk * k) (enc x))) := Swk.put S4.out R kk x (by omega)
                clear S4 l4x
                generalize enc x = cx at S5 l4 s4 na
                go_wp2
                generalize w4.setCells blk (off + kk * k) cx = w5 at S5 ⊢
                clear l4 s4 na
                go_wp2
                go_roundg (m - (q + 1))
                case measure => omega
                case rel => exact ⟨kk + 1, q + 1, _, by go_num, by go_num, by omega, by omega, Nat.le_refl _, S5, C4⟩
            · have hqz : ¬ (q : Int) < (m : Int) := by omega
              obtain rfl : q = m := by omega
              have hD : CFM key d.toList dk.toList d.toList.length := by
                have := C3.out.1; rw [HM.out] at this; rw [HDS.out.2]; exact this
              have hL : (compA key d.toList).length = kk := by
                have := C3.out.2.1
                rw [HM.out, List.take_of_length_le (by rw [HDS.out.2]; exact Nat.le_refl _)] at this
                exact this
              have HL := Keep.keep hL
              obtain ⟨W, hW, hF⟩ := HCLR.out kk dk wr hkk hdk (by rw [HD.out] at *; exact S3.out) C3.out.2.2 (by rw [← hL]; exact hD.done)
              have HF := Keep.keep hF
              have hs1 := fun w => HSF.out kk hkk w
              have hs2 := fun w => HST.out kk (by omega) w
              obtain ⟨m9, hm9⟩ : ∃ m, m = n - kk := ⟨_, rfl⟩
              obtain ⟨c9, hc9⟩ : ∃ c, c = cap - kk := ⟨_, rfl⟩
              rw [← hm9, ← hc9] at hW hs1
              clear hm9 hc9 hD hL hF C3 S3
              go_wp2_with fail
              go_ret
              exact .inr ⟨kk, rfl, HL.out.symm, hkk, dk, HF.out⟩
        · have hqb : (key x == key y) = false := by simp [hq]
          simp only [hqb] at hc
          have A2 : Aside (AllA key d.toList (j + 1)) := A1.out.next (by omega) HJ.out.1 (by
            have e1 := HJ.out.2.1; have e2 := HJ.out.2.2
            rw [List.getElem?_eq_getElem HJ.out.1] at e1
            rw [List.getElem?_eq_getElem (by have := HJ.out.1; omega)] at e2
            injection e1 with e1; injection e2 with e2
            rw [e1, e2]; exact hq)
          clear hx hy hq hqb A1 HJ
          go_wp2_with fail
          go_quiet_grown (first | (go_at_fn g; refine Calls.grown_of (hc _ _)))
          have S2 : Aside (SWK enc k w0 blk off d (grow (wr.drewN nq) osq)) := S1.out.grown nq osq
          clear la lb hc S1
          generalize grow (wr.drewN nq) osq = w2 at S2 ⊢
          clear nq osq
          go_wp2
          go_roundg (n - (j + 1))
          case measure => omega
          case rel => exact ⟨j + 1, by go_num, by omega, by omega, Nat.le_refl _, S2, A2⟩
      · have hltz : ¬ (j : Int) < (n : Int) := by omega
        have HA : Keep (compA key d.toList = d.toList) := ⟨by
          have h := A1.out
          unfold AllA at h
          rwa [List.take_of_length_le (by have := HDS.out.2; omega)] at h⟩
        go_wp2
        go_ret
        exact .inl ⟨rfl, S1.out, HA.out⟩
end Go.Proofs.YtplafpokgpolkaaGreatDoor
/- slices.CompactFunc over Members of one's own: of neighbours of one path the first one. -/
namespace Go.Proofs.YtplafpokgpolkaaGreatDoor
open Go.Shelf Go.RowKit Go.Lib Go.Sort
set_option maxHeartbeats 1000000 in
set_option maxRecDepth 100000 in
theorem cfun_nil (f : FuncId) (cb : Array Value) (w : World) : Calls Tryz.prog 83 #[.slice none 0 0, .func (.func f) #[] cb] w fun e w' => e = .returned (.slice none 0 0) ∧ w = w' := by
  go_enter Tryz.func83, Tryz.ntmps83
  go_wp2_with fail
  go_ret
  exact ⟨rfl, rfl⟩
theorem slice_mto_at (g n cap i : Nat) (hi : i ≤ cap) (w : World) : (Instr.slice 35 (.slice (some ⟨g, 0, none⟩) n cap) none (some (.int .i64 (i : Int))) none).run Tryz.prog w = .ok (.slice (some ⟨g, 0, none⟩) i cap) w := slice_mto _ n cap i .i64 hi w
set_option maxHeartbeats 1000000 in
set_option maxRecDepth 100000 in
theorem compact_mb (base : Nat) (K : Nat → Prop) (v : Value) (l : List Mv) (w : World) (hB : base ≤ w.heap.size) (h : RowM base K w v l) (hl : l.length < 1000000000) :
    Calls Tryz.prog 83 #[v, .func (.func 84) #[] #[]] w fun e w' => ∃ v', e = .returned v' ∧ RowM base K w' v' (compA (fun x : Mv => x.1.1) l) ∧ Below base w w' := by
  rcases h.own.2 with ⟨rfl, hz⟩ | ⟨g, cap, cur, rfl, hb, hh, hn, hm, hs, ht⟩
  · obtain rfl : l = [] := List.eq_nil_of_length_eq_zero hz
    refine (cfun_nil 84 #[] w).mono ?_
    rintro e w' ⟨rfl, rfl⟩
    exact ⟨_, rfl, h, Below.refl _ _⟩
  · obtain ⟨d0, hd0, hsz, R, S⟩ := h.swk
    have hcmap : (compA pathS d0.toList).map (·.1) = compA (fun x : Mv => x.1.1) l := by
      rw [← hd0]
      exact compA_map (k := fun x : Mv => x.1.1) (fun x : MvS => x.1) d0.toList
    have hc := cfun_any 9 (fun w => by kernel_rfl) encS 84 #[] g 0 cap pathS d0 w R (fun m os dk _ x y => eqp_any x y _) ent_eqp (by rw [hsz]; omega) (by rw [hsz]; exact hn)
      (fun i hi w => by rw [Nat.zero_add, hsz]; exact slice_mfrom_at g l.length cap i (by omega) hn (by omega) w)
      (fun i hi w => slice_mto_at g _ cap i (by omega) w)
      (fun n dk W => RowM base K W (.slice (some ⟨g, 0, none⟩) n cap) ((dk.toList.map (·.1)).take n) ∧ Below base w W ∧ dk.toList.take n = compA pathS d0.toList)
      (fun n dk w1 hnl hdk S1 hsub htk => by
        have hdl : dk.size = l.length := by rw [hdk, hsz]
        have hr := h.ofSwk hB S1 hdl (fun x hx => by
          obtain ⟨z, hz, rfl⟩ := List.mem_map.1 hx
          rw [← hd0]
          exact List.mem_map.2 ⟨z, hsub z hz, rfl⟩)
        have hown := hr.1.own
        have hll : (dk.toList.map (·.1)).length = l.length := by simp [hdl]
        rw [hll] at hown
        obtain ⟨zs, hzl, hcl⟩ := run_clear_mbs w1 g (n * 9) (l.length - n) (cap - n) (by omega) (fun m hm => by
          rw [hown.cellAt _ (by omega), List.getElem?_eq_getElem (by rw [mcells_length, hll]; omega)]; rfl) (fun m hm => hown.frozenAt _)
        have hown2 := owns_setCells zs _ w1 (n * 9) hown
        have hown3 := owns_take (k := n) hown2.1 (by omega) (by rw [layAt_take _ _ _ (by rw [mcells_length, hll]; omega), ← mcells_take])
        have hB1 : base ≤ w1.heap.size := Nat.le_trans hB hr.2.size
        have hch := (Chg.grown (M := NoM) (.refl _ _ _) hown2.2 hB1 (fun k e => .inl (by injection e with e; omega))).below (fun _ _ h => h)
        refine ⟨w1.setCells g (n * 9) zs, by rw [Nat.zero_add, hsz]; exact hcl, ⟨?_, fun x hx => ?_⟩, hr.2.trans hch, htk⟩
        · rw [List.length_take, hll, Nat.min_eq_left (by omega)]
          exact hown3
        · have hx2 := List.mem_of_mem_take hx
          exact ((hr.1.nd x hx2).loc (fun b e => hown2.2.block b e.2.1 (fun e2 => e.2.2 (by injection e2 with e2; rw [← e2]; rfl)))).mono (fun b e => ⟨e.1, Nat.lt_of_lt_of_le e.2.1 hown2.2.size, e.2.2⟩))
      w S
    rw [hsz] at hc
    refine hc.mono ?_
    rintro e w' (⟨rfl, S1, hcc⟩ | ⟨n, dk, rfl, hnl, hlt, hF⟩)
    · have hr := h.ofSwk hB S1 hsz (fun x hx => by rw [← hd0]; exact hx)
      refine ⟨_, rfl, ?_, hr.2⟩
      rw [← hcmap, hcc]
      exact hr.1
    · refine ⟨_, rfl, ?_, hF.2.1⟩
      rw [← hcmap, ← hF.2.2, List.map_take]
      exact hF.1
end Go.Proofs.YtplafpokgpolkaaGreatDoor
