/- PARTS OF ONE PROOF, set in one file: Tr19B, ChLoc1, AttrEq, SpcF, Bytes, NodeSame, TreeSame, Alike, ChLoc2, Wak19. Each part tells its own conditions. -/
import Derived.Shelf.Bytes.SlEqualAll
import Derived.Lib.SlBytesConst
import Derived.Lib.SmallJoins
import Derived.Test.YtplafpokgpolkaaGreatDoorX2
/- portolanlaw19: calls of the chapter as they are gone on. -/
namespace Go.Proofs.YtplafpokgpolkaaGreatDoor
open Go.RowKit
theorem rd_row {w : World} {b n k : Nat} {e : TypeId} {vs : List Value} (h : Row w b e vs.toArray) (hl : vs.length = n * k) (hn : n ≤ maxLen) : RdV w (fun j => j = b) k (.slice (some ⟨b, 0, none⟩) n n) n vs := by
  refine ⟨hl, ⟨_, n, rfl, Nat.le_refl _, hn, .inr ⟨_, _, rfl, rfl⟩⟩, fun b' off m cap he j u hu => ?_⟩
  injection he with e1 _ _; injection e1 with e1; injection e1 with e1 e2 _; subst e1 e2
  rw [Nat.zero_add]
  exact h.cell (by simpa using hu)
/-- a row of Members that was laid out by hand -/
def SetL (w : World) (b : Nat) (l : List Mv) : Prop := Row w b 32 (mcells l).toArray ∧ ∀ x ∈ l, NdR w (· < b) x.1.2 x.2.1 x.2.2
theorem SetL.on {w w' : World} {b : Nat} {l : List Mv} (h : SetL w b l) (hb : Below w.heap.size w w') : SetL w' b l :=
  ⟨h.1.below hb h.1.lt, fun x hx => (h.2 x hx).below hb (fun _k hk => Nat.lt_trans hk h.1.lt)⟩
theorem SetL.mb {w : World} {b n : Nat} {l : List Mv} (h : SetL w b l) (hn : l.length = n) (hm : n ≤ 1000000) : MbL w (.slice (some ⟨b, 0, none⟩) n n) l := by
  subst hn
  exact ⟨(rd_row h.1 (mcells_length l) (by unfold maxLen; omega)).mono (fun k e => by rw [e]; exact h.1.lt), fun x hx => (h.2 x hx).mono (fun k hk => Nat.lt_trans hk h.1.lt)⟩
theorem SetL.new {w : World} {l : List Mv} (h : ∀ x ∈ l, NdL w x.1.2 x.2.1 x.2.2) {c : Array Value} (hc : c = (mcells l).toArray) : SetL (w.alloc (.cells c 32)) w.heap.size l := by
  subst hc
  exact ⟨Row.new _ _ _, fun x hx => NdR.below (h x hx) ((Below.refl _ _).alloc (Nat.le_refl _) _) (fun _ hb => hb)⟩
theorem setCell_chg (w : World) (b i : Nat) (v : Value) : Chg (fun k => k = b) w.heap.size w (w.setCell ⟨b, i, none⟩ v) := Chg.setCell (M := fun k => k = b) (.refl _ _ _) (.inr rfl) _
theorem SetL.set {w : World} {b i : Nat} {l l2 : List Mv} {v : Value} (h : SetL w b l) (ha : (mcells l).toArray.setIfInBounds i v = (mcells l2).toArray) (hn : ∀ x ∈ l2, ∃ y ∈ l, y.1.2 = x.1.2 ∧ y.2 = x.2) : SetL (w.setCell ⟨b, i, none⟩ v) b l2 := by
  refine ⟨by rw [← ha]; exact h.1.set i v, fun x hx => ?_⟩
  obtain ⟨y, hy, e1, e2⟩ := hn x hx
  rw [← e1, ← e2]
  exact (h.2 y hy).chg (setCell_chg w b i v) (fun k hk => ⟨Nat.lt_trans hk h.1.lt, fun e => by omega⟩)
/-- a tree at hand that does not lie in b -/
def TrX (b : Nat) (w : World) (T : Nat) (t : List Mb) : Prop := ∃ mb Bk f, TreeIn w T mb Bk f t ∧ T ≠ b ∧ mb ≠ b ∧ ∀ k, Bk k → k < w.heap.size ∧ k ≠ b
theorem TrX.tr {b : Nat} {w : World} {T : Nat} {t : List Mb} (h : TrX b w T t) : TrL w T t := by
  obtain ⟨mb, Bk, f, h1, -, -, h2⟩ := h
  exact ⟨mb, Bk, f, h1, fun k hk => (h2 k hk).1⟩
theorem TrX.on {b : Nat} {w w' : World} {T : Nat} {t : List Mb} (h : TrX b w T t) (hb : Below w.heap.size w w') : TrX b w' T t := by
  obtain ⟨mb, Bk, f, h1, h2, h3, h4⟩ := h
  exact ⟨mb, Bk, f, h1.loc (fun b hb' => hb.block b (by
    rcases hb' with rfl | rfl | h
    · exact h1.row.lt
    · exact h1.map.lt
    · exact (h4 b h).1)), h2, h3, fun b hb' => ⟨Nat.lt_of_lt_of_le (h4 b hb').1 hb.size, (h4 b hb').2⟩⟩
theorem TrX.set {b i : Nat} {w : World} {T : Nat} {t : List Mb} {v : Value} (h : TrX b w T t) : TrX b (w.setCell ⟨b, i, none⟩ v) T t := by
  obtain ⟨mb, Bk, f, h1, h2, h3, h4⟩ := h
  have hc := setCell_chg w b i v
  exact ⟨mb, Bk, f, h1.loc (fun k hk => by
    rcases hk with rfl | rfl | h
    · exact hc.block _ h1.row.lt h2
    · exact hc.block _ h1.map.lt h3
    · exact hc.block _ (h4 _ h).1 (h4 _ h).2), h2, h3, fun k hk => ⟨Nat.lt_of_lt_of_le (h4 k hk).1 hc.size, (h4 k hk).2⟩⟩
theorem TrL.x {w : World} {T : Nat} {t : List Mb} (h : TrL w T t) {b : Nat} (hb : w.heap.size ≤ b) : TrX b w T t := by
  obtain ⟨mb, Bk, f, h1, h2⟩ := h
  exact ⟨mb, Bk, f, h1, by have := h1.row.lt; omega, by have := h1.map.lt; omega, fun k hk => ⟨h2 k hk, by have := h2 k hk; omega⟩⟩
theorem TrX.ofNew {w w' : World} {pv : Value} {t : List Mb} (h : NewIs w w' pv (some t)) {b : Nat} (hb : b < w.heap.size) : ∃ T, pv = .pointer (some ⟨T, 0, none⟩) ∧ TrX b w' T t := by
  obtain ⟨T, mb, Bk, f, he, h1, h2, h3, h4⟩ := h
  exact ⟨T, he, mb, Bk, f, h1, by omega, by omega, fun k hk => ⟨(h4 k hk).2, by have := (h4 k hk).1; omega⟩⟩
theorem new_tr {w : World} {v : Value} {l : List Mv} (B : Nat) (hT : Tabs B w) (hr : MbL w v l) (hs : ∀ x ∈ l, Sm x.1) (hl : l.length ≤ 1000000) {t : List Mb} (ht : newT (l.map (·.1)) = (0, some t)) :
    Calls Tryz.prog 8 #[v] w fun e w' => ∃ T, e = .returned (.tuple #[.pointer (some ⟨T, 0, none⟩), .int .i64 0]) ∧ TrL w' T t ∧ Below w.heap.size w w' := by
  have h := new_tree v l B w hT hr hs hl
  rw [ht] at h
  refine h.mono ?_
  rintro e w' ⟨⟨pv, rfl, hn⟩, hb⟩
  obtain ⟨T, rfl, h1⟩ := TrL.ofNew hn
  exact ⟨T, rfl, h1, hb⟩
theorem apply_tr {w : World} {T : Nat} {A : List Mb} {v : Value} {l : List Mv} (B : Nat) (hT : Tabs B w) (h : TrL w T A) (hA : A.length ≤ 100000) (hr : MbL w v l) (hs : ∀ x ∈ l, Sm x.1) (hl : l.length ≤ 100000) {r : List Mb} (hap : applyC A (l.map (·.1)) = (0, some r)) :
    Calls Tryz.prog 12 #[.pointer (some ⟨T, 0, none⟩), v] w fun e w' => ∃ U, e = .returned (.tuple #[.pointer (some ⟨U, 0, none⟩), .int .i64 0]) ∧ TrL w' U r ∧ (∀ b, b < w.heap.size → TrX b w' U r) ∧ Below w.heap.size w w' := by
  obtain ⟨mb, Bk, f, h1, h2⟩ := h
  have h := apply_any T mb Bk f A v l B w hT h1 h2 hA hr hs hl
  rw [hap] at h
  refine h.mono ?_
  rintro e w' ⟨⟨pv, rfl, hn⟩, hb⟩
  obtain ⟨U, rfl, h1⟩ := TrL.ofNew hn
  refine ⟨U, rfl, h1, fun b hb' => ?_, hb⟩
  obtain ⟨U', he, h3⟩ := TrX.ofNew hn hb'
  injection he with he; injection he with he; injection he with he _ _; subst he
  exact h3
theorem get_tr {w : World} {T : Nat} {L : List Mb} (h : TrL w T L) (p : Tx) (hp : p.length ≤ 1000000) {kind mode uid gid time : Int} {attrs : List R2} {data link : Tx} {is : Bool} (hg : getT L p = (⟨kind, mode, uid, gid, time, attrs, data, link⟩, is)) :
    Calls Tryz.prog 48 #[.pointer (some ⟨T, 0, none⟩), .string ⟨p.toArray⟩] w fun e w' => ∃ aa la ca ad ld cd, e = .returned (.tuple #[.agg #[.int .i64 kind, .int .u32 mode, .int .u32 uid, .int .u32 gid, .int .i64 time, .slice aa la ca, .slice ad ld cd, .string ⟨link.toArray⟩], .bool is]) ∧ NdL w' ⟨kind, mode, uid, gid, time, attrs, data, link⟩ (.slice aa la ca) (.slice ad ld cd) ∧ Below w.heap.size w w' := by
  obtain ⟨mb, Bk, f, h1, h2⟩ := h
  have h := get_tree T mb Bk f L w h1 h2 p hp
  rw [hg] at h
  refine h.mono ?_
  rintro e w' ⟨av, dv, rfl, hn, hb⟩
  obtain ⟨aa, la, ca, ad, ld, cd, e1, e2⟩ := hn.shape
  subst e1 e2
  exact ⟨aa, la, ca, ad, ld, cd, rfl, hn.mono (fun _ h => h.2), hb⟩
end Go.Proofs.YtplafpokgpolkaaGreatDoor
/- portolanlaw19.ChangeLocal: its question, and what is above. -/
namespace Go.Proofs.YtplafpokgpolkaaGreatDoor
open Go.RowKit
theorem ent_loc1 : ∀ args w, (callFunc 47 args).run Tryz.prog w = .ok (.enter 47 args) w := enters_of Tryz.func47 (by kernel_rfl) rfl
set_option maxHeartbeats 1000000 in
set_option maxRecDepth 100000 in
theorem loc1_any (x : Mv) (hs : Sm x.1) (hsh : NdS x) (B b12 : Nat) (p : Tx) (_hp : p.length ≤ 1000000) (w : World) (hT : Tabs B w) (hc : w.cell? ⟨b12, 0, none⟩ = some (.string ⟨p.toArray⟩)) :
    Calls Tryz.prog 47 #[.agg (mcell x), .pointer (some ⟨b12, 0, none⟩)] w fun e w' => e = .returned (.bool (hitT (tgt x.1) p)) ∧ Below w.heap.size w w' := by
  obtain ⟨⟨xp, ⟨kind, mode, uid, gid, time, attrs, data, link⟩⟩, av, dv⟩ := x
  obtain ⟨aa, la, ca, ad, ld, cd, e1, e2⟩ := hsh
  dsimp only at e1 e2 hs
  subst e1 e2
  have hxp := hs.p
  dsimp only at hxp
  have HMC : Keep (mcell ((xp, ⟨kind, mode, uid, gid, time, attrs, data, link⟩), .slice aa la ca, .slice ad ld cd) = #[.string ⟨xp.toArray⟩, .int .i64 kind, .int .u32 mode, .int .u32 uid, .int .u32 gid, .int .i64 time, .slice aa la ca, .slice ad ld cd, .string ⟨link.toArray⟩]) := ⟨rfl⟩
  rw [HMC.out]
  have htgt : tgt (xp, ⟨kind, mode, uid, gid, time, attrs, data, link⟩) = (classP xp).2 := rfl
  rw [htgt]
  have HCL := Keep.keep (fun wx (hb : Below w.heap.size w wx) => class_any xp (by omega) B wx (Nat.le_trans hT.b hb.size) (hT.m.on (hb.mono hT.b)) (hT.c.on (hb.mono hT.b)))
  have htl := tgt_len xp
  obtain ⟨⟨cl, tg⟩, hcp⟩ : ∃ c, classP xp = c := ⟨_, rfl⟩
  rw [hcp] at HCL htl ⊢
  dsimp only at HCL htl ⊢
  have HUN := Keep.keep (fun wx => under_any tg p (by omega) wx)
  have HHT : Keep (hitT tg p = ((tg == p) || underP tg p)) := ⟨by
    have : (p == tg) = (tg == p) := by rw [Bool.eq_iff_iff, beq_iff_eq, beq_iff_eq]; exact eq_comm
    unfold hitT; rw [this]⟩
  obtain ⟨r1, hr1⟩ : ∃ r, (tg == p) = r := ⟨_, rfl⟩
  generalize underP tg p = r2 at *
  generalize hitT tg p = r at *
  rw [hr1] at HHT
  have HC := Keep.keep hc
  have hblt : b12 < w.heap.size := World.block_lt_of_cell? w _ hc
  clear hT hs hcp hc htgt htl
  go_enter Tryz.func47, Tryz.ntmps47
  go_wp2_with fail
  refine calls_at (R := fun wq => Hp NoM w wq [rowA w.heap.size 32 #[.string ⟨xp.toArray⟩, .int .i64 kind, .int .u32 mode, .int .u32 uid, .int .u32 gid, .int .i64 time, .slice aa la ca, .slice ad ld cd, .string ⟨link.toArray⟩]]) ((Hp.begin NoM w).newRow _ _) ?_
  intro w2 H2
  refine (HCL.out w2 H2.out.below).mono ?_
  rintro e w3 ⟨rfl, hb3⟩
  have HB3 := Keep.keep (H2.out.below.trans (hb3.mono H2.out.below.size))
  have c12 : w3.cell? ⟨b12, 0, none⟩ = some (.string ⟨p.toArray⟩) := by
    rw [HB3.out.cell (p := ⟨b12, 0, none⟩) hblt]; exact HC.out
  clear hb3 H2 HCL
  cases r1 with
  | true =>
    have hX : Keep (r = true) := ⟨by rw [HHT.out]; rfl⟩
    go_wp2_with fail
    go_ret
    exact ⟨by rw [hX.out]; rfl, HB3.out⟩
  | false =>
    have hX : Keep (r = r2) := ⟨by rw [HHT.out]; rfl⟩
    go_wp2_with fail
    refine (HUN.out w3).mono ?_
    rintro e w4 ⟨rfl, rfl⟩
    go_wp2_with fail
    go_ret
    exact ⟨by rw [hX.out]; rfl, HB3.out⟩
theorem get_trF {w : World} {T : Nat} {L : List Mb} (h : TrL w T L) (p : Tx) (hp : p.length ≤ 1000000) {kind mode uid gid time : Int} {attrs : List R2} {data link : Tx} {is : Bool} (hg : getT L p = (⟨kind, mode, uid, gid, time, attrs, data, link⟩, is)) :
    Calls Tryz.prog 48 #[.pointer (some ⟨T, 0, none⟩), .string ⟨p.toArray⟩] w fun e w' => ∃ aa la ca ad ld cd, e = .returned (.tuple #[.agg #[.int .i64 kind, .int .u32 mode, .int .u32 uid, .int .u32 gid, .int .i64 time, .slice aa la ca, .slice ad ld cd, .string ⟨link.toArray⟩], .bool is]) ∧ NdR w' (Fresh w.heap.size w') ⟨kind, mode, uid, gid, time, attrs, data, link⟩ (.slice aa la ca) (.slice ad ld cd) ∧ Below w.heap.size w w' := by
  obtain ⟨mb, Bk, f, h1, h2⟩ := h
  have h := get_tree T mb Bk f L w h1 h2 p hp
  rw [hg] at h
  refine h.mono ?_
  rintro e w' ⟨av, dv, rfl, hn, hb⟩
  obtain ⟨aa, la, ca, ad, ld, cd, e1, e2⟩ := hn.shape
  subst e1 e2
  exact ⟨aa, la, ca, ad, ld, cd, rfl, hn, hb⟩
theorem buildNM (p : Tx) (kind mode uid gid time : Int) (aa : Option Addr) (la ca : Nat) (ad : Option Addr) (ld cd : Nat) (link : Tx) (w : World) : (Instr.build 32 #[(0, .string ⟨p.toArray⟩), (1, .agg #[.int .i64 kind, .int .u32 mode, .int .u32 uid, .int .u32 gid, .int .i64 time, .slice aa la ca, .slice ad ld cd, .string ⟨link.toArray⟩])]).run Tryz.prog w = .ok (.agg #[.string ⟨p.toArray⟩, .int .i64 kind, .int .u32 mode, .int .u32 uid, .int .u32 gid, .int .i64 time, .slice aa la ca, .slice ad ld cd, .string ⟨link.toArray⟩]) w := by kernel_rfl
set_option maxHeartbeats 4000000 in
set_option maxRecDepth 100000 in
theorem above19_any {w : World} {T : Nat} {A : List Mb} (h : TrL w T A) (p : Tx) (hp : p.length ≤ 400000) :
    Calls Tryz.prog 51 #[.pointer (some ⟨T, 0, none⟩), .agg #[.string ⟨p.toArray⟩, .int .i64 2, .int .u32 0, .int .u32 0, .int .u32 0, .int .i64 0, .slice none 0 0, .slice none 0 0, .string ⟨#[]⟩]] w fun e w' => ∃ v l, e = .returned v ∧ l.map (·.1) = (aboveP p).map (fun q => (q, (getT A q).1)) ++ [(p, bareN)] ∧ RowM w.heap.size NoM w' v l ∧ Below w.heap.size w w' := by
  have HTR : Keep (∀ wx, Below w.heap.size w wx → TrL wx T A) := ⟨fun wx hb => h.on hb⟩
  have HAB := Keep.keep (fun wx => above_any p (by omega) wx)
  have HPL : Keep (∀ q ∈ aboveP p, q.length ≤ 400000) := ⟨fun q hq => Nat.le_trans (above_len _ _ hq) hp⟩
  have HQL : Keep ((aboveP p).length ≤ 400000) := ⟨Nat.le_trans (abvT_len p p.length) hp⟩
  generalize aboveP p = Q at *
  have HSZM : Keep ((#[.string ⟨p.toArray⟩, .int .i64 2, .int .u32 0, .int .u32 0, .int .u32 0, .int .i64 0, .slice none 0 0, .slice none 0 0, .string ⟨#[]⟩] : Array Value).size = 9) := ⟨rfl⟩
  clear h
  go_enter Tryz.func51, Tryz.ntmps51
  go_wp2_with fail
  refine calls_at (R := fun wq => Hp NoM w wq [rowA w.heap.size 32 #[.string ⟨p.toArray⟩, .int .i64 2, .int .u32 0, .int .u32 0, .int .u32 0, .int .i64 0, .slice none 0 0, .slice none 0 0, .string ⟨#[]⟩]]) ((Hp.begin NoM w).newRow _ _) ?_
  intro w1 H1
  obtain ⟨b3, hb3⟩ : ∃ b, w.heap.size = b := ⟨_, rfl⟩
  have HB1 := Keep.keep H1.out.below
  rw [hb3] at H1 ⊢
  have HR3 := Keep.keep (H1.out.row 0 rfl)
  clear hb3 H1
  refine (HAB.out w1).mono ?_
  rintro e w2 ⟨v2, rfl, ho2, hb2⟩
  have HO2 := Keep.keep ho2
  have HR32 := Keep.keep (HR3.out.below hb2 HR3.out.lt)
  have HB2 := Keep.keep (HB1.out.trans (hb2.mono HB1.out.size))
  have hsz2 : w.heap.size ≤ w2.heap.size := HB2.out.size
  obtain ⟨a2, c2, hv2, -⟩ := (ownsV_reads ho2).shape
  obtain ⟨n2, hn2⟩ : ∃ n, Q.length = n := ⟨_, rfl⟩
  have HN2 := Keep.keep hn2
  have hn2b : n2 ≤ 400000 := by have := HQL.out; omega
  unfold OwnS at HO2
  rw [hn2] at hv2 HO2
  clear ho2 hb2 hn2 HR3
  subst hv2
  go_wp2_with fail
  go_loopg [5, 14] n2 (fun g u5 u14 wx => ∃ (k : Nat) (acc : List Mv), k + g = n2 ∧ u14 = .int .i64 (k : Int) ∧ acc.map (·.1) = (Q.take k).map (fun q => (q, (getT A q).1)) ∧ acc.length = k ∧ RowM w2.heap.size NoM wx u5 acc ∧ Below w2.heap.size w2 wx)
  case atStart => exact ⟨0, [], by omega, rfl, by simp, rfl, RowM.nil _ _ _, Below.refl _ _⟩
  case round =>
    obtain ⟨k, acc, hkg, rfl, hmap, hal, hrow, hb⟩ := hrel
    have HM := Keep.keep hmap; have HR := Keep.keep hrow; have HB := Keep.keep hb; have HAL := Keep.keep hal
    obtain ⟨a5, c5, hu5, -⟩ := (ownsV_reads hrow.own).shape
    rw [hal] at hu5
    have HRB := Keep.keep (HR32.out.below hb HR32.out.lt)
    have HBW := Keep.keep (HB2.out.trans (hb.mono hsz2))
    clear hmap hrow hb hal
    subst hu5
    cases gk with
    | zero =>
      obtain rfl : k = n2 := by omega
      have HMF : Keep (acc.map (·.1) = Q.map (fun q => (q, (getT A q).1))) := ⟨by rw [HM.out, ← HN2.out, List.take_length]⟩
      go_wp2_with (first | ((with_reducible refine arm_loadRow HRB.out aggM HSZM.out ?_ ?_); (focus rfl); simp only [Act.put, List.setIfInBounds_toArray, List.set_cons_succ, List.set_cons_zero]) | (with_reducible refine arm_stop ?_))
      refine Stopped.out ?_
      have hal : Below wr.heap.size wr (wr.alloc (.cells #[.string ⟨p.toArray⟩, .int .i64 2, .int .u32 0, .int .u32 0, .int .u32 0, .int .i64 0, .slice none 0 0, .slice none 0 0, .string ⟨#[]⟩] 32)) := (Below.refl _ _).alloc (Nat.le_refl _) _
      have hrA := HR.out.below hal
      have hws := HB.out.size
      have hm : Mbs (wr.alloc (.cells #[.string ⟨p.toArray⟩, .int .i64 2, .int .u32 0, .int .u32 0, .int .u32 0, .int .i64 0, .slice none 0 0, .slice none 0 0, .string ⟨#[]⟩] 32)) (fun _ => True) NoM (.slice (some ⟨wr.heap.size, 0, none⟩) 1 1) [((p, bareN), nilV, nilV)] :=
        ⟨RdV.new (N := fun _ => True) 32 [.string ⟨p.toArray⟩, .int .i64 2, .int .u32 0, .int .u32 0, .int .u32 0, .int .i64 0, .slice none 0 0, .slice none 0 0, .string ⟨#[]⟩] 9 1 _ rfl rfl (by unfold maxLen; omega) trivial, fun z hz => by
          obtain rfl : z = ((p, bareN), nilV, nilV) := by simpa using hz
          exact ndR_nil rfl rfl⟩
      refine arm_appM (B := w2.heap.size) hrA (by have := hal.size; omega) hm (fun b hb => hb.elim) (by rw [HAL.out]; simp; omega) rfl rfl ?_
      intro v8 w8 hr8 hg8 hov8 hsh8
      obtain ⟨a8, c8, hv8⟩ := hsh8
      have HR8 := Keep.keep hr8
      have HB8 : Keep (Below w2.heap.size w2 w8) := ⟨(HB.out.trans (hal.mono hws)).trans (hrA.chg (by have := hal.size; omega) hg8)⟩
      clear hr8 hg8 hov8 hm hrA hal HR
      subst hv8
      simp only [Act.put, List.setIfInBounds_toArray, List.set_cons_succ, List.set_cons_zero]
      go_wp2_with fail
      go_ret
      exact ⟨_, _, rfl, by rw [List.map_append, HMF.out]; rfl, HR8.out.weak hsz2 (fun b hb => hb.elim False.elim (fun hb => .inr (Nat.le_trans hsz2 hb))), HB2.out.trans (HB8.out.mono hsz2)⟩
    | succ g =>
      have hk : k < n2 := by omega
      have hkQ : k < Q.length := by have := HN2.out; omega
      have hd : decide ((k : Int) < (n2 : Int)) = true := decide_eq_true (by omega)
      have hoX := ownsRow_loc _ _ (fun b hb => HB.out.block b (ownsV_lt HO2.out b hb).2) HO2.out
      obtain ⟨g2, rfl⟩ : ∃ g2, a2 = some ⟨g2, 0, none⟩ := by
        rcases hoX.2 with ⟨h1, h2⟩ | ⟨g', cap', cur, h1, -⟩
        · omega
        · injection h1 with h1; exact ⟨g', h1⟩
      have hc2 := (ownsV_reads hoX).cell g2 0 _ _ rfl k (strV Q[k]) (by simp [hkQ])
      rw [Nat.zero_add] at hc2
      have HTK : Keep ((Q.take (k + 1)).map (fun q => ((q, (getT A q).1) : Mb)) = (Q.take k).map (fun q => (q, (getT A q).1)) ++ [(Q[k], (getT A Q[k]).1)]) := ⟨by
        rw [List.take_succ_eq_append_getElem hkQ, List.map_append]; rfl⟩
      have hql := HPL.out _ (List.getElem_mem hkQ)
      clear hoX
      generalize Q[k] = q at *
      obtain ⟨⟨nd, is⟩, hgt⟩ : ∃ r, getT A q = r := ⟨_, rfl⟩
      obtain ⟨kind, mode, uid, gid, time, attrs, data, link⟩ := nd
      rw [hgt] at HTK
      unfold strV at hc2
      have HGT := Keep.keep (get_trF (HTR.out wr HBW.out) q (by omega) hgt)
      clear hgt
      go_wp2_with fail
      refine HGT.out.mono ?_
      rintro e w3 ⟨aa, la, ca, ad, ld, cd, rfl, hn3, hb3⟩
      have HN3 := Keep.keep hn3
      have HB3 := Keep.keep hb3
      clear hn3 hb3 HGT hc2
      go_upto_region 6 with fail
      refine wp_world (R := fun wq => Hp NoM w3 wq [rowA w3.heap.size 30 #[.int .i64 kind, .int .u32 mode, .int .u32 uid, .int .u32 gid, .int .i64 time, .slice aa la ca, .slice ad ld cd, .string ⟨link.toArray⟩]]) ((Hp.begin NoM w3).newRow _ _) ?_
      intro w4 H4
      obtain ⟨b8, hb8⟩ : ∃ b, w3.heap.size = b := ⟨_, rfl⟩
      have HB4 := Keep.keep (HB3.out.trans (H4.out.below.mono HB3.out.size))
      have HN4 : Keep (NdR w4 (fun b => wr.heap.size ≤ b ∧ b < w4.heap.size) ⟨kind, mode, uid, gid, time, attrs, data, link⟩ (.slice aa la ca) (.slice ad ld cd)) := ⟨(HN3.out.below H4.out.below (fun _ hb => hb.2)).mono (fun b hb => ⟨hb.1, Nat.lt_of_lt_of_le hb.2 H4.out.below.size⟩)⟩
      rw [hb8] at H4 ⊢
      have HR8 := Keep.keep (H4.out.row 0 rfl)
      have HS8 : Keep ((#[.int .i64 kind, .int .u32 mode, .int .u32 uid, .int .u32 gid, .int .i64 time, .slice aa la ca, .slice ad ld cd, .string ⟨link.toArray⟩] : Array Value).size = 8) := ⟨rfl⟩
      have hbl := buildNM q kind mode uid gid time aa la ca ad ld cd link
      clear hb8 H4 HN3 HB3
      go_wp2_with (first | ((with_reducible refine arm_loadRow HR8.out aggN HS8.out ?_ ?_); (focus rfl); simp only [Act.put, List.setIfInBounds_toArray, List.set_cons_succ, List.set_cons_zero]) | (with_reducible refine arm_stop ?_))
      refine Stopped.out ?_
      have hal : Below w4.heap.size w4 (w4.alloc (.cells #[.string ⟨q.toArray⟩, .int .i64 kind, .int .u32 mode, .int .u32 uid, .int .u32 gid, .int .i64 time, .slice aa la ca, .slice ad ld cd, .string ⟨link.toArray⟩] 32)) := (Below.refl _ _).alloc (Nat.le_refl _) _
      have hbA := HB4.out.trans (hal.mono HB4.out.size)
      have hrA := HR.out.below hbA
      have hws := HB.out.size
      have hwA := hbA.size
      have hm : Mbs (w4.alloc (.cells #[.string ⟨q.toArray⟩, .int .i64 kind, .int .u32 mode, .int .u32 uid, .int .u32 gid, .int .i64 time, .slice aa la ca, .slice ad ld cd, .string ⟨link.toArray⟩] 32)) (fun _ => True) (fun b => wr.heap.size ≤ b ∧ b < w4.heap.size) (.slice (some ⟨w4.heap.size, 0, none⟩) 1 1) [((q, ⟨kind, mode, uid, gid, time, attrs, data, link⟩), .slice aa la ca, .slice ad ld cd)] :=
        ⟨RdV.new (N := fun _ => True) 32 [.string ⟨q.toArray⟩, .int .i64 kind, .int .u32 mode, .int .u32 uid, .int .u32 gid, .int .i64 time, .slice aa la ca, .slice ad ld cd, .string ⟨link.toArray⟩] 9 1 _ rfl rfl (by unfold maxLen; omega) trivial, fun z hz => by
          obtain rfl : z = ((q, ⟨kind, mode, uid, gid, time, attrs, data, link⟩), .slice aa la ca, .slice ad ld cd) := by simpa using hz
          exact HN4.out.below hal (fun _ hb => hb.2)⟩
      have hob := World.ownsRow.lt HR.out.own
      refine arm_appM (B := w2.heap.size) hrA (by omega) hm (fun b hb => ⟨.inr (by omega), by have := hal.size; omega, fun e => by have := (hob b e).2; omega⟩) (by rw [HAL.out]; simp; omega) rfl rfl ?_
      intro v8 w8 hr8 hg8 hov8 hsh8
      obtain ⟨a8, c8, hv8⟩ := hsh8
      have HR9 := Keep.keep hr8
      have HB9 : Keep (Below w2.heap.size w2 w8) := ⟨(HB.out.trans (hbA.mono hws)).trans (hrA.chg (by omega) hg8)⟩
      clear hr8 hg8 hov8 hm hrA hal hbA hob HR HR8
      rw [HAL.out] at hv8
      replace hv8 : v8 = .slice a8 (k + 1) c8 := hv8
      rw [hv8] at HR9
      subst hv8
      simp only [Act.put, List.setIfInBounds_toArray, List.set_cons_succ, List.set_cons_zero]
      go_wp2_with fail
      go_roundg g
      case measure => omega
      case rel => exact ⟨k + 1, acc ++ [((q, ⟨kind, mode, uid, gid, time, attrs, data, link⟩), .slice aa la ca, .slice ad ld cd)], by omega, by simp, by rw [List.map_append, HM.out, HTK.out]; rfl, by simp [HAL.out], HR9.out, HB9.out⟩
end Go.Proofs.YtplafpokgpolkaaGreatDoor
/- slices.Equal OVER ATTRIBUTES; two attributes set side by side. -/
namespace Go.Proofs.YtplafpokgpolkaaGreatDoor
open Go.RowKit
set_option maxRecDepth 100000 in
theorem neq_attr (x y : R2) (w : World) : (binOp .neq 97 (.agg #[.string ⟨x.1.toArray⟩, .string ⟨x.2.toArray⟩]) (.agg #[.string ⟨y.1.toArray⟩, .string ⟨y.2.toArray⟩])).run Tryz.prog w = .ok (.bool (!decide (x = y))) w := by
  obtain ⟨k, v⟩ := x
  obtain ⟨l, u⟩ := y
  have h := run_equalIn_struct (P := Tryz.prog) w 9999 97 #[.string ⟨k.toArray⟩, .string ⟨v.toArray⟩] #[.string ⟨l.toArray⟩, .string ⟨u.toArray⟩] (by kernel_rfl) (by kernel_rfl)
  have p0 := run_part_one (P := Tryz.prog) (e := 9) Tryz.underlying9 rfl #[.string ⟨k.toArray⟩, .string ⟨v.toArray⟩] 0 (.string ⟨k.toArray⟩) rfl
  have p1 := run_part_one (P := Tryz.prog) (e := 9) Tryz.underlying9 rfl #[.string ⟨k.toArray⟩, .string ⟨v.toArray⟩] 1 (.string ⟨v.toArray⟩) rfl
  have q0 := run_part_one (P := Tryz.prog) (e := 9) Tryz.underlying9 rfl #[.string ⟨l.toArray⟩, .string ⟨u.toArray⟩] 0 (.string ⟨l.toArray⟩) rfl
  have q1 := run_part_one (P := Tryz.prog) (e := 9) Tryz.underlying9 rfl #[.string ⟨l.toArray⟩, .string ⟨u.toArray⟩] 1 (.string ⟨u.toArray⟩) rfl
  simp only [Program.fieldsOf, Tryz.underlying97] at h
  rw [run_neq_struct]
  have e2 : ∀ (l m : List UInt8) (d : Nat) (w : World), (Op.equalIn (d + 1) 9 (.string ⟨l.toArray⟩) (.string ⟨m.toArray⟩)).run Tryz.prog w = .ok (l == m) w := fun l m d w => by
    rw [run_equalIn_string w d 9 _ _ Tryz.underlying9]
    congr 1
    rw [Bool.eq_iff_iff]
    simp
  have h2 : (Op.equalIn 10000 97 (.agg #[.string ⟨k.toArray⟩, .string ⟨v.toArray⟩]) (.agg #[.string ⟨l.toArray⟩, .string ⟨u.toArray⟩])).run Tryz.prog w = .ok (decide ((k, v) = (l, u))) w := by
    refine h.trans ?_
    by_cases e1 : k = l
    · by_cases e3 : v = u
      · subst e1 e3; simp [Op.eqFields, p0, p1, e2]
      · subst e1; simp [Op.eqFields, p0, p1, q0, q1, e2, e3]
    · simp [Op.eqFields, p0, q0, e2, e1]
  rw [h2]; rfl
set_option maxHeartbeats 1000000 in
set_option maxRecDepth 100000 in
theorem aequal_any (v1 v2 : Value) (l1 l2 : List R2) (w : World) (h1 : RdV w (· < w.heap.size) 2 v1 l1.length (rcells l1)) (h2 : RdV w (· < w.heap.size) 2 v2 l2.length (rcells l2)) :
    Calls Tryz.prog 95 #[v1, v2] w fun e w' => e = .returned (.bool (decide (l1 = l2))) ∧ Below w.heap.size w w' := by
  obtain ⟨a1, c1, rfl, hc1, hm1, g1⟩ := h1.shape
  obtain ⟨a2, c2, rfl, hc2, hm2, g2⟩ := h2.shape
  unfold maxLen at hm1 hm2
  have H1 := Keep.keep h1; have H2 := Keep.keep h2; have G1 := Keep.keep g1; have G2 := Keep.keep g2
  clear h1 h2 g1 g2
  by_cases hl : l1.length = l2.length
  · have HL := Keep.keep hl
    rw [← hl] at H2 hc2 ⊢
    clear hl
    obtain ⟨n, hn⟩ : ∃ n, l1.length = n := ⟨_, rfl⟩
    have HN := Keep.keep hn
    rw [hn] at H1 H2 hc1 hc2 HL ⊢
    clear hn
    go_enter Tryz.func95, Tryz.ntmps95
    go_wp2_with fail
    go_loopg [5, 13] n (fun g _ u13 wx => ∃ (k : Nat), k + g = n ∧ u13 = .int .i64 (k : Int) ∧ l1.take k = l2.take k ∧ Below w.heap.size w wx)
    case atStart => exact ⟨0, by omega, rfl, rfl, Below.refl _ _⟩
    case round =>
      obtain ⟨k, hkg, rfl, heq, hb⟩ := hrel
      have HEQ := Keep.keep heq; have HB := Keep.keep hb
      clear heq hb
      cases gk with
      | zero =>
        obtain rfl : k = n := by omega
        have HF : Keep (decide (l1 = l2) = true) := ⟨by
          have h := HEQ.out
          rw [List.take_of_length_le (by rw [HN.out]; exact Nat.le_refl _), List.take_of_length_le (by rw [← HL.out]; exact Nat.le_refl _)] at h
          exact decide_eq_true h⟩
        go_wp2_with fail
        go_ret
        exact ⟨by rw [HF.out]; rfl, HB.out⟩
      | succ g =>
        have hk : k < n := by omega
        have hk1 : k < l1.length := by rw [HN.out]; exact hk
        have hk2 : k < l2.length := by rw [← HL.out]; exact hk
        have hd : decide ((k : Int) < (n : Int)) = true := decide_eq_true (by omega)
        obtain ⟨b1, o1, rfl, hb1⟩ : ∃ b off, a1 = some ⟨b, off, none⟩ ∧ b < w.heap.size := by
          rcases G1.out with h | ⟨b, off, h, hb⟩
          · omega
          · exact ⟨b, off, h, hb⟩
        obtain ⟨b2, o2, rfl, hb2⟩ : ∃ b off, a2 = some ⟨b, off, none⟩ ∧ b < w.heap.size := by
          rcases G2.out with h | ⟨b, off, h, hb⟩
          · omega
          · exact ⟨b, off, h, hb⟩
        have hr1 := H1.out.below HB.out (fun b hb => hb)
        have hr2 := H2.out.below HB.out (fun b hb => hb)
        obtain ⟨s1, s2⟩ := rcells_get l1 k hk1
        obtain ⟨t1, t2⟩ := rcells_get l2 k hk2
        have x1 := hr1.cell b1 o1 _ _ rfl _ _ s1
        have x2 := hr1.cell b1 o1 _ _ rfl _ _ s2
        have y1 := hr2.cell b2 o2 _ _ rfl _ _ t1
        have y2 := hr2.cell b2 o2 _ _ rfl _ _ t2
        rw [← Nat.add_assoc] at x2 y2
        have HST : Keep (l1[k] = l2[k] → l1.take (k + 1) = l2.take (k + 1)) := ⟨fun e => by rw [List.take_succ_eq_append_getElem hk1, List.take_succ_eq_append_getElem hk2, HEQ.out, e]⟩
        have HNE : Keep (l1[k] ≠ l2[k] → decide (l1 = l2) = false) := ⟨fun e => decide_eq_false (fun h => e (by simp only [h]))⟩
        clear hr1 hr2 s1 s2 t1 t2
        generalize l1[k] = p at *
        generalize l2[k] = q at *
        have hneq := neq_attr p q
        unfold strV at x1 x2 y1 y2
        obtain ⟨pk, pv⟩ := p
        obtain ⟨qk, qv⟩ := q
        dsimp only at x1 x2 y1 y2 hneq
        by_cases e : ((pk, pv) : R2) = (qk, qv)
        · have HE := Keep.keep (HST.out e)
          rw [decide_eq_true e] at hneq
          clear e HST HNE
          go_upto_region 6 with fail
          (refine wp_region_quiet_lit (by kernel_rfl) (by kernel_rfl) ?_); (repeat (first | (fail) | go_big_quiet_step (fail))); (refine wpQuiet_nil ?_); (intro _ hwq); (obtain ⟨nq, hwq⟩ := hwq); (subst hwq)
          go_wp2_with fail
          go_roundg g
          case measure => omega
          case rel => exact ⟨k + 1, by omega, by simp, HE.out, below_drewN' HB.out _⟩
        · have HE := Keep.keep (HNE.out e)
          rw [decide_eq_false e] at hneq
          clear e HST HNE
          go_upto_region 6 with fail
          (refine wp_region_quiet_lit (by kernel_rfl) (by kernel_rfl) ?_); (repeat (first | (fail) | go_big_quiet_step (fail))); (refine wpQuiet_nil ?_); (intro _ hwq); (obtain ⟨nq, hwq⟩ := hwq); (subst hwq)
          go_wp2_with fail
          go_ret
          exact ⟨by rw [HE.out]; rfl, below_drewN' HB.out _⟩
  · have HE : Keep (decide (l1 = l2) = false) := ⟨decide_eq_false (fun e => hl (by rw [e]))⟩
    have hd : ((l1.length : Int) != (l2.length : Int)) = true := by simp; omega
    clear hl
    go_enter Tryz.func95, Tryz.ntmps95
    go_wp2_with fail
    go_ret
    exact ⟨by rw [HE.out]; rfl, Below.refl _ _⟩
end Go.Proofs.YtplafpokgpolkaaGreatDoor
/- A REGION THAT DRAWS ITS ORDER, one fact an operation, each of all slots and of the memory; stores into boxes that the region itself makes. -/
namespace Go.Proofs.YtplafpokgpolkaaGreatDoor
open Go.RowKit
theorem wp_region_spcF {P : Program} {ops : Array Oper} {id : Nat} {Q : Exit → Act → World → Prop} {a : Act} {w : World} (D : List (Option Nat)) (C : (Nat → Value) → World → Prop) (T : Nat → (Nat → Value) → World → Prop) (hm : P.follows .mixedOrders = true)
    (hD : ops.toList.map (·.dst) = D) (hB : inOrderB ops = true) (h0 : C (slot a) w.drew)
    (hs : ∀ i, i < ops.size → ∀ a1 w1, Fr a (D.filterMap (·)) a1 → C (slot a1) w1 → (∀ j, Region.waitsFor .any ops i j = true → T j (slot a1) w1) →
      wpOp P ops Q i (fun a2 w2 => ∃ v, a2 = a1.put (D.getD i none) v ∧ C (slot a2) w2 ∧ T i (slot a2) w2 ∧ ∀ j, j ≠ i → Region.waitsFor .any ops j i = false → T j (slot a1) w1 → T j (slot a2) w2) a1 w1)
    (he : ∀ a1 w1, a1 = (D.filterMap (·)).foldl (fun b d => b.put (some d) (slot a1 d)) a → C (slot a1) w1 → (∀ j, j < ops.size → T j (slot a1) w1) → Q .normal a1 w1) : (Code.region id ops true).wp P Q a w := by
  have hlen : D.length = ops.size := by rw [← hD]; simp
  have hget : ∀ i, i < ops.size → D.getD i none ∈ D := fun i hi => by
    rw [List.getD_eq_getElem?_getD, List.getElem?_eq_getElem (by omega)]
    exact List.getElem_mem _
  refine wp_region_fr (D.filterMap (·)) (fun done s w1 => C s w1 ∧ ∀ j, j < ops.size → done.getD j false = true → T j s w1) hm ⟨h0, fun j hj hd => ?_⟩ ?_ ?_
  · simp [Array.getD_eq_getD_getElem?, hj] at hd
  · intro done a1 w1 hF hI hz hcl i hi
    have hlt := ready_lt hi
    refine wpOp_mono ?_ (hs i hlt a1 w1 hF hI.1 (fun j hj => ?_))
    · rintro a2 w2 ⟨v, rfl, hC2, hT, hst⟩
      have hFr : Fr a (D.filterMap (·)) (a1.put (D.getD i none) v) := by
        cases hd : D.getD i none with
        | none => exact hF
        | some d =>
          refine hF.put d ?_ v
          rw [List.mem_filterMap]
          exact ⟨some d, hd ▸ hget i hlt, rfl⟩
      refine ⟨hFr, hC2, fun j hj hd => ?_⟩
      by_cases e : i = j
      · subst e; exact hT
      · have hd' := (getD_set_iff hd).resolve_left e
        refine hst j (Ne.symm e) ?_ (hI.2 j hj hd')
        rw [Bool.eq_false_iff]
        intro hw
        obtain ⟨ed, he1, he2, he3⟩ := waits_of (Array.getElem?_eq_getElem hj) hw
        have := hcl j _ (Array.getElem?_eq_getElem hj) hd' ed he1 he2
        rw [he3] at this
        have hr := (ready_at hi (Array.getElem?_eq_getElem hlt)).1
        rw [getD_both hr] at this; cases this
    · obtain ⟨e, he1, he2, he3⟩ := waits_of (Array.getElem?_eq_getElem hlt) hj
      have hdn := (ready_at hi (Array.getElem?_eq_getElem hlt)).2 e he1 he2
      rw [he3] at hdn
      have hjlt : j < ops.size := by
        rcases Nat.lt_or_ge j done.size with h | h
        · omega
        · simp [Array.getD_eq_getD_getElem?, Array.getElem?_eq_none h] at hdn
      exact hI.2 j hjlt hdn
  · intro done a1 w1 ha hI hz hr
    exact he a1 w1 ha hI.1 (fun j hj => hI.2 j hj (all_done hB hz hr j hj))
section
variable {P : Program} {ops : Array Oper} {Q : Exit → Act → World → Prop} {C : (Nat → Value) → World → Prop} {T : Nat → (Nat → Value) → World → Prop} {i d : Nat} {a1 : Act} {w1 w2 : World} {op : Op} {tp : TypeId} {pos : String} {af : Array Edge} {g : Option (Nat × Bool)} {v : Value}
theorem spcF_val (hi : ops[i]? = some ⟨some d, op, tp, pos, af, g⟩) (hg : Region.wanted (⟨some d, op, tp, pos, af, g⟩ : Oper) (yielded ops a1.tmps) = true)
    (hr : (execOp a1.eval (⟨some d, op, tp, pos, af, g⟩ : Oper)).run P w1 = .ok (.value v) w2) (hd : d < a1.tmps.size)
    (h : ∀ s : Nat → Value, s d = v → (∀ j, j ≠ d → s j = slot a1 j) → C s w2 ∧ T i s w2 ∧ ∀ j, j ≠ i → Region.waitsFor .any ops j i = false → T j (slot a1) w1 → T j s w2) :
    wpOp P ops Q i (fun a2 w2 => ∃ v, a2 = a1.put (some d) v ∧ C (slot a2) w2 ∧ T i (slot a2) w2 ∧ ∀ j, j ≠ i → Region.waitsFor .any ops j i = false → T j (slot a1) w1 → T j (slot a2) w2) a1 w1 := by
  unfold wpOp
  rw [hi]
  simp only
  rw [if_pos hg]
  refine .inl ?_
  unfold Oper.wp
  rw [hr]
  exact ⟨v, rfl, h _ (slot_put_same _ _ _ hd) (fun j hj => slot_put_ne _ _ _ _ (Ne.symm hj))⟩
theorem spcF_skip (hi : ops[i]? = some ⟨none, op, tp, pos, af, g⟩) (hg : Region.wanted (⟨none, op, tp, pos, af, g⟩ : Oper) (yielded ops a1.tmps) = true)
    (hr : (execOp a1.eval (⟨none, op, tp, pos, af, g⟩ : Oper)).run P w1 = .ok .skip w2)
    (h : C (slot a1) w2 ∧ T i (slot a1) w2 ∧ ∀ j, j ≠ i → Region.waitsFor .any ops j i = false → T j (slot a1) w1 → T j (slot a1) w2) :
    wpOp P ops Q i (fun a2 w2 => ∃ v, a2 = a1.put none v ∧ C (slot a2) w2 ∧ T i (slot a2) w2 ∧ ∀ j, j ≠ i → Region.waitsFor .any ops j i = false → T j (slot a1) w1 → T j (slot a2) w2) a1 w1 := by
  unfold wpOp
  rw [hi]
  simp only
  rw [if_pos hg]
  refine .inl ?_
  unfold Oper.wp
  rw [hr]
  exact ⟨undef, rfl, h⟩
end
end Go.Proofs.YtplafpokgpolkaaGreatDoor
/- bytes.Clone, bytes.Equal, string(b): on what reads as bytes. -/
namespace Go.Proofs.YtplafpokgpolkaaGreatDoor
open Go.RowKit
theorem equal_any (v1 v2 : Value) (l1 l2 : List UInt8) (N1 N2 : Nat → Prop) (w : World) (h1 : Reads w N1 v1 l1) (h2 : Reads w N2 v2 l2) :
    Calls Tryz.prog 94 #[v1, v2] w fun e w' => e = .returned (.bool (l1 == l2)) ∧ w = w' := by
  obtain ⟨a, cap, hu, _⟩ := h1.shape
  obtain ⟨a2, cap2, hu2, _⟩ := h2.shape
  subst hu hu2
  refine (Tryz.bytes_Equal_all a a2 _ _ _ _ (ints l1) (ints l2) w (ints_length _) (ints_length _) h1.bytesIn.2 h2.bytesIn.2).mono ?_
  rintro e w' ⟨rfl, rfl⟩
  exact ⟨by rw [bytesOf_ints, bytesOf_ints], rfl⟩
end Go.Proofs.YtplafpokgpolkaaGreatDoor
/- tar.Same: two Members are the same. -/
namespace Go.Proofs.YtplafpokgpolkaaGreatDoor
open Go.RowKit
/-- the box at slot d: a new row -/
def Bx (n d : Nat) (c : Array Value) (s : Nat → Value) (w : World) : Prop := ∃ b, s d = .pointer (some ⟨b, 0, none⟩) ∧ n ≤ b ∧ Row w b 30 c
def Bx8 (n d : Nat) (s : Nat → Value) (w : World) : Prop := ∃ c, Bx n d c s w ∧ c.size = 8
def twT (n b2 b3 : Nat) (A B : Array Value) : Nat → (Nat → Value) → World → Prop
  | 0, s, _ => s 7 = .pointer (some ⟨b2, 1, none⟩)
  | 1, s, _ => s 8 = .agg A
  | 2, s, _ => s 9 = .pointer (some ⟨b3, 1, none⟩)
  | 3, s, _ => s 10 = .agg B
  | 4, s, w => Bx8 n 5 s w
  | 5, s, w => Bx8 n 6 s w
  | 6, s, w => Bx n 5 A s w
  | 7, s, w => Bx n 6 B s w
  | _, _, _ => True
theorem Bx.keep {n d : Nat} {c : Array Value} {s s' : Nat → Value} {w w' : World} (h : Bx n d c s w) (hs : s' d = s d) (hb : ∀ b, s d = .pointer (some ⟨b, 0, none⟩) → w'.heap[b]? = w.heap[b]?) : Bx n d c s' w' := by
  obtain ⟨b, h1, h2, h3⟩ := h
  exact ⟨b, hs.trans h1, h2, (hb b h1).trans h3⟩
theorem Bx8.keep {n d : Nat} {s s' : Nat → Value} {w w' : World} (h : Bx8 n d s w) (hs : s' d = s d) (hb : ∀ b, s d = .pointer (some ⟨b, 0, none⟩) → w'.heap[b]? = w.heap[b]?) : Bx8 n d s' w' := by
  obtain ⟨c, h1, h2⟩ := h
  exact ⟨c, h1.keep hs hb, h2⟩
theorem Bx.lt {n d : Nat} {c : Array Value} {s : Nat → Value} {w : World} (h : Bx n d c s w) {b : Nat} (hb : s d = .pointer (some ⟨b, 0, none⟩)) : b < w.heap.size := by
  obtain ⟨b', h1, _, h3⟩ := h
  rw [h1] at hb; cases hb
  exact Row.lt h3
theorem Bx8.lt {n d : Nat} {s : Nat → Value} {w : World} (h : Bx8 n d s w) {b : Nat} (hb : s d = .pointer (some ⟨b, 0, none⟩)) : b < w.heap.size := by
  obtain ⟨c, h1, _⟩ := h
  exact h1.lt hb
/-- what holds throughout: two boxes lie apart -/
structure twC (n : Nat) (w : World) (s : Nat → Value) (wx : World) : Prop where
  b : Below w.heap.size w wx
  p : ∀ b, s 5 = .pointer (some ⟨b, 0, none⟩) → n ≤ b ∧ b < wx.heap.size
  q : ∀ b, s 6 = .pointer (some ⟨b, 0, none⟩) → n ≤ b ∧ b < wx.heap.size
  a : ∀ b b', s 5 = .pointer (some ⟨b, 0, none⟩) → s 6 = .pointer (some ⟨b', 0, none⟩) → b ≠ b'
/-- a quiet operation of slot d, or one that makes a new row -/
theorem twT_keep {n b2 b3 : Nat} {A B : Array Value} {s s' : Nat → Value} {w w' : World} (d : Nat) (hs : ∀ j, j ≠ d → s' j = s j) (hw : ∀ b, b < w.heap.size → w'.heap[b]? = w.heap[b]?) (j : Nat) (hj : (j = 0 → d ≠ 7) ∧ (j = 1 → d ≠ 8) ∧ (j = 2 → d ≠ 9) ∧ (j = 3 → d ≠ 10) ∧ (j = 4 ∨ j = 6 → d ≠ 5) ∧ (j = 5 ∨ j = 7 → d ≠ 6)) (h : twT n b2 b3 A B j s w) : twT n b2 b3 A B j s' w' := by
  obtain ⟨j0, j1, j2, j3, j4, j5⟩ := hj
  rcases (by omega : j = 0 ∨ j = 1 ∨ j = 2 ∨ j = 3 ∨ j = 4 ∨ j = 5 ∨ j = 6 ∨ j = 7 ∨ 8 ≤ j) with rfl | rfl | rfl | rfl | rfl | rfl | rfl | rfl | h8
  · exact (hs 7 (Ne.symm (j0 rfl))).trans h
  · exact (hs 8 (Ne.symm (j1 rfl))).trans h
  · exact (hs 9 (Ne.symm (j2 rfl))).trans h
  · exact (hs 10 (Ne.symm (j3 rfl))).trans h
  · have h : Bx8 n 5 s w := h
    exact h.keep (hs 5 (Ne.symm (j4 (.inl rfl)))) (fun b hb => hw b (h.lt hb))
  · have h : Bx8 n 6 s w := h
    exact h.keep (hs 6 (Ne.symm (j5 (.inl rfl)))) (fun b hb => hw b (h.lt hb))
  · have h : Bx n 5 A s w := h
    exact h.keep (hs 5 (Ne.symm (j4 (.inr rfl)))) (fun b hb => hw b (h.lt hb))
  · have h : Bx n 6 B s w := h
    exact h.keep (hs 6 (Ne.symm (j5 (.inr rfl)))) (fun b hb => hw b (h.lt hb))
  · obtain ⟨i, rfl⟩ : ∃ i, j = i + 8 := ⟨j - 8, by omega⟩
    trivial
/-- the first box is written -/
theorem twT_store5 {n b2 b3 b : Nat} {A B c : Array Value} {w0 : World} {s : Nat → Value} {w : World} (hC : twC n w0 s w) (h5 : s 5 = .pointer (some ⟨b, 0, none⟩)) (hrow : Row w b 30 c) (hA : A.size = 8) (j : Nat) (h : twT n b2 b3 A B j s w) : twT n b2 b3 A B j s (w.setRow b A) := by
  have hoth : ∀ k, k ≠ b → (w.setRow b A).heap[k]? = w.heap[k]? := fun k hk => Go.setRow_other w b k A hk
  have h6 : ∀ b', s 6 = .pointer (some ⟨b', 0, none⟩) → (w.setRow b A).heap[b']? = w.heap[b']? := fun b' h' => hoth b' (Ne.symm (hC.a b b' h5 h'))
  rcases (by omega : j = 0 ∨ j = 1 ∨ j = 2 ∨ j = 3 ∨ j = 4 ∨ j = 5 ∨ j = 6 ∨ j = 7 ∨ 8 ≤ j) with rfl | rfl | rfl | rfl | rfl | rfl | rfl | rfl | h8
  · exact h
  · exact h
  · exact h
  · exact h
  · exact ⟨A, ⟨b, h5, (hC.p b h5).1, hrow.setRow A⟩, hA⟩
  · have h : Bx8 n 6 s w := h
    exact h.keep rfl h6
  · exact ⟨b, h5, (hC.p b h5).1, hrow.setRow A⟩
  · have h : Bx n 6 B s w := h
    exact h.keep rfl h6
  · obtain ⟨i, rfl⟩ : ∃ i, j = i + 8 := ⟨j - 8, by omega⟩
    trivial
/-- the second box is written -/
theorem twT_store6 {n b2 b3 b : Nat} {A B c : Array Value} {w0 : World} {s : Nat → Value} {w : World} (hC : twC n w0 s w) (h5 : s 6 = .pointer (some ⟨b, 0, none⟩)) (hrow : Row w b 30 c) (hB : B.size = 8) (j : Nat) (h : twT n b2 b3 A B j s w) : twT n b2 b3 A B j s (w.setRow b B) := by
  have hoth : ∀ k, k ≠ b → (w.setRow b B).heap[k]? = w.heap[k]? := fun k hk => Go.setRow_other w b k B hk
  have h6 : ∀ b', s 5 = .pointer (some ⟨b', 0, none⟩) → (w.setRow b B).heap[b']? = w.heap[b']? := fun b' h' => hoth b' (hC.a b' b h' h5)
  rcases (by omega : j = 0 ∨ j = 1 ∨ j = 2 ∨ j = 3 ∨ j = 4 ∨ j = 5 ∨ j = 6 ∨ j = 7 ∨ 8 ≤ j) with rfl | rfl | rfl | rfl | rfl | rfl | rfl | rfl | h8
  · exact h
  · exact h
  · exact h
  · exact h
  · have h : Bx8 n 5 s w := h
    exact h.keep rfl h6
  · exact ⟨B, ⟨b, h5, (hC.q b h5).1, hrow.setRow B⟩, hB⟩
  · have h : Bx n 5 A s w := h
    exact h.keep rfl h6
  · exact ⟨b, h5, (hC.q b h5).1, hrow.setRow B⟩
  · obtain ⟨i, rfl⟩ : ∃ i, j = i + 8 := ⟨j - 8, by omega⟩
    trivial
/-- a bool is handed back, which tells whether P -/
def SaysB (P : Prop) (e : Ending) : Prop := ∃ r : Bool, e = .returned (.bool r) ∧ (r = true ↔ P)
theorem mb_eq {a b : Mb} : a = b ↔ a.1 = b.1 ∧ a.2.kind = b.2.kind ∧ a.2.mode = b.2.mode ∧ a.2.uid = b.2.uid ∧ a.2.gid = b.2.gid ∧ a.2.time = b.2.time ∧ a.2.link = b.2.link ∧ a.2.data = b.2.data ∧ a.2.attrs = b.2.attrs := by
  obtain ⟨p, ⟨k, m, u, g, t, at_, d, l⟩⟩ := a
  obtain ⟨p', ⟨k', m', u', g', t', at', d', l'⟩⟩ := b
  simp only [Prod.mk.injEq, Nd.mk.injEq]
  constructor
  · rintro ⟨h1, h2, h3, h4, h5, h6, h7, h8, h9⟩; exact ⟨h1, h2, h3, h4, h5, h6, h9, h8, h7⟩
  · rintro ⟨h1, h2, h3, h4, h5, h6, h7, h8, h9⟩; exact ⟨h1, h2, h3, h4, h5, h6, h9, h8, h7⟩
set_option maxHeartbeats 4000000 in
set_option maxRecDepth 100000 in
theorem same_tar (a b : Mb) (av dv bv ev : Value) (w : World) (ha : NdR w (· < w.heap.size) a.2 av dv) (hb : NdR w (· < w.heap.size) b.2 bv ev) :
    Calls Tryz.prog 49 #[.agg (mbC a av dv), .agg (mbC b bv ev)] w fun e w' => SaysB (a = b) e ∧ Below w.heap.size w w' := by
  obtain ⟨aa, la, ca, ad, ld, cd, e1, e2⟩ := ha.shape
  obtain ⟨ba, lb, cb, bd, le, ce, e3, e4⟩ := hb.shape
  subst e1 e2 e3 e4
  have HA := Keep.keep ha; have HB := Keep.keep hb
  have HEQ := Keep.keep (mb_eq (a := a) (b := b))
  clear ha hb
  obtain ⟨ap, ⟨kind, mode, uid, gid, time, attrs, data, link⟩⟩ := a
  obtain ⟨bp, ⟨kind2, mode2, uid2, gid2, time2, attrs2, data2, link2⟩⟩ := b
  unfold mbC strV
  dsimp only at HEQ HA HB ⊢
  obtain ⟨PEQ, hP⟩ : ∃ P : Prop, (((ap, ⟨kind, mode, uid, gid, time, attrs, data, link⟩) : Mb) = (bp, ⟨kind2, mode2, uid2, gid2, time2, attrs2, data2, link2⟩)) = P := ⟨_, rfl⟩
  rw [hP] at HEQ ⊢
  clear hP
  go_enter Tryz.func49, Tryz.ntmps49
  go_upto_region 1 with fail
  refine wp_world (R := fun w1 => Hp NoM w w1 [rowA w.heap.size 32 #[.string ⟨ap.toArray⟩, .int .i64 kind, .int .u32 mode, .int .u32 uid, .int .u32 gid, .int .i64 time, .slice aa la ca, .slice ad ld cd, .string ⟨link.toArray⟩], rowA (w.heap.size + 1) 32 #[.string ⟨bp.toArray⟩, .int .i64 kind2, .int .u32 mode2, .int .u32 uid2, .int .u32 gid2, .int .i64 time2, .slice ba lb cb, .slice bd le ce, .string ⟨link2.toArray⟩]]) ?_ ?_
  · exact ((Hp.begin NoM w).newRow _ _).newRow' _ _ _ _ (by simp) rfl
  intro w1 H1
  obtain ⟨b2, hb2⟩ : ∃ b2, w.heap.size = b2 := ⟨_, rfl⟩
  have HB2 := Keep.keep hb2
  have hsz1 := (H1.out.row 1 rfl).lt
  rw [hb2] at H1 hsz1 ⊢
  clear hb2
  obtain ⟨A, hA⟩ : ∃ A : Array Value, #[.int .i64 kind, .int .u32 mode, .int .u32 uid, .int .u32 gid, .int .i64 time, .slice aa la ca, .slice ad ld cd, .string ⟨link.toArray⟩] = A := ⟨_, rfl⟩
  obtain ⟨C, hC⟩ : ∃ C : Array Value, #[.int .i64 kind2, .int .u32 mode2, .int .u32 uid2, .int .u32 gid2, .int .i64 time2, .slice ba lb cb, .slice bd le ce, .string ⟨link2.toArray⟩] = C := ⟨_, rfl⟩
  refine wp_region_spcF [some 7, some 8, some 9, some 10, some 5, some 6, none, none] (twC w1.heap.size w1) (twT w1.heap.size b2 (b2 + 1) A C) (by kernel_rfl) rfl (by kernel_rfl) ?_ ?_ ?_
  · exact ⟨(Below.refl _ _).drew, fun b h => (by cases h), fun b h => (by cases h), fun b b' h => (by cases h)⟩
  · intro k hk a1 w2 hF hCC hT
    have s2 : a1.eval (.tmp 2) = .pointer (some ⟨b2, 0, none⟩) := (hF.same 2 (by decide)).trans rfl
    have s3 : a1.eval (.tmp 3) = .pointer (some ⟨b2 + 1, 0, none⟩) := (hF.same 3 (by decide)).trans rfl
    have hsz : a1.tmps.size = 72 := hF.size
    have HP := H1.out.call hCC.b
    have hb12 := HP.size
    have hk : k < 8 := hk
    have hoC : C.all (·.oneCell') = true := by rw [← hC]; simp [Value.oneCell']
    have hoA : A.all (·.oneCell') = true := by rw [← hA]; simp [Value.oneCell']
    have hzA : A.size = 8 := by rw [← hA]; rfl
    have hzC : C.size = 8 := by rw [← hC]; rfl
    have hcq : ∀ d, d ≠ 5 → d ≠ 6 → ∀ s : Nat → Value, (∀ j, j ≠ d → s j = slot a1 j) → twC w1.heap.size w1 s w2 := fun d h5 h6 s hs => ⟨hCC.b, fun b h => hCC.p b (by rw [← hs 5 (Ne.symm h5)]; exact h), fun b h => hCC.q b (by rw [← hs 6 (Ne.symm h6)]; exact h), fun b b' h h' => hCC.a b b' (by rw [← hs 5 (Ne.symm h5)]; exact h) (by rw [← hs 6 (Ne.symm h6)]; exact h')⟩
    rcases (by omega : k = 0 ∨ k = 1 ∨ k = 2 ∨ k = 3 ∨ k = 4 ∨ k = 5 ∨ k = 6 ∨ k = 7) with rfl | rfl | rfl | rfl | rfl | rfl | rfl | rfl
    · refine spcF_val (d := 7) rfl (wanted_none rfl) (run_fieldAddr (m := 7) Tryz.underlying32 rfl (by kernel_rfl) s2) (by omega) (fun s hd hs => ⟨hcq 7 (by decide) (by decide) s hs, hd, fun j hj _ h => twT_keep 7 hs (fun _ _ => rfl) j (by omega) h⟩)
    · have hx : a1.eval (.tmp 7) = .pointer (some ⟨b2, 1, none⟩) := hT 0 (by kernel_rfl)
      have HL := Keep.keep (HP)
      exact spcF_val (d := 8) rfl (wanted_none rfl) (run_loadNd (m := (ap, ⟨kind, mode, uid, gid, time, attrs, data, link⟩)) (HL.out.row 0 rfl) hx) (by omega) (fun s hd hs => ⟨hcq 8 (by decide) (by decide) s hs, hd.trans (by rw [← hA]; rfl), fun j hj _ h => twT_keep 8 hs (fun _ _ => rfl) j (by omega) h⟩)
    · exact spcF_val (d := 9) rfl (wanted_none rfl) (run_fieldAddr (m := 7) Tryz.underlying32 rfl (by kernel_rfl) s3) (by omega) (fun s hd hs => ⟨hcq 9 (by decide) (by decide) s hs, hd, fun j hj _ h => twT_keep 9 hs (fun _ _ => rfl) j (by omega) h⟩)
    · have hx : a1.eval (.tmp 9) = .pointer (some ⟨b2 + 1, 1, none⟩) := hT 2 (by kernel_rfl)
      have HL := Keep.keep (HP)
      exact spcF_val (d := 10) rfl (wanted_none rfl) (run_loadNd (m := (bp, ⟨kind2, mode2, uid2, gid2, time2, attrs2, data2, link2⟩)) (HL.out.row 1 rfl) hx) (by omega) (fun s hd hs => ⟨hcq 10 (by decide) (by decide) s hs, hd.trans (by rw [← hC]; rfl), fun j hj _ h => twT_keep 10 hs (fun _ _ => rfl) j (by omega) h⟩)
    · have hws := hCC.b.size
      refine spcF_val (d := 5) (v := .pointer (some ⟨w2.heap.size, 0, none⟩)) (w2 := w2.alloc (.cells zeroNd 30)) rfl (wanted_none rfl) (by simp [execOp, run_newN]) (by omega) (fun s hd hs => ⟨⟨hCC.b.alloc hCC.b.size _, fun b h => ?_, fun b h => ?_, fun b b' h h' => ?_⟩, ⟨zeroNd, ⟨w2.heap.size, hd, hws, Row.new _ _ _⟩, rfl⟩, fun j hj hw h => twT_keep 5 hs (fun b hb => Below.heap_alloc w2 _ b hb) j ?_ h⟩)
      · rw [hd] at h; cases h; simp; omega
      · rw [hs 6 (by decide)] at h
        have := hCC.q b h
        simp; omega
      · rw [hd] at h; cases h
        rw [hs 6 (by decide)] at h'
        have := (hCC.q b' h').2
        omega
      · have h6 : j ≠ 6 := by rintro rfl; exact Bool.false_ne_true (hw.symm.trans (by kernel_rfl))
        omega
    · have hws := hCC.b.size
      refine spcF_val (d := 6) (v := .pointer (some ⟨w2.heap.size, 0, none⟩)) (w2 := w2.alloc (.cells zeroNd 30)) rfl (wanted_none rfl) (by simp [execOp, run_newN]) (by omega) (fun s hd hs => ⟨⟨hCC.b.alloc hCC.b.size _, fun b h => ?_, fun b h => ?_, fun b b' h h' => ?_⟩, ⟨zeroNd, ⟨w2.heap.size, hd, hws, Row.new _ _ _⟩, rfl⟩, fun j hj hw h => ?_⟩)
      · rw [hs 5 (by decide)] at h
        have := hCC.p b h
        simp; omega
      · rw [hd] at h; cases h; simp; omega
      · rw [hd] at h'; cases h'
        rw [hs 5 (by decide)] at h
        have := (hCC.p b h).2
        omega
      · have h7 : j ≠ 7 := by rintro rfl; exact Bool.false_ne_true (hw.symm.trans (by kernel_rfl))
        exact twT_keep 6 hs (fun b hb => Below.heap_alloc w2 _ b hb) j (by omega) h
    · obtain ⟨c, ⟨b, h5, hnb, hrow⟩, hc8⟩ : Bx8 w1.heap.size 5 (slot a1) w2 := hT 4 (by kernel_rfl)
      have h8 : a1.eval (.tmp 8) = .agg A := hT 1 (by kernel_rfl)
      have hx : a1.eval (.tmp 5) = .pointer (some ⟨b, 0, none⟩) := h5
      have hst := hrow.storeAt (P := Tryz.prog) 30 A (by rw [hzA]; exact aggN.i) (by rw [hzA, hc8]) hoA
      refine spcF_skip (w2 := w2.setRow b A) rfl (wanted_none rfl) (by unfold execOp; simp only [hx, h8, Sem.run_bind, Sem.run_pure, Result.andThen_ok, hst]) ⟨⟨(Chg.setRow (M := NoM) (.of_below hCC.b) (.inl hnb) A).below (fun _ _ h => h), fun b' h => ?_, fun b' h => ?_, hCC.a⟩, ⟨b, h5, hnb, hrow.setRow A⟩, fun j hj hw h => twT_store5 hCC h5 hrow hzA j h⟩
      · have := hCC.p b' h; exact ⟨this.1, by have := (Chg.setRow (M := fun x => x = b) (.refl _ 0 w2) (.inr rfl) A).size; omega⟩
      · have := hCC.q b' h; exact ⟨this.1, by have := (Chg.setRow (M := fun x => x = b) (.refl _ 0 w2) (.inr rfl) A).size; omega⟩
    · obtain ⟨c, ⟨b, h5, hnb, hrow⟩, hc8⟩ : Bx8 w1.heap.size 6 (slot a1) w2 := hT 5 (by kernel_rfl)
      have h8 : a1.eval (.tmp 10) = .agg C := hT 3 (by kernel_rfl)
      have hx : a1.eval (.tmp 6) = .pointer (some ⟨b, 0, none⟩) := h5
      have hst := hrow.storeAt (P := Tryz.prog) 30 C (by rw [hzC]; exact aggN.i) (by rw [hzC, hc8]) hoC
      refine spcF_skip (w2 := w2.setRow b C) rfl (wanted_none rfl) (by unfold execOp; simp only [hx, h8, Sem.run_bind, Sem.run_pure, Result.andThen_ok, hst]) ⟨⟨(Chg.setRow (M := NoM) (.of_below hCC.b) (.inl hnb) C).below (fun _ _ h => h), fun b' h => ?_, fun b' h => ?_, hCC.a⟩, ⟨b, h5, hnb, hrow.setRow C⟩, fun j hj hw h => twT_store6 hCC h5 hrow hzC j h⟩
      · have := hCC.p b' h; exact ⟨this.1, by have := (Chg.setRow (M := fun x => x = b) (.refl _ 0 w2) (.inr rfl) C).size; omega⟩
      · have := hCC.q b' h; exact ⟨this.1, by have := (Chg.setRow (M := fun x => x = b) (.refl _ 0 w2) (.inr rfl) C).size; omega⟩
  · intro a1 w2 ha hCC hT
    have t7 : slot a1 7 = .pointer (some ⟨b2, 1, none⟩) := hT 0 (by decide)
    have t8 : slot a1 8 = .agg A := hT 1 (by decide)
    have t9 : slot a1 9 = .pointer (some ⟨b2 + 1, 1, none⟩) := hT 2 (by decide)
    have t10 : slot a1 10 = .agg C := hT 3 (by decide)
    obtain ⟨b5, t5, _, r5⟩ : Bx w1.heap.size 5 A (slot a1) w2 := hT 6 (by decide)
    obtain ⟨b6, t6, _, r6⟩ : Bx w1.heap.size 6 C (slot a1) w2 := hT 7 (by decide)
    have H2 := H1.out.call hCC.b
    have m20 := (H2.row 0 rfl).cell (i := 0) rfl
    have m30 := (H2.row 1 rfl).cell (i := 0) rfl
    have HA2 := Keep.keep (HA.out.below H2.below (fun b hb => hb))
    have HB3 := Keep.keep (HB.out.below H2.below (fun b hb => hb))
    have HBL := Keep.keep H2.below
    rw [← hA] at r5
    rw [← hC] at r6
    have x0 := r5.cell (i := 0) rfl
    have x1 := r5.cell (i := 1) rfl
    have x2 := r5.cell (i := 2) rfl
    have x3 := r5.cell (i := 3) rfl
    have x4 := r5.cell (i := 4) rfl
    have x5 := r5.cell (i := 5) rfl
    have x6 := r5.cell (i := 6) rfl
    have x7 := r5.cell (i := 7) rfl
    have y0 := r6.cell (i := 0) rfl
    have y1 := r6.cell (i := 1) rfl
    have y2 := r6.cell (i := 2) rfl
    have y3 := r6.cell (i := 3) rfl
    have y4 := r6.cell (i := 4) rfl
    have y5 := r6.cell (i := 5) rfl
    have y6 := r6.cell (i := 6) rfl
    have y7 := r6.cell (i := 7) rfl
    simp only [List.filterMap_cons, List.filterMap_nil, List.foldl_cons, List.foldl_nil, t5, t6, t7, t8, t9, t10] at ha
    clear hT t5 t6 t7 t8 t9 t10 r5 r6 hCC H2 hA hC
    subst ha
    simp only [Act.put, List.setIfInBounds_toArray, List.set_cons_succ, List.set_cons_zero]
    go_wp2_with fail
    rotate_left
    all_goals try (
      go_ret
      refine ⟨⟨false, rfl, ⟨fun h => (by cases h), fun h => ?_⟩⟩, HBL.out⟩
      obtain ⟨e1, e2, e3, e4, e5, e6, e7, e8, e9⟩ := HEQ.out.1 h
      contradiction)
    have HE : Keep (ap = bp ∧ kind = kind2 ∧ mode = mode2 ∧ uid = uid2 ∧ gid = gid2 ∧ time = time2 ∧ link = link2) := ⟨⟨by assumption, by assumption, by assumption, by assumption, by assumption, by assumption, by assumption⟩⟩
    have hle := HBL.out.size
    refine (equal_any _ _ _ _ _ _ w2 HA2.out.dt HB3.out.dt).mono ?_
    rintro e w3 ⟨rfl, rfl⟩
    by_cases hdt : data = data2
    · have HD := Keep.keep hdt
      have hbd : (data == data2) = true := by simpa using hdt
      rw [hbd]
      clear hdt hbd
      go_wp2_with fail
      refine (aequal_any _ _ _ _ w2 (HA2.out.at_.mono (fun b hb => Nat.lt_of_lt_of_le hb hle)) (HB3.out.at_.mono (fun b hb => Nat.lt_of_lt_of_le hb hle))).mono ?_
      rintro e w4 ⟨rfl, hb4⟩
      have HB4 := Keep.keep (HBL.out.trans (hb4.mono hle))
      have HR : Keep (decide (attrs = attrs2) = true ↔ PEQ) := ⟨by
        rw [decide_eq_true_eq, HEQ.out]
        exact ⟨fun h => ⟨HE.out.1, HE.out.2.1, HE.out.2.2.1, HE.out.2.2.2.1, HE.out.2.2.2.2.1, HE.out.2.2.2.2.2.1, HE.out.2.2.2.2.2.2, HD.out, h⟩, fun h => h.2.2.2.2.2.2.2.2⟩⟩
      clear hb4
      generalize decide (attrs = attrs2) = rb at *
      go_wp2_with fail
      go_ret
      exact ⟨⟨rb, rfl, HR.out⟩, HB4.out⟩
    · have hbd : (data == data2) = false := by simpa using hdt
      have HD := Keep.keep hdt
      rw [hbd]
      clear hdt hbd
      go_wp2_with fail
      go_ret
      exact ⟨⟨false, rfl, ⟨fun h => (by cases h), fun h => (HD.out (HEQ.out.1 h).2.2.2.2.2.2.2.1).elim⟩⟩, HBL.out⟩
end Go.Proofs.YtplafpokgpolkaaGreatDoor
/- tree.Same: two trees are the same. -/
namespace Go.Proofs.YtplafpokgpolkaaGreatDoor
open Go.RowKit
theorem srt_sub {L K : List Mb} (h : SM.Srt L) (k : SM.Srt K) (hs : ∀ p n, SM.look L p = some n → SM.look K p = some n) (hl : L.length = K.length) : L = K := by
  have e : K.filter (fun x => (SM.look L x.1).isSome) = L := by
    refine SM.Srt.ext (k.filter _) h (fun p => ?_)
    rw [k.look_filter (fun p => (SM.look L p).isSome)]
    cases hp : SM.look L p with
    | none => simp
    | some n => simp [hs p n hp]
  have e2 : K.filter (fun x => (SM.look L x.1).isSome) = K := by
    refine List.filter_eq_self.2 ?_
    refine List.length_filter_eq_length_iff.1 ?_
    rw [e, hl]
  rw [← e, e2]
set_option maxHeartbeats 4000000 in
set_option maxRecDepth 100000 in
theorem same_tree (T mb : Nat) (Bk : Nat → Prop) (f : Tx → Value × Value) (L : List Mb) (T2 m2 : Nat) (Bk2 : Nat → Prop) (f2 : Tx → Value × Value) (L2 : List Mb) (w : World) (h : TreeIn w T mb Bk f L) (hBk : ∀ b, Bk b → b < w.heap.size) (h2 : TreeIn w T2 m2 Bk2 f2 L2) (hBk2 : ∀ b, Bk2 b → b < w.heap.size) (_hL : L.length ≤ 100000) :
    Calls Tryz.prog 18 #[.pointer (some ⟨T, 0, none⟩), .pointer (some ⟨T2, 0, none⟩)] w fun e w' => SaysB (L = L2) e ∧ Below w.heap.size w w' := by
  have HT := Keep.keep h; have HBK := Keep.keep hBk
  have HT2 := Keep.keep h2; have HBK2 := Keep.keep hBk2
  have HN := Keep.keep (none_ok T mb w h.row)
  have HN2 := Keep.keep (none_ok T2 m2 w h2.row)
  have hmbw := h.map.lt
  have hTw := h.row.lt
  have hm2w := h2.map.lt
  have hT2w := h2.row.lt
  have HEQ : Keep (∀ p n, SM.look L p = some n → SM.look L2 p ≠ some n → L ≠ L2) := ⟨fun p n h1 h2 e => h2 (by rw [← e]; exact h1)⟩
  have HLE : Keep (L.length ≠ L2.length → L ≠ L2) := ⟨fun h e => h (by rw [e])⟩
  have HSB : Keep (L.length = L2.length → (∀ p n, SM.look L p = some n → SM.look L2 p = some n) → L = L2) := ⟨fun hl hs => srt_sub h.srt h2.srt hs hl⟩
  clear h hBk h2 hBk2
  obtain ⟨P, hP⟩ : ∃ P : Prop, (L = L2) = P := ⟨_, rfl⟩
  rw [hP] at HSB ⊢
  have HP : Keep (P ↔ L = L2) := ⟨by rw [hP]⟩
  clear hP
  go_enter Tryz.func18, Tryz.ntmps18
  go_wp2_with fail
  refine HN.out.mono ?_
  rintro e w' ⟨rfl, rfl⟩
  go_wp2_with fail
  refine HN2.out.mono ?_
  rintro e w' ⟨rfl, rfl⟩
  have cT := HT.out.row.cell (i := 0) rfl
  have cT2 := HT2.out.row.cell (i := 0) rfl
  have e1 : (entries f L).length = L.length := by simp [entries]
  have e2 : (entries f2 L2).length = L2.length := by simp [entries]
  have hlen := fun n => (HT.out.map.loc (w' := w.drewN n) rfl).len Tryz.underlying84 3
  have hlen2 := fun n => (HT2.out.map.loc (w' := w.drewN n) rfl).len Tryz.underlying84 3
  rw [e1] at hlen
  rw [e2] at hlen2
  have HE1 := Keep.keep e1
  clear e1 e2 HN HN2
  go_upto_region 3 with fail
  (refine wp_region_quiet_lit (by kernel_rfl) (by kernel_rfl) ?_); (repeat (first | (fail) | go_big_quiet_step (fail))); (refine wpQuiet_nil ?_); (intro _ hwq); (obtain ⟨nq, hwq⟩ := hwq); (subst hwq)
  by_cases hl : L.length = L2.length
  · have hne : ((L.length : Int) != (L2.length : Int)) = false := by simp [hl]
    have HL := Keep.keep hl
    simp only [hne]
    clear hl hlen hlen2 cT cT2 hne
    have hb1 := below_drewN' (Below.refl w.heap.size w) nq
    generalize w.drewN nq = w1 at *
    have HB1 := Keep.keep hb1
    have hs1 := hb1.size
    have HTX : Keep (∀ wx, Below w.heap.size w wx → TreeIn wx T mb Bk f L) := ⟨fun wx hb => HT.out.loc (fun b hb' => hb.block b (by
      rcases hb' with rfl | rfl | h
      · exact hTw
      · exact hmbw
      · exact HBK.out b h))⟩
    have HTY : Keep (∀ wx, Below w.heap.size w wx → TreeIn wx T2 m2 Bk2 f2 L2) := ⟨fun wx hb => HT2.out.loc (fun b hb' => hb.block b (by
      rcases hb' with rfl | rfl | h
      · exact hT2w
      · exact hm2w
      · exact HBK2.out b h))⟩
    have cT := (HTX.out w1 hb1).row.cell (i := 0) rfl
    have HM := Keep.keep (HTX.out w1 hb1).map
    clear hb1
    go_wp2_with (first | (with_reducible refine arm_sRange ?_) | (with_reducible refine arm_sNext ?_) | (with_reducible refine arm_sDel ?_) | (with_reducible refine arm_sPut ?_) | (with_reducible refine arm_sIns ?_))
    refine StM.out ?_
    refine arm_rangeS Tryz.underlying9 Tryz.underlying84 HM.out rfl ?_
    intro w3 hrg hb3 hs3
    obtain ⟨r, hr⟩ : ∃ r, w1.heap.size = r := ⟨_, rfl⟩
    have hwr : w.heap.size ≤ r := by omega
    have HB3 := Keep.keep (HB1.out.trans (hb3.mono hs1))
    rw [hr] at hrg ⊢
    rw [HE1.out] at hrg
    have HRG := Keep.keep hrg
    clear hrg hb3 hs3 hr cT HM
    simp only [Act.put, List.setIfInBounds_toArray, List.set_cons_succ, List.set_cons_zero]
    go_wp2_with fail
    go_loopg [5] L.length (fun g _ wx => ∃ (todo : Tx → Bool), RgS wx 9 mb r (entries f L) todo g ∧ (∀ p n, SM.look L p = some n → todo p = false → SM.look L2 p = some n) ∧ Below w.heap.size w wx)
    case atStart =>
      refine ⟨_, HRG.out, fun p n h1 h2 => ?_, HB3.out⟩
      rw [look_entries, h1] at h2
      simp at h2
    case round =>
      obtain ⟨todo, hrg, hok, hb⟩ := hrel
      have HRG2 := Keep.keep hrg; have HOK := Keep.keep hok; have HB := Keep.keep hb
      clear hrg hok hb HRG HB3
      go_wp2_with (first | (with_reducible refine arm_sRange ?_) | (with_reducible refine arm_sNext ?_) | (with_reducible refine arm_sDel ?_) | (with_reducible refine arm_sPut ?_) | (with_reducible refine arm_sIns ?_))
      refine StM.out ?_
      refine arm_nextS Tryz.underlying9 HRG2.out rfl ?_ ?_
      · intro h0 hall
        have HF : Keep P := ⟨HP.out.2 (by
          have := HSB.out HL.out (fun p n h => HOK.out p n h (hall p))
          exact HP.out.1 this)⟩
        clear h0 hall
        simp only [Act.put, List.setIfInBounds_toArray, List.set_cons_succ, List.set_cons_zero]
        go_wp2_with fail
        go_ret
        exact ⟨⟨true, rfl, ⟨fun _ => HF.out, fun _ => rfl⟩⟩, HB.out⟩
      · intro p v w4 cnt' h1 h2 h3 h4 h5 h6 hen
        obtain ⟨n, hln, hve⟩ : ∃ n, SM.look L p = some n ∧ v = .agg (ndC n (f p).1 (f p).2) := by
          rw [look_entries] at h2
          cases hl : SM.look L p with
          | none => rw [hl] at h2; cases h2
          | some n => rw [hl] at h2; injection h2 with h2; exact ⟨n, rfl, h2.symm⟩
        have HB4 : Keep (Below w.heap.size w w4) := ⟨HB.out.trans ((h5.lower HB.out.size).below (fun k hk e => by omega))⟩
        have hmem := SM.look_mem hln
        have HNX := Keep.keep ((HTX.out w4 HB4.out).nd _ hmem)
        have HSX := Keep.keep (HT.out.sm _ hmem)
        obtain ⟨aa, la, ca, ad, ld, cd, e1, e2⟩ := HNX.out.shape
        dsimp only at e1 e2 HNX
        rw [e1, e2] at HNX hve
        have HRG4 := Keep.keep h3
        have HLN := Keep.keep hln
        have HSH := Keep.keep (And.intro e1 e2)
        have HTD := Keep.keep h1
        clear h1 h2 h3 h5 h6 e1 e2 HRG2 hmem
        subst hve
        have hlt4 := HRG4.out.lt
        have HNC : Keep (ndC n (.slice aa la ca) (.slice ad ld cd) = #[.int .i64 n.kind, .int .u32 n.mode, .int .u32 n.uid, .int .u32 n.gid, .int .i64 n.time, .slice aa la ca, .slice ad ld cd, .string ⟨n.link.toArray⟩]) := ⟨rfl⟩
        rw [HNC.out] at hen ⊢
        simp only [Act.put, List.setIfInBounds_toArray, List.set_cons_succ, List.set_cons_zero]
        go_upto_region 8 with fail
        refine wp_world (R := fun w5 => Below w.heap.size w w5 ∧ RgS w5 9 mb r (entries f L) (fun q => todo q && q != p) cnt' ∧ Row w5 w4.heap.size 30 #[.int .i64 n.kind, .int .u32 n.mode, .int .u32 n.uid, .int .u32 n.gid, .int .i64 n.time, .slice aa la ca, .slice ad ld cd, .string ⟨n.link.toArray⟩]) ⟨HB4.out.alloc HB4.out.size _, HRG4.out.loc (Below.heap_alloc _ _ _ hlt4.1) (Below.heap_alloc _ _ _ hlt4.2.1), Row.new _ _ _⟩ ?_
        intro w5 H5
        obtain ⟨b6, hb6⟩ : ∃ b6, w4.heap.size = b6 := ⟨_, rfl⟩
        rw [hb6] at H5 ⊢
        have hT5 := HTY.out w5 H5.out.1
        have c2 := hT5.row.cell (i := 0) rfl
        have hlk := hT5.map.lookOk Tryz.underlying9 Tryz.underlying84 (zeroN w5) (p := p) (by have := HSX.out.p; dsimp only at this; unfold maxLen; omega)
        have HND2 := Keep.keep hT5.nd
        have hb6lt := H5.out.2.2.lt
        rw [look_entries] at hlk
        clear hen HRG4 HB4 HNX hT5
        cases hl2 : SM.look L2 p with
        | none =>
          have HNE := Keep.keep (HEQ.out p n HLN.out (by rw [hl2]; simp))
          rw [hl2] at hlk
          replace hlk : (Instr.lookup 84 (.map (some m2)) (.string ⟨p.toArray⟩) true).run Tryz.prog w5 = .ok (.tuple #[.agg #[.int .i64 0, .int .u32 0, .int .u32 0, .int .u32 0, .int .i64 0, .slice none 0 0, .slice none 0 0, .string ⟨#[]⟩], .bool false]) w5 := hlk
          clear hl2
          go_wp2_with fail
          go_ret
          exact ⟨⟨false, rfl, ⟨fun h => (by cases h), fun h => (HNE.out (HP.out.1 h)).elim⟩⟩, H5.out.1.alloc H5.out.1.size _⟩
        | some m =>
          have hnm := HND2.out _ (SM.look_mem hl2)
          obtain ⟨ba, lb, cb, bd, le, ce, e1, e2⟩ := hnm.shape
          dsimp only at e1 e2 hnm
          rw [hl2] at hlk
          replace hlk : (Instr.lookup 84 (.map (some m2)) (.string ⟨p.toArray⟩) true).run Tryz.prog w5 = .ok (.tuple #[.agg (ndC m (f2 p).1 (f2 p).2), .bool true]) w5 := hlk
          rw [e1, e2] at hnm hlk
          replace hlk : (Instr.lookup 84 (.map (some m2)) (.string ⟨p.toArray⟩) true).run Tryz.prog w5 = .ok (.tuple #[.agg #[.int .i64 m.kind, .int .u32 m.mode, .int .u32 m.uid, .int .u32 m.gid, .int .i64 m.time, .slice ba lb cb, .slice bd le ce, .string ⟨m.link.toArray⟩], .bool true]) w5 := hlk
          have HNM := Keep.keep hnm
          have HL2 := Keep.keep hl2
          have HS2 := Keep.keep (And.intro e1 e2)
          clear hl2 hnm e1 e2
          go_upto_region 9 with fail
          refine wp_world (R := fun w9 => Below w5.heap.size w5 w9 ∧ Row w9 w5.heap.size 30 #[.int .i64 m.kind, .int .u32 m.mode, .int .u32 m.uid, .int .u32 m.gid, .int .i64 m.time, .slice ba lb cb, .slice bd le ce, .string ⟨m.link.toArray⟩]) ⟨(Below.refl _ _).alloc (Nat.le_refl _) _, Row.new _ _ _⟩ ?_
          intro w9 H9
          obtain ⟨b7, hb7⟩ : ∃ b7, w5.heap.size = b7 := ⟨_, rfl⟩
          rw [hb7] at H9 ⊢
          have HR6 := Keep.keep (H5.out.2.2.below (hb7 ▸ H9.out.1) hb6lt)
          have HR7 := Keep.keep H9.out.2
          have HS6 : Keep ((#[.int .i64 n.kind, .int .u32 n.mode, .int .u32 n.uid, .int .u32 n.gid, .int .i64 n.time, .slice aa la ca, .slice ad ld cd, .string ⟨n.link.toArray⟩] : Array Value).size = 8) := ⟨rfl⟩
          have HS7 : Keep ((#[.int .i64 m.kind, .int .u32 m.mode, .int .u32 m.uid, .int .u32 m.gid, .int .i64 m.time, .slice ba lb cb, .slice bd le ce, .string ⟨m.link.toArray⟩] : Array Value).size = 8) := ⟨rfl⟩
          have HB9 := Keep.keep (H5.out.1.trans ((show Below w5.heap.size w5 w9 from hb7 ▸ H9.out.1).mono H5.out.1.size))
          have hw9 := HB9.out.size
          have hbm1 : ∀ w, (Instr.build 32 #[(0, .string ⟨p.toArray⟩), (1, .agg #[.int .i64 n.kind, .int .u32 n.mode, .int .u32 n.uid, .int .u32 n.gid, .int .i64 n.time, .slice aa la ca, .slice ad ld cd, .string ⟨n.link.toArray⟩])]).run Tryz.prog w = .ok (.agg (mbC (p, n) (.slice aa la ca) (.slice ad ld cd))) w := fun w => by kernel_rfl
          have hbm2 : ∀ w, (Instr.build 32 #[(0, .string ⟨p.toArray⟩), (1, .agg #[.int .i64 m.kind, .int .u32 m.mode, .int .u32 m.uid, .int .u32 m.gid, .int .i64 m.time, .slice ba lb cb, .slice bd le ce, .string ⟨m.link.toArray⟩])]).run Tryz.prog w = .ok (.agg (mbC (p, m) (.slice ba lb cb) (.slice bd le ce))) w := fun w => by kernel_rfl
          have HTS := Keep.keep (same_tar (p, n) (p, m) (.slice aa la ca) (.slice ad ld cd) (.slice ba lb cb) (.slice bd le ce) w9 (by
            have h1 := (HTX.out w9 HB9.out).nd _ (SM.look_mem HLN.out)
            dsimp only at h1
            rw [HSH.out.1, HSH.out.2] at h1
            exact h1.mono (fun b hb => by have := HBK.out b hb; omega)) (by
            have h1 := (HTY.out w9 HB9.out).nd _ (SM.look_mem HL2.out)
            dsimp only at h1
            rw [HS2.out.1, HS2.out.2] at h1
            exact h1.mono (fun b hb => by have := HBK2.out b hb; omega)))
          clear hlk c2
          go_wp2_with (first
            | ((with_reducible refine arm_loadRowG ?_ HR6.out aggN HS6.out ?_ ?_); (focus rfl); (focus rfl); simp only [Act.put, List.setIfInBounds_toArray, List.set_cons_succ, List.set_cons_zero])
            | ((with_reducible refine arm_loadRowG ?_ HR7.out aggN HS7.out ?_ ?_); (focus rfl); (focus rfl); simp only [Act.put, List.setIfInBounds_toArray, List.set_cons_succ, List.set_cons_zero]))
          refine HTS.out.mono ?_
          rintro e w10 ⟨⟨rb, rfl, hrb⟩, hb10⟩
          have HB10 := Keep.keep (HB9.out.trans (hb10.mono hw9))
          have hrg5 := H5.out.2.1.lt
          have HRG10 : Keep (RgS w10 9 mb r (entries f L) (fun q => todo q && q != p) cnt') := ⟨H5.out.2.1.loc (by rw [hb10.block mb (by have := HB9.out.size; omega), H9.out.1.block mb (by omega)]) (by rw [hb10.block r (by have := (hb7 ▸ H9.out.1 : Below w5.heap.size w5 w9).size; omega), H9.out.1.block r (by omega)])⟩
          cases rb with
          | true =>
            have hmn : n = m := by
              have := hrb.1 rfl
              injection this
            have HMN := Keep.keep hmn
            clear hmn hrb hb10
            go_wp2_with fail
            go_roundg cnt'
            case measure => omega
            case rel =>
              refine ⟨_, HRG10.out, fun p' n' h1 h2 => ?_, HB10.out⟩
              by_cases e : p' = p
              · rw [e] at h1 ⊢
                rw [HLN.out] at h1
                rw [HL2.out, ← HMN.out]; exact h1
              · exact HOK.out p' n' h1 (by simpa [e] using h2)
          | false =>
            have HNE := Keep.keep (HEQ.out p n HLN.out (by
              rw [HL2.out]
              intro e
              injection e with e
              have := hrb.2 (by rw [e])
              cases this))
            clear hrb hb10
            go_wp2_with fail
            go_ret
            exact ⟨⟨false, rfl, ⟨fun h => (by cases h), fun h => (HNE.out (HP.out.1 h)).elim⟩⟩, HB10.out⟩
  · have hne : ((L.length : Int) == (L2.length : Int)) = false := by simp; omega
    have HL := Keep.keep hl
    clear hl hlen hlen2
    go_wp2_with fail
    go_ret
    exact ⟨⟨false, rfl, ⟨fun h => (by cases h), fun h => (HLE.out HL.out (HP.out.1 h)).elim⟩⟩, below_drewN' (Below.refl _ _) _⟩
end Go.Proofs.YtplafpokgpolkaaGreatDoor
/- portolanlaw12.Alike: rows of Members set side by side. -/
namespace Go.Proofs.YtplafpokgpolkaaGreatDoor
open Go.RowKit
theorem SaysB.det {P : Prop} {e : Ending} (h : SaysB P e) {r : Bool} (hr : r = true ↔ P) : e = .returned (.bool r) := by
  obtain ⟨r', rfl, h'⟩ := h
  have : r' = r := by rw [Bool.eq_iff_iff, h', hr]
  rw [this]
end Go.Proofs.YtplafpokgpolkaaGreatDoor
/- portolanlaw19.ChangeLocal: calls as the law goes on. -/
namespace Go.Proofs.YtplafpokgpolkaaGreatDoor
open Go.RowKit
theorem same_tr {w : World} {T T2 : Nat} {A B : List Mb} (h1 : TrL w T A) (h2 : TrL w T2 B) (hA : A.length ≤ 100000) (he : A = B) :
    Calls Tryz.prog 18 #[.pointer (some ⟨T, 0, none⟩), .pointer (some ⟨T2, 0, none⟩)] w fun e w' => e = .returned (.bool true) ∧ Below w.heap.size w w' := by
  obtain ⟨mb, Bk, f, h1, h1'⟩ := h1
  obtain ⟨mb2, Bk2, f2, h2, h2'⟩ := h2
  refine (same_tree T mb Bk f A T2 mb2 Bk2 f2 B w h1 h1' h2 h2' hA).mono ?_
  rintro e w' ⟨he', hb⟩
  exact ⟨he'.det ⟨fun _ => he, fun _ => rfl⟩, hb⟩
theorem all_tr {w : World} {T : Nat} {A : List Mb} (h : TrL w T A) (hA : A.length ≤ 100000) :
    Calls Tryz.prog 38 #[.pointer (some ⟨T, 0, none⟩)] w fun e w' => ∃ v l, e = .returned v ∧ l.map (·.1) = A ∧ RowM w.heap.size NoM w' v l ∧ Below w.heap.size w w' := by
  obtain ⟨mb, Bk, f, h1, h2⟩ := h
  refine (all_own T mb Bk f A w hA h1 ⟨h1.row.lt, h1.map.lt, h2⟩).mono ?_
  rintro e w' ⟨v, l, rfl, hl, ho, hb⟩
  exact ⟨v, l, rfl, hl, RowM.ofOwn ho NoM, hb⟩
theorem tree_tr {w : World} {v : Value} {l : List Mv} (B : Nat) (hT : Tabs B w) (hr : MbL w v l) (hk : ∀ x ∈ l, Kb x.1) :
    Calls Tryz.prog 29 #[v] w fun e w' => ∃ T, e = .returned (.pointer (some ⟨T, 0, none⟩)) ∧ TrL w' T (tree19 (l.map (·.1))) ∧ Below w.heap.size w w' := by
  refine (tree19_any B v l w hT hr hk).mono ?_
  rintro e w' ⟨T, mb, Bk, f, rfl, h1, h2, h3⟩
  exact ⟨T, rfl, ⟨mb, Bk, f, h1, fun b hb => (h2.2.2 b hb).2⟩, h3⟩
theorem grown_tr {w : World} {v : Value} {l : List Mv} (hr : MbL w v l) :
    Calls Tryz.prog 40 #[v] w fun e w' => ∃ v' l', e = .returned v' ∧ l'.map (·.1) = grown19 (l.map (·.1)) ∧ MbL w' v' l' ∧ Below w.heap.size w w' := by
  refine (grown19_any v l w hr).mono ?_
  rintro e w' ⟨v', l', rfl, h1, h2, h3⟩
  exact ⟨v', l', rfl, h1, MbL.ofRow h2, h3⟩
/-- change.Apply, whatever it tells -/
theorem applyE_tr {w : World} {T : Nat} {A : List Mb} {v : Value} {l : List Mv} (B : Nat) (hT : Tabs B w) (h : TrL w T A) (hA : A.length ≤ 100000) (hr : MbL w v l) (hs : ∀ x ∈ l, Sm x.1) (hl : l.length ≤ 100000) :
    Calls Tryz.prog 12 #[.pointer (some ⟨T, 0, none⟩), v] w fun e w' => ∃ pv c r, applyC A (l.map (·.1)) = (c, r) ∧ e = .returned (.tuple #[pv, .int .i64 c]) ∧ NewIs w w' pv r ∧ Below w.heap.size w w' := by
  obtain ⟨mb, Bk, f, h1, h2⟩ := h
  refine (apply_any T mb Bk f A v l B w hT h1 h2 hA hr hs hl).mono ?_
  rintro e w' ⟨⟨pv, rfl, hn⟩, hb⟩
  exact ⟨pv, _, _, rfl, rfl, hn, hb⟩
theorem apply_zero {A S : List Mb} {c : Int} {r : Option (List Mb)} (h : applyC A S = (c, r)) (hc : c = 0) : ∃ U, r = some U ∧ applyC A S = (0, some U) ∧ SM.Srt U := by
  subst hc
  have h0 := h
  unfold applyC newT at h
  split at h
  · rename_i hm
    injection h with h1 _
    exact (hm h1).elim
  · split at h
    · cases h
    · split at h
      · cases h
      · split at h
        · cases h
        · split at h
          · cases h
          · injection h with _ h
            exact ⟨_, h.symm, by rw [h0, ← h], growT_srt _⟩
theorem getT_of {U : List Mb} (hU : SM.Srt U) {x : Mb} (hx : x ∈ U) (h0 : x.1 ≠ []) : getT U x.1 = (x.2, true) := by
  unfold getT
  rw [if_neg h0, hU.look.2 hx]
theorem sm_getT {A : List Mb} (hA : ∀ m ∈ A, Sm m) (q : Tx) (hq : q.length ≤ 400000) : Sm (q, (getT A q).1) := by
  unfold getT
  split
  · exact ⟨hq, by simp [ndDir], by simp [ndDir], by simp [ndDir], fun x hx => by simp [ndDir] at hx, by simp [ndDir]⟩
  · cases h : SM.look A q with
    | none => exact ⟨hq, by simp [nd0], by simp [nd0], by simp [nd0], fun x hx => by simp [nd0] at hx, by simp [nd0]⟩
    | some n =>
      have hm : ∃ m ∈ A, m.1 = q ∧ m.2 = n := by
        unfold SM.look at h
        cases hf : A.find? (fun m => m.1 == q) with
        | none => rw [hf] at h; cases h
        | some m => rw [hf] at h; injection h with h; exact ⟨m, List.mem_of_find?_eq_some hf, by simpa using List.find?_some hf, h⟩
      obtain ⟨m, hm, e1, e2⟩ := hm
      have hs := hA m hm
      rw [← e2]
      exact ⟨hq, hs.l, hs.d, hs.a, hs.n, hs.k⟩
theorem TrL.sm {w : World} {T : Nat} {t : List Mb} (h : TrL w T t) : ∀ m ∈ t, Sm m := by
  obtain ⟨mb, Bk, f, h1, -⟩ := h
  exact h1.sm
theorem sm_above {A : List Mb} (hA : ∀ m ∈ A, Sm m) (p : Tx) (hp : p.length ≤ 400000) : ∀ x ∈ (aboveP p).map (fun q => (q, (getT A q).1)) ++ [(p, bareN)], Sm x := fun x hx => by
  rcases List.mem_append.1 hx with hx | hx
  · obtain ⟨q, hq, rfl⟩ := List.mem_map.1 hx
    exact sm_getT hA q (Nat.le_trans (above_len _ _ hq) hp)
  · rw [List.mem_singleton.1 hx]
    exact ⟨hp, by simp [bareN], by simp [bareN], by simp [bareN], fun x hx => by simp [bareN] at hx, by simp [bareN]⟩
theorem sm_mapX {l : List Mv} (h : ∀ x ∈ l.map (·.1), Sm x) : ∀ x ∈ l, Sm x.1 := fun x hx => h _ (List.mem_map.2 ⟨x, hx, rfl⟩)
theorem above_count (p : Tx) : (aboveP p).length ≤ p.length := abvT_len p p.length
end Go.Proofs.YtplafpokgpolkaaGreatDoor
/- portolanlaw19.wakes. -/
namespace Go.Proofs.YtplafpokgpolkaaGreatDoor
open Go.RowKit
def wT : List Mb := [([97], dirM 448), ([97, 47, 120], fileD [49]), ([97, 47, 121], fileD [50]), ([98], fileD [51])]
def wS1 : List Mb := [([97], dirM 493), ([97, 47, 46, 119, 104, 46, 120], fileD []), ([97, 47, 122], fileD [52]), ([98], dirM 0), ([98, 47, 99], fileD [53])]
def wS2 : List Mb := [([97], dirM 493), ([97, 47, 46, 119, 104, 46, 46, 119, 104, 46, 46, 111, 112, 113], fileD []), ([97, 47, 122], fileD [52]), ([98], dirM 0), ([98, 47, 99], fileD [53])]
def wU : List Mb := [([97], dirM 493), ([97, 47, 121], fileD [50]), ([97, 47, 122], fileD [52]), ([98], dirM 0), ([98, 47, 99], fileD [53])]
def wV : List Mb := [([97], dirM 493), ([97, 47, 122], fileD [52]), ([98], dirM 0), ([98, 47, 99], fileD [53])]
set_option maxRecDepth 100000 in
theorem wn1 : newT wT = (0, some wT) := by kernel_rfl
set_option maxRecDepth 100000 in
theorem wa1 : applyC wT wS1 = (0, some wU) := by kernel_rfl
set_option maxRecDepth 100000 in
theorem wa2 : applyC wT wS2 = (0, some wV) := by kernel_rfl
set_option maxRecDepth 100000 in
theorem wg1 : getT wU [97] = (⟨1, 493, 0, 0, 0, [], [], []⟩, true) := by kernel_rfl
set_option maxHeartbeats 8000000 in
set_option maxRecDepth 100000 in
theorem wakes19_any (B : Nat) (w : World) (hT : Tabs B w) : Calls Tryz.prog 20 #[] w fun e w' => e = .returned (.bool true) ∧ Below w.heap.size w w' := by
  have HT := Keep.keep hT
  have HW0 : Keep (Below w.heap.size w w) := ⟨Below.refl _ _⟩
  clear hT
  go_enter Tryz.func20, Tryz.ntmps20
  go_wp2_with fail
  refine (dir_any [97] 448 _).mono ?_
  rintro e w1 ⟨rfl, hb⟩
  have HW1 := Keep.keep (HW0.out.trans (hb.mono HW0.out.size))
  clear hb
  go_wp2_with fail
  refine (file_any [97, 47, 120] [49] 1 rfl (by decide) _).mono ?_
  rintro e w2 ⟨a0, c0, rfl, hn, hb⟩
  have HW2 := Keep.keep (HW1.out.trans (hb.mono HW1.out.size))
  have HN0 := Keep.keep hn
  clear hn hb
  go_wp2_with fail
  refine (file_any [97, 47, 121] [50] 1 rfl (by decide) _).mono ?_
  rintro e w3 ⟨a1, c1, rfl, hn, hb⟩
  have HW3 := Keep.keep (HW2.out.trans (hb.mono HW2.out.size))
  have HN0' := Keep.keep (HN0.out.on hb)
  clear HN0
  have HN0 := HN0'
  clear HN0'
  have HN1 := Keep.keep hn
  clear hn hb
  go_wp2_with fail
  refine (file_any [98] [51] 1 rfl (by decide) _).mono ?_
  rintro e w4 ⟨a2, c2, rfl, hn, hb⟩
  have HW4 := Keep.keep (HW3.out.trans (hb.mono HW3.out.size))
  have HN0' := Keep.keep (HN0.out.on hb)
  clear HN0
  have HN0 := HN0'
  clear HN0'
  have HN1' := Keep.keep (HN1.out.on hb)
  clear HN1
  have HN1 := HN1'
  clear HN1'
  have HN2 := Keep.keep hn
  clear hn hb
  go_wp2_with fail
  refine calls_at (R := fun wq => Below w4.heap.size w4 wq ∧ SetL wq w4.heap.size ([(([97], dirM 448), nilV, nilV), (([97, 47, 120], fileD [49]), nilV, .slice a0 1 c0), (([97, 47, 121], fileD [50]), nilV, .slice a1 1 c1), (([98], fileD [51]), nilV, .slice a2 1 c2)] : List Mv)) ⟨(Below.refl _ _).alloc (Nat.le_refl _) _, SetL.new (fun x hx => ?_) rfl⟩ ?_
  · simp only [List.mem_cons, List.not_mem_nil, or_false] at hx
    rcases hx with rfl | rfl | rfl | rfl
    · exact dirL _ _
    · exact HN0.out
    · exact HN1.out
    · exact HN2.out
  intro w5 Hq
  have hbq := Hq.out.1
  have HW5 := Keep.keep (HW4.out.trans (hbq.mono HW4.out.size))
  have HN0' := Keep.keep (HN0.out.on hbq)
  clear HN0
  have HN0 := HN0'
  clear HN0'
  have HN1' := Keep.keep (HN1.out.on hbq)
  clear HN1
  have HN1 := HN1'
  clear HN1'
  have HN2' := Keep.keep (HN2.out.on hbq)
  clear HN2
  have HN2 := HN2'
  clear HN2'
  refine (new_tr B (HT.out.on (HW5.out.mono HT.out.b)) (Hq.out.2.mb (n := 4) rfl (by decide)) (fun x hx => ?_) (by simp) wn1).mono ?_
  · simp only [List.mem_cons, List.not_mem_nil, or_false] at hx
    rcases hx with rfl | rfl | rfl | rfl
    · exact sm_dirM _ _ (by decide)
    · exact sm_fileD _ _ (by decide) (by decide)
    · exact sm_fileD _ _ (by decide) (by decide)
    · exact sm_fileD _ _ (by decide) (by decide)
  rintro e w6 ⟨T1, rfl, ht, hb⟩
  have HW6 := Keep.keep (HW5.out.trans (hb.mono HW5.out.size))
  have HN0' := Keep.keep (HN0.out.on hb)
  clear HN0
  have HN0 := HN0'
  clear HN0'
  have HN1' := Keep.keep (HN1.out.on hb)
  clear HN1
  have HN1 := HN1'
  clear HN1'
  have HN2' := Keep.keep (HN2.out.on hb)
  clear HN2
  have HN2 := HN2'
  clear HN2'
  have HT1 := Keep.keep ht
  clear ht hb hbq Hq
  clear HN0
  clear HN1
  clear HN2
  go_wp2_with fail
  refine (dir_any [97] 493 _).mono ?_
  rintro e w7 ⟨rfl, hb⟩
  have HW7 := Keep.keep (HW6.out.trans (hb.mono HW6.out.size))
  have HT1' := Keep.keep (HT1.out.on hb)
  clear HT1
  have HT1 := HT1'
  clear HT1'
  clear hb
  go_wp2_with fail
  refine (file_any [97, 47, 46, 119, 104, 46, 120] [] 0 rfl (by decide) _).mono ?_
  rintro e w8 ⟨a3, c3, rfl, hn, hb⟩
  have HW8 := Keep.keep (HW7.out.trans (hb.mono HW7.out.size))
  have HT1' := Keep.keep (HT1.out.on hb)
  clear HT1
  have HT1 := HT1'
  clear HT1'
  have HN3 := Keep.keep hn
  clear hn hb
  go_wp2_with fail
  refine (file_any [97, 47, 122] [52] 1 rfl (by decide) _).mono ?_
  rintro e w9 ⟨a4, c4, rfl, hn, hb⟩
  have HW9 := Keep.keep (HW8.out.trans (hb.mono HW8.out.size))
  have HT1' := Keep.keep (HT1.out.on hb)
  clear HT1
  have HT1 := HT1'
  clear HT1'
  have HN3' := Keep.keep (HN3.out.on hb)
  clear HN3
  have HN3 := HN3'
  clear HN3'
  have HN4 := Keep.keep hn
  clear hn hb
  go_wp2_with fail
  refine (dir_any [98] 0 _).mono ?_
  rintro e w10 ⟨rfl, hb⟩
  have HW10 := Keep.keep (HW9.out.trans (hb.mono HW9.out.size))
  have HT1' := Keep.keep (HT1.out.on hb)
  clear HT1
  have HT1 := HT1'
  clear HT1'
  have HN3' := Keep.keep (HN3.out.on hb)
  clear HN3
  have HN3 := HN3'
  clear HN3'
  have HN4' := Keep.keep (HN4.out.on hb)
  clear HN4
  have HN4 := HN4'
  clear HN4'
  clear hb
  go_wp2_with fail
  refine (file_any [98, 47, 99] [53] 1 rfl (by decide) _).mono ?_
  rintro e w11 ⟨a5, c5, rfl, hn, hb⟩
  have HW11 := Keep.keep (HW10.out.trans (hb.mono HW10.out.size))
  have HT1' := Keep.keep (HT1.out.on hb)
  clear HT1
  have HT1 := HT1'
  clear HT1'
  have HN3' := Keep.keep (HN3.out.on hb)
  clear HN3
  have HN3 := HN3'
  clear HN3'
  have HN4' := Keep.keep (HN4.out.on hb)
  clear HN4
  have HN4 := HN4'
  clear HN4'
  have HN5 := Keep.keep hn
  clear hn hb
  go_wp2_with fail
  refine calls_at (R := fun wq => Below w11.heap.size w11 wq ∧ SetL wq w11.heap.size ([(([97], dirM 493), nilV, nilV), (([97, 47, 46, 119, 104, 46, 120], fileD []), nilV, .slice a3 0 c3), (([97, 47, 122], fileD [52]), nilV, .slice a4 1 c4), (([98], dirM 0), nilV, nilV), (([98, 47, 99], fileD [53]), nilV, .slice a5 1 c5)] : List Mv)) ⟨(Below.refl _ _).alloc (Nat.le_refl _) _, SetL.new (fun x hx => ?_) rfl⟩ ?_
  · simp only [List.mem_cons, List.not_mem_nil, or_false] at hx
    rcases hx with rfl | rfl | rfl | rfl | rfl
    · exact dirL _ _
    · exact HN3.out
    · exact HN4.out
    · exact dirL _ _
    · exact HN5.out
  have HX1 := Keep.keep (HT1.out.x (Nat.le_refl _))
  have hbw : w.heap.size ≤ w11.heap.size := HW11.out.size
  obtain ⟨b3, hb3⟩ : ∃ b3, b3 = w11.heap.size := ⟨_, rfl⟩
  have HB3 : Keep (w.heap.size ≤ b3) := ⟨by rw [hb3]; exact hbw⟩
  rw [← hb3] at HX1 ⊢
  clear hbw
  intro w12 Hq
  have hbq := Hq.out.1
  rw [hb3] at hbq
  clear hb3
  clear HN3
  clear HN4
  clear HN5
  clear HT1
  have HW12 := Keep.keep (HW11.out.trans (hbq.mono HW11.out.size))
  have HX1' := Keep.keep (HX1.out.on hbq)
  clear HX1
  have HX1 := HX1'
  clear HX1'
  have HS1 := Keep.keep Hq.out.2
  clear Hq hbq
  refine (apply_tr B (HT.out.on (HW12.out.mono HT.out.b)) HX1.out.tr (by decide) (HS1.out.mb (n := 5) rfl (by decide)) (fun x hx => ?_) (by simp) wa1).mono ?_
  · simp only [List.mem_cons, List.not_mem_nil, or_false] at hx
    rcases hx with rfl | rfl | rfl | rfl | rfl
    · exact sm_dirM _ _ (by decide)
    · exact sm_fileD _ _ (by decide) (by decide)
    · exact sm_fileD _ _ (by decide) (by decide)
    · exact sm_dirM _ _ (by decide)
    · exact sm_fileD _ _ (by decide) (by decide)
  rintro e w13 ⟨U1, rfl, -, hu, hb⟩
  have HU1 := Keep.keep (hu b3 HS1.out.1.lt)
  have HW13 := Keep.keep (HW12.out.trans (hb.mono HW12.out.size))
  have HX1' := Keep.keep (HX1.out.on hb)
  clear HX1
  have HX1 := HX1'
  clear HX1'
  have HS1' := Keep.keep (HS1.out.on hb)
  clear HS1
  have HS1 := HS1'
  clear HS1'
  clear hb hu
  have k9 := HS1.out.1.cell (i := 9) rfl
  have f9 := HS1.out.1.frozen 9
  go_wp2_with fail
  refine calls_at (R := fun wq => Below w.heap.size w wq ∧ SetL wq b3 ([(([97], dirM 493), nilV, nilV), (([97, 47, 46, 119, 104, 46, 46, 119, 104, 46, 46, 111, 112, 113], fileD []), nilV, .slice a3 0 c3), (([97, 47, 122], fileD [52]), nilV, .slice a4 1 c4), (([98], dirM 0), nilV, nilV), (([98, 47, 99], fileD [53]), nilV, .slice a5 1 c5)] : List Mv) ∧ TrX b3 wq T1 wT ∧ TrX b3 wq U1 wU) ⟨?_, HS1.out.set (i := 9) (v := .string ⟨([97, 47, 46, 119, 104, 46, 46, 119, 104, 46, 46, 111, 112, 113] : Tx).toArray⟩) rfl (fun x hx => ?_), HX1.out.set, HU1.out.set⟩ ?_
  · exact ((Chg.of_below (M := NoM) HW13.out).setCell (.inl HB3.out) _).below (fun _ _ h => h)
  · simp only [List.mem_cons, List.not_mem_nil, or_false] at hx
    rcases hx with rfl | rfl | rfl | rfl | rfl
    · exact ⟨(([97], dirM 493), nilV, nilV), by simp, rfl, rfl⟩
    · exact ⟨(([97, 47, 46, 119, 104, 46, 120], fileD []), nilV, .slice a3 0 c3), by simp, rfl, rfl⟩
    · exact ⟨(([97, 47, 122], fileD [52]), nilV, .slice a4 1 c4), by simp, rfl, rfl⟩
    · exact ⟨(([98], dirM 0), nilV, nilV), by simp, rfl, rfl⟩
    · exact ⟨(([98, 47, 99], fileD [53]), nilV, .slice a5 1 c5), by simp, rfl, rfl⟩
  intro w14 Hq
  clear k9 f9 HX1 HU1 HS1 HW13
  have HW14 := Keep.keep Hq.out.1
  have HS1 := Keep.keep Hq.out.2.1
  have HX1 := Keep.keep Hq.out.2.2.1
  have HU1 := Keep.keep Hq.out.2.2.2
  clear Hq
  refine (apply_tr B (HT.out.on (HW14.out.mono HT.out.b)) HX1.out.tr (by decide) (HS1.out.mb (n := 5) rfl (by decide)) (fun x hx => ?_) (by simp) wa2).mono ?_
  · simp only [List.mem_cons, List.not_mem_nil, or_false] at hx
    rcases hx with rfl | rfl | rfl | rfl | rfl
    · exact sm_dirM _ _ (by decide)
    · exact sm_fileD _ _ (by decide) (by decide)
    · exact sm_fileD _ _ (by decide) (by decide)
    · exact sm_dirM _ _ (by decide)
    · exact sm_fileD _ _ (by decide) (by decide)
  rintro e w15 ⟨V1, rfl, hv, -, hb⟩
  clear HX1 HS1
  have HV1 := Keep.keep hv
  have HW15 := Keep.keep (HW14.out.trans (hb.mono HW14.out.size))
  have HU1' := Keep.keep (HU1.out.on hb)
  clear HU1
  have HU1 := HU1'
  clear HU1'
  clear hb hv
  go_wp2_with fail
  refine (get_tr HU1.out.tr [97] (by decide) wg1).mono ?_
  rintro e w16 ⟨aa, la, ca, ad, ld, cd, rfl, -, hb⟩
  have HW16 := Keep.keep (HW15.out.trans (hb.mono HW15.out.size))
  have HU1' := Keep.keep (HU1.out.on hb)
  clear HU1
  have HU1 := HU1'
  clear HU1'
  have HV1' := Keep.keep (HV1.out.on hb)
  clear HV1
  have HV1 := HV1'
  clear HV1'
  clear hb
  go_upto_region 7 with fail
  refine wp_world (R := fun wq => Hp NoM w16 wq [rowA w16.heap.size 30 #[.int .i64 1, .int .u32 493, .int .u32 0, .int .u32 0, .int .i64 0, .slice aa la ca, .slice ad ld cd, .string ⟨(([] : Tx)).toArray⟩]]) ((Hp.begin NoM w16).newRow _ _) ?_
  intro w17 Hq
  have hbq := Hq.out.below
  have HW17 := Keep.keep (HW16.out.trans (hbq.mono HW16.out.size))
  have HU1' := Keep.keep (HU1.out.on hbq)
  clear HU1
  have HU1 := HU1'
  clear HU1'
  have HV1' := Keep.keep (HV1.out.on hbq)
  clear HV1
  have HV1 := HV1'
  clear HV1'
  have c81 := (Hq.out.row 0 rfl).cell (i := 1) rfl
  obtain ⟨b8, hb8⟩ : ∃ b8, b8 = w16.heap.size := ⟨_, rfl⟩
  rw [← hb8] at c81 ⊢
  clear hb8 Hq hbq
  go_wp2_with fail
  refine (paths_any HU1.out.tr (by decide)).mono ?_
  rintro e w18 ⟨vp, rfl, ho, hb⟩
  have HW18 := Keep.keep (HW17.out.trans (hb.mono HW17.out.size))
  have HU1' := Keep.keep (HU1.out.on hb)
  clear HU1
  have HU1 := HU1'
  clear HU1'
  have HV1' := Keep.keep (HV1.out.on hb)
  clear HV1
  have HV1 := HV1'
  clear HV1'
  obtain ⟨ap, cp, hvp, -⟩ := (ownsV_reads ho).shape
  replace hvp : vp = .slice ap 5 cp := hvp
  have HP := Keep.keep ho.rd'
  clear ho hb c81
  subst hvp
  go_wp2_with fail
  refine calls_at (R := fun wq => Below w18.heap.size w18 wq ∧ RdS wq (· < wq.heap.size) (.slice (some ⟨w18.heap.size, 0, none⟩) 5 5) [[97], [97, 47, 121], [97, 47, 122], [98], [98, 47, 99]]) ⟨(Below.refl _ _).alloc (Nat.le_refl _) _, RdV.new 9 (([[97], [97, 47, 121], [97, 47, 122], [98], [98, 47, 99]] : List Tx).map strV) 1 5 _ rfl rfl (by unfold maxLen; omega) (by simp)⟩ ?_
  intro w19 Hq
  have hbq := Hq.out.1
  have HP' := Keep.keep (RdS.on' HP.out hbq)
  clear HP
  have HW19 := Keep.keep (HW18.out.trans (hbq.mono HW18.out.size))
  have HU1' := Keep.keep (HU1.out.on hbq)
  clear HU1
  have HU1 := HU1'
  clear HU1'
  have HV1' := Keep.keep (HV1.out.on hbq)
  clear HV1
  have HV1 := HV1'
  clear HV1'
  refine (sequal_any _ _ _ _ _ HP'.out Hq.out.2 (by decide) (by decide)).mono ?_
  rw [show decide ((wU).map (·.1) = [[97], [97, 47, 121], [97, 47, 122], [98], [98, 47, 99]]) = true from by decide]
  rintro e w20 ⟨rfl, hb⟩
  have HW20 := Keep.keep (HW19.out.trans (hb.mono HW19.out.size))
  have HU1' := Keep.keep (HU1.out.on hb)
  clear HU1
  have HU1 := HU1'
  clear HU1'
  have HV1' := Keep.keep (HV1.out.on hb)
  clear HV1
  have HV1 := HV1'
  clear HV1'
  clear hb Hq hbq HP'
  go_wp2_with fail
  refine (paths_any HV1.out (by decide)).mono ?_
  rintro e w21 ⟨vp, rfl, ho, hb⟩
  have HW21 := Keep.keep (HW20.out.trans (hb.mono HW20.out.size))
  have HV1' := Keep.keep (HV1.out.on hb)
  clear HV1
  have HV1 := HV1'
  clear HV1'
  obtain ⟨ap, cp, hvp, -⟩ := (ownsV_reads ho).shape
  replace hvp : vp = .slice ap 4 cp := hvp
  have HP := Keep.keep ho.rd'
  clear ho hb
  subst hvp
  go_wp2_with fail
  refine calls_at (R := fun wq => Below w21.heap.size w21 wq ∧ RdS wq (· < wq.heap.size) (.slice (some ⟨w21.heap.size, 0, none⟩) 4 4) [[97], [97, 47, 122], [98], [98, 47, 99]]) ⟨(Below.refl _ _).alloc (Nat.le_refl _) _, RdV.new 9 (([[97], [97, 47, 122], [98], [98, 47, 99]] : List Tx).map strV) 1 4 _ rfl rfl (by unfold maxLen; omega) (by simp)⟩ ?_
  intro w22 Hq
  have hbq := Hq.out.1
  have HP' := Keep.keep (RdS.on' HP.out hbq)
  clear HP
  have HW22 := Keep.keep (HW21.out.trans (hbq.mono HW21.out.size))
  have HV1' := Keep.keep (HV1.out.on hbq)
  clear HV1
  have HV1 := HV1'
  clear HV1'
  refine (sequal_any _ _ _ _ _ HP'.out Hq.out.2 (by decide) (by decide)).mono ?_
  rw [show decide ((wV).map (·.1) = [[97], [97, 47, 122], [98], [98, 47, 99]]) = true from by decide]
  rintro e w23 ⟨rfl, hb⟩
  have HW23 := Keep.keep (HW22.out.trans (hb.mono HW22.out.size))
  have HV1' := Keep.keep (HV1.out.on hb)
  clear HV1
  have HV1 := HV1'
  clear HV1'
  clear hb Hq hbq HP'
  go_wp2_with fail
  go_ret
  exact ⟨rfl, HW23.out⟩
end Go.Proofs.YtplafpokgpolkaaGreatDoor
