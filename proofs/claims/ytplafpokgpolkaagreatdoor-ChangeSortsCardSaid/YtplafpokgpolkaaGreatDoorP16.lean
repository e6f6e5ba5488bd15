/- PARTS OF ONE PROOF, set in one file: Tr19B, Wak19, ChangeSorts, Nest, Ok, NodeOpen, TreeLaid, OpenS. Each part tells its own conditions. -/
import Derived.Deep.Slices
import Derived.Deep.SlicePairs
import Derived.Lib.LaidU8
import Derived.LaidHandle
import Derived.LaidSub
import Derived.PinnedBridge
import Derived.Deep.DeepWitnessRowRef
import Derived.SliceStrings
import Derived.Test.YtplafpokgpolkaaGreatDoorP1
import Derived.Test.YtplafpokgpolkaaGreatDoorP2
import Derived.Test.YtplafpokgpolkaaGreatDoorP3
import Derived.Test.YtplafpokgpolkaaGreatDoorP4
import Derived.Test.YtplafpokgpolkaaGreatDoorP6
import Derived.Test.YtplafpokgpolkaaGreatDoorP10
import Derived.Test.YtplafpokgpolkaaGreatDoorP14
import Derived.Test.YtplafpokgpolkaaGreatDoorP15
/- portolanlaw19: calls of the chapter as they are gone on. -/
namespace Go.Proofs.YtplafpokgpolkaaGreatDoor
open Go.RowKit
theorem rd_row {w : World} {b n k : Nat} {e : TypeId} {vs : List Value} (h : Row w b e vs.toArray) (hl : vs.length = n * k) (hn : n ≤ maxLen) : RdV w (fun j => j = b) k (.slice (some ⟨b, 0, none⟩) n n) n vs := by
  refine ⟨hl, ⟨_, n, rfl, Nat.le_refl _, hn, .inr ⟨_, _, rfl, rfl⟩⟩, fun b' off m cap he j u hu => ?_⟩
  injection he with e1 _ _; injection e1 with e1; injection e1 with e1 e2 _; subst e1 e2
  rw [Nat.zero_add]
  exact h.cell (by simpa using hu)
/-- a row of Members that was laid out by hand -/
def SetL (w : World) (b : Nat) (l : List Mv) : Prop := Row w b 32 (mcells l).toArray ∧ ∀ x ∈ l, NdR w (· < b) x.1.2 x.2.1 x.2.2
theorem SetL.on {w w' : World} {b : Nat} {l : List Mv} (h : SetL w b l) (hb : Below w.heap.size w w') : SetL w' b l :=
  ⟨h.1.below hb h.1.lt, fun x hx => (h.2 x hx).below hb (fun _k hk => Nat.lt_trans hk h.1.lt)⟩
theorem SetL.mb {w : World} {b n : Nat} {l : List Mv} (h : SetL w b l) (hn : l.length = n) (hm : n ≤ 1000000) : MbL w (.slice (some ⟨b, 0, none⟩) n n) l := by
  subst hn
  exact ⟨(rd_row h.1 (mcells_length l) (by unfold maxLen; omega)).mono (fun k e => by rw [e]; exact h.1.lt), fun x hx => (h.2 x hx).mono (fun k hk => Nat.lt_trans hk h.1.lt)⟩
theorem SetL.new {w : World} {l : List Mv} (h : ∀ x ∈ l, NdL w x.1.2 x.2.1 x.2.2) {c : Array Value} (hc : c = (mcells l).toArray) : SetL (w.alloc (.cells c 32)) w.heap.size l := by
  subst hc
  exact ⟨Row.new _ _ _, fun x hx => NdR.below (h x hx) ((Below.refl _ _).alloc (Nat.le_refl _) _) (fun _ hb => hb)⟩
theorem setCell_chg (w : World) (b i : Nat) (v : Value) : Chg (fun k => k = b) w.heap.size w (w.setCell ⟨b, i, none⟩ v) := Chg.setCell (M := fun k => k = b) (.refl _ _ _) (.inr rfl) _
theorem SetL.set {w : World} {b i : Nat} {l l2 : List Mv} {v : Value} (h : SetL w b l) (ha : (mcells l).toArray.setIfInBounds i v = (mcells l2).toArray) (hn : ∀ x ∈ l2, ∃ y ∈ l, y.1.2 = x.1.2 ∧ y.2 = x.2) : SetL (w.setCell ⟨b, i, none⟩ v) b l2 := by
  refine ⟨by rw [← ha]; exact h.1.set i v, fun x hx => ?_⟩
  obtain ⟨y, hy, e1, e2⟩ := hn x hx
  rw [← e1, ← e2]
  exact (h.2 y hy).chg (setCell_chg w b i v) (fun k hk => ⟨Nat.lt_trans hk h.1.lt, fun e => by omega⟩)
/-- a tree at hand that does not lie in b -/
def TrX (b : Nat) (w : World) (T : Nat) (t : List Mb) : Prop := ∃ mb Bk f, TreeIn w T mb Bk f t ∧ T ≠ b ∧ mb ≠ b ∧ ∀ k, Bk k → k < w.heap.size ∧ k ≠ b
theorem TrX.tr {b : Nat} {w : World} {T : Nat} {t : List Mb} (h : TrX b w T t) : TrL w T t := by
  obtain ⟨mb, Bk, f, h1, -, -, h2⟩ := h
  exact ⟨mb, Bk, f, h1, fun k hk => (h2 k hk).1⟩
theorem TrX.on {b : Nat} {w w' : World} {T : Nat} {t : List Mb} (h : TrX b w T t) (hb : Below w.heap.size w w') : TrX b w' T t := by
  obtain ⟨mb, Bk, f, h1, h2, h3, h4⟩ := h
  exact ⟨mb, Bk, f, h1.loc (fun b hb' => hb.block b (by
    rcases hb' with rfl | rfl | h
    · exact h1.row.lt
    · exact h1.map.lt
    · exact (h4 b h).1)), h2, h3, fun b hb' => ⟨Nat.lt_of_lt_of_le (h4 b hb').1 hb.size, (h4 b hb').2⟩⟩
theorem TrX.set {b i : Nat} {w : World} {T : Nat} {t : List Mb} {v : Value} (h : TrX b w T t) : TrX b (w.setCell ⟨b, i, none⟩ v) T t := by
  obtain ⟨mb, Bk, f, h1, h2, h3, h4⟩ := h
  have hc := setCell_chg w b i v
  exact ⟨mb, Bk, f, h1.loc (fun k hk => by
    rcases hk with rfl | rfl | h
    · exact hc.block _ h1.row.lt h2
    · exact hc.block _ h1.map.lt h3
    · exact hc.block _ (h4 _ h).1 (h4 _ h).2), h2, h3, fun k hk => ⟨Nat.lt_of_lt_of_le (h4 k hk).1 hc.size, (h4 k hk).2⟩⟩
theorem TrL.x {w : World} {T : Nat} {t : List Mb} (h : TrL w T t) {b : Nat} (hb : w.heap.size ≤ b) : TrX b w T t := by
  obtain ⟨mb, Bk, f, h1, h2⟩ := h
  exact ⟨mb, Bk, f, h1, by have := h1.row.lt; omega, by have := h1.map.lt; omega, fun k hk => ⟨h2 k hk, by have := h2 k hk; omega⟩⟩
theorem TrX.ofNew {w w' : World} {pv : Value} {t : List Mb} (h : NewIs w w' pv (some t)) {b : Nat} (hb : b < w.heap.size) : ∃ T, pv = .pointer (some ⟨T, 0, none⟩) ∧ TrX b w' T t := by
  obtain ⟨T, mb, Bk, f, he, h1, h2, h3, h4⟩ := h
  exact ⟨T, he, mb, Bk, f, h1, by omega, by omega, fun k hk => ⟨(h4 k hk).2, by have := (h4 k hk).1; omega⟩⟩
theorem new_tr {w : World} {v : Value} {l : List Mv} (B : Nat) (hT : Tabs B w) (hr : MbL w v l) (hs : ∀ x ∈ l, Sm x.1) (hl : l.length ≤ 1000000) {t : List Mb} (ht : newT (l.map (·.1)) = (0, some t)) :
    Calls Tryz.prog 8 #[v] w fun e w' => ∃ T, e = .returned (.tuple #[.pointer (some ⟨T, 0, none⟩), .int .i64 0]) ∧ TrL w' T t ∧ Below w.heap.size w w' := by
  have h := new_tree v l B w hT hr hs hl
  rw [ht] at h
  refine h.mono ?_
  rintro e w' ⟨⟨pv, rfl, hn⟩, hb⟩
  obtain ⟨T, rfl, h1⟩ := TrL.ofNew hn
  exact ⟨T, rfl, h1, hb⟩
theorem apply_tr {w : World} {T : Nat} {A : List Mb} {v : Value} {l : List Mv} (B : Nat) (hT : Tabs B w) (h : TrL w T A) (hA : A.length ≤ 100000) (hr : MbL w v l) (hs : ∀ x ∈ l, Sm x.1) (hl : l.length ≤ 100000) {r : List Mb} (hap : applyC A (l.map (·.1)) = (0, some r)) :
    Calls Tryz.prog 12 #[.pointer (some ⟨T, 0, none⟩), v] w fun e w' => ∃ U, e = .returned (.tuple #[.pointer (some ⟨U, 0, none⟩), .int .i64 0]) ∧ TrL w' U r ∧ (∀ b, b < w.heap.size → TrX b w' U r) ∧ Below w.heap.size w w' := by
  obtain ⟨mb, Bk, f, h1, h2⟩ := h
  have h := apply_any T mb Bk f A v l B w hT h1 h2 hA hr hs hl
  rw [hap] at h
  refine h.mono ?_
  rintro e w' ⟨⟨pv, rfl, hn⟩, hb⟩
  obtain ⟨U, rfl, h1⟩ := TrL.ofNew hn
  refine ⟨U, rfl, h1, fun b hb' => ?_, hb⟩
  obtain ⟨U', he, h3⟩ := TrX.ofNew hn hb'
  injection he with he; injection he with he; injection he with he _ _; subst he
  exact h3
theorem get_tr {w : World} {T : Nat} {L : List Mb} (h : TrL w T L) (p : Tx) (hp : p.length ≤ 1000000) {kind mode uid gid time : Int} {attrs : List R2} {data link : Tx} {is : Bool} (hg : getT L p = (⟨kind, mode, uid, gid, time, attrs, data, link⟩, is)) :
    Calls Tryz.prog 48 #[.pointer (some ⟨T, 0, none⟩), .string ⟨p.toArray⟩] w fun e w' => ∃ aa la ca ad ld cd, e = .returned (.tuple #[.agg #[.int .i64 kind, .int .u32 mode, .int .u32 uid, .int .u32 gid, .int .i64 time, .slice aa la ca, .slice ad ld cd, .string ⟨link.toArray⟩], .bool is]) ∧ NdL w' ⟨kind, mode, uid, gid, time, attrs, data, link⟩ (.slice aa la ca) (.slice ad ld cd) ∧ Below w.heap.size w w' := by
  obtain ⟨mb, Bk, f, h1, h2⟩ := h
  have h := get_tree T mb Bk f L w h1 h2 p hp
  rw [hg] at h
  refine h.mono ?_
  rintro e w' ⟨av, dv, rfl, hn, hb⟩
  obtain ⟨aa, la, ca, ad, ld, cd, e1, e2⟩ := hn.shape
  subst e1 e2
  exact ⟨aa, la, ca, ad, ld, cd, rfl, hn.mono (fun _ h => h.2), hb⟩
end Go.Proofs.YtplafpokgpolkaaGreatDoor
/- portolanlaw19.wakes. -/
namespace Go.Proofs.YtplafpokgpolkaaGreatDoor
open Go.RowKit
def wT : List Mb := [([97], dirM 448), ([97, 47, 120], fileD [49]), ([97, 47, 121], fileD [50]), ([98], fileD [51])]
def wS1 : List Mb := [([97], dirM 493), ([97, 47, 46, 119, 104, 46, 120], fileD []), ([97, 47, 122], fileD [52]), ([98], dirM 0), ([98, 47, 99], fileD [53])]
def wS2 : List Mb := [([97], dirM 493), ([97, 47, 46, 119, 104, 46, 46, 119, 104, 46, 46, 111, 112, 113], fileD []), ([97, 47, 122], fileD [52]), ([98], dirM 0), ([98, 47, 99], fileD [53])]
def wU : List Mb := [([97], dirM 493), ([97, 47, 121], fileD [50]), ([97, 47, 122], fileD [52]), ([98], dirM 0), ([98, 47, 99], fileD [53])]
def wV : List Mb := [([97], dirM 493), ([97, 47, 122], fileD [52]), ([98], dirM 0), ([98, 47, 99], fileD [53])]
set_option maxRecDepth 100000 in
theorem wn1 : newT wT = (0, some wT) := by kernel_rfl
set_option maxRecDepth 100000 in
theorem wa1 : applyC wT wS1 = (0, some wU) := by kernel_rfl
set_option maxRecDepth 100000 in
theorem wa2 : applyC wT wS2 = (0, some wV) := by kernel_rfl
set_option maxRecDepth 100000 in
theorem wg1 : getT wU [97] = (⟨1, 493, 0, 0, 0, [], [], []⟩, true) := by kernel_rfl
set_option maxHeartbeats 8000000 in
set_option maxRecDepth 100000 in
theorem wakes19_any (B : Nat) (w : World) (hT : Tabs B w) : Calls Tryz.prog 20 #[] w fun e w' => e = .returned (.bool true) ∧ Below w.heap.size w w' := by
  have HT := Keep.keep hT
  have HW0 : Keep (Below w.heap.size w w) := ⟨Below.refl _ _⟩
  clear hT
  go_enter Tryz.func20, Tryz.ntmps20
  go_wp2_with fail
  refine (dir_any [97] 448 _).mono ?_
  rintro e w1 ⟨rfl, hb⟩
  have HW1 := Keep.keep (HW0.out.trans (hb.mono HW0.out.size))
  clear hb
  go_wp2_with fail
  refine (file_any [97, 47, 120] [49] 1 rfl (by decide) _).mono ?_
  rintro e w2 ⟨a0, c0, rfl, hn, hb⟩
  have HW2 := Keep.keep (HW1.out.trans (hb.mono HW1.out.size))
  have HN0 := Keep.keep hn
  clear hn hb
  go_wp2_with fail
  refine (file_any [97, 47, 121] [50] 1 rfl (by decide) _).mono ?_
  rintro e w3 ⟨a1, c1, rfl, hn, hb⟩
  have HW3 := Keep.keep (HW2.out.trans (hb.mono HW2.out.size))
  have HN0' := Keep.keep (HN0.out.on hb)
  clear HN0
  have HN0 := HN0'
  clear HN0'
  have HN1 := Keep.keep hn
  clear hn hb
  go_wp2_with fail
  refine (file_any [98] [51] 1 rfl (by decide) _).mono ?_
  rintro e w4 ⟨a2, c2, rfl, hn, hb⟩
  have HW4 := Keep.keep (HW3.out.trans (hb.mono HW3.out.size))
  have HN0' := Keep.keep (HN0.out.on hb)
  clear HN0
  have HN0 := HN0'
  clear HN0'
  have HN1' := Keep.keep (HN1.out.on hb)
  clear HN1
  have HN1 := HN1'
  clear HN1'
  have HN2 := Keep.keep hn
  clear hn hb
  go_wp2_with fail
  refine calls_at (R := fun wq => Below w4.heap.size w4 wq ∧ SetL wq w4.heap.size ([(([97], dirM 448), nilV, nilV), (([97, 47, 120], fileD [49]), nilV, .slice a0 1 c0), (([97, 47, 121], fileD [50]), nilV, .slice a1 1 c1), (([98], fileD [51]), nilV, .slice a2 1 c2)] : List Mv)) ⟨(Below.refl _ _).alloc (Nat.le_refl _) _, SetL.new (fun x hx => ?_) rfl⟩ ?_
  · simp only [List.mem_cons, List.not_mem_nil, or_false] at hx
    rcases hx with rfl | rfl | rfl | rfl
    · exact dirL _ _
    · exact HN0.out
    · exact HN1.out
    · exact HN2.out
  intro w5 Hq
  have hbq := Hq.out.1
  have HW5 := Keep.keep (HW4.out.trans (hbq.mono HW4.out.size))
  have HN0' := Keep.keep (HN0.out.on hbq)
  clear HN0
  have HN0 := HN0'
  clear HN0'
  have HN1' := Keep.keep (HN1.out.on hbq)
  clear HN1
  have HN1 := HN1'
  clear HN1'
  have HN2' := Keep.keep (HN2.out.on hbq)
  clear HN2
  have HN2 := HN2'
  clear HN2'
  refine (new_tr B (HT.out.on (HW5.out.mono HT.out.b)) (Hq.out.2.mb (n := 4) rfl (by decide)) (fun x hx => ?_) (by simp) wn1).mono ?_
  · simp only [List.mem_cons, List.not_mem_nil, or_false] at hx
    rcases hx with rfl | rfl | rfl | rfl
    · exact sm_dirM _ _ (by decide)
    · exact sm_fileD _ _ (by decide) (by decide)
    · exact sm_fileD _ _ (by decide) (by decide)
    · exact sm_fileD _ _ (by decide) (by decide)
  rintro e w6 ⟨T1, rfl, ht, hb⟩
  have HW6 := Keep.keep (HW5.out.trans (hb.mono HW5.out.size))
  have HN0' := Keep.keep (HN0.out.on hb)
  clear HN0
  have HN0 := HN0'
  clear HN0'
  have HN1' := Keep.keep (HN1.out.on hb)
  clear HN1
  have HN1 := HN1'
  clear HN1'
  have HN2' := Keep.keep (HN2.out.on hb)
  clear HN2
  have HN2 := HN2'
  clear HN2'
  have HT1 := Keep.keep ht
  clear ht hb hbq Hq
  clear HN0
  clear HN1
  clear HN2
  go_wp2_with fail
  refine (dir_any [97] 493 _).mono ?_
  rintro e w7 ⟨rfl, hb⟩
  have HW7 := Keep.keep (HW6.out.trans (hb.mono HW6.out.size))
  have HT1' := Keep.keep (HT1.out.on hb)
  clear HT1
  have HT1 := HT1'
  clear HT1'
  clear hb
  go_wp2_with fail
  refine (file_any [97, 47, 46, 119, 104, 46, 120] [] 0 rfl (by decide) _).mono ?_
  rintro e w8 ⟨a3, c3, rfl, hn, hb⟩
  have HW8 := Keep.keep (HW7.out.trans (hb.mono HW7.out.size))
  have HT1' := Keep.keep (HT1.out.on hb)
  clear HT1
  have HT1 := HT1'
  clear HT1'
  have HN3 := Keep.keep hn
  clear hn hb
  go_wp2_with fail
  refine (file_any [97, 47, 122] [52] 1 rfl (by decide) _).mono ?_
  rintro e w9 ⟨a4, c4, rfl, hn, hb⟩
  have HW9 := Keep.keep (HW8.out.trans (hb.mono HW8.out.size))
  have HT1' := Keep.keep (HT1.out.on hb)
  clear HT1
  have HT1 := HT1'
  clear HT1'
  have HN3' := Keep.keep (HN3.out.on hb)
  clear HN3
  have HN3 := HN3'
  clear HN3'
  have HN4 := Keep.keep hn
  clear hn hb
  go_wp2_with fail
  refine (dir_any [98] 0 _).mono ?_
  rintro e w10 ⟨rfl, hb⟩
  have HW10 := Keep.keep (HW9.out.trans (hb.mono HW9.out.size))
  have HT1' := Keep.keep (HT1.out.on hb)
  clear HT1
  have HT1 := HT1'
  clear HT1'
  have HN3' := Keep.keep (HN3.out.on hb)
  clear HN3
  have HN3 := HN3'
  clear HN3'
  have HN4' := Keep.keep (HN4.out.on hb)
  clear HN4
  have HN4 := HN4'
  clear HN4'
  clear hb
  go_wp2_with fail
  refine (file_any [98, 47, 99] [53] 1 rfl (by decide) _).mono ?_
  rintro e w11 ⟨a5, c5, rfl, hn, hb⟩
  have HW11 := Keep.keep (HW10.out.trans (hb.mono HW10.out.size))
  have HT1' := Keep.keep (HT1.out.on hb)
  clear HT1
  have HT1 := HT1'
  clear HT1'
  have HN3' := Keep.keep (HN3.out.on hb)
  clear HN3
  have HN3 := HN3'
  clear HN3'
  have HN4' := Keep.keep (HN4.out.on hb)
  clear HN4
  have HN4 := HN4'
  clear HN4'
  have HN5 := Keep.keep hn
  clear hn hb
  go_wp2_with fail
  refine calls_at (R := fun wq => Below w11.heap.size w11 wq ∧ SetL wq w11.heap.size ([(([97], dirM 493), nilV, nilV), (([97, 47, 46, 119, 104, 46, 120], fileD []), nilV, .slice a3 0 c3), (([97, 47, 122], fileD [52]), nilV, .slice a4 1 c4), (([98], dirM 0), nilV, nilV), (([98, 47, 99], fileD [53]), nilV, .slice a5 1 c5)] : List Mv)) ⟨(Below.refl _ _).alloc (Nat.le_refl _) _, SetL.new (fun x hx => ?_) rfl⟩ ?_
  · simp only [List.mem_cons, List.not_mem_nil, or_false] at hx
    rcases hx with rfl | rfl | rfl | rfl | rfl
    · exact dirL _ _
    · exact HN3.out
    · exact HN4.out
    · exact dirL _ _
    · exact HN5.out
  have HX1 := Keep.keep (HT1.out.x (Nat.le_refl _))
  have hbw : w.heap.size ≤ w11.heap.size := HW11.out.size
  obtain ⟨b3, hb3⟩ : ∃ b3, b3 = w11.heap.size := ⟨_, rfl⟩
  have HB3 : Keep (w.heap.size ≤ b3) := ⟨by rw [hb3]; exact hbw⟩
  rw [← hb3] at HX1 ⊢
  clear hbw
  intro w12 Hq
  have hbq := Hq.out.1
  rw [hb3] at hbq
  clear hb3
  clear HN3
  clear HN4
  clear HN5
  clear HT1
  have HW12 := Keep.keep (HW11.out.trans (hbq.mono HW11.out.size))
  have HX1' := Keep.keep (HX1.out.on hbq)
  clear HX1
  have HX1 := HX1'
  clear HX1'
  have HS1 := Keep.keep Hq.out.2
  clear Hq hbq
  refine (apply_tr B (HT.out.on (HW12.out.mono HT.out.b)) HX1.out.tr (by decide) (HS1.out.mb (n := 5) rfl (by decide)) (fun x hx => ?_) (by simp) wa1).mono ?_
  · simp only [List.mem_cons, List.not_mem_nil, or_false] at hx
    rcases hx with rfl | rfl | rfl | rfl | rfl
    · exact sm_dirM _ _ (by decide)
    · exact sm_fileD _ _ (by decide) (by decide)
    · exact sm_fileD _ _ (by decide) (by decide)
    · exact sm_dirM _ _ (by decide)
    · exact sm_fileD _ _ (by decide) (by decide)
  rintro e w13 ⟨U1, rfl, -, hu, hb⟩
  have HU1 := Keep.keep (hu b3 HS1.out.1.lt)
  have HW13 := Keep.keep (HW12.out.trans (hb.mono HW12.out.size))
  have HX1' := Keep.keep (HX1.out.on hb)
  clear HX1
  have HX1 := HX1'
  clear HX1'
  have HS1' := Keep.keep (HS1.out.on hb)
  clear HS1
  have HS1 := HS1'
  clear HS1'
  clear hb hu
  have k9 := HS1.out.1.cell (i := 9) rfl
  have f9 := HS1.out.1.frozen 9
  go_wp2_with fail
  refine calls_at (R := fun wq => Below w.heap.size w wq ∧ SetL wq b3 ([(([97], dirM 493), nilV, nilV), (([97, 47, 46, 119, 104, 46, 46, 119, 104, 46, 46, 111, 112, 113], fileD []), nilV, .slice a3 0 c3), (([97, 47, 122], fileD [52]), nilV, .slice a4 1 c4), (([98], dirM 0), nilV, nilV), (([98, 47, 99], fileD [53]), nilV, .slice a5 1 c5)] : List Mv) ∧ TrX b3 wq T1 wT ∧ TrX b3 wq U1 wU) ⟨?_, HS1.out.set (i := 9) (v := .string ⟨([97, 47, 46, 119, 104, 46, 46, 119, 104, 46, 46, 111, 112, 113] : Tx).toArray⟩) rfl (fun x hx => ?_), HX1.out.set, HU1.out.set⟩ ?_
  · exact ((Chg.of_below (M := NoM) HW13.out).setCell (.inl HB3.out) _).below (fun _ _ h => h)
  · simp only [List.mem_cons, List.not_mem_nil, or_false] at hx
    rcases hx with rfl | rfl | rfl | rfl | rfl
    · exact ⟨(([97], dirM 493), nilV, nilV), by simp, rfl, rfl⟩
    · exact ⟨(([97, 47, 46, 119, 104, 46, 120], fileD []), nilV, .slice a3 0 c3), by simp, rfl, rfl⟩
    · exact ⟨(([97, 47, 122], fileD [52]), nilV, .slice a4 1 c4), by simp, rfl, rfl⟩
    · exact ⟨(([98], dirM 0), nilV, nilV), by simp, rfl, rfl⟩
    · exact ⟨(([98, 47, 99], fileD [53]), nilV, .slice a5 1 c5), by simp, rfl, rfl⟩
  intro w14 Hq
  clear k9 f9 HX1 HU1 HS1 HW13
  have HW14 := Keep.keep Hq.out.1
  have HS1 := Keep.keep Hq.out.2.1
  have HX1 := Keep.keep Hq.out.2.2.1
  have HU1 := Keep.keep Hq.out.2.2.2
  clear Hq
  refine (apply_tr B (HT.out.on (HW14.out.mono HT.out.b)) HX1.out.tr (by decide) (HS1.out.mb (n := 5) rfl (by decide)) (fun x hx => ?_) (by simp) wa2).mono ?_
  · simp only [List.mem_cons, List.not_mem_nil, or_false] at hx
    rcases hx with rfl | rfl | rfl | rfl | rfl
    · exact sm_dirM _ _ (by decide)
    · exact sm_fileD _ _ (by decide) (by decide)
    · exact sm_fileD _ _ (by decide) (by decide)
    · exact sm_dirM _ _ (by decide)
    · exact sm_fileD _ _ (by decide) (by decide)
  rintro e w15 ⟨V1, rfl, hv, -, hb⟩
  clear HX1 HS1
  have HV1 := Keep.keep hv
  have HW15 := Keep.keep (HW14.out.trans (hb.mono HW14.out.size))
  have HU1' := Keep.keep (HU1.out.on hb)
  clear HU1
  have HU1 := HU1'
  clear HU1'
  clear hb hv
  go_wp2_with fail
  refine (get_tr HU1.out.tr [97] (by decide) wg1).mono ?_
  rintro e w16 ⟨aa, la, ca, ad, ld, cd, rfl, -, hb⟩
  have HW16 := Keep.keep (HW15.out.trans (hb.mono HW15.out.size))
  have HU1' := Keep.keep (HU1.out.on hb)
  clear HU1
  have HU1 := HU1'
  clear HU1'
  have HV1' := Keep.keep (HV1.out.on hb)
  clear HV1
  have HV1 := HV1'
  clear HV1'
  clear hb
  go_upto_region 7 with fail
  refine wp_world (R := fun wq => Hp NoM w16 wq [rowA w16.heap.size 30 #[.int .i64 1, .int .u32 493, .int .u32 0, .int .u32 0, .int .i64 0, .slice aa la ca, .slice ad ld cd, .string ⟨(([] : Tx)).toArray⟩]]) ((Hp.begin NoM w16).newRow _ _) ?_
  intro w17 Hq
  have hbq := Hq.out.below
  have HW17 := Keep.keep (HW16.out.trans (hbq.mono HW16.out.size))
  have HU1' := Keep.keep (HU1.out.on hbq)
  clear HU1
  have HU1 := HU1'
  clear HU1'
  have HV1' := Keep.keep (HV1.out.on hbq)
  clear HV1
  have HV1 := HV1'
  clear HV1'
  have c81 := (Hq.out.row 0 rfl).cell (i := 1) rfl
  obtain ⟨b8, hb8⟩ : ∃ b8, b8 = w16.heap.size := ⟨_, rfl⟩
  rw [← hb8] at c81 ⊢
  clear hb8 Hq hbq
  go_wp2_with fail
  refine (paths_any HU1.out.tr (by decide)).mono ?_
  rintro e w18 ⟨vp, rfl, ho, hb⟩
  have HW18 := Keep.keep (HW17.out.trans (hb.mono HW17.out.size))
  have HU1' := Keep.keep (HU1.out.on hb)
  clear HU1
  have HU1 := HU1'
  clear HU1'
  have HV1' := Keep.keep (HV1.out.on hb)
  clear HV1
  have HV1 := HV1'
  clear HV1'
  obtain ⟨ap, cp, hvp, -⟩ := (ownsV_reads ho).shape
  replace hvp : vp = .slice ap 5 cp := hvp
  have HP := Keep.keep ho.rd'
  clear ho hb c81
  subst hvp
  go_wp2_with fail
  refine calls_at (R := fun wq => Below w18.heap.size w18 wq ∧ RdS wq (· < wq.heap.size) (.slice (some ⟨w18.heap.size, 0, none⟩) 5 5) [[97], [97, 47, 121], [97, 47, 122], [98], [98, 47, 99]]) ⟨(Below.refl _ _).alloc (Nat.le_refl _) _, RdV.new 9 (([[97], [97, 47, 121], [97, 47, 122], [98], [98, 47, 99]] : List Tx).map strV) 1 5 _ rfl rfl (by unfold maxLen; omega) (by simp)⟩ ?_
  intro w19 Hq
  have hbq := Hq.out.1
  have HP' := Keep.keep (RdS.on' HP.out hbq)
  clear HP
  have HW19 := Keep.keep (HW18.out.trans (hbq.mono HW18.out.size))
  have HU1' := Keep.keep (HU1.out.on hbq)
  clear HU1
  have HU1 := HU1'
  clear HU1'
  have HV1' := Keep.keep (HV1.out.on hbq)
  clear HV1
  have HV1 := HV1'
  clear HV1'
  refine (sequal_any _ _ _ _ _ HP'.out Hq.out.2 (by decide) (by decide)).mono ?_
  rw [show decide ((wU).map (·.1) = [[97], [97, 47, 121], [97, 47, 122], [98], [98, 47, 99]]) = true from by decide]
  rintro e w20 ⟨rfl, hb⟩
  have HW20 := Keep.keep (HW19.out.trans (hb.mono HW19.out.size))
  have HU1' := Keep.keep (HU1.out.on hb)
  clear HU1
  have HU1 := HU1'
  clear HU1'
  have HV1' := Keep.keep (HV1.out.on hb)
  clear HV1
  have HV1 := HV1'
  clear HV1'
  clear hb Hq hbq HP'
  go_wp2_with fail
  refine (paths_any HV1.out (by decide)).mono ?_
  rintro e w21 ⟨vp, rfl, ho, hb⟩
  have HW21 := Keep.keep (HW20.out.trans (hb.mono HW20.out.size))
  have HV1' := Keep.keep (HV1.out.on hb)
  clear HV1
  have HV1 := HV1'
  clear HV1'
  obtain ⟨ap, cp, hvp, -⟩ := (ownsV_reads ho).shape
  replace hvp : vp = .slice ap 4 cp := hvp
  have HP := Keep.keep ho.rd'
  clear ho hb
  subst hvp
  go_wp2_with fail
  refine calls_at (R := fun wq => Below w21.heap.size w21 wq ∧ RdS wq (· < wq.heap.size) (.slice (some ⟨w21.heap.size, 0, none⟩) 4 4) [[97], [97, 47, 122], [98], [98, 47, 99]]) ⟨(Below.refl _ _).alloc (Nat.le_refl _) _, RdV.new 9 (([[97], [97, 47, 122], [98], [98, 47, 99]] : List Tx).map strV) 1 4 _ rfl rfl (by unfold maxLen; omega) (by simp)⟩ ?_
  intro w22 Hq
  have hbq := Hq.out.1
  have HP' := Keep.keep (RdS.on' HP.out hbq)
  clear HP
  have HW22 := Keep.keep (HW21.out.trans (hbq.mono HW21.out.size))
  have HV1' := Keep.keep (HV1.out.on hbq)
  clear HV1
  have HV1 := HV1'
  clear HV1'
  refine (sequal_any _ _ _ _ _ HP'.out Hq.out.2 (by decide) (by decide)).mono ?_
  rw [show decide ((wV).map (·.1) = [[97], [97, 47, 122], [98], [98, 47, 99]]) = true from by decide]
  rintro e w23 ⟨rfl, hb⟩
  have HW23 := Keep.keep (HW22.out.trans (hb.mono HW22.out.size))
  have HV1' := Keep.keep (HV1.out.on hb)
  clear HV1
  have HV1 := HV1'
  clear HV1'
  clear hb Hq hbq HP'
  go_wp2_with fail
  go_ret
  exact ⟨rfl, HW23.out⟩
end Go.Proofs.YtplafpokgpolkaaGreatDoor
/- portolanlaw19.ChangeSorts. -/
namespace Go.Proofs.YtplafpokgpolkaaGreatDoor
open Go.RowKit
theorem SaysB.yes {P : Prop} {e : Ending} (h : SaysB P e) (hp : P) : e = .returned (.bool true) := h.det ⟨fun _ => hp, fun _ => rfl⟩
theorem sm_map {l : List Mv} (h : ∀ x ∈ l.map (·.1), Sm x) : ∀ x ∈ l, Sm x.1 := fun x hx => h _ (List.mem_map.2 ⟨x, hx, rfl⟩)
set_option maxHeartbeats 4000000 in
set_option maxRecDepth 100000 in
theorem sorts_any (B : Nat) (v : Value) (l : List Mv) (w : World) (hT : Tabs B w) (hr : Mbs w (· < w.heap.size) (· < w.heap.size) v l) (hk : ∀ a ∈ l, Kb a.1) :
    Calls Tryz.prog 4 #[v] w fun e w' => e = .returned (.bool true) ∧ Below w.heap.size w w' := by
  obtain ⟨a, cap, hv, -, -, -⟩ := hr.rd.shape
  have HT := Keep.keep hT
  have HF := Keep.keep (few19_any v l w hr)
  have HSM : Keep (∀ x ∈ few19 (l.map (·.1)), Sm x) := ⟨few19_sm (fun x hx => by obtain ⟨y, hy, rfl⟩ := List.mem_map.1 hx; exact hk y hy)⟩
  have HLN : Keep ((few19 (l.map (·.1))).length ≤ 14) := ⟨few19_len _⟩
  generalize few19 (l.map (·.1)) = S at *
  clear hT hr hk
  subst hv
  go_enter Tryz.func4, Tryz.ntmps4
  go_wp2_with fail
  refine HF.out.mono ?_
  rintro e w1 ⟨v1, l1, rfl, hS, hr1, hb1⟩
  have HS1 := Keep.keep hS
  have HW1 := Keep.keep hb1
  have HM1 : Keep (MbL w1 v1 l1) := ⟨MbL.ofRow hr1⟩
  have HL1 : Keep (l1.length ≤ 14 ∧ ∀ x ∈ l1, Sm x.1) := ⟨by have := HLN.out; rw [← hS, List.length_map] at this; exact this, sm_map (by rw [hS]; exact HSM.out)⟩
  obtain ⟨a1, c1, hv1, -⟩ := HM1.out.rd.shape
  obtain ⟨n1, hn1⟩ : ∃ n, l1.length = n := ⟨_, rfl⟩
  have HN1 := Keep.keep hn1
  rw [hn1] at hv1
  clear hS hr1 hb1 HF hn1
  subst hv1
  go_wp2_with fail
  refine (clM_own _ l1 w1 _ (fun _ h => h) HM1.out (by have := HL1.out.1; omega)).mono ?_
  rintro e w2 ⟨v2, rfl, hr2, hb2⟩
  have HW2 := Keep.keep (HW1.out.trans (hb2.mono HW1.out.size))
  have HM2 : Keep (MbL w2 v2 l1) := ⟨MbL.ofRow hr2⟩
  have HM1' := Keep.keep (HM1.out.on hb2)
  obtain ⟨a2, c2, hv2, -⟩ := HM2.out.rd.shape
  rw [HN1.out] at hv2
  clear hr2 hb2 HM1
  subst hv2
  go_wp2_with fail
  refine (sorted_any _ l1 w2 _ (fun _ h => h) HM2.out (by have := HL1.out.1; omega)).mono ?_
  rintro e w3 ⟨v3, rfl, hr3, hb3⟩
  have HW3 := Keep.keep (HW2.out.trans (hb3.mono HW2.out.size))
  have HM3 : Keep (MbL w3 v3 _) := ⟨MbL.ofRow hr3⟩
  have HM1 := Keep.keep (HM1'.out.on hb3)
  have HM2' := Keep.keep (HM2.out.on hb3)
  obtain ⟨a3, c3, hv3, -⟩ := HM3.out.rd.shape
  rw [List.length_mergeSort, HN1.out] at hv3
  clear hr3 hb3 HM2 HM1'
  subst hv3
  go_wp2_with fail
  refine (rsorted_any _ l1 w3 _ (fun _ h => h) HM1.out (by have := HL1.out.1; omega)).mono ?_
  rintro e w4 ⟨v4, rfl, hr4, hb4⟩
  have HW4 := Keep.keep (HW3.out.trans (hb4.mono HW3.out.size))
  have HM4 : Keep (MbL w4 v4 _) := ⟨MbL.ofRow hr4⟩
  have HM1' := Keep.keep (HM1.out.on hb4)
  have HM2 := Keep.keep (HM2'.out.on hb4)
  have HM3' := Keep.keep (HM3.out.on hb4)
  obtain ⟨a4, c4, hv4, -⟩ := HM4.out.rd.shape
  rw [List.length_mergeSort, HN1.out] at hv4
  clear hr4 hb4 HM3 HM1 HM2'
  subst hv4
  go_wp2_with fail
  refine (eqf_any _ _ _ _ w4 HM3'.out HM4.out).mono ?_
  rintro e w5 ⟨he, hb5⟩
  obtain rfl := he.yes rfl
  have HW5 := Keep.keep (HW4.out.trans (hb5.mono HW4.out.size))
  have HM1 := Keep.keep (HM1'.out.on hb5)
  have HM2' := Keep.keep (HM2.out.on hb5)
  clear he hb5 HM1' HM2 HM3' HM4
  go_wp2_with fail
  refine (plain_any _ l1 B w5 (HT.out.on (HW5.out.mono HT.out.b)) _ (fun _ h => h) HM2'.out HL1.out.2 (by have := HL1.out.1; omega)).mono ?_
  rintro e w6 ⟨v6, rfl, hr6, hb6⟩
  have HW6 := Keep.keep (HW5.out.trans (hb6.mono HW5.out.size))
  have HM6 : Keep (MbL w6 v6 _) := ⟨MbL.ofRow hr6⟩
  have HM1' := Keep.keep (HM1.out.on hb6)
  have HM2 := Keep.keep (HM2'.out.on hb6)
  obtain ⟨a6, c6, hv6, -⟩ := HM6.out.rd.shape
  obtain ⟨n6, hn6⟩ : ∃ n, (l1.filter isPl).length = n := ⟨_, rfl⟩
  have HN6 := Keep.keep hn6
  rw [hn6] at hv6
  clear hr6 hb6 HM1 HM2' hn6
  subst hv6
  go_wp2_with fail
  refine (rplain_any _ l1 w6 _ (fun _ h => h) HM1'.out HL1.out.2 (by have := HL1.out.1; omega)).mono ?_
  rintro e w7 ⟨v7, rfl, hr7, hb7⟩
  have HW7 := Keep.keep (HW6.out.trans (hb7.mono HW6.out.size))
  have HM7 : Keep (MbL w7 v7 _) := ⟨MbL.ofRow hr7⟩
  have HM6' := Keep.keep (HM6.out.on hb7)
  have HM1 := Keep.keep (HM1'.out.on hb7)
  have HM2' := Keep.keep (HM2.out.on hb7)
  obtain ⟨a7, c7, hv7, -⟩ := HM7.out.rd.shape
  rw [HN6.out] at hv7
  clear hr7 hb7 HM1' HM2 HM6
  subst hv7
  go_wp2_with fail
  refine (eqf_any _ _ _ _ w7 HM6'.out HM7.out).mono ?_
  rintro e w8 ⟨he, hb8⟩
  obtain rfl := he.yes rfl
  have HW8 := Keep.keep (HW7.out.trans (hb8.mono HW7.out.size))
  have HM1' := Keep.keep (HM1.out.on hb8)
  have HM2 := Keep.keep (HM2'.out.on hb8)
  clear he hb8 HM1 HM2' HM6' HM7
  go_wp2_with fail
  refine (eqf_any _ _ _ _ w8 HM2.out HM1'.out).mono ?_
  rintro e w9 ⟨he, hb9⟩
  obtain rfl := he.yes rfl
  have HW9 := Keep.keep (HW8.out.trans (hb9.mono HW8.out.size))
  clear he hb9 HM1' HM2
  go_wp2_with fail
  refine (wakes19_any B w9 (HT.out.on (HW9.out.mono HT.out.b))).mono ?_
  rintro e w10 ⟨rfl, hb10⟩
  have HW10 := Keep.keep (HW9.out.trans (hb10.mono HW9.out.size))
  clear hb10
  go_wp2_with fail
  go_ret
  exact ⟨rfl, HW10.out⟩
end Go.Proofs.YtplafpokgpolkaaGreatDoor
/- ARGUMENTS WITH SLICES WITHIN SLICES, OPENED: what lies deeper has no word of its own on its blocks; its cells tell them. -/
namespace Go.Proofs.YtplafpokgpolkaaGreatDoor
open Go.ChangeShapes Go.WideShapes Go.ChangeAt Go.RowKit
theorem cell_spot {w : World} {a : Addr} {v : Value} (h : w.cell? a = some v) : a.spot = none ∧ a.block < w.heap.size := by
  unfold World.cell? at h
  split at h
  · rename_i c e fr hb
    split at h
    · cases h
    · rename_i hs
      exact ⟨by simpa using hs, (Array.getElem?_eq_some_iff.1 hb).1⟩
  · cases h
/-- a []byte that lies anywhere within an argument -/
theorem reads_of_trod {P : Program} {H : Type} {enc : TypeId × Value → H} {t e : TypeId} {held : Bool} {fuel : Nat} (ht : P.underlying t = some (.slice e)) (he : P.underlying e = some (.int .u8)) (hc : P.cellsOf e = 1) {W : World} {v : Value} {x : DataW H × List MemPlace}
    (hf : DataW.trod enc P W 0 (fun _ => true) held fuel t [v] = some x) : ∃ l, Reads W (fun b => b < W.heap.size) v l := by
  rcases open_ints ht he hc hf with ⟨hcs, hx⟩ | ⟨⟨b, off, sp⟩, len, cap, zs, hcs, _, hl, hm, hz, hx, hcell, hwz⟩
  · injection hcs with hcs _
    subst hcs
    exact ⟨[], Reads.ofNil⟩
  · injection hcs with hcs _
    subst hcs
    simp only [if_true] at hz
    have hsp : cap = 0 ∨ (sp = none ∧ b < W.heap.size) := by
      rcases Nat.eq_zero_or_pos cap with h | h
      · exact .inl h
      · have := cell_spot (hcell 0 (by omega))
        exact .inr this
    refine ⟨(zs.take len).map fun x => UInt8.ofNat x.toNat, ⟨some ⟨b, off, sp⟩, cap, ?_, ?_, hm, ?_⟩, fun b' off' n' c' he' j hj => ?_⟩
    · congr 1; simp; omega
    · simp; omega
    · rcases hsp with h | ⟨rfl, h⟩
      · exact .inl h
      · exact .inr ⟨b, off, rfl, h⟩
    · injection he' with e1 _ _; injection e1 with e1; injection e1 with e1 e2 e3; subst e1 e2 e3
      have hj' : j < len := by simp at hj; omega
      have hjz : j < zs.length := by omega
      have hc := hcell j hjz
      rw [Addr.add_mid] at hc
      rw [hc]
      have hw := hwz _ (List.getElem_mem hjz)
      have hm1 : IntKind.u8.min = 0 := rfl
      have hm2 : IntKind.u8.max = 255 := rfl
      simp only [Lit.wf, Bool.and_eq_true, decide_eq_true_eq, hm1, hm2] at hw
      simp only [List.getElem_map, List.getElem_take, List.getD_eq_getElem?_getD, List.getElem?_eq_getElem hjz, Option.getD_some, UInt8.toNat_ofNat']
      congr 2
      omega
end Go.Proofs.YtplafpokgpolkaaGreatDoor
/- ARGUMENTS THAT ARE WHOLE NUMBERS, OPENED. -/
namespace Go.Proofs.YtplafpokgpolkaaGreatDoor
open Go.ChangeShapes Go.WideShapes Go.ChangeAt Go.RowKit
/-- an argument that is an int64 (or an int) -/
theorem okI64 {P : Program} {w : World} {r : Reach} {base : Nat} {t : TypeId} {v : Value} (ht : P.underlying t = some (.int .i64)) (h : Value.okWide P w r base t v) : ∃ n : Int, v = .int .i64 n ∧ -9223372036854775808 ≤ n ∧ n ≤ 9223372036854775807 := by
  simp only [Value.okWide, ht, Cell.okWide] at h
  have hm1 : IntKind.i64.min = -9223372036854775808 := rfl
  have hm2 : IntKind.i64.max = 9223372036854775807 := rfl
  cases v <;> simp only [Cell.ok, ht] at h
  rename_i k x
  obtain ⟨rfl, h1, h2⟩ := h
  rw [hm1] at h1; rw [hm2] at h2
  exact ⟨x, rfl, h1, h2⟩
theorem okU16 {P : Program} {w : World} {r : Reach} {base : Nat} {t : TypeId} {v : Value} (ht : P.underlying t = some (.int .u16)) (h : Value.okWide P w r base t v) : ∃ n : Nat, v = .int .u16 (n : Int) ∧ n < 65536 := by
  simp only [Value.okWide, ht, Cell.okWide] at h
  have hm1 : IntKind.u16.min = 0 := rfl
  have hm2 : IntKind.u16.max = 65535 := rfl
  cases v <;> simp only [Cell.ok, ht] at h
  rename_i k x
  obtain ⟨rfl, h1, h2⟩ := h
  rw [hm1] at h1; rw [hm2] at h2
  exact ⟨x.toNat, by congr 1; omega, by omega⟩
theorem okU8 {P : Program} {w : World} {r : Reach} {base : Nat} {t : TypeId} {v : Value} (ht : P.underlying t = some (.int .u8)) (h : Value.okWide P w r base t v) : ∃ n : Nat, v = .int .u8 (n : Int) ∧ n < 256 := by
  simp only [Value.okWide, ht, Cell.okWide] at h
  have hm1 : IntKind.u8.min = 0 := rfl
  have hm2 : IntKind.u8.max = 255 := rfl
  cases v <;> simp only [Cell.ok, ht] at h
  rename_i k x
  obtain ⟨rfl, h1, h2⟩ := h
  rw [hm1] at h1; rw [hm2] at h2
  exact ⟨x.toNat, by congr 1; omega, by omega⟩
end Go.Proofs.YtplafpokgpolkaaGreatDoor
/- ARGUMENTS THAT ARE SLICES OF MEMBERS, OR OF ACTS, OPENED. -/
namespace Go.Proofs.YtplafpokgpolkaaGreatDoor
open Go.ChangeShapes Go.WideShapes Go.ChangeAt Go.RowKit
section
variable {H : Type} {enc : TypeId × Value → H} {W : World} {fuel : Nat} {x : DataW H × List MemPlace}
theorem str_of_trod {v : Value} (h : DataW.trod enc Tryz.prog W 0 (fun _ => true) true fuel 9 [v] = some x) : ∃ l : Tx, v = strV l ∧ l.length ≤ maxLen := by
  obtain ⟨⟨⟨l⟩⟩, e, _, hm⟩ := DataW.trod_string Tryz.underlying9 h
  injection e with e _
  exact ⟨l, e, hm⟩
theorem attrs_of_trod {v : Value} (hf : DataW.trod enc Tryz.prog W 0 (fun _ => true) true fuel 27 [v] = some x) : ∃ l : List R2, RdV W (· < W.heap.size) 2 v l.length (rcells l) := by
  rcases Deep.open_slice_pairs Tryz.underlying27 Tryz.underlying97 (by kernel_rfl) rfl rfl (by kernel_rfl) (by kernel_rfl) hf with ⟨hcs, _⟩ | ⟨⟨b, off, sp⟩, len, cap, m, n, V0, V1, D0, D1, P0, P1, hcs, _, hl, hm, hmm, _, hx⟩
  · injection hcs with hcs _
    subst hcs
    exact ⟨[], RdV.ofNil⟩
  · injection hcs with hcs _
    subst hcs
    simp only [if_true] at hmm
    have hsp : cap = 0 ∨ (sp = none ∧ b < W.heap.size) := by
      rcases Nat.eq_zero_or_pos cap with h | h
      · exact .inl h
      · exact .inr (cell_spot (hx 0 (by omega)).1)
    have key : ∀ i, i < m → ∃ q : R2, V0 i = strV q.1 ∧ V1 i = strV q.2 := fun i hi => by
      obtain ⟨_, _, t0, t1⟩ := hx i hi
      obtain ⟨l0, e0, _⟩ := str_of_trod t0
      obtain ⟨l1, e1, _⟩ := str_of_trod t1
      exact ⟨(l0, l1), e0, e1⟩
    obtain ⟨q, hq⟩ := Deep.choose_lt (α := R2) key
    have hll : ((List.range len).map q).length = len := by simp
    refine ⟨(List.range len).map q, rcells_length _, ⟨_, cap, by rw [hll], by omega, hm, ?_⟩, ?_⟩
    · rcases hsp with h | ⟨rfl, h⟩
      · exact .inl h
      · exact .inr ⟨b, off, rfl, h⟩
    · intro b' off' m' c' he j u hu
      injection he with e1 _ _; injection e1 with e1; injection e1 with e1 e2 e3; subst e1 e2 e3
      have hj := (List.getElem?_eq_some_iff.1 hu).1
      rw [rcells_length, hll] at hj
      obtain ⟨i, hi⟩ : ∃ i, i = j / 2 := ⟨_, rfl⟩
      have hil : i < len := by omega
      have hrg := rcells_get ((List.range len).map q) i (by rw [hll]; exact hil)
      have hqi : ((List.range len).map q)[i]'(by rw [hll]; exact hil) = q i := by simp
      rw [hqi] at hrg
      obtain ⟨k0, k1, _, _⟩ := hx i (by omega)
      obtain ⟨s0, s1⟩ := hq i (by omega)
      rw [Addr.add_mid] at k0 k1
      rcases (by omega : j = i * 2 ∨ j = i * 2 + 1) with rfl | rfl
      · rw [hrg.1] at hu; injection hu with hu
        rw [k0, s0, hu]
      · rw [hrg.2] at hu; injection hu with hu
        rw [← Nat.add_assoc, ← hu, ← s1]
        rw [← Nat.add_assoc] at k1
        exact k1
theorem cOne : Tryz.prog.cellsOf 3 = 1 ∧ Tryz.prog.cellsOf 26 = 1 ∧ Tryz.prog.cellsOf 2 = 1 ∧ Tryz.prog.cellsOf 27 = 1 ∧ Tryz.prog.cellsOf 28 = 1 ∧ Tryz.prog.cellsOf 9 = 1 ∧ Tryz.prog.cellsOf 4 = 1 ∧ Tryz.prog.cellsOf 30 = 8 ∧ Tryz.prog.cellsOf 32 = 9 := ⟨by kernel_rfl, by kernel_rfl, by kernel_rfl, by kernel_rfl, by kernel_rfl, by kernel_rfl, by kernel_rfl, by kernel_rfl, by kernel_rfl⟩
set_option maxRecDepth 100000 in
theorem node_of_trod {cs : List Value} (hf : DataW.trod enc Tryz.prog W 0 (fun _ => true) true fuel 30 cs = some x) :
    ∃ n av dv, cs = (ndC n av dv).toList ∧ NdR W (· < W.heap.size) n av dv ∧ -9223372036854775808 ≤ n.kind ∧ n.kind ≤ 9223372036854775807 := by
  obtain ⟨xs, k, -, -, hlen, hxs, hg⟩ := DataW.trod_struct Tryz.underlying30 hf
  obtain ⟨c1, c2, c3, c4, c5, c6, c7, c8, -⟩ := cOne
  rw [c8] at hlen
  obtain ⟨v0, v1, v2, v3, v4, v5, v6, v7, rfl⟩ : ∃ v0 v1 v2 v3 v4 v5 v6 v7, cs = [v0, v1, v2, v3, v4, v5, v6, v7] := by
    match cs, hlen with
    | [v0, v1, v2, v3, v4, v5, v6, v7], _ => exact ⟨v0, v1, v2, v3, v4, v5, v6, v7, rfl⟩
  obtain ⟨y0, y1, y2, y3, y4, y5, y6, y7, rfl⟩ : ∃ y0 y1 y2 y3 y4 y5 y6 y7, xs = [y0, y1, y2, y3, y4, y5, y6, y7] := by
    match xs, hxs with
    | [v0, v1, v2, v3, v4, v5, v6, v7], _ => exact ⟨v0, v1, v2, v3, v4, v5, v6, v7, rfl⟩
  have g0 := hg 0 _ rfl
  have g1 := hg 1 _ rfl
  have g2 := hg 2 _ rfl
  have g3 := hg 3 _ rfl
  have g4 := hg 4 _ rfl
  have g5 := hg 5 _ rfl
  have g6 := hg 6 _ rfl
  have g7 := hg 7 _ rfl
  simp only [List.getElem?_cons_zero, List.getElem?_cons_succ] at g0 g1 g2 g3 g4 g5 g6 g7
  obtain ⟨n0, h0, _, w0⟩ := DataW.trod_int Tryz.underlying3 g0
  obtain ⟨n1, h1, _, _⟩ := DataW.trod_int Tryz.underlying26 g1
  obtain ⟨n2, h2, _, _⟩ := DataW.trod_int Tryz.underlying26 g2
  obtain ⟨n3, h3, _, _⟩ := DataW.trod_int Tryz.underlying26 g3
  obtain ⟨n4, h4, _, _⟩ := DataW.trod_int Tryz.underlying2 g4
  obtain ⟨l5, h5⟩ := attrs_of_trod g5
  obtain ⟨l6, h6⟩ := reads_of_trod Tryz.underlying28 Tryz.underlying5 (by kernel_rfl) g6
  obtain ⟨l7, h7, _⟩ := str_of_trod g7
  injection h0 with h0 _; injection h1 with h1 _; injection h2 with h2 _; injection h3 with h3 _; injection h4 with h4 _
  subst h0 h1 h2 h3 h4 h7
  have hm1 : IntKind.i64.min = -9223372036854775808 := rfl
  have hm2 : IntKind.i64.max = 9223372036854775807 := rfl
  simp only [Lit.wf, Bool.and_eq_true, decide_eq_true_eq, hm1, hm2] at w0
  exact ⟨⟨n0, n1, n2, n3, n4, l5, l6, l7⟩, v5, v6, rfl, ⟨h5, h6⟩, by exact w0⟩
set_option maxRecDepth 100000 in
theorem mb_of_trod {cs : List Value} (hf : DataW.trod enc Tryz.prog W 0 (fun _ => true) true fuel 32 cs = some x) :
    ∃ y : Mv, cs = (mcell y).toList ∧ NdR W (· < W.heap.size) y.1.2 y.2.1 y.2.2 ∧ Kb y.1 := by
  obtain ⟨xs, k, -, -, hlen, hxs, hg⟩ := DataW.trod_struct Tryz.underlying32 hf
  obtain ⟨c1, c2, c3, c4, c5, c6, c7, c8, c9⟩ := cOne
  rw [c9] at hlen
  obtain ⟨v0, v1, v2, v3, v4, v5, v6, v7, v8, rfl⟩ : ∃ v0 v1 v2 v3 v4 v5 v6 v7 v8, cs = [v0, v1, v2, v3, v4, v5, v6, v7, v8] := by
    match cs, hlen with
    | [v0, v1, v2, v3, v4, v5, v6, v7, v8], _ => exact ⟨v0, v1, v2, v3, v4, v5, v6, v7, v8, rfl⟩
  obtain ⟨y0, y1, rfl⟩ : ∃ y0 y1, xs = [y0, y1] := by
    match xs, hxs with
    | [v0, v1], _ => exact ⟨v0, v1, rfl⟩
  have g0 := hg 0 _ rfl
  have g1 := hg 1 _ rfl
  simp only [List.getElem_toArray, List.getElem_cons_succ, List.getElem_cons_zero, c6, c8, List.drop_succ_cons, List.drop_zero, List.take_succ_cons, List.take_zero, List.getElem?_cons_zero, List.getElem?_cons_succ] at g0 g1
  obtain ⟨l0, h0, _⟩ := str_of_trod g0
  obtain ⟨n, av, dv, h1, h2, h3⟩ := node_of_trod g1
  subst h0
  refine ⟨((l0, n), av, dv), ?_, h2, h3⟩
  rw [h1]; rfl
set_option maxRecDepth 100000 in
/-- a slice of rows of k cells -/
theorem slice_of_trod {α : Type} [Inhabited α] {t e : TypeId} {k : Nat} (ht : Tryz.prog.underlying t = some (.slice e)) (hk : Tryz.prog.cellsOf e = k) (hk0 : 0 < k) (cl : α → List Value) (hcl : ∀ a, (cl a).length = k) (p : α → Prop) (cells : List α → List Value) (hlen : ∀ l, (cells l).length = l.length * k)
    (hcells : ∀ (l : List α) (j i : Nat) (h : j < l.length), i < k → (cells l)[j * k + i]? = (cl l[j])[i]?)
    (hel : ∀ (n : Nat) (cs : List Value) (y : DataW H × List MemPlace), DataW.trod enc Tryz.prog W 0 (fun _ => true) true n e cs = some y → ∃ a, cs = cl a ∧ p a)
    {v : Value} (hf : DataW.trod enc Tryz.prog W 0 (fun _ => true) true fuel t [v] = some x) : ∃ l : List α, RdV W (· < W.heap.size) k v l.length (cells l) ∧ ∀ a ∈ l, p a := by
  rcases Deep.open_slice ht hf with ⟨hcs, _⟩ | ⟨⟨b, off, sp⟩, len, cap, m, n, D, Pl, hcs, _, hl, hm, hmm, _, hx⟩
  · injection hcs with hcs _
    subst hcs
    refine ⟨[], ⟨by simp [hlen], ⟨_, _, rfl, Nat.zero_le _, Nat.zero_le _, .inl rfl⟩, fun _ _ _ _ e j u hu => by cases e⟩, fun a ha => (List.not_mem_nil ha).elim⟩
  · injection hcs with hcs _
    subst hcs
    simp only [if_true] at hmm
    rw [hk] at hx
    have key : ∀ i, i < m → ∃ a, (∀ j u, (cl a)[j]? = some u → W.cell? ((⟨b, off, sp⟩ : Addr).add (i * k + j)) = some u) ∧ p a := fun i hi => by
      obtain ⟨cs', h1, h2⟩ := hx i hi
      obtain ⟨_, hl', hcell⟩ := World.cells?_some h1
      obtain ⟨a, rfl, hp⟩ := hel _ _ _ h2
      refine ⟨a, fun j u hj => ?_, hp⟩
      have hjl := (List.getElem?_eq_some_iff.1 hj).1
      rw [hcl] at hjl
      have := hcell j hjl
      rw [Deep.add_add] at this
      rw [this]; exact hj
    obtain ⟨q, hq⟩ := Deep.choose_lt (α := α) key
    have hsp : cap = 0 ∨ (sp = none ∧ b < W.heap.size) := by
      rcases Nat.eq_zero_or_pos cap with h | h
      · exact .inl h
      · have h0 := (hq 0 (by omega)).1 0 ((cl (q 0))[0]'(by rw [hcl]; exact hk0)) (List.getElem?_eq_getElem _)
        rw [Nat.zero_mul, Nat.add_zero] at h0
        exact .inr (cell_spot h0)
    have hll : ((List.range len).map q).length = len := by simp
    refine ⟨(List.range len).map q, ⟨hlen _, ⟨_, cap, by rw [hll], by omega, hm, ?_⟩, ?_⟩, fun a ha => ?_⟩
    · rcases hsp with h | ⟨rfl, h⟩
      · exact .inl h
      · exact .inr ⟨b, off, rfl, h⟩
    · intro b' off' m' c' he j u hu
      injection he with e1 _ _; injection e1 with e1; injection e1 with e1 e2 e3; subst e1 e2 e3
      have hj := (List.getElem?_eq_some_iff.1 hu).1
      rw [hlen, hll] at hj
      have hil : j / k < len := Nat.div_lt_of_lt_mul (by rw [Nat.mul_comm]; exact hj)
      have hjk : j / k * k + j % k = j := Nat.div_add_mod' j k
      have hrg := hcells ((List.range len).map q) (j / k) (j % k) (by rw [hll]; exact hil) (Nat.mod_lt _ hk0)
      rw [hjk, hu] at hrg
      have hqi : ((List.range len).map q)[j / k]'(by rw [hll]; exact hil) = q (j / k) := by simp
      rw [hqi] at hrg
      have := (hq (j / k) (by omega)).1 (j % k) u hrg.symm
      rw [hjk, Addr.add_mid] at this
      exact this
    · obtain ⟨i, hi, rfl⟩ := List.mem_map.1 ha
      exact (hq i (by have := List.mem_range.1 hi; omega)).2
instance : Inhabited Nd := ⟨⟨0, 0, 0, 0, 0, [], [], []⟩⟩
set_option maxRecDepth 100000 in
/-- AN ARGUMENT OF TYPE []Member, OPENED -/
theorem opened_mbs {r : Reach} {base : Nat} {v : Value} {d : DataW H} {ps : List MemPlace} (hok : Value.okWide Tryz.prog W r base 35 v) (h0 : DataW.Trod enc Tryz.prog W 0 (fun _ => true) true 35 v d ps) :
    ∃ l : List Mv, Mbs W (· < W.heap.size) (· < W.heap.size) v l ∧ ∀ a ∈ l, Kb a.1 := by
  obtain ⟨fuel, hf⟩ := h0
  replace hf : DataW.trod enc Tryz.prog W 0 (fun _ => true) true fuel 35 [v] = some (d, ps) := by
    rcases okSlice Tryz.underlying35 hok with rfl | ⟨b, off, len, cap, rfl, -, -, -⟩ <;> exact hf
  obtain ⟨l, h1, h2⟩ := slice_of_trod (α := Mv) (k := 9) Tryz.underlying35 (by kernel_rfl) (by decide) (fun y => (mcell y).toList) mcell_len (fun y => NdR W (· < W.heap.size) y.1.2 y.2.1 y.2.2 ∧ Kb y.1) mcells mcells_length (fun l j i h hi => by rw [mcells_get l j i h hi]; simp) (fun n cs y h => mb_of_trod h) hf
  exact ⟨l, ⟨h1, fun a ha => (h2 a ha).1⟩, fun a ha => (h2 a ha).2⟩
end
end Go.Proofs.YtplafpokgpolkaaGreatDoor
/- WHAT THE ROWS' LISTED VARIABLES AND THE WORLD'S SHAPE GIVE; and a world that holds the listed variables. -/
namespace Go.Proofs.YtplafpokgpolkaaGreatDoor
open Go.ChangeShapes Go.WideShapes Go.ChangeAt Go.RowKit
theorem mx_of_shape {W : World} (h : W.ShapedOpen Tryz.prog) : Mx W.heap.size W := by
  obtain ⟨m, hm⟩ : ∃ m, W.cell? ⟨2, 0, none⟩ = some (.int .i64 m) := Go.Proofs.cell_of_shapedOpen_int (zero := #[.int .i64 0]) (t := 3) h (of_decide_eq_true (by kernel_rfl)) (by kernel_rfl) rfl (by kernel_rfl) (by kernel_rfl) Tryz.underlying3
  exact ⟨World.block_lt_of_cell? W _ hm, m, hm⟩
/-- what the laws of the trees ask of the world -/
theorem tabs_of {W : World} {l : List (String × DataW Unit)} (hL : laidMetH Tryz.prog l W) (hsh : W.ShapedOpen Tryz.prog) (hc : ("portolan/path.classes", Rows.laid_portolan_path_classes) ∈ l) (ht : ("portolan/tar.types", Rows.laid_portolan_tar_types) ∈ l) : Tabs W.heap.size W :=
  ⟨Nat.le_refl _, mx_of_shape hsh, cls_of_laid hL hc, typ_of_laid (laidMetH_iff.1 hL).1 (List.mem_filter.2 ⟨ht, rfl⟩)⟩
/-- A WORLD FOR THE WITNESS -/
def layRow (c : Array Value) : Obj → Obj
  | .cells _ t frozen => .cells c t frozen
  | o => o
def classesMap : Obj := .map #[⟨.int .i64 1, .func (.func 215) #[] #[], 0⟩, ⟨.int .i64 2, .func (.func 216) #[] #[], 1⟩, ⟨.int .i64 3, .func (.func 217) #[] #[], 2⟩] 3
def typesMap : Obj := .map #[⟨.int .i64 1, .int .u8 53, 0⟩, ⟨.int .i64 2, .int .u8 48, 1⟩, ⟨.int .i64 3, .int .u8 50, 2⟩, ⟨.int .i64 4, .int .u8 54, 3⟩] 4
noncomputable def lowM : Nat := (World.holding Tryz.prog default ⟨#[], #[], []⟩).heap.size
noncomputable def laidWorld (os : Os) : World :=
  let w0 := World.holding Tryz.prog os ⟨#[classesMap, typesMap], #[], []⟩
  let h2 := Array.modify w0.heap 4 (layRow ((List.range 16).flatMap fun i => [Value.int .u8 (Lib.accLo i), Value.int .u8 (Lib.accHi i)]).toArray)
  let h3 := Array.modify h2 3 (layRow (Lib.firstTab.map fun z => Value.int .u8 z).toArray)
  let h4 := Array.modify h3 0 (layRow #[.map (some lowM)])
  let h5 := Array.modify h4 1 (layRow #[.map (some (lowM + 1))])
  { w0 with heap := h5 }
end Go.Proofs.YtplafpokgpolkaaGreatDoor
/- AN ARGUMENT THAT IS A SLICE OF TEXTS, OPENED. -/
namespace Go.Proofs.YtplafpokgpolkaaGreatDoor
open Go.ChangeShapes Go.WideShapes Go.ChangeAt Go.RowKit
set_option maxRecDepth 100000 in
theorem opened_strs {H : Type} {enc : TypeId × Value → H} {r : Reach} {base : Nat} {W : World} {v : Value} {d : DataW H} {p : List MemPlace}
    (hok : Value.okWide Tryz.prog W r base 38 v) (h0 : DataW.Trod enc Tryz.prog W 0 (fun _ => true) true 38 v d p) :
    ∃ l : List (List UInt8), RdS W (· < W.heap.size) v l ∧ l.length ≤ 9223372036854775807 ∧ ∀ q ∈ l, q.length ≤ 9223372036854775807 := by
  obtain ⟨fuel, hf⟩ := h0
  rcases okSlice Tryz.underlying38 hok with rfl | ⟨b, off, len, cap, rfl, h1, h2, h3⟩
  · exact ⟨[], RdV.ofNil, Nat.zero_le _, fun q hq => by cases hq⟩
  · rcases open_strings Tryz.underlying38 Tryz.underlying9 (by kernel_rfl) hf with ⟨hcs, _⟩ | ⟨a, len', cap', ss, hcs, _, hl, hm, hsl, _, hcell, hsz⟩
    · cases hcs
    · have hcs : [Value.slice (some ⟨b, off, none⟩) len cap] = [Value.slice (some a) len' cap'] := hcs
      injection hcs with hcs _
      injection hcs with hc1 hc2 hc3
      injection hc1 with hc1
      subst hc1 hc2 hc3
      have hlm : len ≤ ss.length := by rw [hsl]; split <;> omega
      have hll : ((ss.take len).map fun s => s.data.toList).length = len := by simp; omega
      refine ⟨(ss.take len).map fun s => s.data.toList, ⟨by simp, ⟨_, cap, by rw [hll], by omega, h2, .inr ⟨b, off, rfl, h3⟩⟩, ?_⟩, ?_, ?_⟩
      · intro b' off' m' c' he j u hu
        injection he with e1 _ _; injection e1 with e1; injection e1 with e1 e2 _; subst e1 e2
        have hj : j < len := by
          have := (List.getElem?_eq_some_iff.1 hu).1
          rwa [List.length_map, hll] at this
        have h5 := hcell j (by omega)
        rw [Addr.add_mid] at h5
        rw [h5, ← hu]
        simp [List.getD_eq_getElem?_getD, hj, strV, show j < ss.length by omega]
      · rw [hll]; unfold maxLen at h2; omega
      · intro q hq
        simp only [List.mem_map] at hq
        obtain ⟨s, hs, rfl⟩ := hq
        have := hsz s (List.mem_of_mem_take hs)
        unfold maxLen at this
        exact this
end Go.Proofs.YtplafpokgpolkaaGreatDoor
