/- PARTS OF ONE PROOF, set in one file: Grown, Iter, TreeEach, SpcIn, TreeUnder, TreeAll, TreeSort, TreeList. Each part tells its own conditions. -/
import Derived.Shelf.SlIter.Nil
import Derived.Shelf.SortM.Plain
import Derived.Shelf.SortM.SortNone
import Derived.Ground.GgzProg
import Derived.Ground.SlgmProg
import Derived.Test.YtmnknmpfkjhgbaaGreatDoorProg
import Derived.RangeFuncNested
import Derived.RangeFuncBound
import Derived.RangeFuncCalls
import Derived.RangeFuncLeaves
import Derived.Shelf.Abstract
import Derived.Shelf.RegionOpen
import Derived.WalkKit
import Derived.OwnWalkIn
import Derived.TacticsInMore
import Derived.LoopNIn
import Derived.LoopIn
import Derived.OrdersIn
import Derived.Sort.OwnSorted
import Derived.Test.YtmnknmpfkjhgbaaGreatDoorP5
import Derived.Test.YtmnknmpfkjhgbaaGreatDoorP6
import Derived.Test.YtmnknmpfkjhgbaaGreatDoorP7
/- portolanlaw18.Grown: a tree under calls. -/
namespace Go.Proofs.YtmnknmpfkjhgbaaGreatDoor
open Go.RowKit
def stepT (L : List Mb) (a : Bool × Mb) : List Mb := if a.1 then (putT L (cutM a.2)).2 else (removeT L (cutM a.2).1).2
def grownL (l : List (Bool × Mb)) : List Mb := (l.take 40).foldl stepT []
theorem newT_nil : newT [] = (0, some []) := rfl
theorem grownL_succ (l : List (Bool × Mb)) (k : Nat) (hk : k < l.length) : (l.take (k + 1)).foldl stepT [] = stepT ((l.take k).foldl stepT []) l[k] := by
  rw [List.take_succ_eq_append_getElem hk, List.foldl_append]; rfl
theorem put_len {L : List Mb} (h : SM.Srt L) (m : Mb) : (putT L m).2.length ≤ L.length + 1 := by
  unfold putT
  split
  · simp
  · split
    · simp
    · split
      · simp
      · have h2 : SM.Srt (if m.2.kind = 1 then L else clearT L m.1) := by split; exact h; exact h.filter _
        have h3 : (if m.2.kind = 1 then L else clearT L m.1).length ≤ L.length := by split; exact Nat.le_refl _; exact List.length_filter_le _ _
        have := fold_len [m] _ h2
        simp only [List.foldl_cons, List.foldl_nil, List.length_cons, List.length_nil] at this
        show (SM.put _ m).length ≤ _
        omega
theorem remove_len (L : List Mb) (p : Tx) : (removeT L p).2.length ≤ L.length := by
  unfold removeT
  split
  · simp
  · exact Nat.le_trans (List.length_filter_le _ _) (List.length_filter_le _ _)
/-- the kind is an int -/
def Kb (m : Mb) : Prop := -9223372036854775808 ≤ m.2.kind ∧ m.2.kind ≤ 9223372036854775807
theorem Kb.cut {m : Mb} (h : Kb m) : Sm (cutM m) := by
  refine ⟨?_, ?_, ?_, ?_, fun x hx => ?_, h⟩
  · exact Nat.le_trans (List.length_take_le _ _) (by omega)
  · exact Nat.le_trans (List.length_take_le _ _) (by omega)
  · exact Nat.le_trans (List.length_take_le _ _) (by omega)
  · show ((m.2.attrs.take 20).map cutA).length ≤ _
    rw [List.length_map]
    exact Nat.le_trans (List.length_take_le _ _) (by omega)
  · obtain ⟨y, hy, rfl⟩ := List.mem_map.1 (show x ∈ (m.2.attrs.take 20).map cutA from hx)
    exact ⟨Nat.le_trans (List.length_take_le _ _) (by omega), Nat.le_trans (List.length_take_le _ _) (by omega)⟩
set_option maxHeartbeats 2000000 in
set_option maxRecDepth 100000 in
theorem grown_any (B : Nat) (v : Value) (l : List Av) (w : World) (hT : Tabs B w) (hr : ActsR w (· < w.heap.size) (· < w.heap.size) v l) (hs : ∀ x ∈ l, Kb x.2.1) :
    Calls Tryz.prog 8 #[v] w fun e w' => ∃ T mb Bk f, e = .returned (.pointer (some ⟨T, 0, none⟩)) ∧ TreeIn w' T mb Bk f (grownL (l.map fun x => (x.1, x.2.1))) ∧ (w.heap.size ≤ T ∧ w.heap.size ≤ mb ∧ ∀ b, Bk b → Fresh w.heap.size w' b) ∧ Below w.heap.size w w' := by
  obtain ⟨a, cap, hv, hcap, hmx, h3⟩ := hr.rd.shape
  have HR := Keep.keep hr; have H3 := Keep.keep h3; have HT := Keep.keep hT; have HS := Keep.keep hs
  have HNEW := Keep.keep (new_tree (.slice none 0 0) [] B w hT ⟨RdV.ofNil, fun x hx => by simp at hx⟩ (fun x hx => by simp at hx) (by simp))
  unfold maxLen at hmx
  clear hr h3 hT hs
  subst hv
  go_enter Tryz.func8, Tryz.ntmps8
  go_wp2_with fail
  refine HNEW.out.mono ?_
  rintro e w1 ⟨⟨pv, rfl, hnew⟩, hb1⟩
  obtain ⟨T, mb, Bk, f, rfl, hti, hTw, hmw, hBk⟩ := hnew
  have HTI := Keep.keep hti; have HB1 := Keep.keep hb1; have HBK := Keep.keep hBk
  clear hti hb1 hBk HNEW
  go_wp2_with fail
  go_loopg [5] (min l.length 40) (fun g u5 wx => ∃ (k : Nat) (Bk : Nat → Prop) (f : Tx → Value × Value), k + g = min l.length 40 ∧ u5 = .int .i64 (k : Int) ∧ TreeIn wx T mb Bk f (((l.map fun x => (x.1, x.2.1)).take k).foldl stepT []) ∧ (((l.map fun x => (x.1, x.2.1)).take k).foldl stepT []).length ≤ k ∧ (∀ b, Bk b → Fresh w.heap.size wx b) ∧ Below w.heap.size w wx)
  case atStart => exact ⟨0, Bk, f, by omega, rfl, HTI.out, Nat.le_refl _, HBK.out, HB1.out⟩
  case round =>
    obtain ⟨k, Bk2, f2, hkg, rfl, hti, hlen, hbk, hb⟩ := hrel
    have HT2 := Keep.keep hti; have HBK2 := Keep.keep hbk; have HB2 := Keep.keep hb
    clear hti hbk hb HTI HB1 HBK
    cases gk with
    | zero =>
      have HF : Keep (((l.map fun x => (x.1, x.2.1)).take k).foldl stepT [] = grownL (l.map fun x => (x.1, x.2.1))) := ⟨by
        unfold grownL
        congr 1
        rw [List.take_eq_take_iff, List.length_map]; omega⟩
      rw [HF.out] at HT2
      by_cases hk : k < l.length
      · have hd1 : decide ((k : Int) < (l.length : Int)) = true := decide_eq_true (by omega)
        have hd2 : decide ((k : Int) < 40) = false := decide_eq_false (by omega)
        go_wp2_with fail
        go_ret
        exact ⟨T, mb, Bk2, f2, rfl, HT2.out, ⟨hTw, hmw, HBK2.out⟩, HB2.out⟩
      · have hd1 : decide ((k : Int) < (l.length : Int)) = false := decide_eq_false (by omega)
        go_wp2_with fail
        go_ret
        exact ⟨T, mb, Bk2, f2, rfl, HT2.out, ⟨hTw, hmw, HBK2.out⟩, HB2.out⟩
    | succ g =>
      have hk : k < l.length := by omega
      have hd1 : decide ((k : Int) < (l.length : Int)) = true := decide_eq_true (by omega)
      have hd2 : decide ((k : Int) < 40) = true := decide_eq_true (by omega)
      obtain ⟨b, off, rfl, hbl⟩ : ∃ b off, a = some ⟨b, off, none⟩ ∧ b < w.heap.size := by
        rcases H3.out with h | ⟨b, off, h, hb⟩
        · omega
        · exact ⟨b, off, h, hb⟩
      have HAX : Keep (∀ wx, Below w.heap.size w wx → ActsR wx (· < w.heap.size) (· < w.heap.size) (.slice (some ⟨b, off, none⟩) l.length cap) l) := ⟨fun wx h => HR.out.below h (fun b hb => hb) (fun b hb => hb)⟩
      have hax := HAX.out wr HB2.out
      have hld := hax.load hk
      have hsm := HS.out _ (List.getElem_mem hk)
      have hndx := hax.nd _ (List.getElem_mem hk)
      have HPU : Keep (∀ wx, Below w.heap.size w wx → wx.cell? ⟨b, off + k * 10, none⟩ = some (.bool l[k].1)) := ⟨fun wx h => (HAX.out wx h).puts hk⟩
      have HTK : Keep ((((l.map fun x => (x.1, x.2.1)).take (k + 1)).foldl stepT []) = stepT (((l.map fun x => (x.1, x.2.1)).take k).foldl stepT []) (l[k].1, l[k].2.1)) := ⟨by
        rw [grownL_succ _ k (by simpa using hk)]; simp⟩
      clear hax
      generalize l[k] = x at *
      obtain ⟨pu, ⟨⟨xp, ⟨kind, mode, uid, gid, time, attrs, data, link⟩⟩, av, dv⟩⟩ := x
      obtain ⟨aa, la, ca, ad, ld, cd, e1, e2⟩ := hndx.shape
      dsimp only at hndx e1 e2 hsm
      subst e1 e2
      have HX := Keep.keep hndx; have HSM := Keep.keep hsm
      unfold mcell mbC strV at hld
      dsimp only at hld
      clear hndx hsm
      have hsW := HB2.out.size
      have HMB : Keep (Mbs (wr.alloc (.cells #[.string ⟨xp.toArray⟩, .int .i64 kind, .int .u32 mode, .int .u32 uid, .int .u32 gid, .int .i64 time, .slice aa la ca, .slice ad ld cd, .string ⟨link.toArray⟩] 41)) (· < (wr.alloc (.cells #[.string ⟨xp.toArray⟩, .int .i64 kind, .int .u32 mode, .int .u32 uid, .int .u32 gid, .int .i64 time, .slice aa la ca, .slice ad ld cd, .string ⟨link.toArray⟩] 41)).heap.size) (· < (wr.alloc (.cells #[.string ⟨xp.toArray⟩, .int .i64 kind, .int .u32 mode, .int .u32 uid, .int .u32 gid, .int .i64 time, .slice aa la ca, .slice ad ld cd, .string ⟨link.toArray⟩] 41)).heap.size) (.slice (some ⟨wr.heap.size, 0, none⟩) 1 1) [((xp, ⟨kind, mode, uid, gid, time, attrs, data, link⟩), .slice aa la ca, .slice ad ld cd)]) :=
        ⟨⟨RdV.new 41 [.string ⟨xp.toArray⟩, .int .i64 kind, .int .u32 mode, .int .u32 uid, .int .u32 gid, .int .i64 time, .slice aa la ca, .slice ad ld cd, .string ⟨link.toArray⟩] 9 1 _ rfl rfl (by unfold maxLen; omega) (by simp), fun x hx => by
          obtain rfl : x = ((xp, ⟨kind, mode, uid, gid, time, attrs, data, link⟩), .slice aa la ca, .slice ad ld cd) := by simpa using hx
          exact (HX.out.below ((Below.refl _ wr).alloc (Nat.le_refl _) _) (fun b hb => by omega)).mono (fun b hb => by simp; omega)⟩⟩
      go_wp2_with ((with_reducible refine arm_loadM hld ?_ ?_); (focus rfl); simp only [Act.put, List.setIfInBounds_toArray, List.set_cons_succ, List.set_cons_zero])
      refine (few18_any _ _ _ HMB.out).mono ?_
      rintro e w2 ⟨v2, rfl, ⟨l2, e2, ho2, hn2⟩, hb2⟩
      have e3 : l2.map (·.1) = [cutM (xp, ⟨kind, mode, uid, gid, time, attrs, data, link⟩)] := e2
      obtain ⟨y, rfl, hy⟩ := one_of_map e3
      have HB3 := Keep.keep ((HB2.out.alloc hsW _).trans (hb2.mono (by simp; omega)))
      have HT3 : Keep (TreeIn w2 T mb Bk2 f2 (((l.map fun x => (x.1, x.2.1)).take k).foldl stepT [])) := ⟨HT2.out.loc (fun b hb => by
        have hlt : b < wr.heap.size := by
          rcases hb with rfl | rfl | h
          · exact HT2.out.row.lt
          · exact HT2.out.map.lt
          · exact (HBK2.out b h).2
        rw [hb2.block b (by simp; omega), Below.heap_alloc wr _ b hlt])⟩
      obtain ⟨g2, c2, rfl⟩ : ∃ g2 c2, v2 = .slice (some ⟨g2, 0, none⟩) 1 c2 := by
        rcases ho2.2 with ⟨_, h⟩ | ⟨g, cap, cur, h, _⟩
        · simp at h
        · exact ⟨g, cap, h⟩
      have hny := hn2 y (by simp)
      have hm2 : Mbs w2 _ _ (.slice (some ⟨g2, 0, none⟩) 1 c2) [y] := ⟨ownsV_reads ho2, hn2⟩
      have hld2 := hm2.load (k := 0) (by simp)
      rw [show 0 + 0 * 9 = 0 from rfl] at hld2
      obtain ⟨⟨yp, ⟨k2, m2, u2, gi2, t2, at2, da2, li2⟩⟩, av2, dv2⟩ := y
      obtain ⟨a8, l8, c8, a9, l9, c9, e8, e9⟩ := hny.shape
      dsimp only at hny e8 e9 hy
      subst e8 e9
      have HY := Keep.keep hy; have HNY := Keep.keep hny
      simp only [List.getElem_cons_zero] at hld2
      unfold mcell mbC strV at hld2
      dsimp only at hld2
      have hle2 : w.heap.size ≤ wr.heap.size := hsW
      have hs2 : wr.heap.size + 1 ≤ w2.heap.size := by have := hb2.size; simpa using this
      have hmb : mb < wr.heap.size := HT2.out.map.lt
      have hsr := HT2.out.srt
      clear ho2 hn2 hb2 e2 e3 hy hny hm2 hld HMB HB2 HT2
      go_upto_region 8 with ((with_reducible refine arm_loadM hld2 ?_ ?_); (focus rfl); simp only [Act.put, List.setIfInBounds_toArray, List.set_cons_succ, List.set_cons_zero])
      refine wp_world (R := fun w3 => (Row w3 w2.heap.size 41 #[.string ⟨yp.toArray⟩, .int .i64 k2, .int .u32 m2, .int .u32 u2, .int .u32 gi2, .int .i64 t2, .slice a8 l8 c8, .slice a9 l9 c9, .string ⟨li2.toArray⟩] ∧ TreeIn w3 T mb Bk2 f2 (((l.map fun x => (x.1, x.2.1)).take k).foldl stepT [])) ∧ Below w.heap.size w w3 ∧ w2.heap.size < w3.heap.size ∧ NdR w3 (fun b => wr.heap.size < b ∧ b < w2.heap.size) ⟨k2, m2, u2, gi2, t2, at2, da2, li2⟩ (.slice a8 l8 c8) (.slice a9 l9 c9)) ⟨⟨Row.new _ _ _, ?_⟩, HB3.out.alloc (by omega) _, by simp, ?_⟩ ?_
      · exact HT3.out.loc (fun b hb => Below.heap_alloc w2 _ b (by
          rcases hb with rfl | rfl | h
          · exact HT3.out.row.lt
          · exact HT3.out.map.lt
          · have := (HBK2.out b h).2; omega))
      · exact (HNY.out.below ((Below.refl _ w2).alloc (Nat.le_refl _) _) (fun b hb => hb.1.2)).mono (fun b hb => ⟨by have := hb.1.1; simp at this; omega, hb.1.2⟩)
      intro w3 HW
      have HRW := Keep.keep HW.out.1.1
      have HSZ : Keep ((#[.string ⟨yp.toArray⟩, .int .i64 k2, .int .u32 m2, .int .u32 u2, .int .u32 gi2, .int .i64 t2, .slice a8 l8 c8, .slice a9 l9 c9, .string ⟨li2.toArray⟩] : Array Value).size = 9) := ⟨rfl⟩
      have cpu := HPU.out w3 HW.out.2.1
      have cy := HW.out.1.1.cell (i := 0) rfl
      clear hld2 HT3 HB3 HNY
      cases pu with
      | true =>
        go_wp2_with ((with_reducible refine arm_loadRow HRW.out aggM HSZ.out ?_ ?_); (focus rfl); simp only [Act.put, List.setIfInBounds_toArray, List.set_cons_succ, List.set_cons_zero])
        have h3s := HW.out.2.2.1
        refine (put_tree T mb Bk2 f2 _ B w3 HW.out.1.2 (fun b hb => by have := (HBK2.out b hb).2; omega) (by omega) (HT.out.on (HW.out.2.1.mono HT.out.b)) (yp, ⟨k2, m2, u2, gi2, t2, at2, da2, li2⟩) _ _ (by rw [HY.out]; exact HSM.out.cut) (HW.out.2.2.2.mono (fun b hb => ⟨by omega, by omega⟩))).mono ?_
        rintro e w4 ⟨rfl, ⟨Bk3, f3, hti3, hbk3⟩, hch⟩
        have hpl := put_len hsr (yp, ⟨k2, m2, u2, gi2, t2, at2, da2, li2⟩)
        rw [HY.out] at hti3 hpl
        have HT4 := Keep.keep hti3; have HBK4 := Keep.keep hbk3; have HPL := Keep.keep hpl
        have HB4 := Keep.keep (HW.out.2.1.trans ((hch.lower (by omega)).below (fun j hj e => by omega)))
        have hs4 := hch.size
        clear hti3 hbk3 hch hpl cpu cy
        go_wp2_with fail
        go_roundg g
        case measure => omega
        case rel =>
          refine ⟨k + 1, Bk3, f3, by omega, by simp, by rw [HTK.out]; exact HT4.out, by rw [HTK.out]; exact Nat.le_trans HPL.out (by omega), fun b hb => ?_, HB4.out⟩
          rcases HBK4.out b hb with h | h
          · exact ⟨(HBK2.out b h).1, by have := (HBK2.out b h).2; omega⟩
          · exact ⟨by have := h.1; omega, h.2⟩
      | false =>
        go_wp2_with fail
        have h3s := HW.out.2.2.1
        have hyl : yp.length ≤ 1000000 := by
          have h1 := HSM.out.cut.p
          rw [← HY.out] at h1
          exact Nat.le_trans h1 (by omega)
        refine (remove_tree T mb Bk2 f2 _ w3 HW.out.1.2 (fun b hb => by have := (HBK2.out b hb).2; omega) yp hyl).mono ?_
        rintro e w4 ⟨rfl, hti3, hch⟩
        have hpl := remove_len (((l.map fun x => (x.1, x.2.1)).take k).foldl stepT []) yp
        have hyp : yp = (cutM (xp, ⟨kind, mode, uid, gid, time, attrs, data, link⟩)).1 := by rw [← HY.out]
        rw [hyp] at hti3 hpl
        have HT4 := Keep.keep hti3; have HPL := Keep.keep hpl
        have HB4 := Keep.keep (HW.out.2.1.trans ((hch.lower (by omega)).below (fun j hj e => by omega)))
        have hs4 := hch.size
        clear hti3 hch hpl cpu cy hyp
        go_wp2_with fail
        go_roundg g
        case measure => omega
        case rel => exact ⟨k + 1, Bk2, f2, by omega, by simp, by rw [HTK.out]; exact HT4.out, by rw [HTK.out]; exact Nat.le_trans HPL.out (by omega), fun b hb => ⟨(HBK2.out b hb).1, by have := (HBK2.out b hb).2; omega⟩, HB4.out⟩
end Go.Proofs.YtmnknmpfkjhgbaaGreatDoor
/- THE LIBRARY CONTRACTS on sorted keys, laid at this translation by the shelf's own programs (lay-iter, lay-plain). -/
namespace Go.Proofs
open Go.RowKit Go.Maps Go.Sort Go.Shelf
def Tryz.keys101_ren : Go.Shelf.Ren := ⟨fun | 7 => 101 | 10 => 134 | n => n, fun | 23 => 86 | 26 => 9 | 3 => 39 | 28 => 128 | 0 => 0 | 27 => 127 | 33 => 76 | 4 => 4 | n => n, fun | n => n⟩
theorem Tryz.keys101 : Go.Proofs.SlLaysZ.n7 Tryz.prog Tryz.keys101_ren := {
  mixed := by kernel_rfl
  f7 := ⟨Tryz.f101.name, by decide, Tryz.func101.trans (congrArg some (by kernel_rfl))⟩
  f10 := ⟨Tryz.f134.name, by decide, Tryz.func134.trans (congrArg some (by kernel_rfl))⟩
  t0 := Tryz.underlying0
  a0 := Tryz.isAgg0
  z0 := Tryz.sizeOf0
  v0 := Tryz.zeroValue0
  t4 := Tryz.underlying4
  a4 := Tryz.isAgg4
  z4 := Tryz.sizeOf4
  v4 := Tryz.zeroValue4
  t23 := Tryz.underlying86
  a23 := Tryz.isAgg86
  z23 := Tryz.sizeOf86
  v23 := Tryz.zeroValue86
  t26 := Tryz.underlying9
  a26 := Tryz.isAgg9
  z26 := Tryz.sizeOf9
  v26 := Tryz.zeroValue9
  t27 := Tryz.underlying127
  a27 := Tryz.isAgg127
  z27 := Tryz.sizeOf127
  v27 := Tryz.zeroValue127
  t28 := Tryz.underlying128
  a28 := Tryz.isAgg128
  z28 := Tryz.sizeOf128
  v28 := Tryz.zeroValue128
  t33 := Tryz.underlying76
  a33 := Tryz.isAgg76
  z33 := Tryz.sizeOf76
  v33 := Tryz.zeroValue76 }
def Tryz.sorted100_ren : Go.Shelf.Ren := ⟨fun | 6 => 100 | 8 => 132 | 9 => 133 | 11 => 160 | 13 => 124 | 12 => 161 | 23 => 151 | 24 => 152 | 14 => 176 | 15 => 177 | 16 => 178 | 17 => 179 | 18 => 180 | 19 => 181 | 20 => 182 | 21 => 183 | 22 => 184 | 25 => 194 | 26 => 164 | 27 => 165 | 28 => 195 | 29 => 196 | 30 => 125 | 31 => 201 | n => n, fun | 26 => 9 | 28 => 128 | 24 => 42 | 0 => 0 | 3 => 3 | 37 => 144 | 48 => 35 | 50 => 159 | 4 => 4 | 40 => 152 | 39 => 151 | 45 => 132 | 5 => 5 | 9 => 9 | 51 => 174 | 55 => 178 | 57 => 194 | 58 => 195 | 33 => 76 | n => n, fun | n => n⟩
theorem Tryz.sorted100 : Go.Proofs.SlLaysZ.n6 Tryz.prog Tryz.sorted100_ren := {
  mixed := by kernel_rfl
  f6 := ⟨Tryz.f100.name, by decide, Tryz.func100.trans (congrArg some (by kernel_rfl))⟩
  f8 := ⟨Tryz.f132.name, by decide, Tryz.func132.trans (congrArg some (by kernel_rfl))⟩
  f11 := ⟨Tryz.f160.name, by decide, Tryz.func160.trans (congrArg some (by kernel_rfl))⟩
  t0 := Tryz.underlying0
  a0 := Tryz.isAgg0
  z0 := Tryz.sizeOf0
  v0 := Tryz.zeroValue0
  t24 := Tryz.underlying42
  a24 := Tryz.isAgg42
  z24 := Tryz.sizeOf42
  v24 := Tryz.zeroValue42
  t26 := Tryz.underlying9
  a26 := Tryz.isAgg9
  z26 := Tryz.sizeOf9
  v26 := Tryz.zeroValue9
  t28 := Tryz.underlying128
  a28 := Tryz.isAgg128
  z28 := Tryz.sizeOf128
  v28 := Tryz.zeroValue128
  i26 := by kernel_rfl }
def Tryz.sort133_ren : Go.Shelf.Ren := ⟨fun | 6 => 133 | 8 => 124 | 9 => 161 | 19 => 151 | 20 => 152 | 21 => 176 | 22 => 177 | 23 => 178 | 24 => 179 | 25 => 180 | 26 => 181 | 27 => 182 | 28 => 183 | 29 => 184 | 36 => 194 | 31 => 164 | 32 => 165 | 37 => 195 | 38 => 196 | 39 => 125 | 41 => 201 | n => n, fun | 27 => 42 | 29 => 9 | 3 => 3 | 32 => 144 | 26 => 42 | 0 => 0 | 44 => 35 | 46 => 159 | 4 => 4 | 36 => 152 | 35 => 151 | 41 => 132 | 5 => 5 | 9 => 9 | 53 => 174 | 57 => 178 | 63 => 194 | 64 => 195 | n => n, fun | n => n⟩
theorem Tryz.sort133 : Go.Proofs.SlLaysM.n6 Tryz.prog Tryz.sort133_ren := {
  mixed := by kernel_rfl
  f6 := ⟨Tryz.f133.name, by decide, Tryz.func133.trans (congrArg some (by kernel_rfl))⟩
  f8 := Tryz.func124.trans (congrArg some (by kernel_rfl))
  f9 := ⟨Tryz.f161.name, by decide, Tryz.func161.trans (congrArg some (by kernel_rfl))⟩
  f19 := Tryz.func151.trans (congrArg some (by kernel_rfl))
  f20 := Tryz.func152.trans (congrArg some (by kernel_rfl))
  f21 := ⟨Tryz.f176.name, by decide, Tryz.func176.trans (congrArg some (by kernel_rfl))⟩
  f22 := ⟨Tryz.f177.name, by decide, Tryz.func177.trans (congrArg some (by kernel_rfl))⟩
  f23 := ⟨Tryz.f178.name, by decide, Tryz.func178.trans (congrArg some (by kernel_rfl))⟩
  f24 := ⟨Tryz.f179.name, by decide, Tryz.func179.trans (congrArg some (by kernel_rfl))⟩
  f25 := ⟨Tryz.f180.name, by decide, Tryz.func180.trans (congrArg some (by kernel_rfl))⟩
  f26 := ⟨Tryz.f181.name, by decide, Tryz.func181.trans (congrArg some (by kernel_rfl))⟩
  f27 := ⟨Tryz.f182.name, by decide, Tryz.func182.trans (congrArg some (by kernel_rfl))⟩
  f28 := ⟨Tryz.f183.name, by decide, Tryz.func183.trans (congrArg some (by kernel_rfl))⟩
  f29 := ⟨Tryz.f184.name, by decide, Tryz.func184.trans (congrArg some (by kernel_rfl))⟩
  f31 := Tryz.func164.trans (congrArg some (by kernel_rfl))
  f32 := Tryz.func165.trans (congrArg some (by kernel_rfl))
  f36 := ⟨Tryz.f194.name, by decide, Tryz.func194.trans (congrArg some (by kernel_rfl))⟩
  f37 := ⟨Tryz.f195.name, by decide, Tryz.func195.trans (congrArg some (by kernel_rfl))⟩
  f38 := ⟨Tryz.f196.name, by decide, Tryz.func196.trans (congrArg some (by kernel_rfl))⟩
  f39 := ⟨Tryz.f125.name, by decide, Tryz.func125.trans (congrArg some (by kernel_rfl))⟩
  f41 := ⟨Tryz.f201.name, by decide, Tryz.func201.trans (congrArg some (by kernel_rfl))⟩
  t0 := Tryz.underlying0
  a0 := Tryz.isAgg0
  z0 := Tryz.sizeOf0
  v0 := Tryz.zeroValue0
  t3 := Tryz.underlying3
  a3 := Tryz.isAgg3
  z3 := Tryz.sizeOf3
  v3 := Tryz.zeroValue3
  t4 := Tryz.underlying4
  a4 := Tryz.isAgg4
  z4 := Tryz.sizeOf4
  v4 := Tryz.zeroValue4
  t5 := Tryz.underlying5
  a5 := Tryz.isAgg5
  z5 := Tryz.sizeOf5
  v5 := Tryz.zeroValue5
  t9 := Tryz.underlying9
  a9 := Tryz.isAgg9
  z9 := Tryz.sizeOf9
  v9 := Tryz.zeroValue9
  t26 := Tryz.underlying42
  a26 := Tryz.isAgg42
  z26 := Tryz.sizeOf42
  v26 := Tryz.zeroValue42
  t27 := Tryz.underlying42
  a27 := Tryz.isAgg42
  z27 := Tryz.sizeOf42
  v27 := Tryz.zeroValue42
  t29 := Tryz.underlying9
  a29 := Tryz.isAgg9
  z29 := Tryz.sizeOf9
  v29 := Tryz.zeroValue9
  t32 := Tryz.underlying144
  a32 := Tryz.isAgg144
  z32 := Tryz.sizeOf144
  v32 := Tryz.zeroValue144
  t35 := Tryz.underlying151
  a35 := Tryz.isAgg151
  z35 := Tryz.sizeOf151
  v35 := Tryz.zeroValue151
  t36 := Tryz.underlying152
  a36 := Tryz.isAgg152
  z36 := Tryz.sizeOf152
  v36 := Tryz.zeroValue152
  t41 := Tryz.underlying132
  a41 := Tryz.isAgg132
  z41 := Tryz.sizeOf132
  v41 := Tryz.zeroValue132
  t44 := Tryz.underlying35
  a44 := Tryz.isAgg35
  z44 := Tryz.sizeOf35
  v44 := Tryz.zeroValue35
  t46 := Tryz.underlying159
  a46 := Tryz.isAgg159
  z46 := Tryz.sizeOf159
  v46 := Tryz.zeroValue159
  t53 := Tryz.underlying174
  a53 := Tryz.isAgg174
  z53 := Tryz.sizeOf174
  v53 := Tryz.zeroValue174
  t57 := Tryz.underlying178
  a57 := Tryz.isAgg178
  z57 := Tryz.sizeOf178
  v57 := Tryz.zeroValue178
  t63 := Tryz.underlying194
  a63 := Tryz.isAgg194
  z63 := Tryz.sizeOf194
  v63 := Tryz.zeroValue194
  t64 := Tryz.underlying195
  a64 := Tryz.isAgg195
  z64 := Tryz.sizeOf195
  v64 := Tryz.zeroValue195 }


theorem Tryz.sorts100 (m : Nat) : AnyZ.SortsIn Tryz.prog Tryz.sorted100_ren Fence.wide m :=
  ⟨fun blk off cap ss W hH hblk hsz => callsIn_wide.2 (AnyM.slices_Sort_string Tryz.sort133 blk off cap ss W hH hblk hsz),
   fun p cap W => callsIn_wide.2 (AnyM.slices_Sort_string_none Tryz.sort133 p cap W)⟩

theorem Tryz.maps_Keys_101 (mb : Option Nat) (W : World) : CallsIn Fence.wide 5 Tryz.prog 101 #[.map mb] W fun e w' => e = .returned (.func (.func 134) #[] #[.pointer (some ⟨W.heap.size, 0, none⟩)]) ∧ w' = W.alloc (.cells #[.map mb] 86) :=
  AnyZ.keys_in Tryz.keys101 Fence.wide 5 trivial rfl mb W

set_option maxHeartbeats 1000000 in
theorem Tryz.slices_Sorted_keys_100_101 {H : Type} (b nn : Nat) (D0 : DataW H) (R : Value → Option (DataW H × List MemPlace)) (w : World) (hown : w.ownsMap Tryz.prog 9 R b nn D0) (hmax : Maps.size D0 ≤ maxLen) (hbytes : Maps.size D0 * 16 ≤ 140737488355328) :
    CallsIn Fence.wide 5 Tryz.prog 100 #[.func (.func 134) #[] #[.pointer (some ⟨w.heap.size, 0, none⟩)]] (w.alloc (.cells #[.map (some b)] 86)) fun e w' => ∃ (v : Value) (ss : List (List UInt8)), e = .returned v ∧ ss.Perm (strKeys D0) ∧
      w'.ownsRow (w.alloc (.cells #[.map (some b)] 86)).heap.size 9 1 v ss.length ((ss.mergeSort (fun x y => decide (x ≤ y))).map encStr) ∧ (v = .slice none 0 0 ↔ ss = []) ∧ Below (w.alloc (.cells #[.map (some b)] 86)).heap.size (w.alloc (.cells #[.map (some b)] 86)) w' := by
  have hbl := hown.lt
  have hseq : SeqGives Fence.wide 2 Tryz.prog 134 #[.pointer (some ⟨w.heap.size, 0, none⟩)] encStr (fun ss => ss.Perm (strKeys D0)) (Maps.size D0) (w.alloc (.cells #[.map (some b)] 86)) :=
    AnyZ.keys_gives (ρ := Tryz.keys101_ren) { Tryz.keys101 with } Fence.wide _ trivial rfl (by omega) w.heap.size b nn D0 _ (by simp) (by simp) (by
      obtain ⟨es, clock, hb, Ft, hs, hD⟩ := hown
      exact ⟨es, clock, (Below.heap_alloc _ _ b hbl).trans hb, Ft, hs, hD⟩)
  exact AnyZ.sorted_in Tryz.sorted100 Fence.wide 5 trivial trivial trivial trivial rfl (by omega) (Tryz.sorts100 _) (enters_of Tryz.func133 (by kernel_rfl) rfl) 134 #[.pointer (some ⟨w.heap.size, 0, none⟩)] trivial (enters_of Tryz.func134 (by kernel_rfl) rfl) _ _ hmax hbytes _ hseq

set_option maxHeartbeats 1000000 in
theorem Tryz.slices_Sorted_keys_nil_100_101 (w : World) :
    CallsIn Fence.wide 5 Tryz.prog 100 #[.func (.func 134) #[] #[.pointer (some ⟨w.heap.size, 0, none⟩)]] (w.alloc (.cells #[.map none] 86)) fun e w' => ∃ (v : Value) (ss : List (List UInt8)), e = .returned v ∧ ss = [] ∧
      w'.ownsRow (w.alloc (.cells #[.map none] 86)).heap.size 9 1 v ss.length ((ss.mergeSort (fun x y => decide (x ≤ y))).map encStr) ∧ (v = .slice none 0 0 ↔ ss = []) ∧ Below (w.alloc (.cells #[.map none] 86)).heap.size (w.alloc (.cells #[.map none] 86)) w' := by
  have hseq : SeqGives Fence.wide 2 Tryz.prog 134 #[.pointer (some ⟨w.heap.size, 0, none⟩)] encStr (fun ss : List (List UInt8) => ss = []) 0 (w.alloc (.cells #[.map none] 86)) :=
    AnyZ.keys_gives_nil (ρ := Tryz.keys101_ren) { Tryz.keys101 with } Fence.wide _ trivial rfl w.heap.size _ (by simp) (by simp)
  exact AnyZ.sorted_in Tryz.sorted100 Fence.wide 5 trivial trivial trivial trivial rfl (by omega) (Tryz.sorts100 _) (enters_of Tryz.func133 (by kernel_rfl) rfl) 134 #[.pointer (some ⟨w.heap.size, 0, none⟩)] trivial (enters_of Tryz.func134 (by kernel_rfl) rfl) _ 0 (Nat.zero_le _) (by omega) _ hseq



end Go.Proofs
/- tree.Each: what it hands out. -/
namespace Go.Proofs.YtmnknmpfkjhgbaaGreatDoor
open Go.RowKit Go.Shelf
attribute [local go_sem] Oper.semAt_some
/-- what a round keeps: what lay below n₀, and each row of texts -/
def KE (M : Nat → Prop) (n₀ : Nat) (W W' : World) : Prop := Chg M n₀ W W' ∧ ∀ (b : Nat) (c : Array Value), W.heap[b]? = some (Obj.cells c 9 (0, 0)) → W'.heap[b]? = some (Obj.cells c 9 (0, 0))
theorem KE.refl (M : Nat → Prop) (n₀ : Nat) (W : World) : KE M n₀ W W := ⟨Chg.refl _ _ _, fun _ _ h => h⟩
theorem KE.trans {M : Nat → Prop} {n₀ : Nat} {A B C : World} (h : KE M n₀ A B) (k : KE M n₀ B C) : KE M n₀ A C := ⟨h.1.trans k.1, fun b c hb => k.2 b c (h.2 b c hb)⟩
theorem KE.of_below {M : Nat → Prop} {n₀ : Nat} {A B : World} (h : Below A.heap.size A B) (hn : n₀ ≤ A.heap.size) : KE M n₀ A B := ⟨.of_below (h.mono hn), fun b c hb => by rw [h.block b (Array.getElem?_eq_some_iff.1 hb).1]; exact hb⟩
theorem KE.b {M : Nat → Prop} {n₀ : Nat} {w : World} (hn : n₀ ≤ w.heap.size) (W : World) (l : Nat) (o o' : Obj) (hl : w.heap.size ≤ l) (h : W.heap[l]? = some o) (hc : o.isCells = false) (hw : o.isWalk = false) : KE M n₀ W (W.putObj l o') :=
  ⟨.of_below (belowK_b hn W l o o' hl h hc hw), fun b c hb => by
    have hne : b ≠ l := by rintro rfl; rw [h] at hb; injection hb with hb; subst hb; cases hc
    rw [World.putObj_heap_other hne]; exact hb⟩
theorem strKeys_dS (M : List (Tx × Value)) : strKeys (dS M) = M.map (·.1) := by
  show (M.map dSe).map (fun p => strOf p.1) = M.map (·.1)
  rw [List.map_map]
  rfl
theorem sort_srt {α : Type} {M : List (Tx × α)} (h : SM.Srt M) {ss : List Tx} (hp : ss.Perm (M.map (·.1))) : ss.mergeSort (fun x y => decide (x ≤ y)) = M.map (·.1) := by
  have := mergeSort_of_perm hp
  rw [show (fun x y => decide (x ≤ y)) = leB from rfl, this]
  refine List.mergeSort_of_pairwise (le := leB) ?_
  rw [List.pairwise_map]
  exact List.Pairwise.imp (R := fun a b : Tx × α => a.1 < b.1) (fun {a b} hab => by simpa [leB] using List.le_of_lt hab) h
theorem buildM (m : Mb) (av dv : Value) (w : World) : (Instr.build 41 #[(0, .string ⟨m.1.toArray⟩), (1, .agg (ndC m.2 av dv))]).run Tryz.prog w = .ok (.agg (mbC m av dv)) w := by kernel_rfl
/-- a row of the names -/
theorem names_row {w : World} {base : Nat} {v : Value} {ss : List Tx} {L : List Mb} (hss : ss.mergeSort (fun x y => decide (x ≤ y)) = L.map (·.1)) (h : w.ownsRow base 9 1 v ss.length ((ss.mergeSort (fun x y => decide (x ≤ y))).map encStr)) :
    ∃ av cv, v = .slice av ss.length cv ∧ (L = [] ∨ ∃ g cur, av = some ⟨g, 0, none⟩ ∧ w.heap[g]? = some (Obj.cells cur 9 (0, 0)) ∧ ∀ k (hk : k < L.length), cur[k]? = some (encStr L[k].1)) := by
  rw [hss] at h
  obtain ⟨hl, h⟩ := h
  rw [List.map_map, List.length_map, Nat.mul_one] at hl
  rcases h with ⟨rfl, h0⟩ | ⟨g, cap, cur, rfl, hb, hh, hn, hm, hs, ht⟩
  · exact ⟨none, 0, by rw [h0], .inl (List.eq_nil_of_length_eq_zero (by omega))⟩
  · refine ⟨_, cap, rfl, .inr ⟨g, cur, rfl, hh, fun k hk => ?_⟩⟩
    have : (cur.toList.take (ss.length * 1))[k]? = some (encStr L[k].1) := by
      rw [ht]; simp [hk]
    rw [List.getElem?_take] at this
    split at this
    · simpa using this
    · cases this
def encM (f : Tx → Value × Value) (x : Mb) : Array Value := #[.agg (mbC x (f x.1).1 (f x.1).2)]
set_option maxRecDepth 100000 in
set_option maxHeartbeats 4000000 in
theorem each1_in (M : Nat → Prop) (n : Nat) (hn : 6 ≤ n) (lo Bt n₀ T mb : Nat) (Bk : Nat → Prop) (f : Tx → Value × Value) (L : List Mb) (hL : L.length ≤ 1000000) (J Jx : List Mb → World → Prop)
    (hY : ∀ pre x W, x ∈ L → J pre W → pre.length < L.length → YieldAt Fence.wide (n - 1) Tryz.prog lo (encM f x) W fun e W' =>
      (e = .returned (.bool true) ∧ J (pre ++ [x]) W' ∧ KE M n₀ W W') ∨ (e = .returned (.bool false) ∧ Jx (pre ++ [x]) W'))
    (W : World) (hJ : AbidesFrom W.heap.size J) (hBt : W.cell? ⟨Bt, 0, none⟩ = some (.pointer (some ⟨T, 0, none⟩))) (hBt0 : Bt < n₀ ∧ ¬ M Bt) (hT : TreeIn W T mb Bk f L) (hlt : T < n₀ ∧ mb < n₀ ∧ ∀ b, Bk b → b < n₀) (hM : ¬ M T ∧ ¬ M mb ∧ ∀ b, Bk b → ¬ M b) (hn0 : n₀ ≤ W.heap.size) (h0 : J [] W) :
    CallsIn Fence.wide n Tryz.prog 99 #[.func (.yield lo) #[] #[], .pointer (some ⟨Bt, 0, none⟩)] W fun e W' => (∃ v, e = .returned v) ∧
      ((∃ ys, ys = L ∧ J ys W') ∨ (∃ pre, (∃ k, k ≤ L.length ∧ pre = L.take k) ∧ Jx pre W')) := by
  have hn1 : 1 ≤ n := by omega
  have HT := Keep.keep hT
  have HNN := Keep.keep (none_ok T mb W hT.row)
  have c0 := hT.row.cell (i := 0) rfl
  have hsz : Maps.size (dS (entries f L)) = L.length := by rw [size_dS]; simp [entries]
  have HSO := Keep.keep (Tryz.slices_Sorted_keys_100_101 mb _ (dS (entries f L)) rawE W hT.map.o (by rw [hsz]; unfold maxLen; omega) (by rw [hsz]; omega))
  have HSK : Keep (∀ ss : List Tx, ss.Perm (strKeys (dS (entries f L))) → ss.mergeSort (fun x y => decide (x ≤ y)) = L.map (·.1)) := ⟨fun ss hp => by
    rw [strKeys_dS] at hp
    have := sort_srt hT.map.s hp
    rw [this]; simp [entries, Function.comp_def]⟩
  have HON : Keep (∀ wx, Chg M n₀ W wx → TreeIn wx T mb Bk f L) := ⟨fun wx hb => hT.loc (fun b hb' => hb.block b (by rcases hb' with h | h | h; omega; omega; exact hlt.2.2 b h) (by rcases hb' with rfl | rfl | h; exact hM.1; exact hM.2.1; exact hM.2.2 b h))⟩
  have HBT : Keep (∀ wx, Chg M n₀ W wx → wx.cell? ⟨Bt, 0, none⟩ = some (.pointer (some ⟨T, 0, none⟩))) := ⟨fun wx hb => by rw [hb.cell (p := ⟨Bt, 0, none⟩) hBt0.1 hBt0.2]; exact hBt⟩
  clear hsz
  have hf1 : Fence.wide.fn 50 := trivial
  have hf2 : Fence.wide.fn 101 := trivial
  have hf3 : Fence.wide.fn 100 := trivial
  refine callsIn_of_wp Tryz.func99 rfl trivial ?_ rfl
  simp only [Tryz.ntmps99, List.size_toArray, List.length_cons, List.length_nil, Nat.reduceAdd, Nat.reduceSub, Array.replicate_succ, Array.replicate_zero, List.push_toArray, List.append_toArray, List.nil_append, List.cons_append]
  gi_wp2_with (first
    | (gi_at_call 50; refine (callsIn_wide.2 HNN.out).mono ?_; rintro e w' ⟨rfl, rfl⟩)
    | (gi_at_call 101; refine (callsIn_wide.2 (callsIn_wide.1 (Tryz.maps_Keys_101 _ _))).mono ?_; rintro e w' ⟨rfl, rfl⟩)
    | (gi_at_call 100; refine (callsIn_wide.2 (callsIn_wide.1 HSO.out)).mono ?_; rintro e w' ⟨v, ss, rfl, hS, hrow, hnil, hb⟩
       have hss := HSK.out ss hS
       obtain ⟨av, cv, hv, HNR⟩ := names_row hss hrow
       have HLS : Keep (ss.length = L.length) := ⟨by have := congrArg List.length hss; rw [List.length_mergeSort, List.length_map] at this; exact this⟩
       rw [HLS.out] at hv
       have HB := Keep.keep (((Below.refl W.heap.size W).alloc (Nat.le_refl _) _).trans (hb.mono (by simp)))
       have HNR := Keep.keep HNR
       clear hS hrow hnil hb hss HLS
       subst hv))
  gi_loopw [4, 14] (fun _ u14 wr => ∃ k : Nat, k ≤ L.length ∧ u14 = .int .i64 (k : Int) ∧ J (L.take k) wr ∧ Chg M n₀ W wr ∧ (L = [] ∨ ∃ g cur, av = some ⟨g, 0, none⟩ ∧ wr.heap[g]? = some (Obj.cells cur 9 (0, 0)) ∧ ∀ k (hk : k < L.length), cur[k]? = some (encStr L[k].1)))
    (fun _ u14 _ => L.length - (intOf u14).toNat)
  case atStart => exact ⟨0, Nat.zero_le _, rfl, hJ [] W _ none h0 ⟨HB.out.os, HB.out.tape, HB.out.output, HB.out.size, fun i hi _ => HB.out.block i hi⟩ (fun r e => by cases e), .of_below (HB.out.mono hn0), HNR.out⟩
  case round =>
    obtain ⟨k, hkL, rfl, hJs, hbl, hnr⟩ := hrel
    have HJS := Keep.keep hJs; have HBL := Keep.keep hbl; have HNR2 := Keep.keep hnr
    clear hJs hbl hnr HB HNR HSO
    by_cases hk : k < L.length
    · have hd : decide ((k : Int) < (L.length : Int)) = true := decide_eq_true (by omega)
      obtain ⟨g, cur, rfl, hg, hcs⟩ : ∃ g cur, av = some ⟨g, 0, none⟩ ∧ wr.heap[g]? = some (Obj.cells cur 9 (0, 0)) ∧ ∀ k (hk : k < L.length), cur[k]? = some (encStr L[k].1) := by
        rcases HNR2.out with h | h
        · rw [h] at hk; simp at hk
        · exact h
      have HG := Keep.keep hg; have HCS := Keep.keep hcs
      have hnm : wr.cell? ⟨g, k, none⟩ = some (encStr L[k].1) := by simp [World.cell?, hg, hcs k hk]
      have hTI := HON.out wr HBL.out
      have hTc := hTI.row.cell (i := 0) rfl
      have hBc := HBT.out wr HBL.out
      have hlk : SM.look L L[k].1 = some L[k].2 := (hTI.srt.look).2 (List.getElem_mem hk)
      have hsm := hTI.sm _ (List.getElem_mem hk)
      have hl1 := hTI.map.look1 Tryz.underlying9 Tryz.underlying86 (zeroN wr) (p := L[k].1) (by have := hsm.p; unfold maxLen; omega)
      rw [look_entries, hlk] at hl1
      simp only [Option.map_some, Option.getD_some] at hl1
      have HTK : Keep (L.take (k + 1) = L.take k ++ [L[k]]) := ⟨List.take_succ_eq_append_getElem hk⟩
      have htl : (L.take k).length < L.length := by rw [List.length_take]; omega
      obtain ⟨fn, tmps, assign, body, hy, hR⟩ := hY _ L[k] wr (List.getElem_mem hk) HJS.out htl
      unfold encM mbC strV at hy
      unfold ndC strV at hl1
      have HR := Keep.keep hR
      clear hR hlk hsm hTI htl hg hcs
      generalize L[k] = x at *
      unfold encStr at hnm
      gi_wp2
      refine HR.out.mono ?_
      rintro e W3 (⟨rfl, hJ3, hk3⟩ | ⟨rfl, hJx3⟩)
      · rw [← HTK.out] at hJ3
        have HJ3 := Keep.keep hJ3
        have HB3 : Keep (Chg M n₀ W W3) := ⟨HBL.out.trans hk3.1⟩
        have HN3 : Keep (L = [] ∨ ∃ g2 cur, some (Addr.mk g 0 none) = some ⟨g2, 0, none⟩ ∧ W3.heap[g2]? = some (Obj.cells cur 9 (0, 0)) ∧ ∀ k (hk : k < L.length), cur[k]? = some (encStr L[k].1)) := ⟨.inr ⟨g, cur, rfl, hk3.2 g cur HG.out, HCS.out⟩⟩
        clear hJ3 hk3
        gi_wp2
        go_roundw
        case rel => exact ⟨k + 1, by omega, by simp, HJ3.out, HB3.out, HN3.out⟩
        case measure => simp [intOf]; omega
      · rw [← HTK.out] at hJx3
        have HJ3 := Keep.keep hJx3
        clear hJx3
        gi_wp2
        refine bodyPost_ret (results_none rfl _ _ _) rfl ?_
        exact ⟨⟨_, rfl⟩, .inr ⟨_, ⟨k + 1, by omega, rfl⟩, HJ3.out⟩⟩
    · have hd : decide ((k : Int) < (L.length : Int)) = false := decide_eq_false (by omega)
      have hkl : k = L.length := by omega
      have HF : Keep (J L wr) := ⟨by have h := HJS.out; rw [hkl, List.take_length] at h; exact h⟩
      gi_wp2
      go_end0
      exact ⟨⟨_, rfl⟩, .inl ⟨L, rfl, HF.out⟩⟩
/-- tree.Each hands back a value that stops -/
theorem each_stops (M : Nat → Prop) (n : Nat) (hn : 6 ≤ n) (Bt n₀ T mb : Nat) (Bk : Nat → Prop) (f : Tx → Value × Value) (L : List Mb) (hL : L.length ≤ 1000000) (w : World) (hBt : w.cell? ⟨Bt, 0, none⟩ = some (.pointer (some ⟨T, 0, none⟩))) (hBt0 : Bt < n₀ ∧ ¬ M Bt) (hT : TreeIn w T mb Bk f L) (hlt : T < n₀ ∧ mb < n₀ ∧ ∀ b, Bk b → b < n₀) (hM : ¬ M T ∧ ¬ M mb ∧ ∀ b, Bk b → ¬ M b) (hn0 : n₀ ≤ w.heap.size) :
    SeqStopsK Fence.wide n Tryz.prog 99 #[.pointer (some ⟨Bt, 0, none⟩)] (fun x : {x : Mb // x ∈ L} => encM f x.1) (KE M n₀) (fun ys => ys.map (·.1) = L) (fun pre => ∃ k, k ≤ L.length ∧ pre.map (·.1) = L.take k) L.length w := fun lo J Jx W hW hJ _ hY h0 => by
  have hlt' : ∀ b, b < n₀ → W.heap[b]? = w.heap[b]? := fun b hb => hW.block b (Nat.lt_of_lt_of_le hb hn0)
  refine (each1_in M n hn lo Bt n₀ T mb Bk f L hL (fun pre W => ∃ q : List {x : Mb // x ∈ L}, q.map (·.1) = pre ∧ J q W) (fun pre W => ∃ q : List {x : Mb // x ∈ L}, q.map (·.1) = pre ∧ Jx q W) ?_ W ?_ (by rw [cell_loc (hlt' Bt hBt0.1)]; exact hBt) hBt0 (hT.loc (fun b hb' => hlt' b (by rcases hb' with h | h | h; omega; omega; exact hlt.2.2 b h))) hlt hM (Nat.le_trans hn0 hW.size) ⟨[], rfl, h0⟩).mono ?_
  · rintro pre x W1 hx ⟨q, rfl, hq⟩ hl
    obtain ⟨fn, tmps, assign, body, hy, hR⟩ := hY q ⟨x, hx⟩ W1 hq (by simpa using hl)
    refine ⟨fn, tmps, assign, body, hy, hR.mono ?_⟩
    rintro e W2 (⟨h1, h2, h3⟩ | ⟨h1, h2⟩)
    · exact .inl ⟨h1, ⟨_, by simp, h2⟩, h3⟩
    · exact .inr ⟨h1, _, by simp, h2⟩
  · intro q W1 W2 row hq h1 h2
    obtain ⟨q', e, hq'⟩ := hq
    exact ⟨q', e, hJ _ _ _ _ hq' h1 h2⟩
  · rintro e W2 ⟨hv, ⟨ys, rfl, q, e, hq⟩ | ⟨pre, ⟨k, hk, rfl⟩, q, e, hq⟩⟩
    · exact ⟨hv, .inl ⟨q, e, hq⟩⟩
    · exact ⟨hv, .inr ⟨q, ⟨k, hk, e⟩, hq⟩⟩
set_option maxHeartbeats 400000 in
set_option maxRecDepth 100000 in
/-- tree.Each -/
theorem each_any (a : Option Addr) (w : World) : Calls Tryz.prog 55 #[.pointer a] w fun e w' => e = .returned (.func (.func 99) #[] #[.pointer (some ⟨w.heap.size, 0, none⟩)]) ∧ w' = w.alloc (.cells #[.pointer a] 24) := by
  go_enter Tryz.func55, Tryz.ntmps55
  go_wp2_with fail
  go_ret
  exact ⟨rfl, rfl⟩
end Go.Proofs.YtmnknmpfkjhgbaaGreatDoor
/- A REGION THAT DRAWS ITS ORDER, in the body of a range over a function: what is shown of its orders without a fence holds within the wide fence. -/
namespace Go.Proofs.YtmnknmpfkjhgbaaGreatDoor
open Go.RowKit
def noDefer (ops : Array Oper) : Bool := ops.all fun o => match o.op with | .defer _ => false | _ => true
theorem noDefer_at {ops : Array Oper} (h : noDefer ops = true) {i : Nat} {o : Oper} (hi : ops[i]? = some o) {r : Nat} (ρ : Operand → Value) : Oper.semAt (some r) ρ o = execOp ρ o := by
  refine Oper.semAt_eq _ _ _ (fun c => ?_)
  obtain ⟨hlt, rfl⟩ := Array.getElem?_eq_some_iff.1 hi
  intro e
  have := (Array.all_eq_true.1 h) i hlt
  rw [e] at this
  cases this
theorem uponIn_of {r n : Nat} {P : Program} {o : Oper} {a : Act} {next : Act → World → Prop} {Q : Exit → Act → World → Prop} {x : Result Next} (h : o.upon P a next Q x) : o.uponIn (Fence.wide.inRound r) n P a next Q x := by
  cases x with
  | ok x w' =>
    cases x with
    | enter f args => exact ⟨(fun h => by cases h), (CallsIn.inRound r (callsIn_wide.2 h))⟩
    | row row args => exact ⟨(fun h => by cases h), fun c cs _ => let ⟨v, w', q, s⟩ := h c cs; ⟨v, w', q, stepsIn_wide.2 s⟩⟩
    | _ => first | exact h | exact h.elim
  | halt x w' => cases x <;> first | exact h | exact h.elim
theorem wpOpIn_of {r n : Nat} {P : Program} {ops : Array Oper} {Q : Exit → Act → World → Prop} {K : Act → World → Prop} {i : Nat} {a : Act} {w : World} (hd : noDefer ops = true) (hq : ¬ LetsOut Q) (h : wpOp P ops Q i K a w) : wpOpIn (Fence.wide.inRound r) n P ops Q i K a w := by
  unfold wpOp at h
  unfold wpOpIn
  cases hi : ops[i]? with
  | none => rw [hi] at h; exact h
  | some o =>
    rw [hi] at h
    simp only at h ⊢
    split
    · rename_i hw
      rw [if_pos hw] at h
      refine ⟨fun _ _ => trivial, ?_⟩
      rw [Fence.inRound_round, noDefer_at hd hi]
      exact uponIn_of (h.resolve_right (fun h => hq h.2))
    · rename_i hw
      rw [if_neg hw] at h
      exact ⟨fun _ _ => trivial, h⟩
theorem wpAnyIn_of {r n : Nat} {P : Program} {md : Region.Mode} {ops : Array Oper} {Q : Exit → Act → World → Prop} (hd : noDefer ops = true) (hq : ¬ LetsOut Q) : ∀ (f : Nat) (listed : Array Bool) (a : Act) (w : World), wpAny P md ops Q f listed a w → wpAnyIn (Fence.wide.inRound r) n P md ops Q f listed a w
  | 0, _, _, _, h => h
  | f + 1, _, _, _, h => ⟨h.1, fun i hi => wpOpIn_mono (fun a w h2 => wpAnyIn_of hd hq f _ a w h2) (wpOpIn_of hd hq (h.2 i hi))⟩
theorem wpIn_region_wide {r n id : Nat} {P : Program} {ops : Array Oper} {Q : Exit → Act → World → Prop} {a : Act} {w : World} (hm : P.follows .mixedOrders = true) (hd : noDefer ops = true) (hq : ¬ LetsOut Q) (h : wpAny P .any ops Q ops.size (Array.replicate ops.size false) a w.drew) : (Code.region id ops true).wpIn (Fence.wide.inRound r) n P Q a w :=
  wpIn_region_any hm (wpAnyIn_of hd hq _ _ _ _ h)
theorem any_spcT {P : Program} {l : List Oper} {Q : Exit → Act → World → Prop} {a : Act} {w : World} (n : Nat) (D : List Nat) (C : World → Prop) (T : Nat → Value → World → Prop) (St : World → World → Prop)
    (hD : (l.take n).map (·.dst) = D.map some) (hnd : D.Nodup) (hds : ∀ d ∈ D, d < a.tmps.size) (hio : inOrderB l.toArray = true) (hn : n < l.length) (hsk : Region.sinkB .any l.toArray n = true) (hch : Region.chainB .any l.toArray n = true)
    (hsq : Region.seqB .any l.toArray (l.length - n) n (headDone n l.length) = true) (h0 : C w.drew)
    (hst : ∀ i v w w', T i v w → C w → St w w' → T i v w')
    (hs : ∀ i, i < n → ∀ a1 w1, Fr a D a1 → C w1 → (∀ j, j < n → Region.waitsFor .any l.toArray i j = true → T j (slot a1 (D.getD j 0)) w1) →
      wpOp P l.toArray Q i (fun a2 w2 => ∃ v, a2 = a1.put (some (D.getD i 0)) v ∧ C w2 ∧ St w1 w2 ∧ T i v w2) a1 w1)
    (he : ∀ a1 w1, a1 = D.foldl (fun b d => b.put (some d) (slot a1 d)) a → C w1 → (∀ j, j < n → T j (slot a1 (D.getD j 0)) w1) → wpList P l.toArray Q (l.drop n) a1 w1) : wpAny P .any l.toArray Q l.toArray.size (Array.replicate l.toArray.size false) a w.drew := by
  have hlen : D.length = n := by have := congrArg List.length hD; simp at this; omega
  have hmem : ∀ i, i < n → D.getD i 0 ∈ D := fun i hi => by
    rw [List.getD_eq_getElem?_getD, List.getElem?_eq_getElem (by omega)]
    exact List.getElem_mem _
  have hinj : ∀ i j, i < n → j < n → D.getD i 0 = D.getD j 0 → i = j := fun i j hi hj h => by
    rw [List.getD_eq_getElem?_getD, List.getD_eq_getElem?_getD, List.getElem?_eq_getElem (by omega), List.getElem?_eq_getElem (by omega)] at h
    exact (List.getElem_inj hnd).1 h
  have hsz : l.toArray.size = l.length := by simp
  have key : ∀ (f : Nat) (done : Array Bool) (a1 : Act) (w1 : World), HeadInv .any l.toArray n done → Fr a D a1 → C w1 → (∀ j, j < n → done.getD j false = true → T j (slot a1 (D.getD j 0)) w1) →
      (List.range n).countP (fun j => !done.getD j false) = f → wpAny P .any l.toArray Q (f + (l.length - n)) done a1 w1 := by
    intro f
    induction f with
    | zero =>
      intro done a1 w1 inv hF hC hT hc
      have hall : ∀ j, j < n → done.getD j false = true := fun j hj => by
        have := List.countP_eq_zero.1 hc j (List.mem_range.2 hj)
        simpa using this
      have hdn : done = headDone n l.length := by
        have hs1 : done.size = l.length := by rw [inv.size, hsz]
        refine Array.ext (by simp [headDone, hs1]; omega) (fun j h1 h2 => ?_)
        have hj2 : j < l.length := by omega
        by_cases hj : j < n
        · have := hall j hj
          rw [Array.getD_eq_getD_getElem?, Array.getElem?_eq_getElem h1] at this
          simp only [Option.getD_some] at this
          rw [this]
          simp [headDone, hj]
        · have := inv.tail j (by omega) (by omega)
          rw [Array.getD_eq_getD_getElem?, Array.getElem?_eq_getElem h1] at this
          simp only [Option.getD_some] at this
          rw [this]
          simp [headDone, List.getElem_append, hj]
      have hw := he a1 w1 hF.eq hC (fun j hj => hT j hj (hall j hj))
      have hdl : (l.drop n).length = l.length - n := by simp
      have := wpAny_of_seq (md := .any) (ops := l.toArray) (Q' := Q) (l.drop n) n done a1 w1 (fun j => by simp [List.getElem?_drop]) (by rw [hdl, hdn]; exact hsq) hw
      rw [hdl] at this
      rwa [Nat.zero_add]
    | succ f ih =>
      intro done a1 w1 inv hF hC hT hc
      obtain ⟨j0, hj0, hu0⟩ : ∃ j0, j0 < n ∧ done.getD j0 false = false := by
        have : 0 < (List.range n).countP (fun j => !done.getD j false) := by omega
        obtain ⟨j, hj, hp⟩ := List.countP_pos_iff.1 this
        exact ⟨j, List.mem_range.1 hj, by simpa using hp⟩
      have e : f + 1 + (l.length - n) = (f + (l.length - n)) + 1 := by omega
      rw [e]
      refine ⟨fun hr => ?_, fun i hi => ?_⟩
      · have := all_done hio inv.size hr j0 (by rw [hsz]; omega)
        rw [hu0] at this; cases this
      · have hin : i < n := Nat.lt_of_not_le fun hle => tail_waits hsk hch (by rw [hsz]; exact hn) inv _ j0 rfl hj0 (getD_in (by rw [inv.size, hsz]; omega) hu0) i hle hi
        obtain ⟨hun, oi, hoi, hall⟩ := mem_ready.1 hi
        refine wpOp_mono ?_ (hs i hin a1 w1 hF hC (fun j hjn hj => ?_))
        · rintro a2 w2 ⟨v, rfl, hC2, hb, hTi⟩
          refine ih _ _ _ (inv.set hi hin) (hF.put _ (hmem i hin) v) hC2 (fun j hj hd => ?_) ?_
          · by_cases e : i = j
            · subst e
              rw [slot_put_same _ _ _ (by rw [hF.size]; exact hds _ (hmem i hin))]
              exact hTi
            · have hd' := (getD_set_iff hd).resolve_left e
              rw [slot_put_ne _ _ _ _ (fun e2 => e (hinj i j hin hj e2))]
              exact hst j _ _ _ (hT j hj hd') hC hb
          · have hisz : i < done.size := by rw [inv.size, hsz]; omega
            have := cnt_set n i hin (fun j => !done.getD j false) (fun j => !(done.setIfInBounds i true).getD j false) (by
              have := getD_both hun
              simp [this]) (by simp [Array.getD_eq_getD_getElem?, hisz]) (fun j hj => by
              have : i ≠ j := fun e => hj e.symm
              simp [Array.getD_eq_getD_getElem?, Array.getElem?_setIfInBounds_ne this])
            omega
        · obtain ⟨ed, he1, he2, he3⟩ := waits_of hoi hj
          have hdn := hall ed he1 he2
          rw [he3] at hdn
          exact hT j hjn hdn
  have inv : HeadInv .any l.toArray n (Array.replicate l.toArray.size false) := by
    refine ⟨by simp, fun j oj _ hl => ?_, fun t _ ht => getD_in (by simpa using ht) (getD_replicate_false _ _)⟩
    rw [getD_replicate_false] at hl; cases hl
  have hcn : (List.range n).countP (fun j => !(Array.replicate l.toArray.size false).getD j false) = n := by
    rw [List.countP_eq_length.2 (fun j _ => by rw [getD_replicate_false]; rfl), List.length_range]
  have := key n _ a w.drew inv (Fr.refl a D) h0 (fun j hj hd => by rw [getD_replicate_false] at hd; cases hd) hcn
  rw [show n + (l.length - n) = l.toArray.size by rw [hsz]; omega] at this
  exact this
end Go.Proofs.YtmnknmpfkjhgbaaGreatDoor
/- tree.Under. -/
namespace Go.Proofs.YtmnknmpfkjhgbaaGreatDoor
open Go.RowKit Go.Shelf
attribute [local go_sem] Oper.semAt_some
theorem slMb : SlK Tryz.prog 23 41 (.agg (mbC ([], nd0) nilV nilV)) 9 112 := SlK.mk' Tryz.underlying23 (by kernel_rfl) rfl (by decide)
theorem RdV.kept {N : Nat → Prop} {w w' : World} {row : Option Nat} {k n : Nat} {v : Value} {vs : List Value} (h : RdV w N k v n vs) (hg : w.grownBy w' row) (hr : ∀ r, row = some r → ∃ o : Obj, w.heap[r]? = some o ∧ o.isCells = false) : RdV w' N k v n vs :=
  ⟨h.len, h.shape, fun b off m cap e j u hj => cell_kept (h.cell b off m cap e j u hj) hg hr⟩
theorem Reads.kept {N : Nat → Prop} {w w' : World} {row : Option Nat} {v : Value} {l : List UInt8} (h : Reads w N v l) (hg : w.grownBy w' row) (hr : ∀ r, row = some r → ∃ o : Obj, w.heap[r]? = some o ∧ o.isCells = false) : Reads w' N v l :=
  ⟨h.shape, fun b off n cap e j hj => cell_kept (h.cell b off n cap e j hj) hg hr⟩
theorem NdR.kept {N : Nat → Prop} {w w' : World} {row : Option Nat} {n : Nd} {av dv : Value} (h : NdR w N n av dv) (hg : w.grownBy w' row) (hr : ∀ r, row = some r → ∃ o : Obj, w.heap[r]? = some o ∧ o.isCells = false) : NdR w' N n av dv := ⟨h.at_.kept hg hr, h.dt.kept hg hr⟩
theorem owns_kept {w w' : World} {row : Option Nat} {base k n : Nat} {e : TypeId} {v : Value} {vs : List Value} (h : w.ownsRow base e k v n vs) (hg : w.grownBy w' row) (hr : ∀ r, row = some r → ∃ o : Obj, w.heap[r]? = some o ∧ o.isCells = false) : w'.ownsRow base e k v n vs := by
  obtain ⟨h0, ho⟩ := h
  refine ⟨h0, ho.imp id ?_⟩
  rintro ⟨g, cap, cur, rfl, hbb, hh, rest⟩
  exact ⟨g, cap, cur, rfl, hbb, (grownBy_keeps_cells hg hr hh rfl).trans hh, rest⟩
theorem NdO.kept {N : Nat → Prop} {w w' : World} {row : Option Nat} {n : Nd} {av dv : Value} (h : NdO w N n av dv) (hg : w.grownBy w' row) (hr : ∀ r, row = some r → ∃ o : Obj, w.heap[r]? = some o ∧ o.isCells = false) : NdO w' N n av dv :=
  ⟨h.r.kept hg hr, fun b off m cap e => by
    obtain ⟨h1, c, h2⟩ := h.ta b off m cap e
    exact ⟨h1, c, (grownBy_keeps_cells hg hr h2 rfl).trans h2⟩, fun b off m cap e => by
    obtain ⟨h1, c, h2⟩ := h.td b off m cap e
    exact ⟨h1, c, (grownBy_keeps_cells hg hr h2 rfl).trans h2⟩⟩
theorem NdO.loc {w w' : World} {N : Nat → Prop} {n : Nd} {av dv : Value} (h : NdO w N n av dv) (hb : ∀ b, N b → w'.heap[b]? = w.heap[b]?) : NdO w' N n av dv :=
  ⟨h.r.loc hb, fun b off m cap e => by
    obtain ⟨h1, c, h2⟩ := h.ta b off m cap e
    exact ⟨h1, c, (hb b h1).trans h2⟩, fun b off m cap e => by
    obtain ⟨h1, c, h2⟩ := h.td b off m cap e
    exact ⟨h1, c, (hb b h1).trans h2⟩⟩
def hitU (p : Tx) (x : Mb) : Bool := x.1 == p || underP p x.1
def underL (p : Tx) (L : List Mb) : List Mb := L.filter (hitU p)
/-- what the loop keeps: the box of l -/
theorem ownsRow_base {w : World} {base base' k n : Nat} {e : TypeId} {v : Value} {vs : List Value} (h : w.ownsRow base e k v n vs) (hb : base' ≤ base) : w.ownsRow base' e k v n vs := by
  obtain ⟨hl, h⟩ := h
  refine ⟨hl, ?_⟩
  rcases h with h | ⟨g, cap, cur, h1, h2, h3⟩
  · exact .inl h
  · exact .inr ⟨g, cap, cur, h1, Nat.le_trans hb h2, h3⟩
/-- a row of Members that is the call's own: its nodes lie elsewhere -/
structure OwnMbs (B : Nat) (w : World) (v : Value) (l : List Mv) : Prop where
  own : w.ownsRow B 41 9 v l.length (mcells l)
  nd : ∀ x ∈ l, NdO w (fun b => B ≤ b ∧ b < w.heap.size ∧ v.ownBlock ≠ some b) x.1.2 x.2.1 x.2.2
theorem OwnMbs.mbs {B : Nat} {w : World} {v : Value} {l : List Mv} (h : OwnMbs B w v l) : Mbs w (Fresh B w) (Fresh B w) v l :=
  ⟨(ownsV_reads h.own).mono (fun _ hb => ⟨hb.1, hb.2.1⟩), fun x hx => (h.nd x hx).r.mono (fun _ hb => ⟨hb.1, hb.2.1⟩)⟩
structure UI (p : Tx) (b0 : Nat) (w : World) (pre : List Mb) (W : World) (v : Value) (l : List Mv) : Prop where
  box : Boxed W (b0 + 1) 23 v
  own : W.ownsRow (b0 + 3) 41 9 v l.length (mcells l)
  nd : ∀ x ∈ l, NdO W (fun b => b0 + 3 ≤ b ∧ b < W.heap.size ∧ v.ownBlock ≠ some b) x.1.2 x.2.1 x.2.2
  is : l.map (·.1) = underL p pre
  pb : Boxed W b0 9 (.string ⟨p.toArray⟩)
  bel : Below b0 w W
  sz : b0 + 3 ≤ W.heap.size
theorem UI.own_ (p : Tx) (b0 B : Nat) (w : World) (hw : b0 ≤ w.heap.size) (hB : b0 ≤ B) : OwnFrom B (fun pre W => ∃ v l, UI p b0 w pre W v l) := by
  rintro pre W W' row ⟨v, l, h⟩ hg hr
  have hr' : ∀ r, row = some r → ∃ o : Obj, W.heap[r]? = some o ∧ o.isCells = false := fun r e => (hr r e).2
  exact ⟨v, l, (Own.from (boxed_own (b0 + 1) 23 (fun _ : Unit => v)) B) () W W' row h.box hg hr, owns_kept h.own hg hr', fun x hx => ((h.nd x hx).kept hg hr').mono (fun b hb => ⟨hb.1, Nat.lt_of_lt_of_le hb.2.1 hg.size, hb.2.2⟩), h.is,
    (Own.from (boxed_own b0 9 (fun _ : Unit => .string ⟨p.toArray⟩)) B) () W W' row h.pb hg hr, (ownFrom_below (β := Unit) hw hB) () W W' row h.bel hg hr, Nat.le_trans h.sz hg.size⟩
theorem UI.ownL (p : Tx) (b0 B : Nat) (w : World) (hw : b0 ≤ w.heap.size) (hB : b0 ≤ B) (L : List Mb) : OwnFrom B (fun (pre : List {x : Mb // x ∈ L}) W => ∃ v l, UI p b0 w (pre.map (·.1)) W v l) :=
  fun pre W W' row h hg hr => UI.own_ p b0 B w hw hB (pre.map (·.1)) W W' row h hg hr
theorem run_buildMb {ρ : Operand → Value} {d : Option Tmp} {x y : Operand} {t : TypeId} {pos : String} {af : Array Edge} {g : Option (Nat × Bool)} {w : World} {m : Mb} {av dv : Value} (h1 : ρ x = .string ⟨m.1.toArray⟩) (h2 : ρ y = .agg (ndC m.2 av dv)) :
    (execOp ρ (⟨d, .build 41 #[(0, x), (1, y)], t, pos, af, g⟩ : Oper)).run Tryz.prog w = .ok (.value (.agg (mbC m av dv))) w := by
  simp [execOp, h1, h2, buildM]
/-- what is said of the operations of `l = append(l, Member{..})` -/
def unT (x : Mb) (s Bx : Nat) (v av dv : Value) : Nat → Value → World → Prop
  | 0, u, _ => u = v
  | 1, u, _ => u = .pointer (some ⟨Bx, 0, none⟩)
  | 2, u, _ => u = .string ⟨x.1.toArray⟩
  | 3, u, _ => u = .pointer (some ⟨Bx, 1, none⟩)
  | 4, u, _ => u = .agg (ndC x.2 av dv)
  | 5, u, w => ∃ a d, u = .agg (ndC x.2 a d) ∧ NdO w (Fresh s w) x.2 a d
  | 6, u, w => ∃ a d, u = .agg (mbC x a d) ∧ NdO w (Fresh s w) x.2 a d
  | 7, u, w => ∃ a d bl, u = .slice (some ⟨bl, 0, none⟩) 1 1 ∧ RdV w (fun b => b = bl) 9 u 1 (mbC x a d).toList ∧ NdO w (Fresh s w) x.2 a d ∧ bl < w.heap.size
  | _, _, _ => True
theorem unT_stays {x : Mb} {s Bx : Nat} {v av dv : Value} (k : Nat) (u : Value) (w w' : World) (h : unT x s Bx v av dv k u w) (hb : Below w.heap.size w w') : unT x s Bx v av dv k u w' := by
  have hN : ∀ a d, NdO w (Fresh s w) x.2 a d → NdO w' (Fresh s w') x.2 a d := fun a d h => (h.below hb (fun b hb' => hb'.2)).mono (Fresh.mono (Nat.le_refl _) hb.size)
  match k with
  | 0 => exact h
  | 1 => exact h
  | 2 => exact h
  | 3 => exact h
  | 4 => exact h
  | 5 => obtain ⟨a, d, e, h⟩ := h; exact ⟨a, d, e, hN _ _ h⟩
  | 6 => obtain ⟨a, d, e, h⟩ := h; exact ⟨a, d, e, hN _ _ h⟩
  | 7 => obtain ⟨a, d, bl, e, h1, h2, h3⟩ := h; exact ⟨a, d, bl, e, h1.below hb (fun b e => e ▸ h3), hN _ _ h2, Nat.lt_of_lt_of_le h3 hb.size⟩
  | _ + 8 => trivial
theorem under_step {p : Tx} {b0 B : Nat} {w W w2 w3 : World} {pre pre' : List Mb} {v : Value} {l : List Mv} {x : Mb} {av dv : Value} {g cap : Nat} (hU : UI p b0 w pre W v l) (hC : Below W.heap.size W w2)
    (ho : w3.ownsRow (b0 + 3) 41 9 (.slice (some ⟨g, 0, none⟩) (l.length + 1) cap) (l.length + 1) (mcells l ++ (mbC x av dv).toList)) (hg : w2.grownBy w3 v.ownBlock)
    (hov : (Value.slice (some ⟨g, 0, none⟩) (l.length + 1) cap).ownBlock = v.ownBlock ∨ (Value.slice (some ⟨g, 0, none⟩) (l.length + 1) cap).ownBlock = some w2.heap.size) (hn : NdO w2 (Fresh W.heap.size w2) x.2 av dv) (hH : underL p pre' = underL p pre ++ [x]) :
    KeepsFrom B W (w3.setCell ⟨b0 + 1, 0, none⟩ (.slice (some ⟨g, 0, none⟩) (l.length + 1) cap)) ∧ KE (fun b => b = b0 + 1) (b0 + 3) W (w3.setCell ⟨b0 + 1, 0, none⟩ (.slice (some ⟨g, 0, none⟩) (l.length + 1) cap)) ∧ ∃ v' l', UI p b0 w pre' (w3.setCell ⟨b0 + 1, 0, none⟩ (.slice (some ⟨g, 0, none⟩) (l.length + 1) cap)) v' l' := by
  have hob := World.ownsRow.lt hU.own
  have hob3 := World.ownsRow.lt ho
  have hgo : (Value.slice (some ⟨g, 0, none⟩) (l.length + 1) cap).ownBlock = some g := rfl
  rw [hgo] at hov
  have hg3 := (hob3 g rfl).1
  have hsz := hU.sz
  have hs2 := hC.size
  have hs3 := hg.size
  have hcell : ∀ j, v.ownBlock = some j → ∃ cur, W.heap[j]? = some (.cells cur 41 (0, 0)) := by
    rcases hU.own.2 with ⟨rfl, _⟩ | ⟨g, cap, cur, rfl, _, hh, _⟩
    · intro j e; cases e
    · intro j e; injection e with e; subst e; exact ⟨cur, hh⟩
  have h3 : ∀ b, b < w2.heap.size → v.ownBlock ≠ some b → w3.heap[b]? = w2.heap[b]? := fun b h1 h2 => hg.block b h1 (fun e => h2 e.symm)
  generalize hv' : Value.slice (some ⟨g, 0, none⟩) (l.length + 1) cap = v' at *
  have h4 : ∀ b, b < w3.heap.size → b ≠ b0 + 1 → (w3.setCell ⟨b0 + 1, 0, none⟩ v').heap[b]? = w3.heap[b]? := fun b h1 h2 => (grownBy_setCell' w3 (b0 + 1) v').block b h1 (fun e => h2 (by injection e))
  have hs4 := (grownBy_setCell' w3 (b0 + 1) v').size
  have hall : ∀ b, b < W.heap.size → v.ownBlock ≠ some b → b ≠ b0 + 1 → (w3.setCell ⟨b0 + 1, 0, none⟩ v').heap[b]? = W.heap[b]? := fun b h1 h2 h5 => by
    rw [h4 b (by omega) h5, h3 b (by omega) h2, hC.block b h1]
  have hKE : Chg (fun b => b = b0 + 1) (b0 + 3) W (w3.setCell ⟨b0 + 1, 0, none⟩ v') :=
    Chg.setCell (M := fun b => b = b0 + 1) (((Chg.of_below (hC.mono hsz)).trans (Chg.grown (.refl _ _ _) hg (by omega) (fun k e => .inl (hob k e).1)))) (p := ⟨b0 + 1, 0, none⟩) (.inr rfl) _
  have hbox3 : Boxed w3 (b0 + 1) 23 v := by
    unfold Boxed
    rw [h3 _ (by omega) (fun e => by have := (hob _ e).1; omega), hC.block _ hU.box.lt]
    exact hU.box
  refine ⟨?_, ⟨hKE, fun b c hb => ?_⟩, v', l ++ [(x, av, dv)], hbox3.set _, ?_, ?_, ?_, ?_, ?_, by omega⟩
  · have k1 : KeepsOthers W w2 := ⟨hs2, fun k o hk _ => (hC.block k (Array.getElem?_eq_some_iff.1 hk).1).trans hk⟩
    have k2 : KeepsOthers w2 w3 := KeepsOthers.of_grownBy hg (fun j o e ho' => by
      obtain ⟨cur, hc⟩ := hcell j e
      rw [hC.block j (hob j e).2, hc] at ho'
      injection ho' with ho'
      subst ho'; rfl)
    exact ((k1.trans k2).trans (KeepsOthers.setCell _ _ _)).from _
  · have hlt := (Array.getElem?_eq_some_iff.1 hb).1
    refine (hall b hlt (fun e => ?_) (fun e => ?_)).trans hb
    · obtain ⟨cur, hc⟩ := hcell b e
      rw [hc] at hb
      injection hb with hb
      injection hb with _ hb
      cases hb
    · subst e
      have := hU.box
      unfold Boxed at this
      rw [this] at hb
      injection hb with hb
      injection hb with _ hb
      cases hb
  · rw [List.length_append, mcells_append]
    have : mcells [(x, av, dv)] = (mbC x av dv).toList := by rw [mcells_cons]; exact List.append_nil _
    rw [this]
    exact ownsRow_loc _ _ (fun b hb => h4 b (hob3 b hb).2 (by have := (hob3 b hb).1; omega)) ho
  · intro y hy
    have hv2 : v'.ownBlock = some g := by rw [← hv']; rfl
    rcases List.mem_append.1 hy with hy | hy
    · refine ((hU.nd y hy).loc (fun b hb => hall b hb.2.1 hb.2.2 (by omega))).mono (fun b hb => ⟨hb.1, by omega, ?_⟩)
      rw [hv2]
      rcases hov with h | h
      · rw [h]; exact hb.2.2
      · injection h with h; intro e; injection e with e; omega
    · obtain rfl : y = (x, av, dv) := by simpa using hy
      refine (hn.loc (fun b hb => ?_)).mono (fun b hb => ⟨by have := hb.1; omega, by have := hb.2; omega, ?_⟩)
      · have h1 := hb.1
        have h2 := hb.2
        rw [h4 b (by omega) (by omega), h3 b h2 (fun e => by have := (hob _ e).2; omega)]
      · have h1 := hb.1
        have h2 := hb.2
        rw [hv2]
        rcases hov with h | h
        · rw [h]; intro e; have := (hob _ e).2; omega
        · injection h with h; intro e; injection e with e; omega
  · rw [List.map_append, hU.is, hH]; rfl
  · have := hU.pb
    unfold Boxed at this ⊢
    rw [hall b0 (by omega) (fun e => by have := (hob _ e).1; omega) (by omega)]
    exact this
  · exact hU.bel.trans ((hKE.lower (by omega)).below (fun k hk e => by omega))
/-- the frame of the body -/
def uFr (T b0 Bx : Nat) (p : Tx) (x : Mb) (av dv : Value) : Act := { tmps := #[.pointer (some ⟨T, 0, none⟩), .string ⟨p.toArray⟩, undef, .pointer (some ⟨b0, 0, none⟩), .slice none 0 0, .pointer (some ⟨b0 + 1, 0, none⟩), .pointer (some ⟨Bx, 0, none⟩), .pointer (some ⟨T, 0, none⟩), .func (.func 99) #[] #[.pointer (some ⟨b0 + 1 + 1, 0, none⟩)], .agg (mbC x av dv), undef, undef, undef, undef, undef, undef, undef, undef, undef, undef, undef, undef, undef, undef, undef, undef, undef, undef, undef, undef], defers := [] }
set_option maxHeartbeats 4000000 in
set_option maxRecDepth 100000 in
theorem under_own_in (n : Nat) (hn : 12 ≤ n) (T mb : Nat) (Bk : Nat → Prop) (f : Tx → Value × Value) (L : List Mb) (p : Tx) (w : World) (hL : L.length ≤ 100000) (hp : p.length ≤ 400000) (hT : TreeIn w T mb Bk f L) (hlt : T < w.heap.size ∧ mb < w.heap.size ∧ ∀ b, Bk b → b < w.heap.size) :
    CallsIn Fence.wide n Tryz.prog 18 #[.pointer (some ⟨T, 0, none⟩), .string ⟨p.toArray⟩] w fun e w' => ∃ v l, e = .returned v ∧ l.map (·.1) = underL p L ∧ OwnMbs w.heap.size w' v l ∧ Below w.heap.size w w' := by
  have hn1 : 1 ≤ n := by omega
  have hn2 : 1 ≤ n - 1 := by omega
  have hn3 : 1 ≤ n - 1 - 1 := by omega
  have hro : Fence.wide.round = none := rfl
  have hf0 : Fence.wide.fn 18 := trivial
  have hf1 : Fence.wide.fn 55 := trivial
  have hf2 : Fence.wide.fn 56 := trivial
  have hf3 : Fence.wide.fn 57 := trivial
  refine callsIn_of_wp_marks Tryz.func18 rfl hf0 ?_ hro
  simp only [Tryz.ntmps18, List.size_toArray, List.length_cons, List.length_nil, Nat.reduceAdd, Nat.reduceSub, Array.replicate_succ, Array.replicate_zero, List.push_toArray, List.append_toArray, List.nil_append, List.cons_append]
  gi_wp2_with (gi_at_call 55; refine (callsIn_wide.2 (each_any _ _)).mono ?_; rintro e w' ⟨rfl, rfl⟩)
  obtain ⟨b0, hb0⟩ : ∃ b0, w.heap.size = b0 := ⟨_, rfl⟩
  have bP := ((Boxed.new w 9 (.string ⟨p.toArray⟩)).alloc (.cells #[.slice none 0 0] 23)).alloc (.cells #[.pointer (some ⟨T, 0, none⟩)] 24)
  have bL := (Boxed.new (w.alloc (.cells #[.string ⟨p.toArray⟩] 9)) 23 (.slice none 0 0)).alloc (.cells #[.pointer (some ⟨T, 0, none⟩)] 24)
  have bT := Boxed.new ((w.alloc (.cells #[.string ⟨p.toArray⟩] 9)).alloc (.cells #[.slice none 0 0] 23)) 24 (.pointer (some ⟨T, 0, none⟩))
  simp only [World.size_alloc] at bL bT
  have hB0 : Below w.heap.size w (((w.alloc (.cells #[.string ⟨p.toArray⟩] 9)).alloc (.cells #[.slice none 0 0] 23)).alloc (.cells #[.pointer (some ⟨T, 0, none⟩)] 24)) :=
    (((Below.refl _ w).alloc (Nat.le_refl _) _).alloc (by simp) _).alloc (by simp; omega) _
  have hsz : (((w.alloc (.cells #[.string ⟨p.toArray⟩] 9)).alloc (.cells #[.slice none 0 0] 23)).alloc (.cells #[.pointer (some ⟨T, 0, none⟩)] 24)).heap.size = w.heap.size + 3 := by simp
  obtain ⟨W0, hW0⟩ : ∃ W0, (((w.alloc (.cells #[.string ⟨p.toArray⟩] 9)).alloc (.cells #[.slice none 0 0] 23)).alloc (.cells #[.pointer (some ⟨T, 0, none⟩)] 24)) = W0 := ⟨_, rfl⟩
  rw [hW0] at bP bL bT hB0 hsz ⊢
  clear hW0
  have hwb : b0 ≤ w.heap.size := by omega
  rw [hb0] at bP bL bT hB0 hsz hlt ⊢
  have hlt0 := hlt
  have hT0 : TreeIn W0 T mb Bk f L := hT.loc (fun b hb => hB0.block b (by rcases hb with rfl | rfl | h; exact hlt.1; exact hlt.2.1; exact hlt.2.2 _ h))
  have UI0 : ∃ v l, UI p b0 w [] W0 v l := ⟨.slice none 0 0, [], bL, World.ownsRow_nil _ _ _ _, fun x hx => by simp at hx, rfl, bP, hB0, by omega⟩
  refine wpIn_rangeFunc_ownH hro hn1 (gf := 99) (lb := #[.pointer (some ⟨b0 + 1 + 1, 0, none⟩)]) rfl trivial (enters_of Tryz.func99 (by kernel_rfl) rfl)
    (each_stops (fun b => b = b0 + 1) (n - 1) (by omega) (b0 + 1 + 1) (b0 + 3) T mb Bk f L (by omega) W0 bT.cell (by omega) hT0 ⟨by omega, by omega, fun b hb => by have := hlt.2.2 b hb; omega⟩ ⟨by omega, by omega, fun b hb => by have := hlt.2.2 b hb; omega⟩ (by omega)) KE.trans (KE.b (by omega)) (Below.refl _ _) (fun _ => rfl)
    (fun pre W => ∃ v l, UI p b0 w (pre.map (·.1)) W v l) (fun _ _ _ => False) (UI.ownL p b0 _ w hwb (by omega) L) (fun _ => ownFrom_pure _ (fun _ => False)) UI0
    (fun x a' W => ∃ Bx, (Row W Bx 41 (mbC x.1 (f x.1.1).1 (f x.1.1).2) ∧ b0 + 3 ≤ Bx) ∧ a' = uFr T b0 Bx p x.1 (f x.1.1).1 (f x.1.1).2)
    (fun x a' _ X Y row hs hg hr => by obtain ⟨Bx, ⟨e2, e3⟩, e4⟩ := hs; exact ⟨Bx, ⟨(grownBy_keeps_cells hg (fun r e => (hr r e).2) e2 rfl).trans e2, e3⟩, e4⟩)
    ?assign ?body ?done ?stop
  case assign =>
    rintro lo pre ⟨x, hxL⟩ W K hI hK
    obtain ⟨aa, la, ca, ad, ld, cd, hav, hdv⟩ := (hT.nd x hxL).shape
    simp only [hav, hdv, uFr] at hK ⊢
    unfold encM mbC strV
    simp only [hav, hdv]
    obtain ⟨xp, ⟨kind, mode, uid, gid, time, attrs, data, link⟩⟩ := x
    gi_wp2
    have hb3 : b0 + 3 ≤ W.heap.size := by obtain ⟨v, l, h⟩ := hI; exact h.sz
    exact hK _ _ ((KeepsOthers.alloc _ _).from _) (KE.of_below ((Below.refl _ _).alloc (Nat.le_refl _) _) hb3) ((UI.ownL p b0 b0 w hwb (Nat.le_refl _) L).alloc _ hI) ⟨W.heap.size, ⟨Row.new W 41 _, hb3⟩, rfl⟩
  case body =>
    rintro lo pre ⟨x, hxL⟩ a' W hl0 ⟨r, hr1⟩ ⟨v, l, hU⟩ ⟨Bx, ⟨hx, hx3⟩, rfl⟩ hlt
    have hnd := hT.nd x hxL
    have hsm := hT.sm x hxL
    obtain ⟨aa, la, ca, ad, ld, cd, hav, hdv⟩ := hnd.shape
    dsimp only at hx ⊢
    rw [hav, hdv] at hx hnd ⊢
    have HU := Keep.keep hU; have HX := Keep.keep hx; have HN := Keep.keep hnd; have HS := Keep.keep hsm
    have cX : W.cell? ⟨Bx, 0, none⟩ = some (.string ⟨x.1.toArray⟩) := hx.cell (i := 0) rfl
    have cP := hU.pb.cell
    clear hnd hsm hU hx
    unfold uFr
    have HI : Keep (∀ b, ((x.1 == p) || underP p x.1) = b → underL p ((pre ++ [(⟨x, hxL⟩ : {x : Mb // x ∈ L})]).map (fun y => y.1)) = underL p (pre.map (fun y => y.1)) ++ if b then [x] else []) := ⟨fun b hb => by
      rw [List.map_append]
      unfold underL
      rw [List.filter_append, List.map_cons, List.map_nil, List.filter_cons]
      show _ ++ (if ((x.1 == p) || underP p x.1) = true then _ else _) = _
      rw [hb]
      cases b <;> rfl⟩
    have HUN := fun wx => under_any p x.1 (by omega) wx
    have hlen : l.length < L.length := by
      have h1 := congrArg List.length HU.out.is
      have h2 : (underL p (pre.map (fun y => y.1))).length ≤ pre.length := by have := List.length_filter_le (hitU p) (pre.map (fun y => y.1)); simpa [underL] using this
      rw [List.length_map] at h1
      omega
    cases he : (x.1 == p)
    cases hu : underP p x.1
    · rw [he, hu] at HI
      simp only [hu] at HUN
      gi_wp2_with (gi_at_call 56; refine (CallsIn.inRound lo (callsIn_wide.2 (HUN _))).mono ?_; rintro e w' ⟨rfl, rfl⟩)
      refine ⟨KeepsFrom.refl _ _, KE.refl _ _ _, v, l, HU.out.box, HU.out.own, HU.out.nd, ?_, HU.out.pb, HU.out.bel, HU.out.sz⟩
      rw [HI.out false rfl, HU.out.is]
      simp
    focus
      rw [he, hu] at HI
      simp only [hu] at HUN
      gi_wp2_with (gi_at_call 56; refine (CallsIn.inRound lo (callsIn_wide.2 (HUN _))).mono ?_; rintro e w' ⟨rfl, rfl⟩)
      have HH := Keep.keep (HI.out true rfl)
      clear HI HUN hu he
    rotate_left
    focus
      rw [he, Bool.true_or] at HI
      gi_wp2_with fail
      have HH := Keep.keep (HI.out true rfl)
      clear HI HUN he
    all_goals
      refine wpIn_region_wide (by kernel_rfl) (by kernel_rfl) ?_ ?_
      · rintro ⟨a, w, h⟩
        exact h
      refine any_spcT 8 [20, 21, 22, 23, 24, 25, 26, 27] (Below W.heap.size W) (unT x W.heap.size Bx v (.slice aa la ca) (.slice ad ld cd)) (fun w w' => Below w.heap.size w w') rfl (by decide) (by show ∀ d ∈ _, d < 30; decide) (by kernel_rfl) (by decide) (by kernel_rfl) (by kernel_rfl) (by kernel_rfl) (Below.refl _ _).drew (fun i v w w' h _ hb => unT_stays i v w w' h hb) ?_ ?_
      · intro k hk a1 w2 hF hC hT
        have b5 : a1.eval (.tmp 5) = .pointer (some ⟨b0 + 1, 0, none⟩) := (hF.same 5 (by decide)).trans rfl
        have b6 : a1.eval (.tmp 6) = .pointer (some ⟨Bx, 0, none⟩) := (hF.same 6 (by decide)).trans rfl
        have hkr : Below w2.heap.size w2 w2 := Below.refl _ _
        have hBx : Bx < W.heap.size := HX.out.lt
        have RX : Row w2 Bx 41 (mbC x (.slice aa la ca) (.slice ad ld cd)) := by unfold Row; rw [hC.block Bx hBx]; exact HX.out
        rcases (by omega : k = 0 ∨ k = 1 ∨ k = 2 ∨ k = 3 ∨ k = 4 ∨ k = 5 ∨ k = 6 ∨ k = 7) with rfl | rfl | rfl | rfl | rfl | rfl | rfl | rfl
        · have hc : w2.cell? ⟨b0 + 1, 0, none⟩ = some v := (hC.cell (p := ⟨b0 + 1, 0, none⟩) HU.out.box.lt).trans HU.out.box.cell
          exact spcS_val (d := 20) rfl (wanted_none rfl) (run_loadCell (run_isAgg_plain Tryz.underlying23 rfl) hc b5) hC hkr rfl
        · exact spcS_val (d := 21) rfl (wanted_none rfl) (run_fieldAddr (m := 0) Tryz.underlying41 rfl (by kernel_rfl) b6) hC hkr rfl
        · have hx : a1.eval (.tmp 21) = .pointer (some ⟨Bx, 0, none⟩) := hT 1 (by decide) (by kernel_rfl)
          exact spcS_val (d := 22) rfl (wanted_none rfl) (run_loadCell (run_isAgg_plain Tryz.underlying9 rfl) (RX.cell (i := 0) rfl) hx) hC hkr rfl
        · exact spcS_val (d := 23) rfl (wanted_none rfl) (run_fieldAddr (m := 7) Tryz.underlying41 rfl (by kernel_rfl) b6) hC hkr rfl
        · have hx : a1.eval (.tmp 23) = .pointer (some ⟨Bx, 1, none⟩) := hT 3 (by decide) (by kernel_rfl)
          exact spcS_val (d := 24) rfl (wanted_none rfl) (run_loadNd RX hx) hC hkr rfl
        · have hx : a1.eval (.tmp 24) = .agg (ndC x.2 (.slice aa la ca) (.slice ad ld cd)) := hT 4 (by decide) (by kernel_rfl)
          refine spcS_call (d := 25) (vs := #[.agg (ndC x.2 (.slice aa la ca) (.slice ad ld cd))]) rfl (wanted_none rfl) (Go.Proofs.enters_of Tryz.func57 (by kernel_rfl) rfl) (by simp [hx]) ?_
          have hlw : w.heap.size ≤ w2.heap.size := by have := HU.out.sz; have := hC.size; omega
          have hNw : NdR w2 (· < w2.heap.size) x.2 (.slice aa la ca) (.slice ad ld cd) := ((HN.out.below (hb0 ▸ HU.out.bel) (fun b hb => hlt0.2.2 b hb)).below hC (fun b hb => by have := hlt0.2.2 b hb; have := HU.out.sz; omega)).mono (fun b hb => by have := hlt0.2.2 b hb; omega)
          refine (clone_own x.2 _ _ w2 hNw HS.out.a (by have := HS.out.d; omega)).mono ?_
          rintro e wz ⟨av', dv', rfl, hv', hb⟩
          exact ⟨_, rfl, hC.trans (hb.mono hC.size), hb, av', dv', rfl, hv'.mono (fun b hb' => hb'.mono hC.size (Nat.le_refl _))⟩
        · have hx : a1.eval (.tmp 22) = .string ⟨x.1.toArray⟩ := hT 2 (by decide) (by kernel_rfl)
          obtain ⟨av', dv', h5, hv'⟩ := hT 5 (by decide) (by kernel_rfl)
          exact spcS_val (d := 26) rfl (wanted_none rfl) (run_buildMb hx h5) hC hkr ⟨av', dv', rfl, hv'⟩
        · obtain ⟨av', dv', h6, hv'⟩ := hT 6 (by decide) (by kernel_rfl)
          have h6' : a1.eval (.tmp 26) = .agg (mbC x av' dv') := h6
          have hal : Below w2.heap.size w2 (w2.alloc (.cells (a1.eval (.tmp 26)).cells 41)) := (Below.refl _ _).alloc (Nat.le_refl _) _
          refine spcS_val (d := 27) rfl (wanted_none rfl) (run_build1 slMb (by decide) (by rw [h6']; rfl)) (hC.trans (hal.mono hC.size)) hal ?_
          rw [h6']
          refine ⟨av', dv', w2.heap.size, rfl, ?_, ?_, by simp⟩
          · exact RdV.new 41 (mbC x av' dv').toList 9 1 w2.heap.size rfl rfl (by unfold maxLen; omega) rfl
          · exact (hv'.below ((Below.refl _ w2).alloc (Nat.le_refl _) _) (fun b hb => hb.2)).mono (Fresh.mono (Nat.le_refl _) (by simp))
      · intro a1 w2 ha hC hT
        have t0 : slot a1 20 = v := hT 0 (by decide)
        obtain ⟨av', dv', bl, t7, hrd, hndx, hbl⟩ : ∃ a d bl, slot a1 27 = .slice (some ⟨bl, 0, none⟩) 1 1 ∧ RdV w2 (fun b => b = bl) 9 (slot a1 27) 1 (mbC x a d).toList ∧ NdO w2 (Fresh W.heap.size w2) x.2 a d ∧ bl < w2.heap.size := hT 7 (by decide)
        rw [t7] at hrd
        simp only [List.foldl_cons, List.foldl_nil, t0, t7] at ha
        generalize slot a1 21 = x1 at *
        generalize slot a1 22 = x2 at *
        generalize slot a1 23 = x3 at *
        generalize slot a1 24 = x4 at *
        generalize slot a1 25 = x5 at *
        generalize slot a1 26 = x6 at *
        clear hT t0 t7
        subst ha
        simp only [List.drop_succ_cons, List.drop_zero]
        simp only [Act.put, List.setIfInBounds_toArray, List.set_cons_succ, List.set_cons_zero]
        have hUo := HU.out
        have hob := World.ownsRow.lt hUo.own
        have hown2 : w2.ownsRow (b0 + 3) 41 9 v l.length (mcells l) := ownsRow_loc _ _ (fun b hb => hC.block b (hob b hb).2) hUo.own
        have hone : ∀ u ∈ (mbC x av' dv').toList, u.oneCell' = true := by
          obtain ⟨aa', la', ca', ad', ld', cd', rfl, rfl⟩ := hndx.shape
          simp [mbC, strV, Value.oneCell']
        refine arm_appendV slMb hown2 hrd hone (by unfold maxLen; omega) (by omega) (by have := hUo.sz; have := hC.size; omega) rfl rfl ?_
        intro v' w3 ho hg hov _
        obtain ⟨g, cap, hv'⟩ : ∃ g cap, v' = .slice (some ⟨g, 0, none⟩) (l.length + 1) cap := by
          rcases ho.2 with ⟨_, h⟩ | ⟨g, cap, cur, h, _⟩
          · omega
          · exact ⟨g, cap, h⟩
        subst hv'
        have hsame : ∀ b, b < w2.heap.size → v.ownBlock ≠ some b → w3.heap[b]? = w2.heap[b]? := fun b h1 h2 => hg.block b h1 (fun e => h2 e.symm)
        have hb1 : b0 + 1 < w2.heap.size := by have := hUo.sz; have := hC.size; omega
        have hbox3 : Boxed w3 (b0 + 1) 23 v := by
          unfold Boxed
          rw [hsame _ hb1 (fun e => by have := (hob _ e).1; omega), hC.block _ hUo.box.lt]
          exact hUo.box
        have cB := hbox3.cell
        have fB := hbox3.frozen
        have HO := Keep.keep ho; have HG := Keep.keep hg; have HOV := Keep.keep hov; have HNX := Keep.keep hndx; have HOB := Keep.keep hob; have HSM := Keep.keep hsame
        clear ho hg hov hndx hob hsame hUo hown2 hone hrd
        go_wp2_with fail
        exact under_step HU.out hC HO.out HG.out HOV.out HNX.out HH.out
  case done =>
    rintro D ys W hD hys ⟨v, l, hU⟩ hK
    have cB := hU.box.cell
    have fB := hU.box.frozen
    obtain ⟨av, cap, hv⟩ : ∃ av cap, v = .slice av l.length cap := by
      rcases hU.own.2 with ⟨h, h0⟩ | ⟨g, cap, cur, h, _⟩
      · exact ⟨none, 0, by rw [h, h0]⟩
      · exact ⟨_, cap, h⟩
    have HU := Keep.keep hU
    clear hU
    subst hv
    gi_wp2
    refine ⟨by simp, .inl ⟨_, _, rfl, run_takeDeferred hK, ?_⟩⟩
    have hg := grownBy_putObj' W D (.deferred none)
    have hr : ∀ r, some D = some r → ∃ o : Obj, W.heap[r]? = some o ∧ o.isCells = false := fun r e => by cases e; exact ⟨_, hK, rfl⟩
    have hsw := hg.size
    refine ⟨.slice av l.length cap, ?_, _, l, rfl, ?_, ⟨?_, ?_⟩, ?_⟩
    · simp [results, Tryz.f18, go_sem]
    · rw [HU.out.is, hys]
    · exact ownsRow_base (owns_kept HU.out.own hg hr) (by omega)
    · exact fun x hx => ((HU.out.nd x hx).kept hg hr).mono (fun b hb => ⟨by have := hb.1; omega, by have := hb.2.1; omega, hb.2.2⟩)
    · rw [hb0]
      exact HU.out.bel.trans (belowK_b (w := w) (by omega) W D _ _ (by omega) hK rfl rfl)
  case stop =>
    rintro D c pre W hD hpre hF hK
    exact hF.elim
theorem under_in (n : Nat) (hn : 12 ≤ n) (T mb : Nat) (Bk : Nat → Prop) (f : Tx → Value × Value) (L : List Mb) (p : Tx) (w : World) (hL : L.length ≤ 100000) (hp : p.length ≤ 400000) (hT : TreeIn w T mb Bk f L) (hlt : T < w.heap.size ∧ mb < w.heap.size ∧ ∀ b, Bk b → b < w.heap.size) :
    CallsIn Fence.wide n Tryz.prog 18 #[.pointer (some ⟨T, 0, none⟩), .string ⟨p.toArray⟩] w fun e w' => ∃ v l, e = .returned v ∧ l.map (·.1) = underL p L ∧ Mbs w' (Fresh w.heap.size w') (Fresh w.heap.size w') v l ∧ Below w.heap.size w w' :=
  (under_own_in n hn T mb Bk f L p w hL hp hT hlt).mono (fun _ _ ⟨v, l, he, hl, ho, hb⟩ => ⟨v, l, he, hl, ho.mbs, hb⟩)
/-- tree.Under, and the row is the call's own -/
theorem under_own (T mb : Nat) (Bk : Nat → Prop) (f : Tx → Value × Value) (L : List Mb) (p : Tx) (w : World) (hL : L.length ≤ 100000) (hp : p.length ≤ 400000) (hT : TreeIn w T mb Bk f L) (hlt : T < w.heap.size ∧ mb < w.heap.size ∧ ∀ b, Bk b → b < w.heap.size) :
    Calls Tryz.prog 18 #[.pointer (some ⟨T, 0, none⟩), .string ⟨p.toArray⟩] w fun e w' => ∃ v l, e = .returned v ∧ l.map (·.1) = underL p L ∧ OwnMbs w.heap.size w' v l ∧ Below w.heap.size w w' :=
  callsIn_wide.1 (under_own_in 12 (Nat.le_refl _) T mb Bk f L p w hL hp hT hlt)
/-- tree.Under -/
theorem under_tree (T mb : Nat) (Bk : Nat → Prop) (f : Tx → Value × Value) (L : List Mb) (p : Tx) (w : World) (hL : L.length ≤ 100000) (hp : p.length ≤ 400000) (hT : TreeIn w T mb Bk f L) (hlt : T < w.heap.size ∧ mb < w.heap.size ∧ ∀ b, Bk b → b < w.heap.size) :
    Calls Tryz.prog 18 #[.pointer (some ⟨T, 0, none⟩), .string ⟨p.toArray⟩] w fun e w' => ∃ v l, e = .returned v ∧ l.map (·.1) = underL p L ∧ Mbs w' (Fresh w.heap.size w') (Fresh w.heap.size w') v l ∧ Below w.heap.size w w' :=
  callsIn_wide.1 (under_in 12 (Nat.le_refl _) T mb Bk f L p w hL hp hT hlt)
end Go.Proofs.YtmnknmpfkjhgbaaGreatDoor
/- tree.All. -/
namespace Go.Proofs.YtmnknmpfkjhgbaaGreatDoor
open Go.RowKit
theorem classP_ne : underP [] = fun x => !x.isEmpty := by funext x; simp [underP]
theorem underL_all (L : List Mb) : underL [] L = L := by
  unfold underL
  refine List.filter_eq_self.2 (fun x _ => ?_)
  unfold hitU underP
  cases x.1 <;> simp
set_option maxHeartbeats 1000000 in
set_option maxRecDepth 100000 in
/-- tree.All, and the row is the call's own -/
theorem all_own (T mb : Nat) (Bk : Nat → Prop) (f : Tx → Value × Value) (L : List Mb) (w : World) (hL : L.length ≤ 100000) (hT : TreeIn w T mb Bk f L) (hlt : T < w.heap.size ∧ mb < w.heap.size ∧ ∀ b, Bk b → b < w.heap.size) :
    Calls Tryz.prog 26 #[.pointer (some ⟨T, 0, none⟩)] w fun e w' => ∃ v l, e = .returned v ∧ l.map (·.1) = L ∧ OwnMbs w.heap.size w' v l ∧ Below w.heap.size w w' := by
  have HU := Keep.keep (under_own T mb Bk f L [] w hL (by simp) hT hlt)
  rw [underL_all] at HU
  clear hT hlt
  go_enter Tryz.func26, Tryz.ntmps26
  go_wp2_with fail
  refine HU.out.mono ?_
  rintro e w1 ⟨v, l, rfl, hl, hm, hb⟩
  have HL := Keep.keep hl; have HM := Keep.keep hm; have HB := Keep.keep hb
  obtain ⟨a, cap, hv, -⟩ := hm.mbs.rd.shape
  clear hl hm hb
  subst hv
  go_wp2_with fail
  go_ret
  exact ⟨_, l, rfl, HL.out, HM.out, HB.out⟩
/-- tree.All -/
theorem all_tree (T mb : Nat) (Bk : Nat → Prop) (f : Tx → Value × Value) (L : List Mb) (w : World) (hL : L.length ≤ 100000) (hT : TreeIn w T mb Bk f L) (hlt : T < w.heap.size ∧ mb < w.heap.size ∧ ∀ b, Bk b → b < w.heap.size) :
    Calls Tryz.prog 26 #[.pointer (some ⟨T, 0, none⟩)] w fun e w' => ∃ v l, e = .returned v ∧ l.map (·.1) = L ∧ Mbs w' (Fresh w.heap.size w') (Fresh w.heap.size w') v l ∧ Below w.heap.size w w' :=
  (all_own T mb Bk f L w hL hT hlt).mono (fun _ _ ⟨v, l, he, hl, ho, hb⟩ => ⟨v, l, he, hl, ho.mbs, hb⟩)
end Go.Proofs.YtmnknmpfkjhgbaaGreatDoor
/- slices.Sort of a row of texts of one's own. -/
namespace Go.Proofs.YtmnknmpfkjhgbaaGreatDoor
open Go.RowKit Go.Shelf
theorem sort_own (base : Nat) (v : Value) (ss : List Tx) (w : World) (hl : ss.length ≤ 1000000) (h : w.ownsRow base 9 1 v ss.length (ss.map encStr)) :
    Calls Tryz.prog 133 #[v] w fun e w' => e = .returned (.tuple #[]) ∧ w'.ownsRow base 9 1 v ss.length ((ss.mergeSort fun x y => decide (x ≤ y)).map encStr) ∧ w.grownBy w' v.ownBlock := by
  have h0 := h
  rcases h.2 with ⟨rfl, hz⟩ | ⟨g, cap, cur, rfl, hb, hh, hn, hm, hs, ht⟩
  · have : ss = [] := List.eq_nil_of_length_eq_zero hz
    subst this
    refine (Tryz.slices_Sort_string_none none 0 w).mono ?_
    rintro e w' ⟨rfl, rfl⟩
    exact ⟨rfl, by rw [List.mergeSort_nil]; exact h0, ⟨rfl, rfl, rfl, Nat.le_refl _, fun _ _ _ => rfl⟩⟩
  · have hlt : g < w.heap.size := (Array.getElem?_eq_some_iff.1 hh).1
    rw [Nat.mul_one] at ht
    refine (Tryz.slices_Sort_string g 0 cap ss w (holds_of_block hh ht) hlt (by omega)).mono ?_
    rintro e w' ⟨rfl, n, os, rfl⟩
    refine ⟨rfl, ?_, grownBy_sorted _⟩
    exact ownsRow_sorted (by simp) hb hh hn hm hs
end Go.Proofs.YtmnknmpfkjhgbaaGreatDoor
/- tree.List. -/
namespace Go.Proofs.YtmnknmpfkjhgbaaGreatDoor
open Go.RowKit Go.Shelf
theorem slStr : SlK Tryz.prog 42 9 (.string ⟨#[]⟩) 1 16 := SlK.mk' Tryz.underlying42 (by kernel_rfl) rfl (by decide)
/-- the names of what stands in dir, in the order of the paths -/
def namesT (dir : Tx) (L : List Mb) : List Tx := (L.filter (fun x => parentP x.1 == dir)).map (fun x => baseP x.1)
def listT (L : List Mb) (dir : Tx) : List Tx × Int := if (getT L dir).2 = false then ([], 6) else if (getT L dir).1.kind ≠ 1 then ([], 31) else ((namesT dir L).mergeSort (fun x y => decide (x ≤ y)), 0)
def nmE (dir : Tx) (M : List (Tx × Value)) : List Tx := (M.filter (fun x => parentP x.1 == dir)).map (fun x => baseP x.1)
theorem nmE_entries (dir : Tx) (f : Tx → Value × Value) (L : List Mb) : nmE dir (entries f L) = namesT dir L := by
  unfold nmE namesT entries
  rw [List.filter_map, List.map_map]
  rfl
theorem nmE_step {M : List (Tx × Value)} (hs : SM.Srt M) {todo : Tx → Bool} {p : Tx} {v : Value} (hp : todo p = true) (hl : SM.look M p = some v) {dir : Tx} {acc : List Tx} (h : acc.Perm (nmE dir (M.filter (fun x => !todo x.1)))) :
    (acc ++ (if parentP p == dir then [baseP p] else [])).Perm (nmE dir (M.filter (fun x => !(todo x.1 && x.1 != p)))) := by
  have h1 := ((came_step hs hp hl).filter (fun x => parentP x.1 == dir)).map (fun x => baseP x.1)
  refine List.Perm.trans ?_ h1.symm
  rw [List.filter_append, List.map_append]
  refine List.Perm.append h ?_
  simp only [List.filter_cons, List.filter_nil]
  cases parentP p == dir <;> exact List.Perm.refl _
end Go.Proofs.YtmnknmpfkjhgbaaGreatDoor
