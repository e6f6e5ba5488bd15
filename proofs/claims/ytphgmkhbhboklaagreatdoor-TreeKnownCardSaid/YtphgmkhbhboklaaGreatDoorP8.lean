/- PARTS OF ONE PROOF, set in one file: Grown, TreeTls, RTreeL, PathPartsL, PathWh, PathWhiteL, PathRef. Each part tells its own conditions. -/
import Derived.Test.YtphgmkhbhboklaaGreatDoorP1
import Derived.Test.YtphgmkhbhboklaaGreatDoorP4
import Derived.Test.YtphgmkhbhboklaaGreatDoorP5
import Derived.Test.YtphgmkhbhboklaaGreatDoorP6
import Derived.Test.YtphgmkhbhboklaaGreatDoorP7
/- portolanlaw18.Grown: a tree under calls. -/
namespace Go.Proofs.YtphgmkhbhboklaaGreatDoor
open Go.RowKit
def stepT (L : List Mb) (a : Bool × Mb) : List Mb := if a.1 then (putT L (cutM a.2)).2 else (removeT L (cutM a.2).1).2
def grownL (l : List (Bool × Mb)) : List Mb := (l.take 40).foldl stepT []
theorem newT_nil : newT [] = (0, some []) := rfl
theorem grownL_succ (l : List (Bool × Mb)) (k : Nat) (hk : k < l.length) : (l.take (k + 1)).foldl stepT [] = stepT ((l.take k).foldl stepT []) l[k] := by
  rw [List.take_succ_eq_append_getElem hk, List.foldl_append]; rfl
theorem put_len {L : List Mb} (h : SM.Srt L) (m : Mb) : (putT L m).2.length ≤ L.length + 1 := by
  unfold putT
  split
  · simp
  · split
    · simp
    · split
      · simp
      · have h2 : SM.Srt (if m.2.kind = 1 then L else clearT L m.1) := by split; exact h; exact h.filter _
        have h3 : (if m.2.kind = 1 then L else clearT L m.1).length ≤ L.length := by split; exact Nat.le_refl _; exact List.length_filter_le _ _
        have := fold_len [m] _ h2
        simp only [List.foldl_cons, List.foldl_nil, List.length_cons, List.length_nil] at this
        show (SM.put _ m).length ≤ _
        omega
theorem remove_len (L : List Mb) (p : Tx) : (removeT L p).2.length ≤ L.length := by
  unfold removeT
  split
  · simp
  · exact Nat.le_trans (List.length_filter_le _ _) (List.length_filter_le _ _)
/-- the kind is an int -/
def Kb (m : Mb) : Prop := -9223372036854775808 ≤ m.2.kind ∧ m.2.kind ≤ 9223372036854775807
theorem Kb.cut {m : Mb} (h : Kb m) : Sm (cutM m) := by
  refine ⟨?_, ?_, ?_, ?_, fun x hx => ?_, h⟩
  · exact Nat.le_trans (List.length_take_le _ _) (by omega)
  · exact Nat.le_trans (List.length_take_le _ _) (by omega)
  · exact Nat.le_trans (List.length_take_le _ _) (by omega)
  · show ((m.2.attrs.take 20).map cutA).length ≤ _
    rw [List.length_map]
    exact Nat.le_trans (List.length_take_le _ _) (by omega)
  · obtain ⟨y, hy, rfl⟩ := List.mem_map.1 (show x ∈ (m.2.attrs.take 20).map cutA from hx)
    exact ⟨Nat.le_trans (List.length_take_le _ _) (by omega), Nat.le_trans (List.length_take_le _ _) (by omega)⟩
set_option maxHeartbeats 2000000 in
set_option maxRecDepth 100000 in
theorem grown_any (B : Nat) (v : Value) (l : List Av) (w : World) (hT : Tabs B w) (hr : ActsR w (· < w.heap.size) (· < w.heap.size) v l) (hs : ∀ x ∈ l, Kb x.2.1) :
    Calls Tryz.prog 6 #[v] w fun e w' => ∃ T mb Bk f, e = .returned (.pointer (some ⟨T, 0, none⟩)) ∧ TreeIn w' T mb Bk f (grownL (l.map fun x => (x.1, x.2.1))) ∧ (w.heap.size ≤ T ∧ w.heap.size ≤ mb ∧ ∀ b, Bk b → Fresh w.heap.size w' b) ∧ Below w.heap.size w w' := by
  obtain ⟨a, cap, hv, hcap, hmx, h3⟩ := hr.rd.shape
  have HR := Keep.keep hr; have H3 := Keep.keep h3; have HT := Keep.keep hT; have HS := Keep.keep hs
  have HNEW := Keep.keep (new_tree (.slice none 0 0) [] B w hT ⟨RdV.ofNil, fun x hx => by simp at hx⟩ (fun x hx => by simp at hx) (by simp))
  unfold maxLen at hmx
  clear hr h3 hT hs
  subst hv
  go_enter Tryz.func6, Tryz.ntmps6
  go_wp2_with fail
  refine HNEW.out.mono ?_
  rintro e w1 ⟨⟨pv, rfl, hnew⟩, hb1⟩
  obtain ⟨T, mb, Bk, f, rfl, hti, hTw, hmw, hBk⟩ := hnew
  have HTI := Keep.keep hti; have HB1 := Keep.keep hb1; have HBK := Keep.keep hBk
  clear hti hb1 hBk HNEW
  go_wp2_with fail
  go_loopg [5] (min l.length 40) (fun g u5 wx => ∃ (k : Nat) (Bk : Nat → Prop) (f : Tx → Value × Value), k + g = min l.length 40 ∧ u5 = .int .i64 (k : Int) ∧ TreeIn wx T mb Bk f (((l.map fun x => (x.1, x.2.1)).take k).foldl stepT []) ∧ (((l.map fun x => (x.1, x.2.1)).take k).foldl stepT []).length ≤ k ∧ (∀ b, Bk b → Fresh w.heap.size wx b) ∧ Below w.heap.size w wx)
  case atStart => exact ⟨0, Bk, f, by omega, rfl, HTI.out, Nat.le_refl _, HBK.out, HB1.out⟩
  case round =>
    obtain ⟨k, Bk2, f2, hkg, rfl, hti, hlen, hbk, hb⟩ := hrel
    have HT2 := Keep.keep hti; have HBK2 := Keep.keep hbk; have HB2 := Keep.keep hb
    clear hti hbk hb HTI HB1 HBK
    cases gk with
    | zero =>
      have HF : Keep (((l.map fun x => (x.1, x.2.1)).take k).foldl stepT [] = grownL (l.map fun x => (x.1, x.2.1))) := ⟨by
        unfold grownL
        congr 1
        rw [List.take_eq_take_iff, List.length_map]; omega⟩
      rw [HF.out] at HT2
      by_cases hk : k < l.length
      · have hd1 : decide ((k : Int) < (l.length : Int)) = true := decide_eq_true (by omega)
        have hd2 : decide ((k : Int) < 40) = false := decide_eq_false (by omega)
        go_wp2_with fail
        go_ret
        exact ⟨T, mb, Bk2, f2, rfl, HT2.out, ⟨hTw, hmw, HBK2.out⟩, HB2.out⟩
      · have hd1 : decide ((k : Int) < (l.length : Int)) = false := decide_eq_false (by omega)
        go_wp2_with fail
        go_ret
        exact ⟨T, mb, Bk2, f2, rfl, HT2.out, ⟨hTw, hmw, HBK2.out⟩, HB2.out⟩
    | succ g =>
      have hk : k < l.length := by omega
      have hd1 : decide ((k : Int) < (l.length : Int)) = true := decide_eq_true (by omega)
      have hd2 : decide ((k : Int) < 40) = true := decide_eq_true (by omega)
      obtain ⟨b, off, rfl, hbl⟩ : ∃ b off, a = some ⟨b, off, none⟩ ∧ b < w.heap.size := by
        rcases H3.out with h | ⟨b, off, h, hb⟩
        · omega
        · exact ⟨b, off, h, hb⟩
      have HAX : Keep (∀ wx, Below w.heap.size w wx → ActsR wx (· < w.heap.size) (· < w.heap.size) (.slice (some ⟨b, off, none⟩) l.length cap) l) := ⟨fun wx h => HR.out.below h (fun b hb => hb) (fun b hb => hb)⟩
      have hax := HAX.out wr HB2.out
      have hld := hax.load hk
      have hsm := HS.out _ (List.getElem_mem hk)
      have hndx := hax.nd _ (List.getElem_mem hk)
      have HPU : Keep (∀ wx, Below w.heap.size w wx → wx.cell? ⟨b, off + k * 10, none⟩ = some (.bool l[k].1)) := ⟨fun wx h => (HAX.out wx h).puts hk⟩
      have HTK : Keep ((((l.map fun x => (x.1, x.2.1)).take (k + 1)).foldl stepT []) = stepT (((l.map fun x => (x.1, x.2.1)).take k).foldl stepT []) (l[k].1, l[k].2.1)) := ⟨by
        rw [grownL_succ _ k (by simpa using hk)]; simp⟩
      clear hax
      generalize l[k] = x at *
      obtain ⟨pu, ⟨⟨xp, ⟨kind, mode, uid, gid, time, attrs, data, link⟩⟩, av, dv⟩⟩ := x
      obtain ⟨aa, la, ca, ad, ld, cd, e1, e2⟩ := hndx.shape
      dsimp only at hndx e1 e2 hsm
      subst e1 e2
      have HX := Keep.keep hndx; have HSM := Keep.keep hsm
      unfold mcell mbC strV at hld
      dsimp only at hld
      clear hndx hsm
      have hsW := HB2.out.size
      have HMB : Keep (Mbs (wr.alloc (.cells #[.string ⟨xp.toArray⟩, .int .i64 kind, .int .u32 mode, .int .u32 uid, .int .u32 gid, .int .i64 time, .slice aa la ca, .slice ad ld cd, .string ⟨link.toArray⟩] 32)) (· < (wr.alloc (.cells #[.string ⟨xp.toArray⟩, .int .i64 kind, .int .u32 mode, .int .u32 uid, .int .u32 gid, .int .i64 time, .slice aa la ca, .slice ad ld cd, .string ⟨link.toArray⟩] 32)).heap.size) (· < (wr.alloc (.cells #[.string ⟨xp.toArray⟩, .int .i64 kind, .int .u32 mode, .int .u32 uid, .int .u32 gid, .int .i64 time, .slice aa la ca, .slice ad ld cd, .string ⟨link.toArray⟩] 32)).heap.size) (.slice (some ⟨wr.heap.size, 0, none⟩) 1 1) [((xp, ⟨kind, mode, uid, gid, time, attrs, data, link⟩), .slice aa la ca, .slice ad ld cd)]) :=
        ⟨⟨RdV.new 32 [.string ⟨xp.toArray⟩, .int .i64 kind, .int .u32 mode, .int .u32 uid, .int .u32 gid, .int .i64 time, .slice aa la ca, .slice ad ld cd, .string ⟨link.toArray⟩] 9 1 _ rfl rfl (by unfold maxLen; omega) (by simp), fun x hx => by
          obtain rfl : x = ((xp, ⟨kind, mode, uid, gid, time, attrs, data, link⟩), .slice aa la ca, .slice ad ld cd) := by simpa using hx
          exact (HX.out.below ((Below.refl _ wr).alloc (Nat.le_refl _) _) (fun b hb => by omega)).mono (fun b hb => by simp; omega)⟩⟩
      go_wp2_with ((with_reducible refine arm_loadM hld ?_ ?_); (focus rfl); simp only [Act.put, List.setIfInBounds_toArray, List.set_cons_succ, List.set_cons_zero])
      refine (few18_any _ _ _ HMB.out).mono ?_
      rintro e w2 ⟨v2, rfl, ⟨l2, e2, ho2, hn2⟩, hb2⟩
      have e3 : l2.map (·.1) = [cutM (xp, ⟨kind, mode, uid, gid, time, attrs, data, link⟩)] := e2
      obtain ⟨y, rfl, hy⟩ := one_of_map e3
      have HB3 := Keep.keep ((HB2.out.alloc hsW _).trans (hb2.mono (by simp; omega)))
      have HT3 : Keep (TreeIn w2 T mb Bk2 f2 (((l.map fun x => (x.1, x.2.1)).take k).foldl stepT [])) := ⟨HT2.out.loc (fun b hb => by
        have hlt : b < wr.heap.size := by
          rcases hb with rfl | rfl | h
          · exact HT2.out.row.lt
          · exact HT2.out.map.lt
          · exact (HBK2.out b h).2
        rw [hb2.block b (by simp; omega), Below.heap_alloc wr _ b hlt])⟩
      obtain ⟨g2, c2, rfl⟩ : ∃ g2 c2, v2 = .slice (some ⟨g2, 0, none⟩) 1 c2 := by
        rcases ho2.2 with ⟨_, h⟩ | ⟨g, cap, cur, h, _⟩
        · simp at h
        · exact ⟨g, cap, h⟩
      have hny := hn2 y (by simp)
      have hm2 : Mbs w2 _ _ (.slice (some ⟨g2, 0, none⟩) 1 c2) [y] := ⟨ownsV_reads ho2, hn2⟩
      have hld2 := hm2.load (k := 0) (by simp)
      rw [show 0 + 0 * 9 = 0 from rfl] at hld2
      obtain ⟨⟨yp, ⟨k2, m2, u2, gi2, t2, at2, da2, li2⟩⟩, av2, dv2⟩ := y
      obtain ⟨a8, l8, c8, a9, l9, c9, e8, e9⟩ := hny.shape
      dsimp only at hny e8 e9 hy
      subst e8 e9
      have HY := Keep.keep hy; have HNY := Keep.keep hny
      simp only [List.getElem_cons_zero] at hld2
      unfold mcell mbC strV at hld2
      dsimp only at hld2
      have hle2 : w.heap.size ≤ wr.heap.size := hsW
      have hs2 : wr.heap.size + 1 ≤ w2.heap.size := by have := hb2.size; simpa using this
      have hmb : mb < wr.heap.size := HT2.out.map.lt
      have hsr := HT2.out.srt
      clear ho2 hn2 hb2 e2 e3 hy hny hm2 hld HMB HB2 HT2
      go_upto_region 8 with ((with_reducible refine arm_loadM hld2 ?_ ?_); (focus rfl); simp only [Act.put, List.setIfInBounds_toArray, List.set_cons_succ, List.set_cons_zero])
      refine wp_world (R := fun w3 => (Row w3 w2.heap.size 32 #[.string ⟨yp.toArray⟩, .int .i64 k2, .int .u32 m2, .int .u32 u2, .int .u32 gi2, .int .i64 t2, .slice a8 l8 c8, .slice a9 l9 c9, .string ⟨li2.toArray⟩] ∧ TreeIn w3 T mb Bk2 f2 (((l.map fun x => (x.1, x.2.1)).take k).foldl stepT [])) ∧ Below w.heap.size w w3 ∧ w2.heap.size < w3.heap.size ∧ NdR w3 (fun b => wr.heap.size < b ∧ b < w2.heap.size) ⟨k2, m2, u2, gi2, t2, at2, da2, li2⟩ (.slice a8 l8 c8) (.slice a9 l9 c9)) ⟨⟨Row.new _ _ _, ?_⟩, HB3.out.alloc (by omega) _, by simp, ?_⟩ ?_
      · exact HT3.out.loc (fun b hb => Below.heap_alloc w2 _ b (by
          rcases hb with rfl | rfl | h
          · exact HT3.out.row.lt
          · exact HT3.out.map.lt
          · have := (HBK2.out b h).2; omega))
      · exact (HNY.out.below ((Below.refl _ w2).alloc (Nat.le_refl _) _) (fun b hb => hb.1.2)).mono (fun b hb => ⟨by have := hb.1.1; simp at this; omega, hb.1.2⟩)
      intro w3 HW
      have HRW := Keep.keep HW.out.1.1
      have HSZ : Keep ((#[.string ⟨yp.toArray⟩, .int .i64 k2, .int .u32 m2, .int .u32 u2, .int .u32 gi2, .int .i64 t2, .slice a8 l8 c8, .slice a9 l9 c9, .string ⟨li2.toArray⟩] : Array Value).size = 9) := ⟨rfl⟩
      have cpu := HPU.out w3 HW.out.2.1
      have cy := HW.out.1.1.cell (i := 0) rfl
      clear hld2 HT3 HB3 HNY
      cases pu with
      | true =>
        go_wp2_with ((with_reducible refine arm_loadRow HRW.out aggM HSZ.out ?_ ?_); (focus rfl); simp only [Act.put, List.setIfInBounds_toArray, List.set_cons_succ, List.set_cons_zero])
        have h3s := HW.out.2.2.1
        refine (put_tree T mb Bk2 f2 _ B w3 HW.out.1.2 (fun b hb => by have := (HBK2.out b hb).2; omega) (by omega) (HT.out.on (HW.out.2.1.mono HT.out.b)) (yp, ⟨k2, m2, u2, gi2, t2, at2, da2, li2⟩) _ _ (by rw [HY.out]; exact HSM.out.cut) (HW.out.2.2.2.mono (fun b hb => ⟨by omega, by omega⟩))).mono ?_
        rintro e w4 ⟨rfl, ⟨Bk3, f3, hti3, hbk3⟩, hch⟩
        have hpl := put_len hsr (yp, ⟨k2, m2, u2, gi2, t2, at2, da2, li2⟩)
        rw [HY.out] at hti3 hpl
        have HT4 := Keep.keep hti3; have HBK4 := Keep.keep hbk3; have HPL := Keep.keep hpl
        have HB4 := Keep.keep (HW.out.2.1.trans ((hch.lower (by omega)).below (fun j hj e => by omega)))
        have hs4 := hch.size
        clear hti3 hbk3 hch hpl cpu cy
        go_wp2_with fail
        go_roundg g
        case measure => omega
        case rel =>
          refine ⟨k + 1, Bk3, f3, by omega, by simp, by rw [HTK.out]; exact HT4.out, by rw [HTK.out]; exact Nat.le_trans HPL.out (by omega), fun b hb => ?_, HB4.out⟩
          rcases HBK4.out b hb with h | h
          · exact ⟨(HBK2.out b h).1, by have := (HBK2.out b h).2; omega⟩
          · exact ⟨by have := h.1; omega, h.2⟩
      | false =>
        go_wp2_with fail
        have h3s := HW.out.2.2.1
        have hyl : yp.length ≤ 1000000 := by
          have h1 := HSM.out.cut.p
          rw [← HY.out] at h1
          exact Nat.le_trans h1 (by omega)
        refine (remove_tree T mb Bk2 f2 _ w3 HW.out.1.2 (fun b hb => by have := (HBK2.out b hb).2; omega) yp hyl).mono ?_
        rintro e w4 ⟨rfl, hti3, hch⟩
        have hpl := remove_len (((l.map fun x => (x.1, x.2.1)).take k).foldl stepT []) yp
        have hyp : yp = (cutM (xp, ⟨kind, mode, uid, gid, time, attrs, data, link⟩)).1 := by rw [← HY.out]
        rw [hyp] at hti3 hpl
        have HT4 := Keep.keep hti3; have HPL := Keep.keep hpl
        have HB4 := Keep.keep (HW.out.2.1.trans ((hch.lower (by omega)).below (fun j hj e => by omega)))
        have hs4 := hch.size
        clear hti3 hch hpl cpu cy hyp
        go_wp2_with fail
        go_roundg g
        case measure => omega
        case rel => exact ⟨k + 1, Bk2, f2, by omega, by simp, by rw [HTK.out]; exact HT4.out, by rw [HTK.out]; exact Nat.le_trans HPL.out (by omega), fun b hb => ⟨(HBK2.out b hb).1, by have := (HBK2.out b hb).2; omega⟩, HB4.out⟩
end Go.Proofs.YtphgmkhbhboklaaGreatDoor
/- portolanlaw18.tells: the chapter's rows. -/
namespace Go.Proofs.YtphgmkhbhboklaaGreatDoor
open Go.RowKit
def fileN : Nd := ⟨2, 0, 0, 0, 0, [], [], []⟩
def dirN : Nd := ⟨1, 0, 0, 0, 0, [], [], []⟩
set_option maxRecDepth 100000 in
theorem tls1 : newT [([97, 47, 98], fileN)] = (33, none) := by kernel_rfl
set_option maxRecDepth 100000 in
theorem tls2 : newT [([97, 47, 98], fileN), ([97], dirN)] = (0, some [([97], dirN), ([97, 47, 98], fileN)]) := by kernel_rfl
set_option maxRecDepth 100000 in
theorem tls3 : putT [([97], dirN), ([97, 47, 98], fileN)] ([97], fileN) = (0, [([97], fileN)]) := by kernel_rfl
set_option maxRecDepth 100000 in
theorem tls4 : getT [([97], fileN)] [97, 47, 98] = (nd0, false) := by kernel_rfl
set_option maxHeartbeats 2000000 in
set_option maxRecDepth 100000 in
theorem tells_any (B : Nat) (w : World) (hT : Tabs B w) : Calls Tryz.prog 20 #[] w fun e w' => e = .returned (.bool true) ∧ Below w.heap.size w w' := by
  have HT := Keep.keep hT
  clear hT
  have hbn1 : ∀ w, (Instr.build 30 #[(0, .int .i64 2)]).run Tryz.prog w = .ok (.agg #[.int .i64 2, .int .u32 0, .int .u32 0, .int .u32 0, .int .i64 0, .slice none 0 0, .slice none 0 0, .string ⟨#[]⟩]) w := fun w => by kernel_rfl
  have hbn2 : ∀ w, (Instr.build 30 #[(0, .int .i64 1)]).run Tryz.prog w = .ok (.agg #[.int .i64 1, .int .u32 0, .int .u32 0, .int .u32 0, .int .i64 0, .slice none 0 0, .slice none 0 0, .string ⟨#[]⟩]) w := fun w => by kernel_rfl
  go_enter Tryz.func20, Tryz.ntmps20
  go_upto_region 2 with fail
  refine wp_world (R := fun w1 => Hp NoM w w1 [rowA w.heap.size 30 #[.int .i64 2, .int .u32 0, .int .u32 0, .int .u32 0, .int .i64 0, .slice none 0 0, .slice none 0 0, .string ⟨#[]⟩], rowA (w.heap.size + 1) 30 #[.int .i64 1, .int .u32 0, .int .u32 0, .int .u32 0, .int .i64 0, .slice none 0 0, .slice none 0 0, .string ⟨#[]⟩]]) ?_ ?_
  · exact ((Hp.begin NoM w).newRow _ _).newRow' _ _ _ _ (by simp) rfl
  intro w1 H1
  obtain ⟨b0, hb0⟩ : ∃ b0, w.heap.size = b0 := ⟨_, rfl⟩
  rw [hb0] at H1 ⊢
  clear hbn1 hbn2
  have HR0 := Keep.keep (H1.out.row 0 rfl)
  have HSF : Keep ((#[.int .i64 2, .int .u32 0, .int .u32 0, .int .u32 0, .int .i64 0, .slice none 0 0, .slice none 0 0, .string ⟨#[]⟩] : Array Value).size = 8) := ⟨rfl⟩
  have hbm1 : ∀ w, (Instr.build 32 #[(0, .string ⟨#[97, 47, 98]⟩), (1, .agg #[.int .i64 2, .int .u32 0, .int .u32 0, .int .u32 0, .int .i64 0, .slice none 0 0, .slice none 0 0, .string ⟨#[]⟩])]).run Tryz.prog w = .ok (.agg #[.string ⟨#[97, 47, 98]⟩, .int .i64 2, .int .u32 0, .int .u32 0, .int .u32 0, .int .i64 0, .slice none 0 0, .slice none 0 0, .string ⟨#[]⟩]) w := fun w => by kernel_rfl
  go_wp2_with ((with_reducible refine arm_loadRow HR0.out aggN HSF.out ?_ ?_); (focus rfl); simp only [Act.put, List.setIfInBounds_toArray, List.set_cons_succ, List.set_cons_zero])
  have hlt1 := (H1.out.row 1 rfl).lt
  have hNf : ∀ (w : World) (N : Nat → Prop), NdR w N fileN nilV nilV := fun w N => ⟨RdV.ofNil, ⟨⟨none, 0, rfl, Nat.le_refl _, by unfold maxLen; omega, .inl rfl⟩, fun b off n cap e j hj => by cases e⟩⟩
  have hSf : ∀ p : Tx, p.length ≤ 400000 → Sm (p, fileN) := fun p hp => ⟨hp, by simp [fileN], by simp [fileN], by simp [fileN], fun x hx => by simp [fileN] at hx, by simp [fileN]⟩
  have hb1 : Below w.heap.size w w1 := by have := H1.out.below; exact this
  refine (new_tree (.slice (some ⟨w1.heap.size, 0, none⟩) 1 1) [(([97, 47, 98], fileN), nilV, nilV)] B _ (HT.out.on ((hb1.alloc hb1.size _).mono HT.out.b)) ⟨RdV.new 32 (mcells [(([97, 47, 98], fileN), nilV, nilV)]) 9 1 _ rfl rfl (by unfold maxLen; omega) (by simp), fun x hx => ?_⟩ (fun x hx => ?_) (by simp)).mono ?_
  · obtain rfl : x = (([97, 47, 98], fileN), nilV, nilV) := by simpa using hx
    exact hNf _ _
  · obtain rfl : x = (([97, 47, 98], fileN), nilV, nilV) := by simpa using hx
    exact hSf _ (by simp)
  rintro e w2 ⟨⟨pv, rfl, hnew⟩, hb2⟩
  simp only [List.map_cons, List.map_nil, tls1] at hnew ⊢
  have hpv : pv = .pointer none := hnew
  subst hpv
  have H2 := Keep.keep ((H1.out.alloc (.cells #[.string ⟨#[97, 47, 98]⟩, .int .i64 2, .int .u32 0, .int .u32 0, .int .u32 0, .int .i64 0, .slice none 0 0, .slice none 0 0, .string ⟨#[]⟩] 32)).call hb2)
  clear hb2 H1 HR0 hnew
  have HR0 := Keep.keep (H2.out.row 0 rfl)
  have HR1 := Keep.keep (H2.out.row 1 rfl)
  have HSD : Keep ((#[.int .i64 1, .int .u32 0, .int .u32 0, .int .u32 0, .int .i64 0, .slice none 0 0, .slice none 0 0, .string ⟨#[]⟩] : Array Value).size = 8) := ⟨rfl⟩
  have hbm2 : ∀ w, (Instr.build 32 #[(0, .string ⟨#[97]⟩), (1, .agg #[.int .i64 1, .int .u32 0, .int .u32 0, .int .u32 0, .int .i64 0, .slice none 0 0, .slice none 0 0, .string ⟨#[]⟩])]).run Tryz.prog w = .ok (.agg #[.string ⟨#[97]⟩, .int .i64 1, .int .u32 0, .int .u32 0, .int .u32 0, .int .i64 0, .slice none 0 0, .slice none 0 0, .string ⟨#[]⟩]) w := fun w => by kernel_rfl
  go_wp2_with (first
    | ((with_reducible refine arm_loadRow HR0.out aggN HSF.out ?_ ?_); (focus rfl); simp only [Act.put, List.setIfInBounds_toArray, List.set_cons_succ, List.set_cons_zero])
    | ((with_reducible refine arm_loadRow HR1.out aggN HSD.out ?_ ?_); (focus rfl); simp only [Act.put, List.setIfInBounds_toArray, List.set_cons_succ, List.set_cons_zero]))
  have hNd : ∀ (w : World) (N : Nat → Prop), NdR w N dirN nilV nilV := fun w N => ⟨RdV.ofNil, ⟨⟨none, 0, rfl, Nat.le_refl _, by unfold maxLen; omega, .inl rfl⟩, fun b off n cap e j hj => by cases e⟩⟩
  have hSd : ∀ p : Tx, p.length ≤ 400000 → Sm (p, dirN) := fun p hp => ⟨hp, by simp [dirN], by simp [dirN], by simp [dirN], fun x hx => by simp [dirN] at hx, by simp [dirN]⟩
  have hb2 := H2.out.below
  refine (new_tree (.slice (some ⟨w2.heap.size, 0, none⟩) 2 2) [(([97, 47, 98], fileN), nilV, nilV), (([97], dirN), nilV, nilV)] B _ (HT.out.on ((hb2.alloc hb2.size _).mono HT.out.b)) ⟨RdV.new 32 (mcells [(([97, 47, 98], fileN), nilV, nilV), (([97], dirN), nilV, nilV)]) 9 2 _ rfl rfl (by unfold maxLen; omega) (by simp), fun x hx => ?_⟩ (fun x hx => ?_) (by simp)).mono ?_
  · rcases List.mem_cons.1 hx with rfl | hx
    · exact hNf _ _
    · obtain rfl : x = (([97], dirN), nilV, nilV) := by simpa using hx
      exact hNd _ _
  · rcases List.mem_cons.1 hx with rfl | hx
    · exact hSf _ (by simp)
    · obtain rfl : x = (([97], dirN), nilV, nilV) := by simpa using hx
      exact hSd _ (by simp)
  rintro e w3 ⟨⟨pv, rfl, hnew⟩, hb3⟩
  simp only [List.map_cons, List.map_nil, tls2] at hnew ⊢
  obtain ⟨T, mb, Bk, f, rfl, hti, hTw, hmw, hBk⟩ := hnew
  have H3 := Keep.keep ((H2.out.alloc (.cells #[.string ⟨#[97, 47, 98]⟩, .int .i64 2, .int .u32 0, .int .u32 0, .int .u32 0, .int .i64 0, .slice none 0 0, .slice none 0 0, .string ⟨#[]⟩, .string ⟨#[97]⟩, .int .i64 1, .int .u32 0, .int .u32 0, .int .u32 0, .int .i64 0, .slice none 0 0, .slice none 0 0, .string ⟨#[]⟩] 32)).call hb3)
  have hs2 := hb2.size
  have HTI := Keep.keep hti; have HBK := Keep.keep hBk
  simp only [World.size_alloc] at hTw hmw
  have hFr : ∀ b, Bk b → w2.heap.size < b ∧ b < w3.heap.size := fun b hb => ⟨by have := (hBk b hb).1; simp at this; omega, (hBk b hb).2⟩
  clear hb2 hb3 hti hBk H2 HR0 HR1
  have HR0 := Keep.keep (H3.out.row 0 rfl)
  have hbm3 : ∀ w, (Instr.build 32 #[(0, .string ⟨#[97]⟩), (1, .agg #[.int .i64 2, .int .u32 0, .int .u32 0, .int .u32 0, .int .i64 0, .slice none 0 0, .slice none 0 0, .string ⟨#[]⟩])]).run Tryz.prog w = .ok (.agg #[.string ⟨#[97]⟩, .int .i64 2, .int .u32 0, .int .u32 0, .int .u32 0, .int .i64 0, .slice none 0 0, .slice none 0 0, .string ⟨#[]⟩]) w := fun w => by kernel_rfl
  go_wp2_with ((with_reducible refine arm_loadRow HR0.out aggN HSF.out ?_ ?_); (focus rfl); simp only [Act.put, List.setIfInBounds_toArray, List.set_cons_succ, List.set_cons_zero])
  refine (put_tree T mb Bk f _ B w3 HTI.out (fun b hb => (hFr b hb).2) (by simp) (HT.out.on (H3.out.below.mono HT.out.b)) ([97], fileN) nilV nilV (hSf _ (by simp)) (hNf _ _)).mono ?_
  rintro e w4 ⟨rfl, ⟨Bk4, f4, hti4, hbk4⟩, hch⟩
  simp only [tls3] at hti4 ⊢
  have hb3 := H3.out.below
  have HB4 := Keep.keep (hb3.trans ((hch.lower hb3.size).below (fun j hj e => by omega)))
  have hs4 := hch.size
  have hFr4 : ∀ b, Bk4 b → b < w4.heap.size := fun b hb => by
    rcases hbk4 b hb with h | h
    · have := (hFr b h).2; omega
    · exact h.2
  have HG := Keep.keep (get_tree T mb Bk4 f4 _ w4 hti4 hFr4 [97, 47, 98] (by simp))
  rw [tls4] at HG
  have HT4 := Keep.keep hti4
  clear hb3 hch hti4 hbk4
  go_wp2_with fail
  refine HG.out.mono ?_
  rintro e w5 ⟨av5, dv5, rfl, hn5, hb5⟩
  obtain ⟨aa, la, ca, ad, ld, cd, rfl, rfl⟩ := hn5.shape
  have HT5 : Keep (TreeIn w5 T mb Bk4 f4 [([97], fileN)]) := ⟨HT4.out.loc (fun b hb => hb5.block b (by
    rcases hb with rfl | rfl | h
    · exact HT4.out.row.lt
    · exact HT4.out.map.lt
    · exact hFr4 b h))⟩
  have HB5 := Keep.keep (HB4.out.trans (hb5.mono HB4.out.size))
  have hs5 := hb5.size
  clear hn5 hb5 HG HT4 HB4
  unfold ndC strV nd0
  dsimp only
  go_wp2_with fail
  refine (len_tree T mb Bk4 f4 _ _ (HT5.out.loc (fun b hb => Below.heap_alloc w5 _ b (by
    rcases hb with rfl | rfl | h
    · exact HT5.out.row.lt
    · exact HT5.out.map.lt
    · have := hFr4 b h; have := hs5; omega)))).mono ?_
  rintro e w6 ⟨rfl, rfl⟩
  go_wp2_with fail
  go_ret
  exact ⟨rfl, HB5.out.alloc HB5.out.size _⟩
end Go.Proofs.YtphgmkhbhboklaaGreatDoor
/- WHERE A KEY STANDS in a sorted list that is gone along; plain facts. -/
namespace Go.Proofs.YtphgmkhbhboklaaGreatDoor
namespace SM
section
variable {α : Type}
/-- how many keys stand ahead -/
def plc (L : List (Tx × α)) (p : Tx) : Nat := (lo L p).length
theorem plc_le (L : List (Tx × α)) (p : Tx) : plc L p ≤ L.length := List.length_filter_le _ _
theorem Srt.rise {L : List (Tx × α)} (h : Srt L) {i j : Nat} (hij : i < j) (hj : j < L.length) : (L[i]'(by omega)).1 < L[j].1 := (List.pairwise_iff_getElem.1 h) i j (by omega) hj hij
theorem Srt.plc_at {L : List (Tx × α)} (h : Srt L) {p : Tx} {k : Nat} (hk : k ≤ L.length) (h1 : ∀ j, (hj : j < k) → (hl : j < L.length) → L[j].1 < p) (h2 : ∀ hl : k < L.length, ¬ L[k].1 < p) : k = plc L p := by
  have e : lo L p = L.take k := by
    unfold lo
    conv => lhs; rw [← List.take_append_drop k L]
    rw [List.filter_append, List.filter_eq_self.2 (fun x hx => ?_), List.filter_eq_nil_iff.2 (fun x hx => ?_), List.append_nil]
    · obtain ⟨j, hj, rfl⟩ := List.mem_iff_getElem.1 hx
      rw [List.length_drop] at hj
      rw [List.getElem_drop]
      have h2 := h2 (by omega)
      rcases Nat.eq_zero_or_pos j with rfl | h0
      · simpa using h2
      · have := h.rise (i := k) (j := k + j) (by omega) (by omega)
        simpa using fun e : (L[k + j]).1 < p => h2 (tx_trans this e)
    · obtain ⟨j, hj, rfl⟩ := List.mem_iff_getElem.1 hx
      rw [List.length_take] at hj
      rw [List.getElem_take]
      simpa using h1 j (by omega) (by omega)
  unfold plc
  rw [e, List.length_take]
  omega
theorem Srt.take_plc {L : List (Tx × α)} (h : Srt L) (p : Tx) : L.take (plc L p) = lo L p := by
  have e := congrArg (List.take (plc L p)) (h.split p)
  rw [e]
  unfold plc
  rw [List.take_append_of_le_length (Nat.le_refl _), List.take_length]
theorem Srt.drop_plc {L : List (Tx × α)} (h : Srt L) (p : Tx) : L.drop (plc L p) = L.filter (fun x => x.1 == p) ++ hi L p := by
  have e := congrArg (List.drop (plc L p)) (h.split p)
  rw [e]
  unfold plc
  rw [List.drop_append_of_le_length (Nat.le_refl _), List.drop_length, List.nil_append]
theorem Srt.drop_some {L : List (Tx × α)} (h : Srt L) {p : Tx} {v : α} (hl : SM.look L p = some v) : L.drop (plc L p + 1) = hi L p := by
  rw [← List.drop_drop, h.drop_plc, h.mid, hl]; rfl
theorem Srt.drop_none {L : List (Tx × α)} (h : Srt L) {p : Tx} (hl : SM.look L p = none) : L.drop (plc L p) = hi L p := by
  rw [h.drop_plc, h.mid, hl]; rfl
theorem Srt.at_some {L : List (Tx × α)} (h : Srt L) {p : Tx} {v : α} (hl : SM.look L p = some v) : L[plc L p]? = some (p, v) := by
  rw [← List.head?_drop, h.drop_plc, h.mid, hl]; rfl
theorem Srt.at_none {L : List (Tx × α)} (h : Srt L) {p : Tx} (hl : SM.look L p = none) (hk : plc L p < L.length) : p < (L[plc L p]).1 := by
  have e : L[plc L p]? = some L[plc L p] := List.getElem?_eq_getElem hk
  rw [← List.head?_drop, h.drop_none hl] at e
  have := List.mem_of_mem_head? e
  unfold hi at this
  simpa using (List.mem_filter.1 this).2
/-- is it there? as one sees at its place -/
theorem Srt.is_at {L : List (Tx × α)} (h : Srt L) (p : Tx) : (match L[plc L p]? with | some x => x.1 == p | none => false) = (SM.look L p).isSome := by
  cases hl : SM.look L p with
  | some v => rw [h.at_some hl]; simp
  | none =>
    by_cases hk : plc L p < L.length
    · rw [List.getElem?_eq_getElem hk]
      have := h.at_none hl hk
      simpa using fun e => tx_irrefl p (by rw [e] at this; exact this)
    · rw [List.getElem?_eq_none (by omega)]; rfl
theorem Srt.put_eq {L : List (Tx × α)} (h : Srt L) (m : Tx × α) : SM.put L m = L.take (plc L m.1) ++ m :: L.drop (if (SM.look L m.1).isSome then plc L m.1 + 1 else plc L m.1) := by
  unfold SM.put
  rw [h.take_plc]
  cases hl : SM.look L m.1 with
  | some v => simp [h.drop_some hl]
  | none => simp [h.drop_none hl]
/-- one key less -/
theorem Srt.del_eq {L : List (Tx × α)} (h : Srt L) {p : Tx} {v : α} (hl : SM.look L p = some v) : L.filter (fun x => x.1 != p) = L.take (plc L p) ++ L.drop (plc L p + 1) := by
  rw [h.take_plc, h.drop_some hl]
  have e := congrArg (List.filter (fun x => x.1 != p)) (h.split p)
  rw [List.filter_append, List.filter_append] at e
  have h1 : (lo L p).filter (fun x => x.1 != p) = lo L p := List.filter_eq_self.2 (fun x hx => by
    have : x.1 < p := by simpa using (List.mem_filter.1 hx).2
    simpa using fun e : x.1 = p => tx_irrefl p (e ▸ this))
  have h2 : (hi L p).filter (fun x => x.1 != p) = hi L p := List.filter_eq_self.2 (fun x hx => by
    have : p < x.1 := by simpa using (List.mem_filter.1 hx).2
    simpa using fun e : x.1 = p => tx_irrefl p (e ▸ this))
  have h3 : (L.filter (fun x => x.1 == p)).filter (fun x => x.1 != p) = [] := List.filter_eq_nil_iff.2 (fun x hx => by
    have : (x.1 == p) = true := (List.mem_filter.1 hx).2
    simp at this
    simp [this])
  rw [h1, h2, h3, List.nil_append] at e
  exact e
end
end SM
end Go.Proofs.YtphgmkhbhboklaaGreatDoor
/- PATHS: plain facts on parents, bases and what is above. -/
namespace Go.Proofs.YtphgmkhbhboklaaGreatDoor
theorem cutAt_noSl : ∀ {a : List UInt8}, (∀ x ∈ a, x ≠ 47) → cutAt a = 0
  | [], _ => rfl
  | c :: a, h => by
    rw [cutAt, cutAt_noSl (fun x hx => h x (by simp [hx])), if_neg (by omega), if_neg (h c (by simp))]
theorem cutAt_app : ∀ (a b : List UInt8), (∀ x ∈ b, x ≠ 47) → cutAt (a ++ 47 :: b) = a.length + 1
  | [], b, h => by rw [List.nil_append, cutAt, cutAt_noSl h, if_neg (by omega), if_pos rfl]; rfl
  | c :: a, b, h => by
    rw [List.cons_append, cutAt, cutAt_app a b h, if_pos (by omega)]; rfl
theorem joinS_snoc : ∀ (l : List (List UInt8)) (b : List UInt8), l ≠ [] → joinS (l ++ [b]) = joinS l ++ 47 :: b
  | [], _, h => absurd rfl h
  | [x], b, _ => rfl
  | x :: y :: r, b, _ => by
    have ih := joinS_snoc (y :: r) b (by simp)
    rw [List.cons_append] at ih
    show x ++ 47 :: joinS (y :: (r ++ [b])) = (x ++ 47 :: joinS (y :: r)) ++ 47 :: b
    rw [ih]; simp
theorem parent_joinS {l : List (List UInt8)} {b : List UInt8} (hl : l ≠ []) (hb : ∀ x ∈ b, x ≠ 47) : parentP (joinS (l ++ [b])) = joinS l ∧ baseP (joinS (l ++ [b])) = b := by
  rw [joinS_snoc l b hl]
  unfold parentP baseP
  rw [cutAt_app _ _ hb]
  constructor
  · rw [Nat.add_sub_cancel, List.take_left]
  · rw [show (joinS l).length + 1 = (joinS l ++ [47]).length by simp, show joinS l ++ 47 :: b = (joinS l ++ [47]) ++ b by simp, List.drop_left]
theorem parent_one {b : List UInt8} (hb : ∀ x ∈ b, x ≠ 47) : parentP b = [] ∧ baseP b = b := by
  unfold parentP baseP
  rw [cutAt_noSl hb]; simp
theorem joinP_two (a b : List UInt8) : joinP [a, b] = if a = [] then b else if b = [] then a else a ++ 47 :: b := by
  cases a with
  | nil => cases b <;> rfl
  | cons c a => cases b <;> rfl
/-- what is above, from the left: p what stands before -/
def abvR (p : List UInt8) : List UInt8 → List (List UInt8)
  | [] => []
  | c :: l => if c = 47 then p :: abvR (p ++ [c]) l else abvR (p ++ [c]) l
theorem abvR_eq : ∀ (l p : List UInt8), abvR p l = (List.range l.length).filterMap fun i => if l[i]? = some 47 then some (p ++ l.take i) else none
  | [], p => rfl
  | c :: l, p => by
    rw [abvR, List.length_cons, List.range_succ_eq_map, List.filterMap_cons]
    have h1 : ((List.range l.length).map Nat.succ).filterMap (fun i => if (c :: l)[i]? = some 47 then some (p ++ (c :: l).take i) else none) = abvR (p ++ [c]) l := by
      rw [List.filterMap_map, abvR_eq l (p ++ [c])]
      congr 1
      funext i
      simp
    simp only [List.getElem?_cons_zero, Option.some.injEq, List.take_zero, List.append_nil]
    by_cases h : c = 47
    · rw [if_pos h, if_pos h, h1]
    · rw [if_neg h, if_neg h, h1]
theorem aboveP_eq (p : List UInt8) : aboveP p = abvR [] p := by rw [abvR_eq]; unfold aboveP; simp
theorem abvR_noSl : ∀ (a p l : List UInt8), (∀ x ∈ a, x ≠ 47) → abvR p (a ++ l) = abvR (p ++ a) l
  | [], p, l, _ => by simp
  | c :: a, p, l, h => by
    rw [List.cons_append, abvR, if_neg (h c (by simp)), abvR_noSl a _ l (fun x hx => h x (by simp [hx]))]
    simp
/-- what is above a path, of its names -/
def pres (q : List (List UInt8)) : List (List UInt8) → List (List UInt8)
  | [] => []
  | [_] => []
  | x :: y :: r => joinS (q ++ [x]) :: pres (q ++ [x]) (y :: r)
theorem abvR_pres : ∀ (l q : List (List UInt8)) (p : List UInt8), NoSl l → (q = [] → p = []) → (q ≠ [] → p = joinS q ++ [47]) → abvR p (joinS l) = pres q l
  | [], q, p, _, _, _ => by simp [joinS, abvR, pres]
  | [x], q, p, hn, _, _ => by
    have h := abvR_noSl x p [] (fun c hc => hn x (by simp) c hc)
    rw [List.append_nil] at h
    rw [joinS, h]; rfl
  | x :: y :: r, q, p, hn, h1, h2 => by
    have hx : p ++ x = joinS (q ++ [x]) := by
      by_cases hq : q = []
      · subst hq; rw [h1 rfl]; rfl
      · rw [h2 hq, joinS_snoc q x hq]; simp
    rw [joinS, abvR_noSl x p _ (fun c hc => hn x (by simp) c hc), abvR, if_pos rfl, hx, pres, abvR_pres (y :: r) (q ++ [x]) _ (fun z hz => hn z (by simp [hz])) (by simp) (fun _ => rfl)]
theorem aboveP_pres {l : List (List UInt8)} (hn : NoSl l) : aboveP (joinS l) = pres [] l := by
  rw [aboveP_eq]; exact abvR_pres l [] [] hn (fun _ => rfl) (fun h => absurd rfl h)
theorem pres_length : ∀ (l q : List (List UInt8)), (pres q l).length = l.length - 1
  | [], _ => rfl
  | [_], _ => rfl
  | x :: y :: r, q => by rw [pres, List.length_cons, pres_length (y :: r)]; simp
theorem pres_get : ∀ (l q : List (List UInt8)) (i : Nat), i + 1 < l.length → (pres q l)[i]? = some (joinS (q ++ l.take (i + 1)))
  | [], _, _, h => by simp at h
  | [_], _, i, h => by simp at h
  | x :: y :: r, q, 0, _ => by simp [pres]
  | x :: y :: r, q, i + 1, h => by
    rw [pres, List.getElem?_cons_succ, pres_get (y :: r) (q ++ [x]) i (by simpa using h)]
    simp
/-- a beginning is less -/
theorem bytesLess_pre : ∀ (a b : List UInt8), b ≠ [] → Op.bytesLess a (a ++ b) = true
  | [], b, h => by cases b with | nil => exact absurd rfl h | cons c b => rfl
  | c :: a, b, h => by
    have ih := bytesLess_pre a b h
    simp [Op.bytesLess, ih]
/-- names that a tree may have, none of them empty, no slash -/
theorem mayN_ne {s : List UInt8} (h : mayN s = true) : s ≠ [] ∧ ∀ c ∈ s, c ≠ 47 := by
  unfold mayN at h
  simp only [Bool.and_eq_true, Bool.not_eq_true', List.any_eq_false, Bool.or_eq_true, beq_iff_eq, not_or] at h
  refine ⟨fun e => ?_, fun c hc => (h.1.2 c hc).1⟩
  rw [e] at h
  simp at h
theorem filter_ne {l : List (List UInt8)} (h : l.all mayN = true) : l.filter (fun x => !x.isEmpty) = l := by
  rw [List.filter_eq_self]
  intro x hx
  have := (mayN_ne (List.all_eq_true.1 h x hx)).1
  cases x with
  | nil => exact absurd rfl this
  | cons c x => rfl
theorem noSl_of_may {l : List (List UInt8)} (h : l.all mayN = true) : NoSl l := fun x hx c hc => (mayN_ne (List.all_eq_true.1 h x hx)).2 c hc
theorem joinP_may {l : List (List UInt8)} (h : l.all mayN = true) : joinP l = joinS l := by unfold joinP; rw [filter_ne h]
theorem joinS_eq_nil {l : List (List UInt8)} (h : l.all mayN = true) (he : joinS l = []) : l = [] := by
  cases l with
  | nil => rfl
  | cons x r =>
    have hx := (mayN_ne (List.all_eq_true.1 h x (by simp))).1
    cases r with
    | nil => exact absurd he hx
    | cons y r => rw [joinS] at he; simp at he
theorem splitP_joinS {l : List (List UInt8)} (h : l.all mayN = true) : splitP (joinS l) = l := by
  unfold splitP
  by_cases he : joinS l = []
  · rw [if_pos he, joinS_eq_nil h he]
  · rw [if_neg he]
    have hl : l ≠ [] := fun e => he (by rw [e]; rfl)
    exact spl_joinS l hl (noSl_of_may h)
theorem mayP_joinS {l : List (List UInt8)} (h : l.all mayN = true) (h1 : (joinS l).length ≤ 4080) (h2 : l.length < 255) : mayP (joinS l) = true := by
  unfold mayP
  rw [splitP_joinS h, h, decide_eq_true h1, decide_eq_true h2]; rfl
theorem joinS_append : ∀ (a b : List (List UInt8)), a ≠ [] → b ≠ [] → joinS (a ++ b) = joinS a ++ 47 :: joinS b
  | [], _, h, _ => absurd rfl h
  | [x], b, _, hb => by rw [List.singleton_append, joinS_cons x hb]; rfl
  | x :: y :: r, b, _, hb => by
    have ih := joinS_append (y :: r) b (by simp) hb
    rw [List.cons_append] at ih
    show x ++ 47 :: joinS (y :: (r ++ b)) = (x ++ 47 :: joinS (y :: r)) ++ 47 :: joinS b
    rw [ih]; simp
/-- the path, its parent and its base -/
theorem parts_join {l : List (List UInt8)} (h : l.all mayN = true) : joinP [parentP (joinS l), baseP (joinS l)] = joinS l := by
  have hn := noSl_of_may h
  rcases List.eq_nil_or_concat l with rfl | ⟨a, b, rfl⟩
  · rfl
  · rw [List.concat_eq_append] at h hn ⊢
    have hb : ∀ x ∈ b, x ≠ 47 := fun c hc => hn b (by simp) c hc
    have hbn : b ≠ [] := (mayN_ne (List.all_eq_true.1 h b (by simp))).1
    by_cases ha : a = []
    · subst ha
      rw [List.nil_append]
      show joinP [parentP b, baseP b] = b
      rw [(parent_one hb).1, (parent_one hb).2, joinP_two, if_pos rfl]
    · obtain ⟨h1, h2⟩ := parent_joinS ha hb
      have haj : joinS a ≠ [] := fun e => ha (joinS_eq_nil (by rw [List.all_append] at h; simp only [Bool.and_eq_true] at h; exact h.1) e)
      rw [h1, h2, joinP_two, if_neg haj, if_neg hbn, joinS_snoc a b ha]
theorem under_self (p : List UInt8) : underP p p = false := by
  unfold underP
  have : (p ++ [47]).isPrefixOf p = false := by
    cases h : (p ++ [47]).isPrefixOf p with
    | false => rfl
    | true =>
      have := (List.isPrefixOf_iff_prefix.1 h).length_le
      rw [List.length_append, List.length_singleton] at this
      omega
  rw [this]
  cases p.isEmpty <;> rfl
theorem under_nil (p : List UInt8) : underP [] p = !p.isEmpty := by unfold underP; simp
/-- one of those above, and the next one -/
structure Abv (p d x : List UInt8) : Prop where
  par : parentP x = d
  und : underP d p = true
  may : mayP d = true
  less : Op.bytesLess d x = true
  nun : underP p d = false
theorem abv_at {l : List (List UInt8)} (h : l.all mayN = true) (h1 : (joinS l).length ≤ 4080) (h2 : l.length < 255) (i : Nat) (hi : i + 1 < l.length) : Abv (joinS l) (joinS (l.take (i + 1))) (joinS (l.take (i + 2))) := by
  have ht : (l.take (i + 1)).all mayN = true := by
    rw [List.all_eq_true] at h ⊢
    exact fun x hx => h x (List.mem_of_mem_take hx)
  have htn : l.take (i + 1) ≠ [] := by
    intro e
    have := congrArg List.length e
    rw [List.length_take, List.length_nil] at this
    omega
  have hdn : l.drop (i + 1) ≠ [] := by
    intro e
    have := congrArg List.length e
    rw [List.length_drop, List.length_nil] at this
    omega
  have hp : joinS l = joinS (l.take (i + 1)) ++ 47 :: joinS (l.drop (i + 1)) := by
    conv => lhs; rw [← List.take_append_drop (i + 1) l]
    exact joinS_append _ _ htn hdn
  have hx : l.take (i + 2) = l.take (i + 1) ++ [l[i + 1]] := List.take_succ_eq_append_getElem hi
  have hb := (mayN_ne (List.all_eq_true.1 h l[i + 1] (List.getElem_mem hi))).2
  have hdj : joinS (l.take (i + 1)) ≠ [] := fun e => htn (joinS_eq_nil ht e)
  refine ⟨?_, ?_, ?_, ?_, ?_⟩
  · rw [hx]; exact (parent_joinS htn hb).1
  · unfold underP
    have hpr : (joinS (l.take (i + 1)) ++ [47]).isPrefixOf (joinS l) = true := by
      rw [List.isPrefixOf_iff_prefix, hp]
      exact ⟨joinS (l.drop (i + 1)), by simp⟩
    rw [hpr]
    have : (joinS l).isEmpty = false := by
      rw [hp]
      cases joinS (l.take (i + 1)) <;> rfl
    rw [this]; simp
  · exact mayP_joinS ht (by rw [hp] at h1; simp at h1; omega) (by rw [List.length_take]; omega)
  · rw [hx, joinS_snoc _ _ htn]
    exact bytesLess_pre _ _ (by simp)
  · unfold underP
    have hpr : (joinS l ++ [47]).isPrefixOf (joinS (l.take (i + 1))) = false := by
      cases h3 : (joinS l ++ [47]).isPrefixOf (joinS (l.take (i + 1))) with
      | false => rfl
      | true =>
        have h4 := (List.isPrefixOf_iff_prefix.1 h3).length_le
        rw [hp, List.length_append, List.length_append, List.length_cons, List.length_singleton] at h4
        omega
    have : (joinS l).isEmpty = false := by
      rw [hp]
      cases joinS (l.take (i + 1)) <;> rfl
    rw [hpr, this]; simp
theorem joinS_take_len : ∀ (l : List (List UInt8)) (j : Nat), (joinS (l.take j)).length ≤ (joinS l).length
  | [], j => by simp [joinS]
  | [x], 0 => by simp [joinS]
  | [x], j + 1 => by simp
  | x :: y :: r, 0 => by simp [joinS]
  | x :: y :: r, 1 => by simp [joinS]
  | x :: y :: r, j + 2 => by
    have ih := joinS_take_len (y :: r) (j + 1)
    rw [List.take_succ_cons] at ih ⊢
    rw [List.take_succ_cons, joinS, joinS, List.length_append, List.length_append, List.length_cons, List.length_cons]
    omega
/-- the names that the law takes -/
def cut60 (s : List UInt8) : List UInt8 := s.take (min s.length 60)
def sel (names : List (List UInt8)) (k : Nat) : List (List UInt8) := ((names.take (min k 40)).map cut60).filter mayN
theorem sel_succ (names : List (List UInt8)) (k : Nat) (hk : k < names.length) : sel names (k + 1) = if k < 40 ∧ mayN (cut60 names[k]) = true then sel names k ++ [cut60 names[k]] else sel names k := by
  unfold sel
  by_cases h : k < 40
  · rw [show min (k + 1) 40 = k + 1 by omega, show min k 40 = k by omega, List.take_succ_eq_append_getElem hk, List.map_append, List.filter_append]
    by_cases hm : mayN (cut60 names[k]) = true
    · rw [if_pos ⟨h, hm⟩]; simp [hm]
    · rw [if_neg (fun e => hm e.2)]; simp [hm]
  · rw [show min (k + 1) 40 = 40 by omega, show min k 40 = 40 by omega, if_neg (fun e => h e.1)]
theorem sel_may (names : List (List UInt8)) (k : Nat) : (sel names k).all mayN = true := by
  rw [List.all_eq_true]; exact fun x hx => (List.mem_filter.1 hx).2
theorem sel_len (names : List (List UInt8)) (k : Nat) : (sel names k).length ≤ 40 := by
  unfold sel
  refine Nat.le_trans (List.length_filter_le _ _) ?_
  rw [List.length_map, List.length_take]; omega
theorem sel_each (names : List (List UInt8)) (k : Nat) : ∀ x ∈ sel names k, x.length ≤ 60 := by
  intro x hx
  obtain ⟨y, _, rfl⟩ := List.mem_map.1 (List.mem_filter.1 hx).1
  unfold cut60; rw [List.length_take]; omega
theorem joinS_bound : ∀ (l : List (List UInt8)), (∀ x ∈ l, x.length ≤ 60) → (joinS l).length ≤ 61 * l.length
  | [], _ => by simp [joinS]
  | [x], h => by have := h x (by simp); show x.length ≤ _; simp; omega
  | x :: y :: r, h => by
    have h1 := h x (by simp)
    have ih := joinS_bound (y :: r) (fun z hz => h z (by simp [hz]))
    rw [joinS, List.length_append, List.length_cons]
    simp only [List.length_cons] at ih ⊢
    omega
theorem sel_join (names : List (List UInt8)) (k : Nat) : (joinS (sel names k)).length ≤ 4080 := by
  have h1 := joinS_bound _ (sel_each names k)
  have h2 := sel_len names k
  omega
end Go.Proofs.YtphgmkhbhboklaaGreatDoor
/- path.Whiteout, Opaque; portolanlaw11.wakes. -/
namespace Go.Proofs.YtphgmkhbhboklaaGreatDoor
open Go.RowKit
def whiteoutP (p : List UInt8) : List UInt8 := if p.isEmpty || !mayP p then [] else joinP [parentP p, whiteB ++ baseP p]
def opaqueP (d : List UInt8) : List UInt8 := if !mayP d then [] else joinP [d, markB]
theorem joinP_two_len (a b : List UInt8) : (joinP [a, b]).length ≤ a.length + b.length + 1 := by
  have h1 := joinS_filter_len (fun x => !x.isEmpty) [a, b] (by simp)
  have h2 : (joinS [a, b]).length = a.length + b.length + 1 := by simp [joinS]; omega
  unfold joinP
  omega
theorem rdS_two (w : World) (a b : List UInt8) : RdS (w.alloc (.cells #[strV a, strV b] 9)) (· < (w.alloc (.cells #[strV a, strV b] 9)).heap.size) (.slice (some ⟨w.heap.size, 0, none⟩) 2 2) [a, b] :=
  RdV.new 9 [strV a, strV b] 1 2 _ rfl rfl (by unfold maxLen; omega) (by simp)
end Go.Proofs.YtphgmkhbhboklaaGreatDoor
/- PATHS: plain facts on classes, whiteouts and marks. -/
namespace Go.Proofs.YtphgmkhbhboklaaGreatDoor
theorem cut_cases : ∀ p : List UInt8, (cutAt p = 0 ∧ ∀ x ∈ p, x ≠ 47) ∨ ∃ d b, p = d ++ 47 :: b ∧ (∀ x ∈ b, x ≠ 47) ∧ cutAt p = d.length + 1
  | [] => .inl ⟨rfl, fun x h => by cases h⟩
  | c :: l => by
    rcases cut_cases l with ⟨h1, h2⟩ | ⟨d, b, h1, h2, h3⟩
    · by_cases hc : c = 47
      · refine .inr ⟨[], l, by rw [hc]; rfl, h2, ?_⟩
        rw [cutAt, h1, if_neg (by omega), if_pos hc]; rfl
      · refine .inl ⟨?_, fun x hx => ?_⟩
        · rw [cutAt, h1, if_neg (by omega), if_neg hc]
        · rcases List.mem_cons.1 hx with rfl | hx
          · exact hc
          · exact h2 x hx
    · refine .inr ⟨c :: d, b, by rw [h1]; rfl, h2, ?_⟩
      rw [cutAt, h3, if_pos (by omega)]; rfl
/-- a path's dir and base -/
theorem path_cases (p : List UInt8) : (dirP p = [] ∧ baseP p = p ∧ parentP p = [] ∧ ∀ x ∈ p, x ≠ 47) ∨ ∃ d b, p = d ++ 47 :: b ∧ (∀ x ∈ b, x ≠ 47) ∧ dirP p = d ++ [47] ∧ baseP p = b ∧ parentP p = d := by
  rcases cut_cases p with ⟨h1, h2⟩ | ⟨d, b, h1, h2, h3⟩
  · exact .inl ⟨by unfold dirP; rw [h1]; rfl, by unfold baseP; rw [h1]; rfl, by unfold parentP; rw [h1]; rfl, h2⟩
  · have e1 : p = (d ++ [47]) ++ b := by rw [h1]; simp
    have e2 : d.length + 1 = (d ++ [(47 : UInt8)]).length := by simp
    refine .inr ⟨d, b, h1, h2, ?_, ?_, ?_⟩
    · unfold dirP; rw [h3, e1, e2, List.take_left]
    · unfold baseP; rw [h3, e1, e2, List.drop_left]
    · unfold parentP; rw [h3, h1, Nat.add_sub_cancel, List.take_left]
theorem dir_of {d b : List UInt8} (hb : ∀ x ∈ b, x ≠ 47) : dirP (d ++ 47 :: b) = d ++ [47] ∧ baseP (d ++ 47 :: b) = b ∧ parentP (d ++ 47 :: b) = d := by
  have h3 := cutAt_app d b hb
  have e1 : d ++ 47 :: b = (d ++ [47]) ++ b := by simp
  have e2 : d.length + 1 = (d ++ [(47 : UInt8)]).length := by simp
  refine ⟨?_, ?_, ?_⟩
  · unfold dirP; rw [h3, e1, e2, List.take_left]
  · unfold baseP; rw [h3, e1, e2, List.drop_left]
  · unfold parentP; rw [h3, Nat.add_sub_cancel, List.take_left]
theorem dir_none {b : List UInt8} (hb : ∀ x ∈ b, x ≠ 47) : dirP b = [] ∧ baseP b = b ∧ parentP b = [] := by
  have h := cutAt_noSl hb
  exact ⟨by unfold dirP; rw [h]; rfl, by unfold baseP; rw [h]; rfl, by unfold parentP; rw [h]; rfl⟩
theorem spl_app : ∀ (d b : List UInt8), (∀ x ∈ b, x ≠ 47) → spl (d ++ 47 :: b) = spl d ++ [b]
  | [], b, h => by
    have e : spl (47 :: b) = [] :: spl b := by rw [spl, if_pos rfl]
    rw [List.nil_append, e, spl_none h]; rfl
  | c :: d, b, h => by
    have ih := spl_app d b h
    have hne := spl_ne d
    have e1 : spl (c :: (d ++ 47 :: b)) = if c = 47 then [] :: spl (d ++ 47 :: b) else match spl (d ++ 47 :: b) with | [] => [[c]] | h :: t => (c :: h) :: t := rfl
    have e2 : spl (c :: d) = if c = 47 then [] :: spl d else match spl d with | [] => [[c]] | h :: t => (c :: h) :: t := rfl
    rw [List.cons_append, e1, ih, e2]
    by_cases hc : c = 47
    · rw [if_pos hc, if_pos hc]; rfl
    · rw [if_neg hc, if_neg hc]
      cases hs : spl d with
      | nil => exact absurd hs hne
      | cons x t => rfl
theorem may_parts {p : List UInt8} (h : mayP p = true) : p.length ≤ 4080 ∧ (splitP p).length < 255 ∧ (splitP p).all mayN = true := by
  unfold mayP at h
  simp only [Bool.and_eq_true, decide_eq_true_eq] at h
  exact ⟨h.1.1, h.1.2, h.2⟩
theorem splitP_app {d b : List UInt8} (hb : ∀ x ∈ b, x ≠ 47) : splitP (d ++ 47 :: b) = spl d ++ [b] := by
  unfold splitP
  rw [if_neg (by simp), spl_app d b hb]
theorem splitP_one {b : List UInt8} (hb : ∀ x ∈ b, x ≠ 47) (h0 : b ≠ []) : splitP b = [b] := by
  unfold splitP
  rw [if_neg h0, spl_none hb]
theorem mayN_nil : mayN [] = false := rfl
/-- the last name of a tree's path is a tree's; what stands ahead of the slash is not nothing -/
theorem may_base {p : List UInt8} (h : mayP p = true) (h0 : p ≠ []) : mayN (baseP p) = true := by
  obtain ⟨-, -, h3⟩ := may_parts h
  rcases path_cases p with ⟨-, hb, -, hn⟩ | ⟨d, b, rfl, hn, -, hb, -⟩
  · rw [hb]; rw [splitP_one hn h0] at h3; simpa using h3
  · rw [hb]; rw [splitP_app hn, List.all_append] at h3; simp only [Bool.and_eq_true] at h3; simpa using h3.2
theorem may_dir {d b : List UInt8} (hb : ∀ x ∈ b, x ≠ 47) (h : mayP (d ++ 47 :: b) = true) : d ≠ [] := by
  obtain ⟨-, -, h3⟩ := may_parts h
  rw [splitP_app hb, List.all_append] at h3
  simp only [Bool.and_eq_true] at h3
  rintro rfl
  have h4 := h3.1
  simp [spl, mayN_nil] at h4
theorem mayN_white {b : List UInt8} (h : mayN b = true) : whiteB.isPrefixOf b = false := by
  unfold mayN at h
  simp only [Bool.and_eq_true, Bool.not_eq_true'] at h
  exact h.2
theorem white_not_may (b : List UInt8) : mayN (whiteB ++ b) = false := by
  cases h : mayN (whiteB ++ b) with
  | false => rfl
  | true =>
    have h1 := mayN_white h
    have h2 : whiteB.isPrefixOf (whiteB ++ b) = true := by rw [List.isPrefixOf_iff_prefix]; exact List.prefix_append _ _
    rw [h2] at h1; cases h1
theorem markB_eq : markB = whiteB ++ [46, 119, 104, 46, 46, 111, 112, 113] := rfl
theorem tableB_eq : tableB = whiteB ++ [46, 119, 104, 46, 116, 111, 99] := rfl
theorem lastC_may {b : List UInt8} (h : mayN b = true) : lastC b = 1 := by
  have h1 := mayN_white h
  unfold lastC
  rw [h1]
  have : (b == markB) = false := by
    rw [beq_eq_false_iff_ne]; rintro rfl
    rw [markB_eq, white_not_may] at h; cases h
  rw [this]; rfl
theorem lastC_white {b : List UInt8} (h : mayN b = true) : lastC (whiteB ++ b) = 2 := by
  unfold lastC
  have h1 : (whiteB ++ b == markB) = false := by
    rw [beq_eq_false_iff_ne, markB_eq]
    intro e
    have := List.append_cancel_left e
    rw [this] at h
    have h5 : mayN [46, 119, 104, 46, 46, 111, 112, 113] = false := by decide
    rw [h5] at h; cases h
  have h2 : whiteB.isPrefixOf (whiteB ++ b) = true := by rw [List.isPrefixOf_iff_prefix]; exact List.prefix_append _ _
  rw [h1, h2]; rfl
theorem lastC_mark : lastC markB = 3 := by decide
theorem tab_noSl : ∀ x ∈ tableB, x ≠ 47 := by decide
theorem mark_noSl : ∀ x ∈ markB, x ≠ 47 := by decide
theorem white_noSl {b : List UInt8} (h : ∀ x ∈ b, x ≠ 47) : ∀ x ∈ whiteB ++ b, x ≠ 47 := by
  intro x hx
  rcases List.mem_append.1 hx with hx | hx
  · exact (by decide : ∀ x ∈ whiteB, x ≠ 47) x hx
  · exact h x hx
theorem ne_table {d b : List UInt8} : (d ++ 47 :: b == tableB) = false := by
  rw [beq_eq_false_iff_ne]
  intro e
  exact tab_noSl 47 (by rw [← e]; simp) rfl
theorem trimSl_app (d : List UInt8) : trimSl (d ++ [47]) = d := by
  unfold trimSl
  have : ([47] : List UInt8).isSuffixOf (d ++ [47]) = true := by rw [List.isSuffixOf_iff_suffix]; exact List.suffix_append _ _
  rw [if_pos this]; simp
theorem ne_slash {d : List UInt8} (h : d ≠ []) : (d ++ [47] == [(47 : UInt8)]) = false := by
  rw [beq_eq_false_iff_ne]
  intro e
  have := congrArg List.length e
  simp at this
  exact h this
/-- a tree's path is Plain, and its own target -/
theorem class_may {p : List UInt8} (h : mayP p = true) (h0 : p ≠ []) : classP p = (1, p) := by
  have hb := may_base h h0
  have hl := lastC_may hb
  have ht : (p == tableB) = false := by
    rw [beq_eq_false_iff_ne]; rintro rfl
    rw [(dir_none tab_noSl).2.1, tableB_eq, white_not_may] at hb; cases hb
  have hg : tgtC 1 (dirP p) (baseP p) = p := dir_base p
  have he : p.isEmpty = false := by cases p with | nil => exact absurd rfl h0 | cons c p => rfl
  have hd : (dirP p == [(47 : UInt8)]) = false := by
    rcases path_cases p with ⟨hd, -⟩ | ⟨d, b, rfl, hn, hd, -⟩
    · rw [hd]; rfl
    · rw [hd]; exact ne_slash (may_dir hn h)
  unfold classP
  rw [ht, hl, hg, h, he, hd]; rfl
/-- the mark in a dir: its class, its target -/
theorem class_opaque {p : List UInt8} (h : mayP p = true) : classP (opaqueP p) = (3, p) := by
  have ho : opaqueP p = joinP [p, markB] := by unfold opaqueP; rw [h]; rfl
  rw [ho, joinP_two]
  by_cases hp : p = []
  · subst hp
    rw [if_pos rfl]; decide
  · rw [if_neg hp, if_neg (by decide)]
    obtain ⟨h1, h2, -⟩ := dir_of (d := p) mark_noSl
    have hg : tgtC 3 (p ++ [47]) markB = p := trimSl_app p
    unfold classP
    rw [ne_table, h1, h2, lastC_mark, hg, h, ne_slash hp]; rfl
/-- the whiteout of a path: its class, its target, its dir -/
theorem class_whiteout {p : List UInt8} (h : mayP p = true) (h0 : p ≠ []) : classP (whiteoutP p) = (2, p) ∧ parentP (whiteoutP p) = parentP p := by
  have hb := may_base h h0
  have hbn := mayN_ne hb
  have he : p.isEmpty = false := by cases p with | nil => exact absurd rfl h0 | cons c p => rfl
  have hw : whiteoutP p = joinP [parentP p, whiteB ++ baseP p] := by unfold whiteoutP; rw [h, he]; rfl
  have hdr : (whiteB ++ baseP p).drop 4 = baseP p := List.drop_left (l₁ := whiteB)
  rw [hw, joinP_two]
  rcases path_cases p with ⟨hd, hbe, hpa, hn⟩ | ⟨d, b, rfl, hn, hd, hbe, hpa⟩
  · rw [hpa, if_pos rfl]
    obtain ⟨g1, g2, g3⟩ := dir_none (white_noSl hbn.2)
    refine ⟨?_, g3⟩
    have ht : (whiteB ++ baseP p == tableB) = false := by
      rw [beq_eq_false_iff_ne, tableB_eq]
      intro e
      rw [List.append_cancel_left e] at hb
      have h5 : mayN [46, 119, 104, 46, 116, 111, 99] = false := by decide
      rw [h5] at hb; cases hb
    have hg : tgtC 2 [] (whiteB ++ baseP p) = p := by
      show [] ++ (whiteB ++ baseP p).drop 4 = p
      rw [hdr, List.nil_append, hbe]
    unfold classP
    rw [ht, g1, g2, lastC_white hb, hg, hdr, hb, h, he]; rfl
  · have hdn := may_dir hn h
    rw [hpa, hbe, if_neg hdn, if_neg (by simp [whiteB])]
    rw [hbe] at hb hbn hdr
    obtain ⟨g1, g2, g3⟩ := dir_of (d := d) (white_noSl hbn.2)
    refine ⟨?_, g3⟩
    have hg : tgtC 2 (d ++ [47]) (whiteB ++ b) = d ++ 47 :: b := by
      show (d ++ [47]) ++ (whiteB ++ b).drop 4 = _
      rw [hdr]; simp
    unfold classP
    rw [ne_table, g1, g2, lastC_white hb, hg, hdr, hb, h, he, ne_slash hdn]; rfl
theorem whiteoutP_len (p : List UInt8) : (whiteoutP p).length ≤ 2 * p.length + 5 := by
  have h0 := joinP_two_len (parentP p) (whiteB ++ baseP p)
  have h1 : (parentP p).length ≤ p.length := by unfold parentP; rw [List.length_take]; omega
  have h2 : (baseP p).length ≤ p.length := by unfold baseP; rw [List.length_drop]; omega
  have h3 : (whiteB ++ baseP p).length = 4 + (baseP p).length := by rw [List.length_append]; rfl
  unfold whiteoutP
  split
  · simp
  · omega
theorem opaqueP_len (p : List UInt8) : (opaqueP p).length ≤ p.length + 13 := by
  have h0 := joinP_two_len p markB
  have h1 : markB.length = 12 := rfl
  unfold opaqueP
  split
  · simp
  · omega
/-- what a class tells -/
inductive Told (p : List UInt8) : Prop
  | none (h : classP p = (0, [])) (hn : ¬ (mayP p = true ∧ p ≠ []))
  | plain (h : classP p = (1, p)) (hm : mayP p = true) (h0 : p ≠ [])
  | gone (t : List UInt8) (h : classP p = (2, t)) (hw : whiteoutP t = p) (hm : mayP p = false) (hl : t.length ≤ p.length)
  | mark (t : List UInt8) (h : classP p = (3, t)) (ho : opaqueP t = p) (hm : mayP p = false) (hl : t.length ≤ p.length)
  | table (h : classP p = (4, [])) (ht : p = tableB) (hm : mayP p = false)
theorem told (p : List UInt8) : Told p := by
  by_cases hm : mayP p = true ∧ p ≠ []
  · exact .plain (class_may hm.1 hm.2) hm.1 hm.2
  cases ht : p == tableB with
  | true =>
    have ht' := beq_iff_eq.1 ht
    refine .table (by unfold classP; rw [ht]; rfl) ht' ?_
    rw [ht']; decide
  | false =>
    have hfalse : ∀ c, mayN (baseP p) = false → c = true → p ≠ [] → mayP p = false := fun _ hb _ h0 => by
      cases hmp : mayP p with
      | false => rfl
      | true => rw [may_base hmp h0] at hb; cases hb
    cases hc : (!mayP (tgtC (lastC (baseP p)) (dirP p) (baseP p)) || (lastC (baseP p) != 3 && (tgtC (lastC (baseP p)) (dirP p) (baseP p)).isEmpty) || (lastC (baseP p) == 2 && !mayN ((baseP p).drop 4)) || dirP p == [47]) with
    | true => exact .none (by unfold classP; rw [ht, hc]; rfl) hm
    | false =>
      have hcl : classP p = ((lastC (baseP p) : Int), tgtC (lastC (baseP p)) (dirP p) (baseP p)) := by unfold classP; rw [ht, hc]; rfl
      simp only [Bool.or_eq_false_iff, Bool.not_eq_false', Bool.and_eq_false_iff] at hc
      obtain ⟨⟨⟨c1, c2⟩, c3⟩, c4⟩ := hc
      have hk : lastC (baseP p) = 1 ∨ (lastC (baseP p) = 2 ∧ ∃ b, baseP p = whiteB ++ b) ∨ (lastC (baseP p) = 3 ∧ baseP p = markB) := by
        unfold lastC
        cases h1 : baseP p == markB with
        | true => exact .inr (.inr ⟨rfl, beq_iff_eq.1 h1⟩)
        | false =>
          cases h2 : whiteB.isPrefixOf (baseP p) with
          | true => exact .inr (.inl ⟨rfl, by obtain ⟨b, hb⟩ := List.isPrefixOf_iff_prefix.1 h2; exact ⟨b, hb.symm⟩⟩)
          | false => exact .inl rfl
      rcases hk with hk | ⟨hk, b, hb⟩ | ⟨hk, hb⟩
      · exfalso
        rw [hk] at c1 c2
        have hg : tgtC 1 (dirP p) (baseP p) = p := dir_base p
        rw [hg] at c1 c2
        refine hm ⟨c1, ?_⟩
        rintro rfl
        simp at c2
      · rw [hk] at hcl c1 c2 c3
        have hdr : (baseP p).drop 4 = b := by rw [hb]; exact List.drop_left (l₁ := whiteB)
        rw [hdr] at c3
        have hbm : mayN b = true := by simpa using c3
        have hg : tgtC 2 (dirP p) (baseP p) = dirP p ++ b := by show dirP p ++ (baseP p).drop 4 = _; rw [hdr]
        rw [hg] at hcl c1 c2
        have hbn := mayN_ne hbm
        have hte : dirP p ++ b ≠ [] := fun e => hbn.1 (List.append_eq_nil_iff.1 e).2
        have hee : (dirP p ++ b).isEmpty = false := by cases hx : dirP p ++ b with | nil => exact absurd hx hte | cons c l => rfl
        have hp0 : p ≠ [] := by
          rintro rfl
          have : baseP [] = [] := rfl
          rw [this] at hb
          simp [whiteB] at hb
        have hfm := hfalse true (by rw [hb]; exact white_not_may b) rfl hp0
        have hlen : (dirP p ++ b).length ≤ p.length := by
          have : (dirP p ++ baseP p).length = p.length := by rw [dir_base]
          rw [hb] at this
          simp at this ⊢
          omega
        refine .gone _ hcl ?_ hfm hlen
        have hwo : whiteoutP (dirP p ++ b) = joinP [parentP (dirP p ++ b), whiteB ++ baseP (dirP p ++ b)] := by unfold whiteoutP; rw [c1, hee]; rfl
        rw [hwo, joinP_two]
        rcases path_cases p with ⟨hd, hbe, hpa, hn⟩ | ⟨d, b', hpe, hn, hd, hbe, hpa⟩
        · rw [hd, List.nil_append, (dir_none hbn.2).2.2, (dir_none hbn.2).2.1, if_pos rfl, ← hb, hbe]
        · have hdn : d ≠ [] := by
            rintro rfl
            rw [hd] at c4; simp at c4
          have e1 : dirP p ++ b = d ++ 47 :: b := by rw [hd]; simp
          rw [e1, (dir_of hbn.2).2.2, (dir_of hbn.2).2.1, if_neg hdn, if_neg (by simp [whiteB]), ← hb, hbe, ← hpe]
      · rw [hk] at hcl c1
        have hg : tgtC 3 (dirP p) (baseP p) = trimSl (dirP p) := rfl
        rw [hg] at hcl c1
        have hp0 : p ≠ [] := by
          rintro rfl
          have : baseP [] = [] := rfl
          rw [this] at hb
          simp [markB] at hb
        have hfm := hfalse true (by rw [hb, markB_eq]; exact white_not_may _) rfl hp0
        rcases path_cases p with ⟨hd, hbe, hpa, hn⟩ | ⟨d, b', hpe, hn, hd, hbe, hpa⟩
        · have hts : trimSl (dirP p) = [] := by rw [hd]; rfl
          rw [hts] at hcl c1
          refine .mark [] hcl ?_ hfm (by simp)
          unfold opaqueP
          rw [c1]
          show joinP [[], markB] = p
          rw [joinP_two, if_pos rfl, ← hb, hbe]
        · have hts : trimSl (dirP p) = d := by rw [hd]; exact trimSl_app d
          have hdn : d ≠ [] := by
            rintro rfl
            rw [hd] at c4; simp at c4
          rw [hts] at hcl c1
          refine .mark d hcl ?_ hfm (by rw [hpe]; simp)
          unfold opaqueP
          rw [c1]
          show joinP [d, markB] = p
          rw [joinP_two, if_neg hdn, if_neg (by decide), ← hb, hbe, ← hpe]
end Go.Proofs.YtphgmkhbhboklaaGreatDoor
/- portolanref11: begins, Name, MayName, Split, May, Join. -/
namespace Go.Proofs.YtphgmkhbhboklaaGreatDoor
open Go.RowKit
theorem prefix_take (s t : List UInt8) (_h : t.length ≤ s.length) : (s.take t.length == t) = t.isPrefixOf s := by
  rw [Bool.eq_iff_iff, beq_iff_eq, List.isPrefixOf_iff_prefix]
  constructor
  · intro e; rw [← e]; exact List.take_prefix _ _
  · intro hp; exact (List.prefix_iff_eq_take.1 hp).symm
theorem begins_any (s t : List UInt8) (w : World) : Calls Tryz.prog 78 #[.string ⟨s.toArray⟩, .string ⟨t.toArray⟩] w fun e w' => e = .returned (.bool (t.isPrefixOf s)) ∧ w = w' := by
  by_cases h : t.length ≤ s.length
  · have hd : decide ((t.length : Int) ≤ (s.length : Int)) = true := decide_eq_true (by omega)
    have hd2 : decide (t.length ≤ s.length) = true := decide_eq_true h
    have hst := run_slice_to (P := Tryz.prog) Tryz.underlying9 s .i64 t.length h
    have he := prefix_take s t h
    generalize s.take t.length = q at *
    generalize t.isPrefixOf s = b at *
    go_enter Tryz.func78, Tryz.ntmps78
    go_wp2_with fail
    go_ret
    exact ⟨rfl, rfl⟩
  · have hd : decide ((t.length : Int) ≤ (s.length : Int)) = false := decide_eq_false (by omega)
    have hd2 : decide (t.length ≤ s.length) = false := decide_eq_false h
    have he : t.isPrefixOf s = false := by
      cases hx : t.isPrefixOf s with
      | false => rfl
      | true => exact absurd (List.isPrefixOf_iff_prefix.1 hx).length_le h
    rw [he]
    clear he h
    go_enter Tryz.func78, Tryz.ntmps78
    go_wp2_with fail
    go_ret
    exact ⟨rfl, rfl⟩
def nameB (s : List UInt8) : Bool := !(s.any fun c => c == 47 || c == 0) && (decide (1 ≤ s.length) && decide (s.length ≤ 255) && s != [46] && s != [46, 46])
set_option maxHeartbeats 2000000 in
set_option maxRecDepth 100000 in
theorem rname_any (s : List UInt8) (hs : s.length ≤ 1000000) (w : World) : Calls Tryz.prog 95 #[.string ⟨s.toArray⟩] w fun e w' => e = .returned (.bool (nameB s)) ∧ w = w' := by
  go_enter Tryz.func95, Tryz.ntmps95
  go_wp2_with fail
  go_loopg [3] s.length (fun g u3 wx => ∃ k : Nat, k + g = s.length ∧ u3 = .int .i64 (k : Int) ∧ (∀ j, (hj : j < k) → (hl : j < s.length) → s[j] ≠ 47 ∧ s[j] ≠ 0) ∧ w = wx)
  case atStart => exact ⟨0, by omega, rfl, fun j hj => by omega, rfl⟩
  case round =>
    obtain ⟨k, hkg, rfl, hno, rfl⟩ := hrel
    have HNO := Keep.keep hno
    clear hno
    cases gk with
    | zero =>
      obtain rfl : k = s.length := by omega
      have HE : Keep (nameB s = (decide (1 ≤ s.length) && decide (s.length ≤ 255) && s != [46] && s != [46, 46])) := ⟨by
        have : (s.any fun c => c == 47 || c == 0) = false := by
          rw [List.any_eq_false]
          intro c hc
          obtain ⟨j, hj, rfl⟩ := List.mem_iff_getElem.1 hc
          obtain ⟨h1, h2⟩ := HNO.out j hj hj
          simp [h1, h2]
        unfold nameB; rw [this]; rfl⟩
      simp only [bne] at HE
      obtain ⟨b1, h1⟩ : ∃ b, decide (1 ≤ s.length) = b := ⟨_, rfl⟩
      obtain ⟨b2, h2⟩ : ∃ b, decide (s.length ≤ 255) = b := ⟨_, rfl⟩
      obtain ⟨b3, h3⟩ : ∃ b, (s == [46]) = b := ⟨_, rfl⟩
      obtain ⟨b4, h4⟩ : ∃ b, (s == [46, 46]) = b := ⟨_, rfl⟩
      simp only [h1, h2, h3, h4] at HE
      have h1i : decide ((1 : Int) ≤ (s.length : Int)) = b1 := by rw [← h1]; simp only [decide_eq_decide]; omega
      have h2i : decide ((s.length : Int) ≤ 255) = b2 := by rw [← h2]; simp only [decide_eq_decide]; omega
      clear HNO
      cases b1 with
      | false =>
        go_wp2_with fail
        go_ret
        exact ⟨by rw [HE.out]; rfl, rfl⟩
      | true =>
      cases b2 with
      | false =>
        go_wp2_with fail
        go_ret
        exact ⟨by rw [HE.out]; rfl, rfl⟩
      | true =>
      cases b3 with
      | true =>
        go_wp2_with fail
        go_ret
        exact ⟨by rw [HE.out]; rfl, rfl⟩
      | false =>
        cases b4 with
        | true =>
          go_wp2_with fail
          go_ret
          exact ⟨by rw [HE.out]; rfl, rfl⟩
        | false =>
          go_wp2_with fail
          go_ret
          exact ⟨by rw [HE.out]; rfl, rfl⟩
    | succ g =>
      have hk : k < s.length := by omega
      have hidx := run_index_str (P := Tryz.prog) Tryz.underlying9 ⟨s.toArray⟩ .i64 k s[k] (by simp [hk])
      have hgi : (⟨s.toArray⟩ : ByteArray)[k]'(hk) = s[k] := rfl
      have HSTEP : Keep (s[k] ≠ 47 ∧ s[k] ≠ 0 → ∀ j, (hj : j < k + 1) → (hl : j < s.length) → s[j] ≠ 47 ∧ s[j] ≠ 0) := ⟨fun he j hj hl => by
        rcases Nat.lt_succ_iff_lt_or_eq.1 hj with h | rfl
        · exact HNO.out j h hl
        · exact he⟩
      have HBAD : Keep (s[k] = 47 ∨ s[k] = 0 → nameB s = false) := ⟨fun h => by
        have : (s.any fun c => c == 47 || c == 0) = true := List.any_eq_true.2 ⟨_, List.getElem_mem hk, by rcases h with h | h <;> simp [h]⟩
        unfold nameB; rw [this]; rfl⟩
      by_cases h0 : s[k] = 0
      · have HX := Keep.keep (HBAD.out (.inr h0))
        rw [h0] at hidx hgi
        clear HSTEP HBAD h0 HNO
        go_wp2_with fail
        go_ret
        exact ⟨by rw [HX.out]; rfl, rfl⟩
      · by_cases h47 : s[k] = 47
        · have HX := Keep.keep (HBAD.out (.inl h47))
          rw [h47] at hidx hgi
          clear HSTEP HBAD h0 h47 HNO
          go_wp2_with fail
          go_ret
          exact ⟨by rw [HX.out]; rfl, rfl⟩
        · have HST := Keep.keep (HSTEP.out ⟨h47, h0⟩)
          have hn0 : ((s[k].toNat : Int) == 0) = false := by
            rw [beq_eq_false_iff_ne]; intro e; exact h0 (UInt8.toNat_inj.1 (by show s[k].toNat = 0; omega))
          have hn47 : ((s[k].toNat : Int) == 47) = false := by
            rw [beq_eq_false_iff_ne]; intro e; exact h47 (UInt8.toNat_inj.1 (by show s[k].toNat = 47; omega))
          clear HSTEP HBAD h0 h47 HNO
          generalize s[k] = c at *
          go_wp2_with fail
          go_roundg g
          case measure => omega
          case rel => exact ⟨k + 1, by omega, by simp, HST.out, rfl⟩
theorem mayN_name (s : List UInt8) : mayN s = (nameB s && decide (s.length ≤ 251) && !whiteB.isPrefixOf s) := by
  unfold mayN nameB
  have h1 : decide (1 ≤ s.length) = !s.isEmpty := by cases s <;> simp
  rw [h1, show ([46, 119, 104, 46] : List UInt8) = whiteB from rfl]
  by_cases h2 : s.length ≤ 251
  · rw [decide_eq_true h2, decide_eq_true (show s.length ≤ 255 by omega)]
    cases s.isEmpty <;> cases (s != [46]) <;> cases (s != [46, 46]) <;> cases (s.any fun c => c == 47 || c == 0) <;> cases whiteB.isPrefixOf s <;> rfl
  · rw [decide_eq_false h2]; simp
set_option maxHeartbeats 1000000 in
theorem rmayname_any (s : List UInt8) (hs : s.length ≤ 1000000) (w : World) : Calls Tryz.prog 76 #[.string ⟨s.toArray⟩] w fun e w' => e = .returned (.bool (mayN s)) ∧ w = w' := by
  have HN := Keep.keep (fun w => rname_any s hs w)
  have HB : Keep (∀ w, Calls Tryz.prog 78 #[.string ⟨s.toArray⟩, .string ⟨#[46, 119, 104, 46]⟩] w fun e w' => e = .returned (.bool (whiteB.isPrefixOf s)) ∧ w = w') := ⟨fun w => begins_any s whiteB w⟩
  rw [mayN_name]
  have h2i : decide ((s.length : Int) ≤ 251) = decide (s.length ≤ 251) := by simp only [decide_eq_decide]; omega
  generalize nameB s = b1 at *
  generalize decide (s.length ≤ 251) = b2 at *
  generalize whiteB.isPrefixOf s = b3 at *
  go_enter Tryz.func76, Tryz.ntmps76
  go_wp2_with fail
  refine (HN.out _).mono ?_
  rintro e w' ⟨rfl, rfl⟩
  cases b1 with
  | false =>
    go_wp2_with fail
    go_ret
    exact ⟨rfl, rfl⟩
  | true =>
  cases b2 with
  | false =>
    go_wp2_with fail
    go_ret
    exact ⟨rfl, rfl⟩
  | true =>
    go_wp2_with fail
    refine (HB.out _).mono ?_
    rintro e w' ⟨rfl, rfl⟩
    go_wp2_with fail
    go_ret
    exact ⟨rfl, rfl⟩
/-- how far Split is at place k -/
def SpAt (p : List UInt8) (k f : Nat) (D : List (List UInt8)) : Prop := (k ≤ p.length ∧ f ≤ k ∧ D ++ spl (p.drop f) = spl p ∧ ∀ j, f ≤ j → j < k → (hl : j < p.length) → p[j] ≠ 47) ∨ (k = p.length + 1 ∧ D = spl p)
theorem seg_noSl {p : List UInt8} {k f : Nat} (h : ∀ j, f ≤ j → j < k → (hl : j < p.length) → p[j] ≠ 47) : ∀ x ∈ (p.drop f).take (k - f), x ≠ 47 := by
  intro x hx
  obtain ⟨j, hj, rfl⟩ := List.mem_iff_getElem.1 hx
  rw [List.length_take, List.length_drop] at hj
  rw [List.getElem_take, List.getElem_drop]
  exact h (f + j) (by omega) (by omega) (by omega)
theorem SpAt.cut {p : List UInt8} {k f : Nat} {D : List (List UInt8)} (h : SpAt p k f D) (hk : k < p.length) (h47 : p[k] = 47) : SpAt p (k + 1) (k + 1) (D ++ [(p.drop f).take (k - f)]) := by
  rcases h with ⟨h1, h2, h3, h4⟩ | ⟨h1, _⟩
  · refine .inl ⟨hk, Nat.le_refl _, ?_, fun j a b _ => by omega⟩
    have e1 : p.drop f = (p.drop f).take (k - f) ++ 47 :: p.drop (k + 1) := by
      conv => lhs; rw [← List.take_append_drop (k - f) (p.drop f), List.drop_drop, show f + (k - f) = k by omega, List.drop_eq_getElem_cons hk, h47]
    rw [e1, spl_cut _ (seg_noSl h4)] at h3
    rw [List.append_assoc]; exact h3
  · omega
theorem SpAt.end_ {p : List UInt8} {f : Nat} {D : List (List UInt8)} (h : SpAt p p.length f D) : SpAt p (p.length + 1) (p.length + 1) (D ++ [(p.drop f).take (p.length - f)]) := by
  rcases h with ⟨h1, h2, h3, h4⟩ | ⟨h1, _⟩
  · refine .inr ⟨rfl, ?_⟩
    have e1 : (p.drop f).take (p.length - f) = p.drop f := by rw [List.take_of_length_le]; rw [List.length_drop]; omega
    have h5 := seg_noSl h4
    rw [e1] at h5 ⊢
    rw [spl_none h5] at h3
    exact h3
  · omega
theorem SpAt.skip {p : List UInt8} {k f : Nat} {D : List (List UInt8)} (h : SpAt p k f D) (hk : k < p.length) (h47 : p[k] ≠ 47) : SpAt p (k + 1) f D := by
  rcases h with ⟨h1, h2, h3, h4⟩ | ⟨h1, _⟩
  · refine .inl ⟨hk, by omega, h3, fun j a b c => ?_⟩
    rcases Nat.lt_succ_iff_lt_or_eq.1 b with h | rfl
    · exact h4 j a h c
    · exact h47
  · omega
theorem SpAt.le {p : List UInt8} {k f : Nat} {D : List (List UInt8)} (h : SpAt p k f D) (hk : k ≤ p.length) : f ≤ k := by
  rcases h with ⟨_, h2, _⟩ | ⟨h1, _⟩
  · exact h2
  · omega
theorem run_slice_mid {P : Program} {T : TypeId} (hu : P.underlying T = some .string) (l : List UInt8) (k1 k2 : IntKind) (i j : Nat) (h1 : i ≤ j) (h2 : j ≤ l.length) (w : World) :
    (Instr.slice T (.string ⟨l.toArray⟩) (some (.int k1 (i : Int))) (some (.int k2 (j : Int))) none).run P w = .ok (.string ⟨((l.drop i).take (j - i)).toArray⟩) w := by
  have h := run_slice_str (P := P) hu l k1 k2 (i : Int) (j : Int) (by omega) (by omega) (by omega) w
  rw [h]
  simp
set_option maxHeartbeats 4000000 in
set_option maxRecDepth 100000 in
theorem rsplit_any (p : List UInt8) (hp : p.length ≤ 1000000) (w : World) : Calls Tryz.prog 75 #[.string ⟨p.toArray⟩] w fun e w' => ∃ v, e = .returned v ∧ OwnS w' w.heap.size v (splitP p) ∧ Below w.heap.size w w' := by
  have heq := bne_nil p
  cases hl0 : p.isEmpty with
  | true =>
    have hs : splitP p = [] := by cases p with | nil => rfl | cons c l => cases hl0
    rw [hl0] at heq
    rw [hs]
    clear hs hl0
    go_enter Tryz.func75, Tryz.ntmps75
    go_wp2_with fail
    go_ret
    exact ⟨_, rfl, World.ownsRow_nil _ _ _ _, Below.refl _ _⟩
  | false =>
    have hs : splitP p = spl p := by cases p with | nil => cases hl0 | cons c l => rfl
    rw [hl0] at heq
    rw [hs]
    have hlen := spl_length p
    clear hs hl0
    go_enter Tryz.func75, Tryz.ntmps75
    go_wp2_with fail
    go_loopg [3, 4, 5] (p.length + 1) (fun g u3 u4 u5 wx => ∃ (k f : Nat) (D : List (List UInt8)), k + g = p.length + 1 ∧ u5 = .int .i64 (k : Int) ∧ u4 = .int .i64 (f : Int) ∧ SpAt p k f D ∧ D.length ≤ k ∧ Hp NoM w wx [slA w.heap.size 9 1 u3 D.length (D.map strV)])
    case atStart => exact ⟨0, 0, [], by omega, rfl, rfl, .inl ⟨Nat.zero_le _, Nat.le_refl _, rfl, fun j _ hj => by omega⟩, Nat.le_refl _, (Hp.begin NoM w).nilS _ _ _⟩
    case round =>
      obtain ⟨k, f, D, hkg, rfl, rfl, hsp, hDl, hH⟩ := hrel
      have HH := Keep.keep hH; have HSP := Keep.keep hsp
      have hown := hH.sl 0 rfl
      obtain ⟨a3, c3, rfl, -⟩ := (ownsV_reads hown).shape
      have HO := Keep.keep hown
      clear hH hown hsp
      cases gk with
      | zero =>
        obtain rfl : k = p.length + 1 := by omega
        have HD : Keep (D = spl p) := ⟨by
          rcases HSP.out with ⟨h, _⟩ | ⟨_, h⟩
          · omega
          · exact h⟩
        have hd : decide (((p.length + 1 : Nat) : Int) ≤ (p.length : Int)) = false := decide_eq_false (by omega)
        have hd2 : decide ((p.length : Int) + 1 ≤ (p.length : Int)) = false := decide_eq_false (by omega)
        have hd3 : decide (p.length + 1 ≤ p.length) = false := decide_eq_false (by omega)
        go_wp2_with fail
        go_ret
        exact ⟨_, rfl, by rw [← HD.out]; exact HO.out, HH.out.below⟩
      | succ g =>
        have hk1 : k ≤ p.length := by omega
        have hf := HSP.out.le hk1
        have hd : decide ((k : Int) ≤ (p.length : Int)) = true := decide_eq_true (by omega)
        have hd2 : decide (k ≤ p.length) = true := decide_eq_true hk1
        have hst := run_slice_mid (P := Tryz.prog) Tryz.underlying9 p .i64 .i64 f k hf hk1
        by_cases hke : k = p.length
        · have hek : ((k : Int) == (p.length : Int)) = true := by rw [hke]; exact beq_self_eq_true _
          have hek2 : (k == p.length) = true := by rw [hke]; exact beq_self_eq_true _
          have HNX : Keep (SpAt p (k + 1) (k + 1) (D ++ [(p.drop f).take (k - f)])) := ⟨by
            subst hke; exact HSP.out.end_⟩
          clear hke
          generalize (p.drop f).take (k - f) = x at *
          go_wp2_with (with_reducible refine arm_stop ?_)
          refine Stopped.out ?_
          refine arm_appendV slS ((HH.out.alloc _).sl 0 rfl) (RdV.new (N := fun _ => True) 9 [strV x] 1 1 _ rfl rfl (by unfold maxLen; omega) trivial) (by simp [strV, Value.oneCell']) (by unfold maxLen; omega) (by omega) (by simp; have := HH.out.size; omega) rfl rfl ?_
          intro v' w' ho hg hb _
          have HG := Keep.keep ((HH.out.alloc _).grow 0 rfl hg ho hb)
          obtain ⟨a4, c4, rfl, -⟩ := (ownsV_reads ho).shape
          clear ho hg hb
          simp only [Act.put, List.setIfInBounds_toArray, List.set_cons_succ, List.set_cons_zero]
          go_wp2_with fail
          go_roundg g
          case measure => omega
          case rel => exact ⟨k + 1, k + 1, _, by omega, by simp, by simp, HNX.out, by simp; omega, by rw [List.length_append, List.map_append]; exact HG.out⟩
        · have hk : k < p.length := by omega
          have hek : ((k : Int) == (p.length : Int)) = false := by rw [beq_eq_false_iff_ne]; omega
          have hek2 : (k == p.length) = false := by rw [beq_eq_false_iff_ne]; omega
          have hidx := run_index_str (P := Tryz.prog) Tryz.underlying9 ⟨p.toArray⟩ .i64 k p[k] (by simp [hk])
          have hgi : (⟨p.toArray⟩ : ByteArray)[k]'(hk) = p[k] := rfl
          have HCUT := Keep.keep (fun h => HSP.out.cut hk h)
          have HSKIP := Keep.keep (fun h => HSP.out.skip hk h)
          by_cases h47 : p[k] = 47
          · have HNX := Keep.keep (HCUT.out h47)
            rw [h47] at hidx hgi
            clear HCUT HSKIP h47 hke
            generalize (p.drop f).take (k - f) = x at *
            go_wp2_with (with_reducible refine arm_stop ?_)
            refine Stopped.out ?_
            refine arm_appendV slS ((HH.out.alloc _).sl 0 rfl) (RdV.new (N := fun _ => True) 9 [strV x] 1 1 _ rfl rfl (by unfold maxLen; omega) trivial) (by simp [strV, Value.oneCell']) (by unfold maxLen; omega) (by omega) (by simp; have := HH.out.size; omega) rfl rfl ?_
            intro v' w' ho hg hb _
            have HG := Keep.keep ((HH.out.alloc _).grow 0 rfl hg ho hb)
            obtain ⟨a4, c4, rfl, -⟩ := (ownsV_reads ho).shape
            clear ho hg hb
            simp only [Act.put, List.setIfInBounds_toArray, List.set_cons_succ, List.set_cons_zero]
            go_wp2_with fail
            go_roundg g
            case measure => omega
            case rel => exact ⟨k + 1, k + 1, _, by omega, by simp, by simp, HNX.out, by simp; omega, by rw [List.length_append, List.map_append]; exact HG.out⟩
          · have HNX := Keep.keep (HSKIP.out h47)
            have hn47 : ((p[k].toNat : Int) == 47) = false := by
              rw [beq_eq_false_iff_ne]; intro e; exact h47 (UInt8.toNat_inj.1 (by show p[k].toNat = 47; omega))
            clear HCUT HSKIP h47 hke hst
            generalize p[k] = c at *
            go_wp2_with fail
            go_roundg g
            case measure => omega
            case rel => exact ⟨k + 1, f, D, by omega, by simp, rfl, HNX.out, by omega, HH.out⟩
end Go.Proofs.YtphgmkhbhboklaaGreatDoor
