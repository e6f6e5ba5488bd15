/- PARTS OF ONE PROOF, set in one file: FewC, Acts, Grown, TreeAll, TreeSort, TreeList, PathPartsL, PathWh, PathWhiteL, PathRefL, PathWakes, PathKnownL. Each part tells its own conditions. -/
import Derived.Sort.OwnSorted
import Derived.Test.YtmnknmpfkjhgbaaGreatDoorP1
import Derived.Test.YtmnknmpfkjhgbaaGreatDoorP4
import Derived.Test.YtmnknmpfkjhgbaaGreatDoorP6
import Derived.Test.YtmnknmpfkjhgbaaGreatDoorP7
import Derived.Test.YtmnknmpfkjhgbaaGreatDoorP8
/- l[i:i+1] OF A SLICE OF MEMBERS; portolanlaw18.Few. -/
namespace Go.Proofs.YtmnknmpfkjhgbaaGreatDoor
open Go.RowKit
theorem slice_win (b off n cap i : Nat) (k1 k2 : IntKind) (hi : i < cap) (w : World) :
    (Instr.slice 23 (.slice (some ⟨b, off, none⟩) n cap) (some (.int k1 (i : Int))) (some (.int k2 ((i : Int) + 1))) none).run Tryz.prog w = .ok (.slice (some ⟨b, off + i * 9, none⟩) 1 (cap - i)) w := by
  have he : Tryz.prog.elem 23 = 41 := by simp [Program.elem, Tryz.underlying23]
  have hs : ∀ w, (sizeOf 41).run Tryz.prog w = .ok 9 w := fun w => by kernel_rfl
  rw [run_slice_lh w 23 (some ⟨b, off, none⟩) n cap (by rw [he]; exact Tryz.underlying23) k1 k2 (i : Int) ((i : Int) + 1) (by omega) (by omega) (by omega), he, hs]
  have e1 : ((i : Int) + 1).toNat - (i : Int).toNat = 1 := by omega
  simp [Result.andThen, sliced, Addr.add_mid]
  omega
theorem mcells_win (l : List Mv) (k : Nat) (hk : k < l.length) : mcells [l[k]] = ((mcells l).drop (k * 9)).take (1 * 9) := by
  apply List.ext_getElem?
  intro i
  by_cases h : i < 9
  · rw [List.getElem?_take, if_pos (by omega), List.getElem?_drop, mcells_get l k i hk h]
    have := mcells_get [l[k]] 0 i (by simp) h
    rw [Nat.zero_mul, Nat.zero_add] at this
    exact this
  · rw [List.getElem?_take, if_neg (by omega), List.getElem?_eq_none (by rw [mcells_length]; simp; omega)]
theorem Mbs.win {w : World} {N N' : Nat → Prop} {l : List Mv} {b off n cap : Nat} (h : Mbs w N N' (.slice (some ⟨b, off, none⟩) n cap) l) {k : Nat} (hk : k < l.length) (hc : k < cap) : Mbs w N N' (.slice (some ⟨b, off + k * 9, none⟩) 1 (cap - k)) [l[k]] :=
  ⟨h.rd.sub k 1 (cap - k) (off + k * 9) (mcells [l[k]]) (mcells_win l k hk) (by rw [mcells_length]; rfl) rfl (by omega) (by omega), fun x hx => by
    obtain rfl : x = l[k] := by simpa using hx
    exact h.nd _ (List.getElem_mem hk)⟩
theorem one_of_map {m : Mb} : ∀ {l : List Mv}, l.map (·.1) = [m] → ∃ y, l = [y] ∧ y.1 = m
  | [], h => by simp at h
  | [y], h => ⟨y, rfl, by simpa using h⟩
  | _ :: _ :: _, h => by simp at h
def few18 (l : List Mb) : List Mb := (l.take 40).map cutM
set_option maxHeartbeats 2000000 in
set_option maxRecDepth 100000 in
theorem few18_any (v : Value) (l : List Mv) (w : World) (hr : Mbs w (· < w.heap.size) (· < w.heap.size) v l) :
    Calls Tryz.prog 36 #[v] w fun e w' => ∃ v', e = .returned v' ∧ FewIs w w' v' (few18 (l.map (·.1))) ∧ Below w.heap.size w w' := by
  obtain ⟨a, cap, hv, hcap, hmx, h3⟩ := hr.rd.shape
  have HR := Keep.keep hr; have H3 := Keep.keep h3
  unfold maxLen at hmx
  clear hr h3
  subst hv
  go_enter Tryz.func36, Tryz.ntmps36
  go_wp2_with fail
  go_loopg [3, 4] (min l.length 40) (fun g u3 u4 wx => ∃ (k : Nat) (acc : List Mv), k + g = min l.length 40 ∧ u4 = .int .i64 (k : Int) ∧ acc.map (·.1) = (((l.map (·.1)).take k).map cutM) ∧ acc.length = k ∧ Hp NoM w wx [slA w.heap.size 41 9 u3 k (mcells acc)] ∧ ∀ x ∈ acc, NdR wx (fun b => Fresh w.heap.size wx b ∧ u3.ownBlock ≠ some b) x.1.2 x.2.1 x.2.2)
  case atStart => exact ⟨0, [], by omega, rfl, rfl, rfl, (Hp.begin NoM w).nilS _ _ _, fun x hx => by simp at hx⟩
  case round =>
    obtain ⟨k, acc, hkg, rfl, hmap, hal, HP, hnd⟩ := hrel
    have HM := Keep.keep hmap; have HH := Keep.keep HP; have HN := Keep.keep hnd
    obtain ⟨a3, c3, rfl, -⟩ := (ownsV_reads (HP.sl 0 rfl)).shape
    clear hmap HP hnd
    cases gk with
    | zero =>
      have HF : Keep (acc.map (·.1) = few18 (l.map (·.1))) := ⟨by
        rw [HM.out]; unfold few18
        congr 1
        rw [List.take_eq_take_iff, List.length_map]; omega⟩
      by_cases hk : k < l.length
      · have hd1 : decide ((k : Int) < (l.length : Int)) = true := decide_eq_true (by omega)
        have hd2 : decide ((k : Int) < 40) = false := decide_eq_false (by omega)
        go_wp2_with fail
        go_ret
        exact ⟨.slice a3 k c3, rfl, ⟨acc, HF.out, by rw [hal]; exact HH.out.sl 0 rfl, HN.out⟩, HH.out.below⟩
      · have hd1 : decide ((k : Int) < (l.length : Int)) = false := decide_eq_false (by omega)
        go_wp2_with fail
        go_ret
        exact ⟨.slice a3 k c3, rfl, ⟨acc, HF.out, by rw [hal]; exact HH.out.sl 0 rfl, HN.out⟩, HH.out.below⟩
    | succ g =>
      have hk : k < l.length := by omega
      have hd1 : decide ((k : Int) < (l.length : Int)) = true := decide_eq_true (by omega)
      have hd2 : decide ((k : Int) < 40) = true := decide_eq_true (by omega)
      obtain ⟨b, off, rfl, hbl⟩ : ∃ b off, a = some ⟨b, off, none⟩ ∧ b < w.heap.size := by
        rcases H3.out with h | ⟨b, off, h, hb⟩
        · omega
        · exact ⟨b, off, h, hb⟩
      have hrx := (HR.out.below HH.out.below (fun b hb => hb) (fun b hb => hb)).mono (K := (· < wr.heap.size)) (K' := (· < wr.heap.size)) (fun b hb => Nat.lt_of_lt_of_le hb HH.out.size) (fun b hb => Nat.lt_of_lt_of_le hb HH.out.size)
      have HFW := Keep.keep (few12_any _ _ wr (hrx.win hk (by omega)))
      have HTK : Keep ((((l.map (·.1)).take (k + 1)).map cutM) = (((l.map (·.1)).take k).map cutM) ++ [cutM l[k].1]) := ⟨by
        rw [List.take_succ_eq_append_getElem (by simpa using hk), List.map_append]; simp⟩
      have hsl := fun wx => slice_win b off l.length cap k .i64 .i64 (by omega) wx
      clear hrx
      go_wp2_with fail
      refine HFW.out.mono ?_
      rintro e w2 ⟨v2, rfl, ⟨l2, e2, ho2, hn2⟩, hb2⟩
      have e3 : l2.map (·.1) = [cutM l[k].1] := e2
      obtain ⟨y, rfl, hy⟩ : ∃ y, l2 = [y] ∧ y.1 = cutM l[k].1 := one_of_map e3
      rw [← hy] at HTK
      have hny := hn2 y (by simp)
      have hone : ∀ u ∈ mcells [y], u.oneCell' = true := by
        obtain ⟨⟨yp, yn⟩, yv, yd⟩ := y
        obtain ⟨aa, la, ca, ad, ld, cd, h1, h2⟩ := hny.shape
        dsimp only at h1 h2
        subst h1 h2
        simp [mcells, mcell, mbC, strV, Value.oneCell']
      have HH2 := Keep.keep (HH.out.call hb2)
      obtain ⟨a2, c2, rfl, -⟩ := (ownsV_reads ho2).shape
      have HO2 := Keep.keep ho2; have HB2 := Keep.keep hb2; have HNY := Keep.keep hny
      have HONE := Keep.keep hone
      clear ho2 hb2 hny hn2 hone e2 e3 hsl hy HFW
      go_wp2_with (with_reducible refine arm_stop ?_)
      refine Stopped.out ?_
      refine arm_appendV slMbF (m := 1) (HH2.out.sl 0 rfl) (ownsV_reads HO2.out) HONE.out (by unfold maxLen; omega) (by omega) HH2.out.size rfl rfl ?_
      intro v3 w3 ho hg hov _
      have hob := World.ownsRow.lt (HH.out.sl 0 rfl)
      have HG := Keep.keep (HH2.out.grow 0 rfl hg ho hov)
      have hs2 := HB2.out.size
      have hs3 := hg.size
      have HND : Keep (∀ x ∈ acc ++ [y], NdR w3 (fun b => Fresh w.heap.size w3 b ∧ v3.ownBlock ≠ some b) x.1.2 x.2.1 x.2.2) := ⟨fun x hx => by
        have hs1 := HH.out.size
        rcases List.mem_append.1 hx with hx | hx
        · refine ((HN.out x hx).loc (fun b hb => ?_)).mono (fun b hb => ⟨⟨hb.1.1, by have := hb.1.2; omega⟩, ?_⟩)
          · have := hb.1.2
            rw [hg.block b (by omega) (fun e => hb.2 e.symm), HB2.out.block b this]
          · have := hb.1.2
            rcases hov with e | e
            · rw [e]; exact hb.2
            · rw [e]; intro e2; injection e2 with e2; omega
        · obtain rfl : x = y := by simpa using hx
          refine (HNY.out.loc (fun b hb => ?_)).mono (fun b hb => ⟨⟨by have := hb.1.1; omega, by have := hb.1.2; omega⟩, ?_⟩)
          · have h1 := hb.1.1
            have h2 := hb.1.2
            rw [hg.block b h2 (fun e => by have := (hob b e.symm).2; omega)]
          · have h1 := hb.1.1
            have h2 := hb.1.2
            rcases hov with e | e
            · rw [e]; intro e2; have := (hob b e2).2; omega
            · rw [e]; intro e2; injection e2 with e2; omega⟩
      obtain ⟨a4, c4, rfl, -⟩ := (ownsV_reads ho).shape
      clear ho hg hov hob HH2 hs2 hs3
      simp only [Act.put, List.setIfInBounds_toArray, List.set_cons_succ, List.set_cons_zero]
      go_wp2_with fail
      go_roundg g
      case measure => omega
      case rel => exact ⟨k + 1, acc ++ [y], by omega, by simp, by rw [List.map_append, HM.out, HTK.out]; rfl, by simp [hal], by rw [mcells_append]; exact HG.out, HND.out⟩
end Go.Proofs.YtmnknmpfkjhgbaaGreatDoor
/- A SLICE OF ACTS in memory: a bool and a Member each. -/
namespace Go.Proofs.YtmnknmpfkjhgbaaGreatDoor
open Go.RowKit
abbrev Av := Bool × Mv
def acell (x : Av) : List Value := .bool x.1 :: (mcell x.2).toList
def acells (l : List Av) : List Value := l.flatMap acell
theorem acells_cons (x : Av) (l : List Av) : acells (x :: l) = acell x ++ acells l := rfl
theorem acell_len (x : Av) : (acell x).length = 10 := rfl
theorem acells_length : ∀ l : List Av, (acells l).length = l.length * 10
  | [] => rfl
  | x :: l => by rw [acells_cons, List.length_append, acells_length l, acell_len, List.length_cons]; omega
theorem acells_get : ∀ (l : List Av) (k i : Nat) (hk : k < l.length), i < 10 → (acells l)[k * 10 + i]? = (acell l[k])[i]?
  | x :: l, 0, i, _, hi => by
    rw [acells_cons, Nat.zero_mul, Nat.zero_add, List.getElem?_append_left (by rw [acell_len]; exact hi)]
    rfl
  | x :: l, k + 1, i, h, hi => by
    have := acells_get l k i (by simpa using h) hi
    rw [acells_cons, List.getElem?_append_right (by rw [acell_len]; omega), acell_len]
    have e : (k + 1) * 10 + i - 10 = k * 10 + i := by omega
    rw [e, this]; rfl
/-- v, a []Act, reads as l -/
structure ActsR (w : World) (N N' : Nat → Prop) (v : Value) (l : List Av) : Prop where
  rd : RdV w N 10 v l.length (acells l)
  nd : ∀ x ∈ l, NdR w N' x.2.1.2 x.2.2.1 x.2.2.2
theorem ActsR.below {w w' : World} {B : Nat} {N N' : Nat → Prop} {v : Value} {l : List Av} (h : ActsR w N N' v l) (hb : Below B w w') (h1 : ∀ b, N b → b < B) (h2 : ∀ b, N' b → b < B) : ActsR w' N N' v l := ⟨h.rd.below hb h1, fun x hx => (h.nd x hx).below hb h2⟩
theorem ActsR.puts {w : World} {N N' : Nat → Prop} {l : List Av} {b off n cap : Nat} (h : ActsR w N N' (.slice (some ⟨b, off, none⟩) n cap) l) {k : Nat} (hk : k < l.length) : w.cell? ⟨b, off + k * 10, none⟩ = some (.bool l[k].1) :=
  h.rd.cell b off _ _ rfl _ _ (by have := acells_get l k 0 hk (by decide); rw [Nat.add_zero] at this; rw [this]; rfl)
/-- the Member of an act is read -/
theorem ActsR.load {w : World} {N N' : Nat → Prop} {l : List Av} {b off n cap : Nat} (h : ActsR w N N' (.slice (some ⟨b, off, none⟩) n cap) l) {k : Nat} (hk : k < l.length) : (Instr.loadAt 41 (.pointer (some ⟨b, off + k * 10 + 1, none⟩))).run Tryz.prog w = .ok (.agg (mcell l[k].2)) w := by
  have := run_loadAt_mid (P := Tryz.prog) w b (off + k * 10 + 1) 41 (mcell l[k].2).toList _ (fun j z hj => by
    have hlt := (List.getElem?_eq_some_iff.1 hj).1
    rw [mcell_len] at hlt
    have hg := acells_get l k (j + 1) hk (by omega)
    have e : (acell l[k])[j + 1]? = some z := by
      show (mcell l[k].2).toList[j]? = some z
      simpa using hj
    rw [e] at hg
    have hc := h.rd.cell b off _ _ rfl _ _ hg
    rw [show off + k * 10 + 1 + j = off + (k * 10 + (j + 1)) by omega]
    exact hc) Tryz.underlying41 rfl (by rw [mcell_len]; exact aggM.i)
  simpa using this
end Go.Proofs.YtmnknmpfkjhgbaaGreatDoor
/- portolanlaw18.Grown: a tree under calls. -/
namespace Go.Proofs.YtmnknmpfkjhgbaaGreatDoor
open Go.RowKit
def stepT (L : List Mb) (a : Bool × Mb) : List Mb := if a.1 then (putT L (cutM a.2)).2 else (removeT L (cutM a.2).1).2
def grownL (l : List (Bool × Mb)) : List Mb := (l.take 40).foldl stepT []
theorem grownL_succ (l : List (Bool × Mb)) (k : Nat) (hk : k < l.length) : (l.take (k + 1)).foldl stepT [] = stepT ((l.take k).foldl stepT []) l[k] := by
  rw [List.take_succ_eq_append_getElem hk, List.foldl_append]; rfl
theorem put_len {L : List Mb} (h : SM.Srt L) (m : Mb) : (putT L m).2.length ≤ L.length + 1 := by
  unfold putT
  split
  · simp
  · split
    · simp
    · split
      · simp
      · have h2 : SM.Srt (if m.2.kind = 1 then L else clearT L m.1) := by split; exact h; exact h.filter _
        have h3 : (if m.2.kind = 1 then L else clearT L m.1).length ≤ L.length := by split; exact Nat.le_refl _; exact List.length_filter_le _ _
        have := fold_len [m] _ h2
        simp only [List.foldl_cons, List.foldl_nil, List.length_cons, List.length_nil] at this
        show (SM.put _ m).length ≤ _
        omega
theorem remove_len (L : List Mb) (p : Tx) : (removeT L p).2.length ≤ L.length := by
  unfold removeT
  split
  · simp
  · exact Nat.le_trans (List.length_filter_le _ _) (List.length_filter_le _ _)
/-- the kind is an int -/
def Kb (m : Mb) : Prop := -9223372036854775808 ≤ m.2.kind ∧ m.2.kind ≤ 9223372036854775807
theorem Kb.cut {m : Mb} (h : Kb m) : Sm (cutM m) := by
  refine ⟨?_, ?_, ?_, ?_, fun x hx => ?_, h⟩
  · exact Nat.le_trans (List.length_take_le _ _) (by omega)
  · exact Nat.le_trans (List.length_take_le _ _) (by omega)
  · exact Nat.le_trans (List.length_take_le _ _) (by omega)
  · show ((m.2.attrs.take 20).map cutA).length ≤ _
    rw [List.length_map]
    exact Nat.le_trans (List.length_take_le _ _) (by omega)
  · obtain ⟨y, hy, rfl⟩ := List.mem_map.1 (show x ∈ (m.2.attrs.take 20).map cutA from hx)
    exact ⟨Nat.le_trans (List.length_take_le _ _) (by omega), Nat.le_trans (List.length_take_le _ _) (by omega)⟩
set_option maxHeartbeats 2000000 in
set_option maxRecDepth 100000 in
theorem grown_any (B : Nat) (v : Value) (l : List Av) (w : World) (hT : Tabs B w) (hr : ActsR w (· < w.heap.size) (· < w.heap.size) v l) (hs : ∀ x ∈ l, Kb x.2.1) :
    Calls Tryz.prog 8 #[v] w fun e w' => ∃ T mb Bk f, e = .returned (.pointer (some ⟨T, 0, none⟩)) ∧ TreeIn w' T mb Bk f (grownL (l.map fun x => (x.1, x.2.1))) ∧ (w.heap.size ≤ T ∧ w.heap.size ≤ mb ∧ ∀ b, Bk b → Fresh w.heap.size w' b) ∧ Below w.heap.size w w' := by
  obtain ⟨a, cap, hv, hcap, hmx, h3⟩ := hr.rd.shape
  have HR := Keep.keep hr; have H3 := Keep.keep h3; have HT := Keep.keep hT; have HS := Keep.keep hs
  have HNEW := Keep.keep (new_tree (.slice none 0 0) [] B w hT ⟨RdV.ofNil, fun x hx => by simp at hx⟩ (fun x hx => by simp at hx) (by simp))
  unfold maxLen at hmx
  clear hr h3 hT hs
  subst hv
  go_enter Tryz.func8, Tryz.ntmps8
  go_wp2_with fail
  refine HNEW.out.mono ?_
  rintro e w1 ⟨⟨pv, rfl, hnew⟩, hb1⟩
  obtain ⟨T, mb, Bk, f, rfl, hti, hTw, hmw, hBk⟩ := hnew
  have HTI := Keep.keep hti; have HB1 := Keep.keep hb1; have HBK := Keep.keep hBk
  clear hti hb1 hBk HNEW
  go_wp2_with fail
  go_loopg [5] (min l.length 40) (fun g u5 wx => ∃ (k : Nat) (Bk : Nat → Prop) (f : Tx → Value × Value), k + g = min l.length 40 ∧ u5 = .int .i64 (k : Int) ∧ TreeIn wx T mb Bk f (((l.map fun x => (x.1, x.2.1)).take k).foldl stepT []) ∧ (((l.map fun x => (x.1, x.2.1)).take k).foldl stepT []).length ≤ k ∧ (∀ b, Bk b → Fresh w.heap.size wx b) ∧ Below w.heap.size w wx)
  case atStart => exact ⟨0, Bk, f, by omega, rfl, HTI.out, Nat.le_refl _, HBK.out, HB1.out⟩
  case round =>
    obtain ⟨k, Bk2, f2, hkg, rfl, hti, hlen, hbk, hb⟩ := hrel
    have HT2 := Keep.keep hti; have HBK2 := Keep.keep hbk; have HB2 := Keep.keep hb
    clear hti hbk hb HTI HB1 HBK
    cases gk with
    | zero =>
      have HF : Keep (((l.map fun x => (x.1, x.2.1)).take k).foldl stepT [] = grownL (l.map fun x => (x.1, x.2.1))) := ⟨by
        unfold grownL
        congr 1
        rw [List.take_eq_take_iff, List.length_map]; omega⟩
      rw [HF.out] at HT2
      by_cases hk : k < l.length
      · have hd1 : decide ((k : Int) < (l.length : Int)) = true := decide_eq_true (by omega)
        have hd2 : decide ((k : Int) < 40) = false := decide_eq_false (by omega)
        go_wp2_with fail
        go_ret
        exact ⟨T, mb, Bk2, f2, rfl, HT2.out, ⟨hTw, hmw, HBK2.out⟩, HB2.out⟩
      · have hd1 : decide ((k : Int) < (l.length : Int)) = false := decide_eq_false (by omega)
        go_wp2_with fail
        go_ret
        exact ⟨T, mb, Bk2, f2, rfl, HT2.out, ⟨hTw, hmw, HBK2.out⟩, HB2.out⟩
    | succ g =>
      have hk : k < l.length := by omega
      have hd1 : decide ((k : Int) < (l.length : Int)) = true := decide_eq_true (by omega)
      have hd2 : decide ((k : Int) < 40) = true := decide_eq_true (by omega)
      obtain ⟨b, off, rfl, hbl⟩ : ∃ b off, a = some ⟨b, off, none⟩ ∧ b < w.heap.size := by
        rcases H3.out with h | ⟨b, off, h, hb⟩
        · omega
        · exact ⟨b, off, h, hb⟩
      have HAX : Keep (∀ wx, Below w.heap.size w wx → ActsR wx (· < w.heap.size) (· < w.heap.size) (.slice (some ⟨b, off, none⟩) l.length cap) l) := ⟨fun wx h => HR.out.below h (fun b hb => hb) (fun b hb => hb)⟩
      have hax := HAX.out wr HB2.out
      have hld := hax.load hk
      have hsm := HS.out _ (List.getElem_mem hk)
      have hndx := hax.nd _ (List.getElem_mem hk)
      have HPU : Keep (∀ wx, Below w.heap.size w wx → wx.cell? ⟨b, off + k * 10, none⟩ = some (.bool l[k].1)) := ⟨fun wx h => (HAX.out wx h).puts hk⟩
      have HTK : Keep ((((l.map fun x => (x.1, x.2.1)).take (k + 1)).foldl stepT []) = stepT (((l.map fun x => (x.1, x.2.1)).take k).foldl stepT []) (l[k].1, l[k].2.1)) := ⟨by
        rw [grownL_succ _ k (by simpa using hk)]; simp⟩
      clear hax
      generalize l[k] = x at *
      obtain ⟨pu, ⟨⟨xp, ⟨kind, mode, uid, gid, time, attrs, data, link⟩⟩, av, dv⟩⟩ := x
      obtain ⟨aa, la, ca, ad, ld, cd, e1, e2⟩ := hndx.shape
      dsimp only at hndx e1 e2 hsm
      subst e1 e2
      have HX := Keep.keep hndx; have HSM := Keep.keep hsm
      unfold mcell mbC strV at hld
      dsimp only at hld
      clear hndx hsm
      have hsW := HB2.out.size
      have HMB : Keep (Mbs (wr.alloc (.cells #[.string ⟨xp.toArray⟩, .int .i64 kind, .int .u32 mode, .int .u32 uid, .int .u32 gid, .int .i64 time, .slice aa la ca, .slice ad ld cd, .string ⟨link.toArray⟩] 41)) (· < (wr.alloc (.cells #[.string ⟨xp.toArray⟩, .int .i64 kind, .int .u32 mode, .int .u32 uid, .int .u32 gid, .int .i64 time, .slice aa la ca, .slice ad ld cd, .string ⟨link.toArray⟩] 41)).heap.size) (· < (wr.alloc (.cells #[.string ⟨xp.toArray⟩, .int .i64 kind, .int .u32 mode, .int .u32 uid, .int .u32 gid, .int .i64 time, .slice aa la ca, .slice ad ld cd, .string ⟨link.toArray⟩] 41)).heap.size) (.slice (some ⟨wr.heap.size, 0, none⟩) 1 1) [((xp, ⟨kind, mode, uid, gid, time, attrs, data, link⟩), .slice aa la ca, .slice ad ld cd)]) :=
        ⟨⟨RdV.new 41 [.string ⟨xp.toArray⟩, .int .i64 kind, .int .u32 mode, .int .u32 uid, .int .u32 gid, .int .i64 time, .slice aa la ca, .slice ad ld cd, .string ⟨link.toArray⟩] 9 1 _ rfl rfl (by unfold maxLen; omega) (by simp), fun x hx => by
          obtain rfl : x = ((xp, ⟨kind, mode, uid, gid, time, attrs, data, link⟩), .slice aa la ca, .slice ad ld cd) := by simpa using hx
          exact (HX.out.below ((Below.refl _ wr).alloc (Nat.le_refl _) _) (fun b hb => by omega)).mono (fun b hb => by simp; omega)⟩⟩
      go_wp2_with ((with_reducible refine arm_loadM hld ?_ ?_); (focus rfl); simp only [Act.put, List.setIfInBounds_toArray, List.set_cons_succ, List.set_cons_zero])
      refine (few18_any _ _ _ HMB.out).mono ?_
      rintro e w2 ⟨v2, rfl, ⟨l2, e2, ho2, hn2⟩, hb2⟩
      have e3 : l2.map (·.1) = [cutM (xp, ⟨kind, mode, uid, gid, time, attrs, data, link⟩)] := e2
      obtain ⟨y, rfl, hy⟩ := one_of_map e3
      have HB3 := Keep.keep ((HB2.out.alloc hsW _).trans (hb2.mono (by simp; omega)))
      have HT3 : Keep (TreeIn w2 T mb Bk2 f2 (((l.map fun x => (x.1, x.2.1)).take k).foldl stepT [])) := ⟨HT2.out.loc (fun b hb => by
        have hlt : b < wr.heap.size := by
          rcases hb with rfl | rfl | h
          · exact HT2.out.row.lt
          · exact HT2.out.map.lt
          · exact (HBK2.out b h).2
        rw [hb2.block b (by simp; omega), Below.heap_alloc wr _ b hlt])⟩
      obtain ⟨g2, c2, rfl⟩ : ∃ g2 c2, v2 = .slice (some ⟨g2, 0, none⟩) 1 c2 := by
        rcases ho2.2 with ⟨_, h⟩ | ⟨g, cap, cur, h, _⟩
        · simp at h
        · exact ⟨g, cap, h⟩
      have hny := hn2 y (by simp)
      have hm2 : Mbs w2 _ _ (.slice (some ⟨g2, 0, none⟩) 1 c2) [y] := ⟨ownsV_reads ho2, hn2⟩
      have hld2 := hm2.load (k := 0) (by simp)
      rw [show 0 + 0 * 9 = 0 from rfl] at hld2
      obtain ⟨⟨yp, ⟨k2, m2, u2, gi2, t2, at2, da2, li2⟩⟩, av2, dv2⟩ := y
      obtain ⟨a8, l8, c8, a9, l9, c9, e8, e9⟩ := hny.shape
      dsimp only at hny e8 e9 hy
      subst e8 e9
      have HY := Keep.keep hy; have HNY := Keep.keep hny
      simp only [List.getElem_cons_zero] at hld2
      unfold mcell mbC strV at hld2
      dsimp only at hld2
      have hle2 : w.heap.size ≤ wr.heap.size := hsW
      have hs2 : wr.heap.size + 1 ≤ w2.heap.size := by have := hb2.size; simpa using this
      have hmb : mb < wr.heap.size := HT2.out.map.lt
      have hsr := HT2.out.srt
      clear ho2 hn2 hb2 e2 e3 hy hny hm2 hld HMB HB2 HT2
      go_upto_region 8 with ((with_reducible refine arm_loadM hld2 ?_ ?_); (focus rfl); simp only [Act.put, List.setIfInBounds_toArray, List.set_cons_succ, List.set_cons_zero])
      refine wp_world (R := fun w3 => (Row w3 w2.heap.size 41 #[.string ⟨yp.toArray⟩, .int .i64 k2, .int .u32 m2, .int .u32 u2, .int .u32 gi2, .int .i64 t2, .slice a8 l8 c8, .slice a9 l9 c9, .string ⟨li2.toArray⟩] ∧ TreeIn w3 T mb Bk2 f2 (((l.map fun x => (x.1, x.2.1)).take k).foldl stepT [])) ∧ Below w.heap.size w w3 ∧ w2.heap.size < w3.heap.size ∧ NdR w3 (fun b => wr.heap.size < b ∧ b < w2.heap.size) ⟨k2, m2, u2, gi2, t2, at2, da2, li2⟩ (.slice a8 l8 c8) (.slice a9 l9 c9)) ⟨⟨Row.new _ _ _, ?_⟩, HB3.out.alloc (by omega) _, by simp, ?_⟩ ?_
      · exact HT3.out.loc (fun b hb => Below.heap_alloc w2 _ b (by
          rcases hb with rfl | rfl | h
          · exact HT3.out.row.lt
          · exact HT3.out.map.lt
          · have := (HBK2.out b h).2; omega))
      · exact (HNY.out.below ((Below.refl _ w2).alloc (Nat.le_refl _) _) (fun b hb => hb.1.2)).mono (fun b hb => ⟨by have := hb.1.1; simp at this; omega, hb.1.2⟩)
      intro w3 HW
      have HRW := Keep.keep HW.out.1.1
      have HSZ : Keep ((#[.string ⟨yp.toArray⟩, .int .i64 k2, .int .u32 m2, .int .u32 u2, .int .u32 gi2, .int .i64 t2, .slice a8 l8 c8, .slice a9 l9 c9, .string ⟨li2.toArray⟩] : Array Value).size = 9) := ⟨rfl⟩
      have cpu := HPU.out w3 HW.out.2.1
      have cy := HW.out.1.1.cell (i := 0) rfl
      clear hld2 HT3 HB3 HNY
      cases pu with
      | true =>
        go_wp2_with ((with_reducible refine arm_loadRow HRW.out aggM HSZ.out ?_ ?_); (focus rfl); simp only [Act.put, List.setIfInBounds_toArray, List.set_cons_succ, List.set_cons_zero])
        have h3s := HW.out.2.2.1
        refine (put_tree T mb Bk2 f2 _ B w3 HW.out.1.2 (fun b hb => by have := (HBK2.out b hb).2; omega) (by omega) (HT.out.on (HW.out.2.1.mono HT.out.b)) (yp, ⟨k2, m2, u2, gi2, t2, at2, da2, li2⟩) _ _ (by rw [HY.out]; exact HSM.out.cut) (HW.out.2.2.2.mono (fun b hb => ⟨by omega, by omega⟩))).mono ?_
        rintro e w4 ⟨rfl, ⟨Bk3, f3, hti3, hbk3⟩, hch⟩
        have hpl := put_len hsr (yp, ⟨k2, m2, u2, gi2, t2, at2, da2, li2⟩)
        rw [HY.out] at hti3 hpl
        have HT4 := Keep.keep hti3; have HBK4 := Keep.keep hbk3; have HPL := Keep.keep hpl
        have HB4 := Keep.keep (HW.out.2.1.trans ((hch.lower (by omega)).below (fun j hj e => by omega)))
        have hs4 := hch.size
        clear hti3 hbk3 hch hpl cpu cy
        go_wp2_with fail
        go_roundg g
        case measure => omega
        case rel =>
          refine ⟨k + 1, Bk3, f3, by omega, by simp, by rw [HTK.out]; exact HT4.out, by rw [HTK.out]; exact Nat.le_trans HPL.out (by omega), fun b hb => ?_, HB4.out⟩
          rcases HBK4.out b hb with h | h
          · exact ⟨(HBK2.out b h).1, by have := (HBK2.out b h).2; omega⟩
          · exact ⟨by have := h.1; omega, h.2⟩
      | false =>
        go_wp2_with fail
        have h3s := HW.out.2.2.1
        have hyl : yp.length ≤ 1000000 := by
          have h1 := HSM.out.cut.p
          rw [← HY.out] at h1
          exact Nat.le_trans h1 (by omega)
        refine (remove_tree T mb Bk2 f2 _ w3 HW.out.1.2 (fun b hb => by have := (HBK2.out b hb).2; omega) yp hyl).mono ?_
        rintro e w4 ⟨rfl, hti3, hch⟩
        have hpl := remove_len (((l.map fun x => (x.1, x.2.1)).take k).foldl stepT []) yp
        have hyp : yp = (cutM (xp, ⟨kind, mode, uid, gid, time, attrs, data, link⟩)).1 := by rw [← HY.out]
        rw [hyp] at hti3 hpl
        have HT4 := Keep.keep hti3; have HPL := Keep.keep hpl
        have HB4 := Keep.keep (HW.out.2.1.trans ((hch.lower (by omega)).below (fun j hj e => by omega)))
        have hs4 := hch.size
        clear hti3 hch hpl cpu cy hyp
        go_wp2_with fail
        go_roundg g
        case measure => omega
        case rel => exact ⟨k + 1, Bk2, f2, by omega, by simp, by rw [HTK.out]; exact HT4.out, by rw [HTK.out]; exact Nat.le_trans HPL.out (by omega), fun b hb => ⟨(HBK2.out b hb).1, by have := (HBK2.out b hb).2; omega⟩, HB4.out⟩
end Go.Proofs.YtmnknmpfkjhgbaaGreatDoor
/- tree.All. -/
namespace Go.Proofs.YtmnknmpfkjhgbaaGreatDoor
open Go.RowKit
theorem underL_all (L : List Mb) : underL [] L = L := by
  unfold underL
  refine List.filter_eq_self.2 (fun x _ => ?_)
  unfold hitU underP
  cases x.1 <;> simp
set_option maxHeartbeats 1000000 in
set_option maxRecDepth 100000 in
/-- tree.All, and the row is the call's own -/
theorem all_own (T mb : Nat) (Bk : Nat → Prop) (f : Tx → Value × Value) (L : List Mb) (w : World) (hL : L.length ≤ 100000) (hT : TreeIn w T mb Bk f L) (hlt : T < w.heap.size ∧ mb < w.heap.size ∧ ∀ b, Bk b → b < w.heap.size) :
    Calls Tryz.prog 26 #[.pointer (some ⟨T, 0, none⟩)] w fun e w' => ∃ v l, e = .returned v ∧ l.map (·.1) = L ∧ OwnMbs w.heap.size w' v l ∧ Below w.heap.size w w' := by
  have HU := Keep.keep (under_own T mb Bk f L [] w hL (by simp) hT hlt)
  rw [underL_all] at HU
  clear hT hlt
  go_enter Tryz.func26, Tryz.ntmps26
  go_wp2_with fail
  refine HU.out.mono ?_
  rintro e w1 ⟨v, l, rfl, hl, hm, hb⟩
  have HL := Keep.keep hl; have HM := Keep.keep hm; have HB := Keep.keep hb
  obtain ⟨a, cap, hv, -⟩ := hm.mbs.rd.shape
  clear hl hm hb
  subst hv
  go_wp2_with fail
  go_ret
  exact ⟨_, l, rfl, HL.out, HM.out, HB.out⟩
end Go.Proofs.YtmnknmpfkjhgbaaGreatDoor
/- slices.Sort of a row of texts of one's own. -/
namespace Go.Proofs.YtmnknmpfkjhgbaaGreatDoor
open Go.RowKit Go.Shelf
theorem sort_own (base : Nat) (v : Value) (ss : List Tx) (w : World) (hl : ss.length ≤ 1000000) (h : w.ownsRow base 9 1 v ss.length (ss.map encStr)) :
    Calls Tryz.prog 133 #[v] w fun e w' => e = .returned (.tuple #[]) ∧ w'.ownsRow base 9 1 v ss.length ((ss.mergeSort fun x y => decide (x ≤ y)).map encStr) ∧ w.grownBy w' v.ownBlock := by
  have h0 := h
  rcases h.2 with ⟨rfl, hz⟩ | ⟨g, cap, cur, rfl, hb, hh, hn, hm, hs, ht⟩
  · have : ss = [] := List.eq_nil_of_length_eq_zero hz
    subst this
    refine (Tryz.slices_Sort_string_none none 0 w).mono ?_
    rintro e w' ⟨rfl, rfl⟩
    exact ⟨rfl, by rw [List.mergeSort_nil]; exact h0, ⟨rfl, rfl, rfl, Nat.le_refl _, fun _ _ _ => rfl⟩⟩
  · have hlt : g < w.heap.size := (Array.getElem?_eq_some_iff.1 hh).1
    rw [Nat.mul_one] at ht
    refine (Tryz.slices_Sort_string g 0 cap ss w (holds_of_block hh ht) hlt (by omega)).mono ?_
    rintro e w' ⟨rfl, n, os, rfl⟩
    refine ⟨rfl, ?_, grownBy_sorted _⟩
    exact ownsRow_sorted (by simp) hb hh hn hm hs
end Go.Proofs.YtmnknmpfkjhgbaaGreatDoor
/- tree.List. -/
namespace Go.Proofs.YtmnknmpfkjhgbaaGreatDoor
open Go.RowKit Go.Shelf
end Go.Proofs.YtmnknmpfkjhgbaaGreatDoor
/- PATHS: plain facts on parents, bases and what is above. -/
namespace Go.Proofs.YtmnknmpfkjhgbaaGreatDoor
theorem cutAt_noSl : ∀ {a : List UInt8}, (∀ x ∈ a, x ≠ 47) → cutAt a = 0
  | [], _ => rfl
  | c :: a, h => by
    rw [cutAt, cutAt_noSl (fun x hx => h x (by simp [hx])), if_neg (by omega), if_neg (h c (by simp))]
theorem cutAt_app : ∀ (a b : List UInt8), (∀ x ∈ b, x ≠ 47) → cutAt (a ++ 47 :: b) = a.length + 1
  | [], b, h => by rw [List.nil_append, cutAt, cutAt_noSl h, if_neg (by omega), if_pos rfl]; rfl
  | c :: a, b, h => by
    rw [List.cons_append, cutAt, cutAt_app a b h, if_pos (by omega)]; rfl
theorem joinP_two (a b : List UInt8) : joinP [a, b] = if a = [] then b else if b = [] then a else a ++ 47 :: b := by
  cases a with
  | nil => cases b <;> rfl
  | cons c a => cases b <;> rfl
/-- a beginning is less -/
theorem bytesLess_pre : ∀ (a b : List UInt8), b ≠ [] → Op.bytesLess a (a ++ b) = true
  | [], b, h => by cases b with | nil => exact absurd rfl h | cons c b => rfl
  | c :: a, b, h => by
    have ih := bytesLess_pre a b h
    simp [Op.bytesLess, ih]
/-- names that a tree may have, none of them empty, no slash -/
theorem mayN_ne {s : List UInt8} (h : mayN s = true) : s ≠ [] ∧ ∀ c ∈ s, c ≠ 47 := by
  unfold mayN at h
  simp only [Bool.and_eq_true, Bool.not_eq_true', List.any_eq_false, Bool.or_eq_true, beq_iff_eq, not_or] at h
  refine ⟨fun e => ?_, fun c hc => (h.1.2 c hc).1⟩
  rw [e] at h
  simp at h
theorem filter_ne {l : List (List UInt8)} (h : l.all mayN = true) : l.filter (fun x => !x.isEmpty) = l := by
  rw [List.filter_eq_self]
  intro x hx
  have := (mayN_ne (List.all_eq_true.1 h x hx)).1
  cases x with
  | nil => exact absurd rfl this
  | cons c x => rfl
theorem joinP_may {l : List (List UInt8)} (h : l.all mayN = true) : joinP l = joinS l := by unfold joinP; rw [filter_ne h]
theorem under_self (p : List UInt8) : underP p p = false := by
  unfold underP
  have : (p ++ [47]).isPrefixOf p = false := by
    cases h : (p ++ [47]).isPrefixOf p with
    | false => rfl
    | true =>
      have := (List.isPrefixOf_iff_prefix.1 h).length_le
      rw [List.length_append, List.length_singleton] at this
      omega
  rw [this]
  cases p.isEmpty <;> rfl
theorem under_nil (p : List UInt8) : underP [] p = !p.isEmpty := by unfold underP; simp
end Go.Proofs.YtmnknmpfkjhgbaaGreatDoor
/- path.Whiteout, Opaque; portolanlaw11.wakes. -/
namespace Go.Proofs.YtmnknmpfkjhgbaaGreatDoor
open Go.RowKit
def whiteoutP (p : List UInt8) : List UInt8 := if p.isEmpty || !mayP p then [] else joinP [parentP p, whiteB ++ baseP p]
def opaqueP (d : List UInt8) : List UInt8 := if !mayP d then [] else joinP [d, markB]
theorem joinP_two_len (a b : List UInt8) : (joinP [a, b]).length ≤ a.length + b.length + 1 := by
  have h1 := joinS_filter_len (fun x => !x.isEmpty) [a, b] (by simp)
  have h2 : (joinS [a, b]).length = a.length + b.length + 1 := by simp [joinS]; omega
  unfold joinP
  omega
theorem rdS_two (w : World) (a b : List UInt8) : RdS (w.alloc (.cells #[strV a, strV b] 9)) (· < (w.alloc (.cells #[strV a, strV b] 9)).heap.size) (.slice (some ⟨w.heap.size, 0, none⟩) 2 2) [a, b] :=
  RdV.new 9 [strV a, strV b] 1 2 _ rfl rfl (by unfold maxLen; omega) (by simp)
set_option maxHeartbeats 4000000 in
set_option maxRecDepth 100000 in
theorem white_any (p : List UInt8) (hp : p.length ≤ 1000000) (B : Nat) (w : World) (hB : B ≤ w.heap.size) (hM : Mx B w) :
    Calls Tryz.prog 54 #[.string ⟨p.toArray⟩] w fun e w' => e = .returned (.string ⟨(whiteoutP p).toArray⟩) ∧ Below w.heap.size w w' := by
  have HMY := Keep.keep (may_any p hp B w hB hM)
  have HPA := Keep.keep (fun w => parent_any p hp w)
  have HBA := Keep.keep (fun w => base_any p hp w)
  have hbn := bne_nil p
  have hpl : (parentP p).length ≤ p.length := by unfold parentP; simp; omega
  have hbl : (baseP p).length ≤ p.length := by unfold baseP; simp
  have hcat := run_cat (P := Tryz.prog) [46, 119, 104, 46] (baseP p) (by simp; omega)
  rw [show [46, 119, 104, 46] ++ baseP p = whiteB ++ baseP p from rfl] at hcat
  have hwl : (whiteB ++ baseP p).length ≤ p.length + 4 := by simp [whiteB]; omega
  have hjl := joinP_two_len (parentP p) (whiteB ++ baseP p)
  have HE : Keep (whiteoutP p = if p.isEmpty || !mayP p then [] else joinP [parentP p, whiteB ++ baseP p]) := ⟨rfl⟩
  generalize whiteoutP p = out at *
  generalize p.isEmpty = b1 at *
  generalize mayP p = b2 at *
  generalize parentP p = pa at *
  generalize hwb : whiteB ++ baseP p = wb at *
  generalize baseP p = ba at *
  have HJ := Keep.keep (fun v w (h : RdS w (· < w.heap.size) v [pa, wb]) => join_any v [pa, wb] w h (by simp) (by omega))
  clear hM hwb hpl hbl hwl hjl
  cases b1 with
  | true =>
    have HX : Keep (out = []) := ⟨by rw [HE.out]; rfl⟩
    go_enter Tryz.func54, Tryz.ntmps54
    go_wp2_with fail
    go_ret
    exact ⟨by rw [HX.out]; rfl, Below.refl _ _⟩
  | false =>
  cases b2 with
  | false =>
    have HX : Keep (out = []) := ⟨by rw [HE.out]; rfl⟩
    go_enter Tryz.func54, Tryz.ntmps54
    go_wp2_with fail
    refine HMY.out.mono ?_
    rintro e w1 ⟨rfl, hb1⟩
    go_wp2_with fail
    go_ret
    exact ⟨by rw [HX.out]; rfl, hb1⟩
  | true =>
    have HX : Keep (out = joinP [pa, wb]) := ⟨by rw [HE.out]; rfl⟩
    go_enter Tryz.func54, Tryz.ntmps54
    go_wp2_with fail
    refine HMY.out.mono ?_
    rintro e w1 ⟨rfl, hb1⟩
    have HB1 := Keep.keep hb1
    clear hb1
    go_wp2_with fail
    refine (HPA.out _).mono ?_
    rintro e w1' ⟨rfl, rfl⟩
    go_wp2_with fail
    refine (HBA.out _).mono ?_
    rintro e w1' ⟨rfl, rfl⟩
    go_wp2_with fail
    refine calls_at (R := fun wq => Below w1.heap.size w1 wq ∧ RdS wq (· < wq.heap.size) (.slice (some ⟨w1.heap.size, 0, none⟩) 2 2) [pa, wb]) ⟨(Below.refl _ _).alloc (Nat.le_refl _) _, rdS_two w1 pa wb⟩ ?_
    intro w2 H2
    refine (HJ.out _ w2 H2.out.2).mono ?_
    rintro e w3 ⟨rfl, hb3⟩
    have HB3 := Keep.keep (HB1.out.trans ((H2.out.1.trans (hb3.mono H2.out.1.size)).mono HB1.out.size))
    clear hb3
    go_wp2_with fail
    go_ret
    exact ⟨by rw [HX.out]; rfl, HB3.out⟩
set_option maxHeartbeats 4000000 in
set_option maxRecDepth 100000 in
theorem opaq_any (p : List UInt8) (hp : p.length ≤ 1000000) (B : Nat) (w : World) (hB : B ≤ w.heap.size) (hM : Mx B w) :
    Calls Tryz.prog 53 #[.string ⟨p.toArray⟩] w fun e w' => e = .returned (.string ⟨(opaqueP p).toArray⟩) ∧ Below w.heap.size w w' := by
  have HMY := Keep.keep (may_any p hp B w hB hM)
  have hjl := joinP_two_len p markB
  have HE : Keep (opaqueP p = if !mayP p then [] else joinP [p, markB]) := ⟨rfl⟩
  have hml : markB.length = 12 := rfl
  generalize opaqueP p = out at *
  generalize mayP p = b2 at *
  have HJ := Keep.keep (fun v w (h : RdS w (· < w.heap.size) v [p, markB]) => join_any v [p, markB] w h (by simp) (by omega))
  clear hM hjl hml
  cases b2 with
  | false =>
    have HX : Keep (out = []) := ⟨by rw [HE.out]; rfl⟩
    go_enter Tryz.func53, Tryz.ntmps53
    go_wp2_with fail
    refine HMY.out.mono ?_
    rintro e w1 ⟨rfl, hb1⟩
    go_wp2_with fail
    go_ret
    exact ⟨by rw [HX.out]; rfl, hb1⟩
  | true =>
    have HX : Keep (out = joinP [p, markB]) := ⟨by rw [HE.out]; rfl⟩
    go_enter Tryz.func53, Tryz.ntmps53
    go_wp2_with fail
    refine HMY.out.mono ?_
    rintro e w1 ⟨rfl, hb1⟩
    have HB1 := Keep.keep hb1
    clear hb1
    go_wp2_with fail
    refine calls_at (R := fun wq => Below w1.heap.size w1 wq ∧ RdS wq (· < wq.heap.size) (.slice (some ⟨w1.heap.size, 0, none⟩) 2 2) [p, markB]) ⟨(Below.refl _ _).alloc (Nat.le_refl _) _, rdS_two w1 p markB⟩ ?_
    intro w2 H2
    refine (HJ.out _ w2 H2.out.2).mono ?_
    rintro e w3 ⟨rfl, hb3⟩
    have HB3 := Keep.keep (HB1.out.trans ((H2.out.1.trans (hb3.mono H2.out.1.size)).mono HB1.out.size))
    clear hb3
    go_wp2_with fail
    go_ret
    exact ⟨by rw [HX.out]; rfl, HB3.out⟩
end Go.Proofs.YtmnknmpfkjhgbaaGreatDoor
/- PATHS: plain facts on classes, whiteouts and marks. -/
namespace Go.Proofs.YtmnknmpfkjhgbaaGreatDoor
theorem cut_cases : ∀ p : List UInt8, (cutAt p = 0 ∧ ∀ x ∈ p, x ≠ 47) ∨ ∃ d b, p = d ++ 47 :: b ∧ (∀ x ∈ b, x ≠ 47) ∧ cutAt p = d.length + 1
  | [] => .inl ⟨rfl, fun x h => by cases h⟩
  | c :: l => by
    rcases cut_cases l with ⟨h1, h2⟩ | ⟨d, b, h1, h2, h3⟩
    · by_cases hc : c = 47
      · refine .inr ⟨[], l, by rw [hc]; rfl, h2, ?_⟩
        rw [cutAt, h1, if_neg (by omega), if_pos hc]; rfl
      · refine .inl ⟨?_, fun x hx => ?_⟩
        · rw [cutAt, h1, if_neg (by omega), if_neg hc]
        · rcases List.mem_cons.1 hx with rfl | hx
          · exact hc
          · exact h2 x hx
    · refine .inr ⟨c :: d, b, by rw [h1]; rfl, h2, ?_⟩
      rw [cutAt, h3, if_pos (by omega)]; rfl
/-- a path's dir and base -/
theorem path_cases (p : List UInt8) : (dirP p = [] ∧ baseP p = p ∧ parentP p = [] ∧ ∀ x ∈ p, x ≠ 47) ∨ ∃ d b, p = d ++ 47 :: b ∧ (∀ x ∈ b, x ≠ 47) ∧ dirP p = d ++ [47] ∧ baseP p = b ∧ parentP p = d := by
  rcases cut_cases p with ⟨h1, h2⟩ | ⟨d, b, h1, h2, h3⟩
  · exact .inl ⟨by unfold dirP; rw [h1]; rfl, by unfold baseP; rw [h1]; rfl, by unfold parentP; rw [h1]; rfl, h2⟩
  · have e1 : p = (d ++ [47]) ++ b := by rw [h1]; simp
    have e2 : d.length + 1 = (d ++ [(47 : UInt8)]).length := by simp
    refine .inr ⟨d, b, h1, h2, ?_, ?_, ?_⟩
    · unfold dirP; rw [h3, e1, e2, List.take_left]
    · unfold baseP; rw [h3, e1, e2, List.drop_left]
    · unfold parentP; rw [h3, h1, Nat.add_sub_cancel, List.take_left]
theorem dir_of {d b : List UInt8} (hb : ∀ x ∈ b, x ≠ 47) : dirP (d ++ 47 :: b) = d ++ [47] ∧ baseP (d ++ 47 :: b) = b ∧ parentP (d ++ 47 :: b) = d := by
  have h3 := cutAt_app d b hb
  have e1 : d ++ 47 :: b = (d ++ [47]) ++ b := by simp
  have e2 : d.length + 1 = (d ++ [(47 : UInt8)]).length := by simp
  refine ⟨?_, ?_, ?_⟩
  · unfold dirP; rw [h3, e1, e2, List.take_left]
  · unfold baseP; rw [h3, e1, e2, List.drop_left]
  · unfold parentP; rw [h3, Nat.add_sub_cancel, List.take_left]
theorem dir_none {b : List UInt8} (hb : ∀ x ∈ b, x ≠ 47) : dirP b = [] ∧ baseP b = b ∧ parentP b = [] := by
  have h := cutAt_noSl hb
  exact ⟨by unfold dirP; rw [h]; rfl, by unfold baseP; rw [h]; rfl, by unfold parentP; rw [h]; rfl⟩
theorem spl_app : ∀ (d b : List UInt8), (∀ x ∈ b, x ≠ 47) → spl (d ++ 47 :: b) = spl d ++ [b]
  | [], b, h => by
    have e : spl (47 :: b) = [] :: spl b := by rw [spl, if_pos rfl]
    rw [List.nil_append, e, spl_none h]; rfl
  | c :: d, b, h => by
    have ih := spl_app d b h
    have hne := spl_ne d
    have e1 : spl (c :: (d ++ 47 :: b)) = if c = 47 then [] :: spl (d ++ 47 :: b) else match spl (d ++ 47 :: b) with | [] => [[c]] | h :: t => (c :: h) :: t := rfl
    have e2 : spl (c :: d) = if c = 47 then [] :: spl d else match spl d with | [] => [[c]] | h :: t => (c :: h) :: t := rfl
    rw [List.cons_append, e1, ih, e2]
    by_cases hc : c = 47
    · rw [if_pos hc, if_pos hc]; rfl
    · rw [if_neg hc, if_neg hc]
      cases hs : spl d with
      | nil => exact absurd hs hne
      | cons x t => rfl
theorem may_parts {p : List UInt8} (h : mayP p = true) : p.length ≤ 4080 ∧ (splitP p).length < 255 ∧ (splitP p).all mayN = true := by
  unfold mayP at h
  simp only [Bool.and_eq_true, decide_eq_true_eq] at h
  exact ⟨h.1.1, h.1.2, h.2⟩
theorem splitP_app {d b : List UInt8} (hb : ∀ x ∈ b, x ≠ 47) : splitP (d ++ 47 :: b) = spl d ++ [b] := by
  unfold splitP
  rw [if_neg (by simp), spl_app d b hb]
theorem splitP_one {b : List UInt8} (hb : ∀ x ∈ b, x ≠ 47) (h0 : b ≠ []) : splitP b = [b] := by
  unfold splitP
  rw [if_neg h0, spl_none hb]
theorem mayN_nil : mayN [] = false := rfl
/-- the last name of a tree's path is a tree's; what stands ahead of the slash is not nothing -/
theorem may_base {p : List UInt8} (h : mayP p = true) (h0 : p ≠ []) : mayN (baseP p) = true := by
  obtain ⟨-, -, h3⟩ := may_parts h
  rcases path_cases p with ⟨-, hb, -, hn⟩ | ⟨d, b, rfl, hn, -, hb, -⟩
  · rw [hb]; rw [splitP_one hn h0] at h3; simpa using h3
  · rw [hb]; rw [splitP_app hn, List.all_append] at h3; simp only [Bool.and_eq_true] at h3; simpa using h3.2
theorem may_dir {d b : List UInt8} (hb : ∀ x ∈ b, x ≠ 47) (h : mayP (d ++ 47 :: b) = true) : d ≠ [] := by
  obtain ⟨-, -, h3⟩ := may_parts h
  rw [splitP_app hb, List.all_append] at h3
  simp only [Bool.and_eq_true] at h3
  rintro rfl
  have h4 := h3.1
  simp [spl, mayN_nil] at h4
theorem mayN_white {b : List UInt8} (h : mayN b = true) : whiteB.isPrefixOf b = false := by
  unfold mayN at h
  simp only [Bool.and_eq_true, Bool.not_eq_true'] at h
  exact h.2
theorem white_not_may (b : List UInt8) : mayN (whiteB ++ b) = false := by
  cases h : mayN (whiteB ++ b) with
  | false => rfl
  | true =>
    have h1 := mayN_white h
    have h2 : whiteB.isPrefixOf (whiteB ++ b) = true := by rw [List.isPrefixOf_iff_prefix]; exact List.prefix_append _ _
    rw [h2] at h1; cases h1
theorem markB_eq : markB = whiteB ++ [46, 119, 104, 46, 46, 111, 112, 113] := rfl
theorem tableB_eq : tableB = whiteB ++ [46, 119, 104, 46, 116, 111, 99] := rfl
theorem lastC_may {b : List UInt8} (h : mayN b = true) : lastC b = 1 := by
  have h1 := mayN_white h
  unfold lastC
  rw [h1]
  have : (b == markB) = false := by
    rw [beq_eq_false_iff_ne]; rintro rfl
    rw [markB_eq, white_not_may] at h; cases h
  rw [this]; rfl
theorem lastC_white {b : List UInt8} (h : mayN b = true) : lastC (whiteB ++ b) = 2 := by
  unfold lastC
  have h1 : (whiteB ++ b == markB) = false := by
    rw [beq_eq_false_iff_ne, markB_eq]
    intro e
    have := List.append_cancel_left e
    rw [this] at h
    have h5 : mayN [46, 119, 104, 46, 46, 111, 112, 113] = false := by decide
    rw [h5] at h; cases h
  have h2 : whiteB.isPrefixOf (whiteB ++ b) = true := by rw [List.isPrefixOf_iff_prefix]; exact List.prefix_append _ _
  rw [h1, h2]; rfl
theorem lastC_mark : lastC markB = 3 := by decide
theorem tab_noSl : ∀ x ∈ tableB, x ≠ 47 := by decide
theorem mark_noSl : ∀ x ∈ markB, x ≠ 47 := by decide
theorem white_noSl {b : List UInt8} (h : ∀ x ∈ b, x ≠ 47) : ∀ x ∈ whiteB ++ b, x ≠ 47 := by
  intro x hx
  rcases List.mem_append.1 hx with hx | hx
  · exact (by decide : ∀ x ∈ whiteB, x ≠ 47) x hx
  · exact h x hx
theorem ne_table {d b : List UInt8} : (d ++ 47 :: b == tableB) = false := by
  rw [beq_eq_false_iff_ne]
  intro e
  exact tab_noSl 47 (by rw [← e]; simp) rfl
theorem trimSl_app (d : List UInt8) : trimSl (d ++ [47]) = d := by
  unfold trimSl
  have : ([47] : List UInt8).isSuffixOf (d ++ [47]) = true := by rw [List.isSuffixOf_iff_suffix]; exact List.suffix_append _ _
  rw [if_pos this]; simp
theorem ne_slash {d : List UInt8} (h : d ≠ []) : (d ++ [47] == [(47 : UInt8)]) = false := by
  rw [beq_eq_false_iff_ne]
  intro e
  have := congrArg List.length e
  simp at this
  exact h this
/-- a tree's path is Plain, and its own target -/
theorem class_may {p : List UInt8} (h : mayP p = true) (h0 : p ≠ []) : classP p = (1, p) := by
  have hb := may_base h h0
  have hl := lastC_may hb
  have ht : (p == tableB) = false := by
    rw [beq_eq_false_iff_ne]; rintro rfl
    rw [(dir_none tab_noSl).2.1, tableB_eq, white_not_may] at hb; cases hb
  have hg : tgtC 1 (dirP p) (baseP p) = p := dir_base p
  have he : p.isEmpty = false := by cases p with | nil => exact absurd rfl h0 | cons c p => rfl
  have hd : (dirP p == [(47 : UInt8)]) = false := by
    rcases path_cases p with ⟨hd, -⟩ | ⟨d, b, rfl, hn, hd, -⟩
    · rw [hd]; rfl
    · rw [hd]; exact ne_slash (may_dir hn h)
  unfold classP
  rw [ht, hl, hg, h, he, hd]; rfl
/-- the mark in a dir: its class, its target -/
theorem class_opaque {p : List UInt8} (h : mayP p = true) : classP (opaqueP p) = (3, p) := by
  have ho : opaqueP p = joinP [p, markB] := by unfold opaqueP; rw [h]; rfl
  rw [ho, joinP_two]
  by_cases hp : p = []
  · subst hp
    rw [if_pos rfl]; decide
  · rw [if_neg hp, if_neg (by decide)]
    obtain ⟨h1, h2, -⟩ := dir_of (d := p) mark_noSl
    have hg : tgtC 3 (p ++ [47]) markB = p := trimSl_app p
    unfold classP
    rw [ne_table, h1, h2, lastC_mark, hg, h, ne_slash hp]; rfl
/-- the whiteout of a path: its class, its target, its dir -/
theorem class_whiteout {p : List UInt8} (h : mayP p = true) (h0 : p ≠ []) : classP (whiteoutP p) = (2, p) ∧ parentP (whiteoutP p) = parentP p := by
  have hb := may_base h h0
  have hbn := mayN_ne hb
  have he : p.isEmpty = false := by cases p with | nil => exact absurd rfl h0 | cons c p => rfl
  have hw : whiteoutP p = joinP [parentP p, whiteB ++ baseP p] := by unfold whiteoutP; rw [h, he]; rfl
  have hdr : (whiteB ++ baseP p).drop 4 = baseP p := List.drop_left (l₁ := whiteB)
  rw [hw, joinP_two]
  rcases path_cases p with ⟨hd, hbe, hpa, hn⟩ | ⟨d, b, rfl, hn, hd, hbe, hpa⟩
  · rw [hpa, if_pos rfl]
    obtain ⟨g1, g2, g3⟩ := dir_none (white_noSl hbn.2)
    refine ⟨?_, g3⟩
    have ht : (whiteB ++ baseP p == tableB) = false := by
      rw [beq_eq_false_iff_ne, tableB_eq]
      intro e
      rw [List.append_cancel_left e] at hb
      have h5 : mayN [46, 119, 104, 46, 116, 111, 99] = false := by decide
      rw [h5] at hb; cases hb
    have hg : tgtC 2 [] (whiteB ++ baseP p) = p := by
      show [] ++ (whiteB ++ baseP p).drop 4 = p
      rw [hdr, List.nil_append, hbe]
    unfold classP
    rw [ht, g1, g2, lastC_white hb, hg, hdr, hb, h, he]; rfl
  · have hdn := may_dir hn h
    rw [hpa, hbe, if_neg hdn, if_neg (by simp [whiteB])]
    rw [hbe] at hb hbn hdr
    obtain ⟨g1, g2, g3⟩ := dir_of (d := d) (white_noSl hbn.2)
    refine ⟨?_, g3⟩
    have hg : tgtC 2 (d ++ [47]) (whiteB ++ b) = d ++ 47 :: b := by
      show (d ++ [47]) ++ (whiteB ++ b).drop 4 = _
      rw [hdr]; simp
    unfold classP
    rw [ne_table, g1, g2, lastC_white hb, hg, hdr, hb, h, he, ne_slash hdn]; rfl
theorem whiteoutP_len (p : List UInt8) : (whiteoutP p).length ≤ 2 * p.length + 5 := by
  have h0 := joinP_two_len (parentP p) (whiteB ++ baseP p)
  have h1 : (parentP p).length ≤ p.length := by unfold parentP; rw [List.length_take]; omega
  have h2 : (baseP p).length ≤ p.length := by unfold baseP; rw [List.length_drop]; omega
  have h3 : (whiteB ++ baseP p).length = 4 + (baseP p).length := by rw [List.length_append]; rfl
  unfold whiteoutP
  split
  · simp
  · omega
theorem opaqueP_len (p : List UInt8) : (opaqueP p).length ≤ p.length + 13 := by
  have h0 := joinP_two_len p markB
  have h1 : markB.length = 12 := rfl
  unfold opaqueP
  split
  · simp
  · omega
/-- what a class tells -/
inductive Told (p : List UInt8) : Prop
  | none (h : classP p = (0, [])) (hn : ¬ (mayP p = true ∧ p ≠ []))
  | plain (h : classP p = (1, p)) (hm : mayP p = true) (h0 : p ≠ [])
  | gone (t : List UInt8) (h : classP p = (2, t)) (hw : whiteoutP t = p) (hm : mayP p = false) (hl : t.length ≤ p.length)
  | mark (t : List UInt8) (h : classP p = (3, t)) (ho : opaqueP t = p) (hm : mayP p = false) (hl : t.length ≤ p.length)
  | table (h : classP p = (4, [])) (ht : p = tableB) (hm : mayP p = false)
theorem told (p : List UInt8) : Told p := by
  by_cases hm : mayP p = true ∧ p ≠ []
  · exact .plain (class_may hm.1 hm.2) hm.1 hm.2
  cases ht : p == tableB with
  | true =>
    have ht' := beq_iff_eq.1 ht
    refine .table (by unfold classP; rw [ht]; rfl) ht' ?_
    rw [ht']; decide
  | false =>
    have hfalse : ∀ c, mayN (baseP p) = false → c = true → p ≠ [] → mayP p = false := fun _ hb _ h0 => by
      cases hmp : mayP p with
      | false => rfl
      | true => rw [may_base hmp h0] at hb; cases hb
    cases hc : (!mayP (tgtC (lastC (baseP p)) (dirP p) (baseP p)) || (lastC (baseP p) != 3 && (tgtC (lastC (baseP p)) (dirP p) (baseP p)).isEmpty) || (lastC (baseP p) == 2 && !mayN ((baseP p).drop 4)) || dirP p == [47]) with
    | true => exact .none (by unfold classP; rw [ht, hc]; rfl) hm
    | false =>
      have hcl : classP p = ((lastC (baseP p) : Int), tgtC (lastC (baseP p)) (dirP p) (baseP p)) := by unfold classP; rw [ht, hc]; rfl
      simp only [Bool.or_eq_false_iff, Bool.not_eq_false', Bool.and_eq_false_iff] at hc
      obtain ⟨⟨⟨c1, c2⟩, c3⟩, c4⟩ := hc
      have hk : lastC (baseP p) = 1 ∨ (lastC (baseP p) = 2 ∧ ∃ b, baseP p = whiteB ++ b) ∨ (lastC (baseP p) = 3 ∧ baseP p = markB) := by
        unfold lastC
        cases h1 : baseP p == markB with
        | true => exact .inr (.inr ⟨rfl, beq_iff_eq.1 h1⟩)
        | false =>
          cases h2 : whiteB.isPrefixOf (baseP p) with
          | true => exact .inr (.inl ⟨rfl, by obtain ⟨b, hb⟩ := List.isPrefixOf_iff_prefix.1 h2; exact ⟨b, hb.symm⟩⟩)
          | false => exact .inl rfl
      rcases hk with hk | ⟨hk, b, hb⟩ | ⟨hk, hb⟩
      · exfalso
        rw [hk] at c1 c2
        have hg : tgtC 1 (dirP p) (baseP p) = p := dir_base p
        rw [hg] at c1 c2
        refine hm ⟨c1, ?_⟩
        rintro rfl
        simp at c2
      · rw [hk] at hcl c1 c2 c3
        have hdr : (baseP p).drop 4 = b := by rw [hb]; exact List.drop_left (l₁ := whiteB)
        rw [hdr] at c3
        have hbm : mayN b = true := by simpa using c3
        have hg : tgtC 2 (dirP p) (baseP p) = dirP p ++ b := by show dirP p ++ (baseP p).drop 4 = _; rw [hdr]
        rw [hg] at hcl c1 c2
        have hbn := mayN_ne hbm
        have hte : dirP p ++ b ≠ [] := fun e => hbn.1 (List.append_eq_nil_iff.1 e).2
        have hee : (dirP p ++ b).isEmpty = false := by cases hx : dirP p ++ b with | nil => exact absurd hx hte | cons c l => rfl
        have hp0 : p ≠ [] := by
          rintro rfl
          have : baseP [] = [] := rfl
          rw [this] at hb
          simp [whiteB] at hb
        have hfm := hfalse true (by rw [hb]; exact white_not_may b) rfl hp0
        have hlen : (dirP p ++ b).length ≤ p.length := by
          have : (dirP p ++ baseP p).length = p.length := by rw [dir_base]
          rw [hb] at this
          simp at this ⊢
          omega
        refine .gone _ hcl ?_ hfm hlen
        have hwo : whiteoutP (dirP p ++ b) = joinP [parentP (dirP p ++ b), whiteB ++ baseP (dirP p ++ b)] := by unfold whiteoutP; rw [c1, hee]; rfl
        rw [hwo, joinP_two]
        rcases path_cases p with ⟨hd, hbe, hpa, hn⟩ | ⟨d, b', hpe, hn, hd, hbe, hpa⟩
        · rw [hd, List.nil_append, (dir_none hbn.2).2.2, (dir_none hbn.2).2.1, if_pos rfl, ← hb, hbe]
        · have hdn : d ≠ [] := by
            rintro rfl
            rw [hd] at c4; simp at c4
          have e1 : dirP p ++ b = d ++ 47 :: b := by rw [hd]; simp
          rw [e1, (dir_of hbn.2).2.2, (dir_of hbn.2).2.1, if_neg hdn, if_neg (by simp [whiteB]), ← hb, hbe, ← hpe]
      · rw [hk] at hcl c1
        have hg : tgtC 3 (dirP p) (baseP p) = trimSl (dirP p) := rfl
        rw [hg] at hcl c1
        have hp0 : p ≠ [] := by
          rintro rfl
          have : baseP [] = [] := rfl
          rw [this] at hb
          simp [markB] at hb
        have hfm := hfalse true (by rw [hb, markB_eq]; exact white_not_may _) rfl hp0
        rcases path_cases p with ⟨hd, hbe, hpa, hn⟩ | ⟨d, b', hpe, hn, hd, hbe, hpa⟩
        · have hts : trimSl (dirP p) = [] := by rw [hd]; rfl
          rw [hts] at hcl c1
          refine .mark [] hcl ?_ hfm (by simp)
          unfold opaqueP
          rw [c1]
          show joinP [[], markB] = p
          rw [joinP_two, if_pos rfl, ← hb, hbe]
        · have hts : trimSl (dirP p) = d := by rw [hd]; exact trimSl_app d
          have hdn : d ≠ [] := by
            rintro rfl
            rw [hd] at c4; simp at c4
          rw [hts] at hcl c1
          refine .mark d hcl ?_ hfm (by rw [hpe]; simp)
          unfold opaqueP
          rw [c1]
          show joinP [d, markB] = p
          rw [joinP_two, if_neg hdn, if_neg (by decide), ← hb, hbe, ← hpe]
end Go.Proofs.YtmnknmpfkjhgbaaGreatDoor
/- what the document says a class is, and what the program's class is: the same. -/
namespace Go.Proofs.YtmnknmpfkjhgbaaGreatDoor
def refT (p base dir : List UInt8) : Int × List UInt8 := if mayN base then (1, p) else if base == markB then (3, dir) else if whiteB.isPrefixOf base && mayN (base.drop 4) then (2, joinP [dir, base.drop 4]) else (0, [])
def refF (ct : Int × List UInt8) : Int × List UInt8 := if ct.1 == 0 || !mayP ct.2 then (0, []) else ct
def refC (p : List UInt8) (init : List (List UInt8)) (base : List UInt8) : Int × List UInt8 := if init.all mayN then refF (refT p base (joinP init)) else (0, [])
theorem split_parts {p : List UInt8} (h0 : p ≠ []) : ∃ init base, splitP p = init ++ [base] ∧ (∀ x ∈ base, x ≠ 47) ∧ ((init = [] ∧ p = base) ∨ ∃ d, init = spl d ∧ p = d ++ 47 :: base) := by
  rcases path_cases p with ⟨-, -, -, hn⟩ | ⟨d, b, rfl, hn, -⟩
  · exact ⟨[], p, splitP_one hn h0, hn, .inl ⟨rfl, rfl⟩⟩
  · exact ⟨spl d, b, splitP_app hn, hn, .inr ⟨d, rfl, rfl⟩⟩
theorem may_app {d b : List UInt8} (hb : ∀ x ∈ b, x ≠ 47) (h : mayP (d ++ 47 :: b) = true) : (spl d).all mayN = true ∧ mayN b = true := by
  obtain ⟨-, -, h3⟩ := may_parts h
  rw [splitP_app hb, List.all_append] at h3
  simp only [Bool.and_eq_true] at h3
  exact ⟨h3.1, by simpa using h3.2⟩
theorem join_spl {d : List UInt8} (h : (spl d).all mayN = true) : joinP (spl d) = d := by rw [joinP_may h, joinS_spl]
theorem class_ref {p base : List UInt8} {init : List (List UInt8)} (h0 : p ≠ []) (ht : (p == tableB) = false) (hb : ∀ x ∈ base, x ≠ 47) (hc : (init = [] ∧ p = base) ∨ ∃ d, init = spl d ∧ p = d ++ 47 :: base) : classP p = refC p init base := by
  rcases hc with ⟨rfl, rfl⟩ | ⟨d, rfl, rfl⟩
  · obtain ⟨g1, g2, -⟩ := dir_none hb
    unfold classP refC
    rw [ht, g1, g2, show joinP [] = ([] : List UInt8) from rfl]
    cases h1 : p == markB with
    | true => have := beq_iff_eq.1 h1; subst this; decide
    | false =>
      cases h2 : whiteB.isPrefixOf p with
      | true =>
        obtain ⟨b, rfl⟩ := List.isPrefixOf_iff_prefix.1 h2
        have hl : lastC (whiteB ++ b) = 2 := by unfold lastC; rw [h1, h2]; rfl
        have hdr : (whiteB ++ b).drop 4 = b := List.drop_left (l₁ := whiteB)
        have hg : tgtC 2 [] (whiteB ++ b) = b := by show [] ++ (whiteB ++ b).drop 4 = b; rw [hdr]; rfl
        have hj : joinP [[], b] = b := by rw [joinP_two, if_pos rfl]
        unfold refT
        rw [hl, hg, hdr, white_not_may, h1, h2, hj]
        cases hn : mayN b with
        | false => simp [refF]
        | true =>
          have he : b.isEmpty = false := by cases b with | nil => cases hn | cons c b => rfl
          rw [he]
          unfold refF
          cases hm : mayP b <;> simp [hm]
      | false =>
        have hl : lastC p = 1 := by unfold lastC; rw [h1, h2]; rfl
        have hg : tgtC 1 [] p = p := rfl
        have he : p.isEmpty = false := by cases p with | nil => exact absurd rfl h0 | cons c b => rfl
        unfold refT
        rw [hl, hg, h1, h2, he]
        cases hm : mayP p with
        | true =>
          have hn := may_base hm h0
          rw [g2] at hn
          rw [hn]; simp [refF, hm]
        | false =>
          cases hn : mayN p <;> simp [refF, hm]
  · obtain ⟨g1, g2, -⟩ := dir_of (d := d) hb
    unfold classP refC
    rw [ht, g1, g2]
    by_cases hd : d = []
    · subst hd
      have : (spl []).all mayN = false := rfl
      rw [this]; simp
    · rw [ne_slash hd]
      cases h1 : base == markB with
      | true =>
        have := beq_iff_eq.1 h1; subst this
        have hg : tgtC 3 (d ++ [47]) markB = d := trimSl_app d
        rw [lastC_mark, hg]
        have hn : mayN markB = false := by decide
        unfold refT
        rw [hn, h1]
        cases hm : mayP d with
        | true =>
          obtain ⟨-, -, ha⟩ := may_parts hm
          rw [show splitP d = spl d by unfold splitP; rw [if_neg hd]] at ha
          rw [ha, join_spl ha]
          simp [refF, hm]
        | false =>
          cases ha : (spl d).all mayN with
          | false => simp
          | true => rw [join_spl ha]; simp [refF, hm]
      | false =>
        cases h2 : whiteB.isPrefixOf base with
        | true =>
          obtain ⟨b, rfl⟩ := List.isPrefixOf_iff_prefix.1 h2
          have hbb : ∀ x ∈ b, x ≠ 47 := fun x hx => hb x (List.mem_append_right _ hx)
          have hl : lastC (whiteB ++ b) = 2 := by unfold lastC; rw [h1, h2]; rfl
          have hdr : (whiteB ++ b).drop 4 = b := List.drop_left (l₁ := whiteB)
          have hg : tgtC 2 (d ++ [47]) (whiteB ++ b) = d ++ 47 :: b := by show (d ++ [47]) ++ (whiteB ++ b).drop 4 = _; rw [hdr]; simp
          unfold refT
          rw [hl, hg, hdr, white_not_may, h1, h2]
          have he : (d ++ 47 :: b).isEmpty = false := by simp
          rw [he]
          cases hn : mayN b with
          | false => cases ha : (spl d).all mayN <;> simp [refF]
          | true =>
            have hbn : b ≠ [] := by rintro rfl; cases hn
            cases ha : (spl d).all mayN with
            | true =>
              rw [join_spl ha, joinP_two, if_neg hd, if_neg hbn]
              cases hm : mayP (d ++ 47 :: b) <;> simp [refF, hm]
            | false =>
              have hm : mayP (d ++ 47 :: b) = false := by
                cases hm : mayP (d ++ 47 :: b) with
                | false => rfl
                | true => rw [(may_app hbb hm).1] at ha; cases ha
              rw [hm]; simp
        | false =>
          have hl : lastC base = 1 := by unfold lastC; rw [h1, h2]; rfl
          have hg : tgtC 1 (d ++ [47]) base = d ++ 47 :: base := by show (d ++ [47]) ++ base = _; simp
          unfold refT
          rw [hl, hg, h1, h2]
          have he : (d ++ 47 :: base).isEmpty = false := by simp
          rw [he]
          cases hm : mayP (d ++ 47 :: base) with
          | true =>
            obtain ⟨ha, hn⟩ := may_app hb hm
            rw [ha, hn]; simp [refF, hm]
          | false =>
            cases ha : (spl d).all mayN with
            | false => simp
            | true => cases hn : mayN base <;> simp [refF, hm]
end Go.Proofs.YtmnknmpfkjhgbaaGreatDoor
/- portolanlaw11.wakes. -/
namespace Go.Proofs.YtmnknmpfkjhgbaaGreatDoor
open Go.RowKit
end Go.Proofs.YtmnknmpfkjhgbaaGreatDoor
/- PathKnown: closed facts about long texts (kernel). -/
namespace Go.Proofs.YtmnknmpfkjhgbaaGreatDoor
theorem kn_c4 : (classP []).1 = 0 := by decide +kernel
theorem kn_c5 : classP tableB = (4, []) := by decide +kernel
end Go.Proofs.YtmnknmpfkjhgbaaGreatDoor

