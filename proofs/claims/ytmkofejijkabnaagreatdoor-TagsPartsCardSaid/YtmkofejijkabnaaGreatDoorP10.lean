/- PARTS OF ONE PROOF, set in one file: TgTo, TgChg, TgCv, TgTlP, TgTel, TgPtP, MapI, TgPt, TagsParts, TgLaid. Each part tells its own conditions. -/
import Derived.Maps.Views
import Derived.Sort.LoopGhostIn
import Derived.Deep.SlicePairs
import Derived.PinnedBridge
import Derived.Deep.DeepWitnessRowRef
import Derived.Test.YtmkofejijkabnaaGreatDoorP1
import Derived.Test.YtmkofejijkabnaaGreatDoorP3
import Derived.Test.YtmkofejijkabnaaGreatDoorP9
/- portolanlaw26.to: a digest of a number. -/
namespace Go.Proofs.YtmkofejijkabnaaGreatDoor
open Go.RowKit
/-- the digest of a number -/
def toD (n : Int) : Dg := [UInt8.ofNat (n % 256).toNat, UInt8.ofNat (n / 256 % 256).toNat, 9] ++ List.replicate 29 0
theorem toD_len (n : Int) : (toD n).length = 32 := rfl
theorem byte_int (n : Int) : ((UInt8.ofNat (n % 256).toNat).toNat : Int) = n % 256 := by
  rw [UInt8.toNat_ofNat', Nat.mod_eq_of_lt (by omega)]
  omega
theorem ab9_cells (a b : UInt8) : (bcells ([a, b, 9] ++ List.replicate 29 0)).toArray = #[.int .u8 (a.toNat : Int), .int .u8 (b.toNat : Int), .int .u8 9, .int .u8 0, .int .u8 0, .int .u8 0, .int .u8 0, .int .u8 0, .int .u8 0, .int .u8 0, .int .u8 0, .int .u8 0, .int .u8 0, .int .u8 0, .int .u8 0, .int .u8 0, .int .u8 0, .int .u8 0, .int .u8 0, .int .u8 0, .int .u8 0, .int .u8 0, .int .u8 0, .int .u8 0, .int .u8 0, .int .u8 0, .int .u8 0, .int .u8 0, .int .u8 0, .int .u8 0, .int .u8 0, .int .u8 0] := rfl
theorem toD_cells (n : Int) : (bcells (toD n)).toArray = #[.int .u8 (n % 256), .int .u8 (n / 256 % 256), .int .u8 9, .int .u8 0, .int .u8 0, .int .u8 0, .int .u8 0, .int .u8 0, .int .u8 0, .int .u8 0, .int .u8 0, .int .u8 0, .int .u8 0, .int .u8 0, .int .u8 0, .int .u8 0, .int .u8 0, .int .u8 0, .int .u8 0, .int .u8 0, .int .u8 0, .int .u8 0, .int .u8 0, .int .u8 0, .int .u8 0, .int .u8 0, .int .u8 0, .int .u8 0, .int .u8 0, .int .u8 0, .int .u8 0, .int .u8 0] := by
  unfold toD
  rw [ab9_cells, byte_int n, byte_int (n / 256)]
theorem build_ab (a b : Int) (w : World) : (Instr.build 40 #[(0, .int .u8 a), (1, .int .u8 b), (2, .int .u8 9)]).run Tryz.prog w = .ok (.agg #[.int .u8 a, .int .u8 b, .int .u8 9, .int .u8 0, .int .u8 0, .int .u8 0, .int .u8 0, .int .u8 0, .int .u8 0, .int .u8 0, .int .u8 0, .int .u8 0, .int .u8 0, .int .u8 0, .int .u8 0, .int .u8 0, .int .u8 0, .int .u8 0, .int .u8 0, .int .u8 0, .int .u8 0, .int .u8 0, .int .u8 0, .int .u8 0, .int .u8 0, .int .u8 0, .int .u8 0, .int .u8 0, .int .u8 0, .int .u8 0, .int .u8 0, .int .u8 0]) w := by kernel_rfl
set_option maxHeartbeats 1000000 in
set_option maxRecDepth 100000 in
theorem wrap_u8 (n : Int) : IntKind.u8.wrap n = n % 256 := by simp [IntKind.wrap, IntKind.bits, IntKind.signed]
theorem cv_u8 (n : Int) (w : World) : (convert 3 5 (.int .i64 n)).run Tryz.prog w = .ok (.int .u8 (n % 256)) w := by
  have hk : Tryz.prog.intKind 5 = .u8 := by kernel_rfl
  have := @Go.run_convert_int Tryz.prog w 3 5 .i64 n (by rw [Tryz.underlying3]; rfl) (by rw [hk]; exact Tryz.underlying5)
  rw [this, hk, wrap_u8]
set_option maxHeartbeats 1000000 in
set_option maxRecDepth 100000 in
theorem to_any (n : Int) (w : World) : Calls Tryz.prog 23 #[.int .i64 n] w fun e w' => e = .returned (.agg (bcells (toD n)).toArray) ∧ Below w.heap.size w w' := by
  have hbd := build_ab
  have c1 := cv_u8 n
  have c2 := cv_u8 (n / 256)
  have HTC := Keep.keep (toD_cells n)
  have HS2 : Keep ((bcells (toD n)).toArray.size = 32) := ⟨by rw [List.size_toArray, bcells_length]; rfl⟩
  have HO2 : Keep ((bcells (toD n)).toArray.all (·.oneCell') = true) := ⟨oneC (toD n)⟩
  generalize (bcells (toD n)).toArray = c at *
  go_enter Tryz.func23, Tryz.ntmps23
  go_wp2_with (first | with_reducible refine arm_stopS ?_)
  refine Stopped.out ?_
  rw [← HTC.out]
  go_wp2_with (first | ((with_reducible refine arm_storeRow (Row.new w 40 _) aggDig ?_ HS2.out HO2.out ?_ ?_ ?_); (focus rfl); (focus rfl); (focus rfl); simp only [Act.put, World.setRow_alloc_new]))
  refine bodyPost_ret (results_row rfl (Row.new _ _ _) aggDig HS2.out rfl) rfl ⟨rfl, (Below.refl _ _).alloc (Nat.le_refl _) _⟩
end Go.Proofs.YtmkofejijkabnaaGreatDoor
/- portolanlaw26.changes: a call that changes tags. -/
namespace Go.Proofs.YtmkofejijkabnaaGreatDoor
open Go.RowKit
def chgS (x : LogS) (wh nn : Int) (t : Tx) : Int × LogS :=
  if wh = 0 ∨ wh = 1 ∨ wh = 2 then x.set t (toD nn) else if wh = 3 then x.drop t else if wh = 4 then x.anew else (0, x)
theorem LOk.chg {q : Int} {x : LogS} {l : List (List UInt8)} {n : Nat} (h : LOk q x l n) (hq : 30000 ≤ q) (hn : n ≤ 60) (wh nn : Int) (t : Tx) : ∃ l', LOk q (chgS x wh nn t).2 l' (n + 1) := by
  unfold chgS
  split
  · exact h.set hq hn t (toD_len nn)
  · split
    · exact h.drop hq hn t
    · split
      · exact ⟨_, (h.anew hq hn).2.2⟩
      · exact ⟨l, { h with len := by have := h.len; omega }⟩
def chT (L b : Nat) (t : Tx) (nn : Int) (cg : Array Value) : Nat → Value → World → Prop
  | 0, v, _ => v = .pointer (some ⟨L, 0, none⟩)
  | 1, v, _ => v = .pointer (some ⟨b, 2, none⟩)
  | 2, v, _ => v = .string ⟨t.toArray⟩
  | 3, v, _ => v = .pointer (some ⟨b, 1, none⟩)
  | 4, v, _ => v = .int .i64 nn
  | 5, v, _ => v = .agg cg
  | _, _, _ => True
theorem chT_stays {L b : Nat} {t : Tx} {nn : Int} {cg : Array Value} (i : Nat) (v : Value) (w w' : World) (h : chT L b t nn cg i v w) : chT L b t nn cg i v w' := by
  rcases (by omega : i = 0 ∨ i = 1 ∨ i = 2 ∨ i = 3 ∨ i = 4 ∨ i = 5 ∨ 6 ≤ i) with rfl | rfl | rfl | rfl | rfl | rfl | h8
  all_goals first | exact h | skip
  obtain ⟨k, rfl⟩ : ∃ k, i = k + 6 := ⟨i - 6, by omega⟩
  trivial
set_option maxHeartbeats 2000000 in
set_option maxRecDepth 100000 in
theorem changes_any {w : World} {B : Nat} {O : Nat → Prop} {L mb D : Nat} {x : LogS} {l : List (List UInt8)} {n : Nat} (h : LogIn w B O L mb D x) (hk : LOk 1048576 x l n) (hb : LB x n) (hn : n ≤ 60) (wh nn : Int) (t : Tx) (ht : t.length ≤ maxLen) (dv : Bool) (pa : Option Addr) (pn pc : Nat) :
    Calls Tryz.prog 34 #[.pointer (some ⟨L, 0, none⟩), .agg #[.int .i64 wh, .int .i64 nn, .string ⟨t.toArray⟩, .bool dv, .slice pa pn pc]] w fun e w' => e = .returned (.int .i64 (chgS x wh nn t).1) ∧ LogTo w B O L mb D (chgS x wh nn t).2 w' ∧ LB (chgS x wh nn t).2 (n + 1) := by
  have hjl := jrn_len l hk.bd
  have hll := hk.len
  have HST : Keep (∀ wq, Below w.heap.size w wq → Calls Tryz.prog 18 #[.pointer (some ⟨L, 0, none⟩), .string ⟨t.toArray⟩, .agg (bcells (toD nn)).toArray] wq fun e w' => e = .returned (.int .i64 (x.set t (toD nn)).1) ∧ LogTo w B O L mb D (x.set t (toD nn)).2 w' ∧ LB (x.set t (toD nn)).2 (n + 1)) := ⟨fun wq hbq => (logset_any (h.on hbq) hk hb hn (by omega) (by omega) (by omega) t ht (toD nn) (toD_len nn)).mono (fun e w' r => ⟨r.1, LogTo.comp (Chg.of_below hbq) (fun j o => .inl o) r.2.1, r.2.2⟩)⟩
  have HDR : Keep (∀ wq, Below w.heap.size w wq → Calls Tryz.prog 19 #[.pointer (some ⟨L, 0, none⟩), .string ⟨t.toArray⟩] wq fun e w' => e = .returned (.int .i64 (x.drop t).1) ∧ LogTo w B O L mb D (x.drop t).2 w' ∧ LB (x.drop t).2 (n + 1)) := ⟨fun wq hbq => (logdrop_any (h.on hbq) hk hb hn (by omega) (by omega) (by omega) t ht).mono (fun e w' r => ⟨r.1, LogTo.comp (Chg.of_below hbq) (fun j o => .inl o) r.2.1, r.2.2⟩)⟩
  have HAN : Keep (∀ wq, Below w.heap.size w wq → Calls Tryz.prog 14 #[.pointer (some ⟨L, 0, none⟩)] wq fun e w' => e = .returned (.int .i64 x.anew.1) ∧ LogTo w B O L mb D x.anew.2 w' ∧ LB x.anew.2 (n + 1)) := ⟨fun wq hbq => (loganew_any (h.on hbq) hk hb hn (by omega) (by omega)).mono (fun e w' r => ⟨r.1, LogTo.comp (Chg.of_below hbq) (fun j o => .inl o) r.2.1, r.2.2⟩)⟩
  have HNO : Keep (∀ wq, Below w.heap.size w wq → LogTo w B O L mb D x wq ∧ LB x (n + 1)) := ⟨fun wq hbq => ⟨LogTo.of h hbq, Nat.le_trans hb.1 (Nat.le_succ _), hb.2⟩⟩
  have HTO : Keep (∀ wq, Calls Tryz.prog 23 #[.int .i64 nn] wq fun e w' => e = .returned (.agg (bcells (toD nn)).toArray) ∧ Below wq.heap.size wq w') := ⟨fun wq => to_any nn wq⟩
  have HX : Keep (chgS x wh nn t = if wh = 0 ∨ wh = 1 ∨ wh = 2 then x.set t (toD nn) else if wh = 3 then x.drop t else if wh = 4 then x.anew else (0, x)) := ⟨rfl⟩
  generalize (bcells (toD nn)).toArray = cg at *
  generalize chgS x wh nn t = r at *
  clear h hk hb hn hjl hll
  go_enter Tryz.func34, Tryz.ntmps34
  go_upto_region 1 with fail
  refine wp_world (R := fun w1 => Below w.heap.size w w1 ∧ Row w1 w.heap.size 73 #[.int .i64 wh, .int .i64 nn, .string ⟨t.toArray⟩, .bool dv, .slice pa pn pc]) ⟨(Below.refl _ _).alloc (Nat.le_refl _) _, Row.new _ _ _⟩ ?_
  intro w1 H1
  obtain ⟨b, hb⟩ : ∃ b, w.heap.size = b := ⟨_, rfl⟩
  have HB := Keep.keep hb
  have HR1 : Keep (Row w1 b 73 #[.int .i64 wh, .int .i64 nn, .string ⟨t.toArray⟩, .bool dv, .slice pa pn pc]) := ⟨by rw [← hb]; exact H1.out.2⟩
  have HB1 := Keep.keep H1.out.1
  rw [hb]
  clear hb H1
  have c0 := HR1.out.cell (i := 0) rfl
  have c1 := HR1.out.cell (i := 1) rfl
  have c2 := HR1.out.cell (i := 2) rfl
  by_cases hw : wh = 0 ∨ wh = 1 ∨ wh = 2
  · have HRE : Keep (r = x.set t (toD nn)) := ⟨by rw [HX.out, if_pos hw]⟩
    clear HX HDR HAN HNO
    rcases hw with rfl | rfl | rfl
    all_goals
      go_upto_region 5 with fail
      refine wp_region_spcT 6 [11, 12, 13, 14, 15, 16] (fun wx => Below w1.heap.size w1 wx) (chT L b t nn cg) (fun w w' => Below w.heap.size w w') (by kernel_rfl) rfl (by decide) (by show ∀ d ∈ _, d < 28; decide) (by kernel_rfl) (by decide) (by kernel_rfl) (by kernel_rfl) (by kernel_rfl) (Below.refl _ _).drew (fun i v w w' h _ hb => chT_stays i v w w' h) ?_ ?_
      · intro i hi a1' wx hFr hC hTk
        have hrx := HR1.out.below hC HR1.out.lt
        have k1 := hrx.cell (i := 1) rfl
        have k2 := hrx.cell (i := 2) rfl
        have t0 : a1'.eval (.tmp 0) = .pointer (some ⟨L, 0, none⟩) := (hFr.same 0 (by decide)).trans rfl
        have t3 : a1'.eval (.tmp 3) = .pointer (some ⟨b, 0, none⟩) := (hFr.same 3 (by decide)).trans rfl
        have hrf : Below wx.heap.size wx wx := Below.refl _ _
        rcases (by omega : i = 0 ∨ i = 1 ∨ i = 2 ∨ i = 3 ∨ i = 4 ∨ i = 5) with rfl | rfl | rfl | rfl | rfl | rfl
        · exact spcS_val (d := 11) rfl (wanted_none rfl) (by simp [execOp, t0]) hC hrf rfl
        · exact spcS_val (d := 12) rfl (wanted_none rfl) (run_fieldAddr (m := 0) Tryz.underlying73 rfl (by kernel_rfl) t3) hC hrf rfl
        · have hx : a1'.eval (.tmp 12) = .pointer (some ⟨b, 2, none⟩) := hTk 1 (by decide) (by kernel_rfl)
          exact spcS_val (d := 13) rfl (wanted_none rfl) (run_loadCell (run_isAgg_plain Tryz.underlying9 rfl) k2 hx) hC hrf rfl
        · exact spcS_val (d := 14) rfl (wanted_none rfl) (run_fieldAddr (m := 0) Tryz.underlying73 rfl (by kernel_rfl) t3) hC hrf rfl
        · have hx : a1'.eval (.tmp 14) = .pointer (some ⟨b, 1, none⟩) := hTk 3 (by decide) (by kernel_rfl)
          exact spcS_val (d := 15) rfl (wanted_none rfl) (run_loadCell (run_isAgg_plain Tryz.underlying3 rfl) k1 hx) hC hrf rfl
        · have hx : a1'.eval (.tmp 15) = .int .i64 nn := hTk 4 (by decide) (by kernel_rfl)
          refine spcS_call (d := 16) (vs := #[.int .i64 nn]) rfl (wanted_none rfl) (enters_of Tryz.func23 (by kernel_rfl) rfl) (by simp only [List.map_toArray, List.map_cons, List.map_nil, hx]) ((HTO.out wx).mono ?_)
          rintro e wy ⟨rfl, hb⟩
          exact ⟨_, rfl, hC.trans (hb.mono hC.size), hb, rfl⟩
      · intro a1' wy ha hC hTk
        have t11 : slot a1' 11 = .pointer (some ⟨L, 0, none⟩) := hTk 0 (by decide)
        have t13 : slot a1' 13 = .string ⟨t.toArray⟩ := hTk 2 (by decide)
        have t16 : slot a1' 16 = .agg cg := hTk 5 (by decide)
        have HS2 := Keep.keep (HST.out wy (HB1.out.trans (hC.mono HB1.out.size)))
        simp only [List.foldl_cons, List.foldl_nil, t11, t13, t16] at ha
        clear hTk t11 t13 t16 hC HST HTO
        generalize slot a1' 12 = x12 at *
        generalize slot a1' 14 = x14 at *
        generalize slot a1' 15 = x15 at *
        subst ha
        simp only [Act.put, List.setIfInBounds_toArray, List.set_cons_succ, List.set_cons_zero]
        simp only [List.drop_succ_cons, List.drop_zero]
        go_wp2_with fail
        refine HS2.out.mono ?_
        rintro e w4 ⟨rfl, hr⟩
        have HF := Keep.keep hr
        clear hr HS2
        go_wp2_with fail
        go_ret
        rw [HRE.out]
        exact ⟨rfl, HF.out⟩
  · by_cases h3 : wh = 3
    · have HRE : Keep (r = x.drop t) := ⟨by rw [HX.out, if_neg hw, if_pos h3]⟩
      have HD2 := Keep.keep (HDR.out w1 HB1.out)
      clear HX HST HAN HNO hw HDR
      subst h3
      go_wp2_with fail
      refine HD2.out.mono ?_
      rintro e w4 ⟨rfl, hr⟩
      have HF := Keep.keep hr
      clear hr HD2
      go_wp2_with fail
      go_ret
      rw [HRE.out]
      exact ⟨rfl, HF.out⟩
    · by_cases h4 : wh = 4
      · have HRE : Keep (r = x.anew) := ⟨by rw [HX.out, if_neg hw, if_neg h3, if_pos h4]⟩
        have HA2 := Keep.keep (HAN.out w1 HB1.out)
        clear HX HST HDR HNO hw h3 HAN
        subst h4
        go_wp2_with fail
        refine HA2.out.mono ?_
        rintro e w4 ⟨rfl, hr⟩
        have HF := Keep.keep hr
        clear hr HA2
        go_wp2_with fail
        go_ret
        rw [HRE.out]
        exact ⟨rfl, HF.out⟩
      · have HRE : Keep (r = (0, x)) := ⟨by rw [HX.out, if_neg hw, if_neg h3, if_neg h4]⟩
        have HN2 := Keep.keep (HNO.out w1 HB1.out)
        have e0 : (wh == 0) = false := by simp; omega
        have e1 : (wh == 1) = false := by simp; omega
        have e2 : (wh == 2) = false := by simp; omega
        have e3 : (wh == 3) = false := by simp; omega
        have e4 : (wh == 4) = false := by simp; omega
        clear HX HST HDR HNO hw h3 HAN
        go_wp2_with fail
        go_ret
        rw [HRE.out]
        exact ⟨rfl, HN2.out⟩
end Go.Proofs.YtmkofejijkabnaaGreatDoor
/- A slice of calls in memory; portolanlaw26.grown. -/
namespace Go.Proofs.YtmkofejijkabnaaGreatDoor
open Go.RowKit
/-- a call, as it lies in memory -/
structure ClV where
  wh : Int
  nn : Int
  tag : Tx
  dn : Bool
  pa : Option Addr
  pn : Nat
  pc : Nat
instance : Inhabited ClV := ⟨⟨0, 0, [], false, none, 0, 0⟩⟩
def ccell (y : ClV) : Array Value := #[.int .i64 y.wh, .int .i64 y.nn, .string ⟨y.tag.toArray⟩, .bool y.dn, .slice y.pa y.pn y.pc]
def ccells (l : List ClV) : List Value := l.flatMap fun y => (ccell y).toList
theorem ccells_cons (x : ClV) (l : List ClV) : ccells (x :: l) = (ccell x).toList ++ ccells l := rfl
theorem ccell_len (x : ClV) : (ccell x).toList.length = 5 := rfl
theorem ccells_length : ∀ l : List ClV, (ccells l).length = l.length * 5
  | [] => rfl
  | x :: l => by rw [ccells_cons, List.length_append, ccells_length l, ccell_len, List.length_cons]; omega
theorem ccells_get : ∀ (l : List ClV) (k i : Nat) (hk : k < l.length), i < 5 → (ccells l)[k * 5 + i]? = (ccell l[k])[i]?
  | x :: l, 0, i, _, hi => by
    rw [ccells_cons, Nat.zero_mul, Nat.zero_add, List.getElem?_append_left (by rw [ccell_len]; exact hi)]
    simp
  | x :: l, k + 1, i, h, hi => by
    have := ccells_get l k i (by simpa using h) hi
    rw [ccells_cons, List.getElem?_append_right (by rw [ccell_len]; omega), ccell_len]
    have e : (k + 1) * 5 + i - 5 = k * 5 + i := by omega
    rw [e, this]; rfl
theorem run_call_mid {w : World} {N : Nat → Prop} {l : List ClV} {b off n cap m : Nat} (h : RdV w N 5 (.slice (some ⟨b, off, none⟩) n cap) m (ccells l)) {k : Nat} (hk : k < l.length) : (Instr.loadAt 73 (.pointer (some ⟨b, off + k * 5, none⟩))).run Tryz.prog w = .ok (.agg (ccell l[k])) w := by
  have := run_loadAt_mid (P := Tryz.prog) w b (off + k * 5) 73 (ccell l[k]).toList _ (fun j z hj => by
    have hlt := (List.getElem?_eq_some_iff.1 hj).1
    rw [ccell_len] at hlt
    have := ccells_get l k j hk hlt
    rw [show (ccell l[k])[j]? = some z by simpa using hj] at this
    rw [Nat.add_assoc]
    exact h.cell b off _ _ rfl _ _ this) Tryz.underlying73 rfl (by rw [ccell_len]; kernel_rfl)
  simpa using this
set_option maxHeartbeats 4000000 in
set_option maxRecDepth 100000 in
theorem grown_any {w : World} {v : Value} {l : List ClV} (hr : RdV w (· < w.heap.size) 5 v l.length (ccells l)) (ht : ∀ y ∈ l, y.tag.length ≤ maxLen) (hT : CrcT w) :
    Calls Tryz.prog 8 #[v] w fun e w' => ∃ D L mb O x lg n, e = .returned (.tuple #[.pointer (some ⟨D, 0, none⟩), .pointer (some ⟨L, 0, none⟩)]) ∧ n ≤ 20 ∧ LOk 1048576 x lg n ∧ LB x n ∧ LogIn w' w.heap.size O L mb D x ∧ Below w.heap.size w w' := by
  obtain ⟨a, cap, rfl, hcap, hmx, h3⟩ := hr.shape
  have HR := Keep.keep hr; have HTL := Keep.keep ht; have HT := Keep.keep hT; have H3 := Keep.keep h3
  unfold maxLen at hmx
  obtain ⟨d1, d2, d3, d4, d5, d6, hL, -, hok, hlb⟩ := open_steps (q := 1048576) (by decide) (by decide)
  have HL := Keep.keep hL; have HOK := Keep.keep hok; have HLB := Keep.keep hlb
  clear hr ht hT h3 hL hok hlb
  obtain ⟨nl, hnl⟩ : ∃ nl, l.length = nl := ⟨_, rfl⟩
  have HN := Keep.keep hnl
  rw [hnl] at HR hcap ⊢
  clear hnl
  go_enter Tryz.func8, Tryz.ntmps8
  go_wp2_with fail
  refine (dkopen_any 1048576 (by decide) (by decide) w).mono ?_
  rintro e w1 ⟨D, rfl, hd, hb1⟩
  have HD := Keep.keep hd; have HB1 := Keep.keep hb1
  clear hd hb1
  go_wp2_with fail
  refine (logopen_any (B := w.heap.size) HD.out (HT.out.on HB1.out) (fun j hj => hj.1) HT.out.l HB1.out.size HL.out).mono ?_
  rintro e w2 ⟨L, mb, O', rfl, hlog, hb2⟩
  have HLG := Keep.keep hlog; have HB2 : Keep (Below w.heap.size w w2) := ⟨HB1.out.trans hb2⟩
  clear hlog hb2 HD HB1 HL
  go_wp2_with fail
  go_loopg [8] (min nl 20) (fun g u8 wx => ∃ k : Nat, k + g = min nl 20 ∧ u8 = .int .i64 (k : Int) ∧ ∃ (O : Nat → Prop) (x : LogS) (lg : List (List UInt8)), Keep (LogIn wx w.heap.size O L mb D x) ∧ Keep (LOk 1048576 x lg k) ∧ Keep (LB x k) ∧ Keep (Below w.heap.size w wx))
  case atStart => exact ⟨0, by omega, rfl, O', _, [], HLG, HOK, HLB, HB2⟩
  case round =>
    obtain ⟨k, hkg, rfl, O, x, lg, HLI, HLO, HBD, HB⟩ := hrel
    clear HLG HOK HLB
    cases gk with
    | zero =>
      have hk20 : k ≤ 20 := by omega
      have HK := Keep.keep hk20
      by_cases hk : k < nl
      · obtain rfl : k = 20 := by omega
        have hkn : ((20 : Nat) : Int) < (nl : Int) := by omega
        go_wp2_with fail
        go_ret2
        exact ⟨D, L, mb, O, x, lg, 20, rfl, HK.out, HLO.out, HBD.out, HLI.out, HB.out⟩
      · have hkn : ¬ ((k : Int) < (nl : Int)) := by omega
        go_wp2_with fail
        go_ret2
        exact ⟨D, L, rfl, mb, O, x, lg, k, HK.out, HLO.out, HBD.out, HLI.out, HB.out⟩
    | succ g =>
      have hkl : k < l.length := by have := HN.out; omega
      have hkn : (k : Int) < (nl : Int) := by omega
      have hk20 : (k : Int) < 20 := by omega
      have hrx : RdV wr (· < w.heap.size) 5 (.slice a nl cap) nl (ccells l) := HR.out.below HB.out (fun b hb => hb)
      obtain ⟨bN, oN, hab⟩ : ∃ b off, a = some ⟨b, off, none⟩ := by
        rcases H3.out with q3 | ⟨b, off, q3, -⟩
        · omega
        · exact ⟨b, off, q3⟩
      subst hab
      have hld := run_call_mid hrx hkl
      have HTK := Keep.keep (HTL.out l[k] (List.getElem_mem hkl))
      generalize l[k] = y at *
      obtain ⟨wh, nn, tg, dn, pa, pn, pc⟩ := y
      have HCH := Keep.keep (changes_any HLI.out HLO.out HBD.out (by omega) wh nn tg HTK.out dn pa pn pc)
      obtain ⟨lg', hlo'⟩ := HLO.out.chg (by decide) (by omega) wh nn tg
      have HLO' := Keep.keep hlo'
      unfold ccell at hld
      dsimp only at hld
      clear hrx hkl hlo'
      go_wp2_with ((with_reducible refine arm_loadM hld ?_ ?_); (focus rfl); simp only [Act.put, List.setIfInBounds_toArray, List.set_cons_succ, List.set_cons_zero])
      refine HCH.out.mono ?_
      rintro e w4 ⟨rfl, hto, hlb⟩
      have HBW := Keep.keep (LogTo.below HLI.out hto)
      obtain ⟨O2, g1, g2, g3⟩ := hto
      have HLI2 := Keep.keep g1
      have HLB2 := Keep.keep hlb
      clear g1 g2 g3 hlb HCH hld
      generalize chgS x wh nn tg = r at *
      go_wp2_with fail
      go_roundg g
      case measure => omega
      case rel => exact ⟨k + 1, by omega, by simp, O2, r.2, lg', HLI2, HLO', HLB2, ⟨HB.out.trans HBW.out⟩⟩
end Go.Proofs.YtmkofejijkabnaaGreatDoor
/- A log's journal, read; a call of Set on a small disk; the rows of tells. -/
namespace Go.Proofs.YtmkofejijkabnaaGreatDoor
theorem LOk.appQ {q : Int} {x : LogS} {l : List (List UInt8)} {n : Nat} (h : LOk q x l n) {b : List UInt8} (hcap : (16 + (jrn l).length + b.length : Int) ≤ q) (hb : b.length ≤ 98) (hd : (doesB x.m b).2 = true) (hs : SM.Srt (doesB x.m b).1) (ht : ∀ y ∈ (doesB x.m b).1, tagP y.1 = true ∧ y.2.length = 32) (hf : (doesB x.m b).1.length ≤ 64) :
    (x.app b).1 = 0 ∧ LOk q (x.app b).2 (l ++ [b]) (n + 1) ∧ (x.app b).2.m = (doesB x.m b).1 := by
  obtain ⟨fs, M, f, dn, hxd, hfM, hby⟩ := h.d
  have hjl := jrn_len l h.bd
  have hll := h.len
  have hlk : SM.look ([(tagsN, f)] : Fol) tagsN = some f := by
    unfold SM.look
    rw [List.find?_cons_of_pos (by show (tagsN == tagsN) = true; decide)]
    rfl
  have hlen : (fs f).bytes.length = 8 + (jrn l).length := by rw [hby, List.length_append, magic_len]
  have h1 : x.d.append tagsN (frameB b) = (0, ⟨setF fs f ⟨(fs f).bytes ++ frameB b, (fs f).safe⟩, M, [(tagsN, f)], [], q, false, -1, dn⟩) := by
    rw [hxd]
    rw [append_on (d := ⟨fs, M, [(tagsN, f)], [], q, false, -1, dn⟩) (b := frameB b) (k := f) rfl tags_may rfl hlk (by
      show (((([(tagsN, f)] : Fol).map fun x => (fs x.2).bytes.length).sum : Nat) : Int) + _ ≤ q
      simp only [List.map_cons, List.map_nil, List.sum_cons, List.sum_nil, Nat.add_zero, frame_len]
      rw [hlen]
      omega)]
    rfl
  have h2 : (⟨setF fs f ⟨(fs f).bytes ++ frameB b, (fs f).safe⟩, M, [(tagsN, f)], [], q, false, -1, dn⟩ : DkS).sync tagsN = (0, ⟨setF fs f ⟨(fs f).bytes ++ frameB b, ((fs f).bytes ++ frameB b).length⟩, M, [(tagsN, f)], [], q, false, -1, dn⟩) := by
    rw [sync_on (d := ⟨setF fs f ⟨(fs f).bytes ++ frameB b, (fs f).safe⟩, M, [(tagsN, f)], [], q, false, -1, dn⟩) (k := f) rfl tags_may rfl hlk]
    unfold DkS.setFile
    dsimp only
    rw [setF_twice, setF_same]
  have hg : goesD x.d [fun d => d.append tagsN (frameB b), fun d => d.sync tagsN] = (0, ⟨setF fs f ⟨(fs f).bytes ++ frameB b, ((fs f).bytes ++ frameB b).length⟩, M, [(tagsN, f)], [], q, false, -1, dn⟩) := by
    rw [goesD_ok (f := fun d => d.append tagsN (frameB b)) h1, goesD_ok (f := fun d => d.sync tagsN) h2, goesD_nil]
  unfold LogS.app
  rw [hg]
  refine ⟨rfl, ⟨⟨_, M, f, dn, rfl, hfM, ?_⟩, ?_, ?_, ?_, ?_, ?_, ?_, ?_, ?_⟩, by simp⟩
  · rw [setF_same, jrn_snoc, ← List.append_assoc, ← hby]
  · simp [h.off]
  · exact allB_snoc l [] b h.all (by omega) (by rw [h.run]; exact hd)
  · rw [runB_snoc, h.run]; simp
  · simpa using hs
  · simpa using ht
  · simpa using hf
  · rw [List.length_append]; simp; omega
  · intro c hc
    rcases List.mem_append.1 hc with hc | hc
    · exact h.bd c hc
    · obtain rfl : c = b := by simpa using hc
      exact hb
theorem LOk.find {q : Int} {x : LogS} {l : List (List UInt8)} {n : Nat} (h : LOk q x l n) : ∃ f, x.d.find tagsN = (some f, 0) ∧ (x.d.files f).bytes = magicB ++ jrn l := by
  obtain ⟨fs, M, f, dn, hxd, hfM, hby⟩ := h.d
  refine ⟨f, ?_, by rw [hxd]; exact hby⟩
  rw [hxd]
  have ha : (⟨fs, M, [(tagsN, f)], [], q, false, -1, dn⟩ : DkS).asks [tagsN] = 0 := rfl
  unfold DkS.find
  rw [if_neg (by rw [ha]; decide)]
  show (match SM.look ([(tagsN, f)] : Fol) tagsN with | some f => (some f, 0) | none => (none, 6)) = (some f, (0 : Int))
  rw [look_tags]
theorem LOk.sizeS {q : Int} {x : LogS} {l : List (List UInt8)} {n : Nat} (h : LOk q x l n) : x.d.size tagsN = (((8 + (jrn l).length : Nat) : Int), 0) := by
  obtain ⟨f, h1, h2⟩ := h.find
  unfold DkS.size
  rw [h1]
  show ((((x.d.files f).bytes.length : Nat) : Int), (0 : Int)) = _
  rw [h2, List.length_append, magic_len]
theorem LOk.readS {q : Int} {x : LogS} {l : List (List UInt8)} {n : Nat} (h : LOk q x l n) (i j : Nat) (hij : i ≤ j) (hj : j ≤ 8 + (jrn l).length) : x.d.read tagsN (i : Int) (j : Int) = (((magicB ++ jrn l).take j).drop i, 0) := by
  obtain ⟨f, h1, h2⟩ := h.find
  unfold DkS.read
  rw [h1]
  show (if (i : Int) < 0 ∨ (j : Int) < i ∨ ((x.d.files f).bytes.length : Int) < j then _ else _) = _
  rw [h2, List.length_append, magic_len, if_neg (by omega)]
  rfl
def dg7 : Dg := 7 :: List.replicate 31 0
/-- the call that the rows of tells ask -/
theorem LOk.seven {x : LogS} {n : Nat} (h : LOk 1000 x [] n) (hm : x.m = []) : (x.set [97] dg7).1 = 0 ∧ LOk 1000 (x.set [97] dg7).2 [setBd [97] dg7] (n + 1) := by
  have hd := set_does x.m (t := [97]) (g := dg7) (by decide) rfl
  have hp : SM.put x.m ([97], dg7) = [([97], dg7)] := by rw [hm]; rfl
  have hx : x.set [97] dg7 = x.app (setBd [97] dg7) := by
    unfold LogS.set
    rw [h.off, if_neg (by decide), hm]
    rfl
  have ht : ∀ y ∈ ([([97], dg7)] : Tgs), tagP y.1 = true ∧ y.2.length = 32 := fun y hy => by
    obtain rfl : y = ([97], dg7) := by simpa using hy
    exact ⟨by decide, rfl⟩
  have := h.appQ (b := setBd [97] dg7) (by simp [jrn, setBd, dg7]) (by simp [setBd, dg7]) (by rw [hd, hp]; rfl) (by rw [hd, hp]; exact List.pairwise_singleton _ _) (by rw [hd, hp]; exact ht) (by rw [hd, hp]; decide)
  rw [hx]
  exact ⟨this.1, this.2.1⟩
theorem seven_read : ((magicB ++ jrn [setBd [97] dg7]).take 51).drop 8 = frameB (setBd [97] dg7) := by
  have h1 : (frameB (setBd [97] dg7)).length = 43 := by rw [frame_len]; rfl
  have h2 : jrn [setBd [97] dg7] = frameB (setBd [97] dg7) := by simp [jrn]
  rw [h2, List.take_of_length_le (by rw [List.length_append, magic_len, h1]; decide), List.drop_left' magic_len]
theorem seven_4 : (frameB (setBd [97] dg7)).take 4 = [35, 0, 220, 255] := by rfl
theorem seven_12 : ((frameB (setBd [97] dg7)).take 12).drop 8 = [83, 1, 97, 7] := by rfl
theorem read_none : readB [] = some ([], true) := rfl
theorem read_magic : readB magicB = some ([], false) := rfl
end Go.Proofs.YtmkofejijkabnaaGreatDoor
/- portolanlaw26.tells. -/
namespace Go.Proofs.YtmkofejijkabnaaGreatDoor
open Go.RowKit
theorem dg7_cells : (bcells dg7).toArray = #[.int .u8 7, .int .u8 0, .int .u8 0, .int .u8 0, .int .u8 0, .int .u8 0, .int .u8 0, .int .u8 0, .int .u8 0, .int .u8 0, .int .u8 0, .int .u8 0, .int .u8 0, .int .u8 0, .int .u8 0, .int .u8 0, .int .u8 0, .int .u8 0, .int .u8 0, .int .u8 0, .int .u8 0, .int .u8 0, .int .u8 0, .int .u8 0, .int .u8 0, .int .u8 0, .int .u8 0, .int .u8 0, .int .u8 0, .int .u8 0, .int .u8 0, .int .u8 0] := rfl
theorem build_7 (w : World) : (Instr.build 40 #[(0, .int .u8 7)]).run Tryz.prog w = .ok (.agg #[.int .u8 7, .int .u8 0, .int .u8 0, .int .u8 0, .int .u8 0, .int .u8 0, .int .u8 0, .int .u8 0, .int .u8 0, .int .u8 0, .int .u8 0, .int .u8 0, .int .u8 0, .int .u8 0, .int .u8 0, .int .u8 0, .int .u8 0, .int .u8 0, .int .u8 0, .int .u8 0, .int .u8 0, .int .u8 0, .int .u8 0, .int .u8 0, .int .u8 0, .int .u8 0, .int .u8 0, .int .u8 0, .int .u8 0, .int .u8 0, .int .u8 0, .int .u8 0]) w := by kernel_rfl
set_option maxHeartbeats 4000000 in
set_option maxRecDepth 100000 in
theorem tells_any {w : World} (hT : CrcT w) : Calls Tryz.prog 15 #[] w fun e w' => e = .returned (.bool true) ∧ Below w.heap.size w w' := by
  have HT := Keep.keep hT
  have kc := convB
  obtain ⟨d1, d2, d3, d4, d5, d6, hL, -, hok, hlb⟩ := open_steps (q := 1000) (by decide) (by decide)
  have HL := Keep.keep hL; have HOK := Keep.keep hok; have HLB := Keep.keep hlb
  have hdb := build_7
  clear hT hL hok hlb
  go_enter Tryz.func15, Tryz.ntmps15
  go_wp2_with fail
  refine (tread_any (.slice none 0 0) [] w HT.out Reads.ofNil (by decide)).mono ?_
  rintro e w1 ⟨hr, hb1⟩
  rw [read_none] at hr
  obtain ⟨mb1, rfl, hmb1, hms1⟩ := hr
  have HB1 := Keep.keep hb1; have HM1 := Keep.keep hms1
  clear hb1 hms1
  go_wp2_with fail
  refine calls_at (R := fun wq => Below w1.heap.size w1 wq ∧ Reads wq (fun j => j = w1.heap.size) (.slice (some ⟨w1.heap.size, 0, none⟩) 8 8) magicB ∧ w1.heap.size < wq.heap.size) ⟨(Below.refl _ _).alloc (Nat.le_refl _) _, Reads.lit (w := w1) 5 _ magicB (8, 9) w1.heap.size 8 rfl magic_cells rfl (by decide), by show _ < (Array.push _ _).size; rw [Array.size_push]; exact Nat.lt_succ_self _⟩ ?_
  intro wq HQ
  refine (tread_any _ magicB wq (HT.out.on (HB1.out.trans (HQ.out.1.mono HB1.out.size))) (HQ.out.2.1.mono (fun j hj => by rw [hj]; exact HQ.out.2.2)) (by decide)).mono ?_
  rintro e w2 ⟨hr, hb2⟩
  rw [read_magic] at hr
  obtain ⟨mb2, rfl, hmb2, hms2⟩ := hr
  have hlt1 := HM1.out.lt
  have HB12 : Keep (Below w1.heap.size w1 w2) := ⟨HQ.out.1.trans (hb2.mono HQ.out.1.size)⟩
  have HB2 : Keep (Below w.heap.size w w2) := ⟨HB1.out.trans (HB12.out.mono HB1.out.size)⟩
  have HM12 : Keep (MapS w2 9 mb1 (dgV [])) := ⟨HM1.out.loc (HB12.out.block _ hlt1)⟩
  have HM2 := Keep.keep hms2
  clear hb2 hms2 HQ HM1 HB1 HB12
  go_wp2_with fail
  refine (dkopen_any 1000 (by decide) (by decide) w2).mono ?_
  rintro e w3 ⟨D, rfl, hd, hb3⟩
  have HD := Keep.keep hd; have HB3 := Keep.keep hb3
  clear hd hb3
  go_wp2_with fail
  refine (logopen_any (B := w2.heap.size) HD.out (HT.out.on (HB2.out.trans (HB3.out.mono HB2.out.size))) (fun j hj => hj.1) (HT.out.on HB2.out).l HB3.out.size HL.out).mono ?_
  rintro e w4 ⟨L, mb, O', rfl, hlog, hb4⟩
  have HLG := Keep.keep hlog; have HB24 : Keep (Below w2.heap.size w2 w4) := ⟨HB3.out.trans hb4⟩
  have HB4 : Keep (Below w.heap.size w w4) := ⟨HB2.out.trans (HB24.out.mono HB2.out.size)⟩
  have hlt12 := HM12.out.lt
  have hlt2 := HM2.out.lt
  have hln1 := fun ty => (HM12.out.loc (HB24.out.block _ hlt12)).len Tryz.underlying35 ty
  have hln2 := fun ty => (HM2.out.loc (HB24.out.block _ hlt2)).len Tryz.underlying35 ty
  replace hln1 : ∀ ty, (Builtin.len_ #[35] ty #[.map (some mb1)]).run Tryz.prog w4 = .ok (.int .i64 0) w4 := hln1
  replace hln2 : ∀ ty, (Builtin.len_ #[35] ty #[.map (some mb2)]).run Tryz.prog w4 = .ok (.int .i64 0) w4 := hln2
  have hsv := HOK.out.seven rfl
  have hst := logset_any HLG.out HOK.out HLB.out (by decide) (by decide) (by decide) (by simp [jrn]) [97] (by unfold maxLen; decide) dg7 rfl
  rw [hsv.1, dg7_cells] at hst
  have HSV := Keep.keep hsv.2
  have HST := Keep.keep hst
  generalize (LogS.set ⟨d6, [], false⟩ [97] dg7).2 = x2 at *
  clear hlog hb4 HD HB3 HL hsv hst
  go_wp2_with fail
  refine HST.out.mono ?_
  rintro e w5 ⟨rfl, hto, hlb2⟩
  have HB45 := Keep.keep (LogTo.below HLG.out hto)
  obtain ⟨O2, g1, -, -⟩ := hto
  have HLI := Keep.keep g1
  have HB5 : Keep (Below w.heap.size w w5) := ⟨HB4.out.trans (HB45.out.mono HB2.out.size)⟩
  have hjl : (jrn [setBd [97] dg7]).length = 43 := by
    have : jrn [setBd [97] dg7] = frameB (setBd [97] dg7) := by simp [jrn]
    rw [this, frame_len]; rfl
  have hrd := read_any may_ok HLI.out.dk tagsN (by decide) 8 51 (fun k hk => by have := hlb2.2 k hk; omega)
  have hrs := HSV.out.readS 8 51 (by decide) (by rw [hjl]; decide)
  replace hrs : x2.d.read tagsN 8 51 = (frameB (setBd [97] dg7), 0) := by rw [← seven_read]; exact hrs
  rw [hrs] at hrd
  unfold tagsN at hrd
  have HRD := Keep.keep hrd
  have HSZ : Keep ((x2.d.size tagsN).1 = 51) := ⟨by rw [HSV.out.sizeS, hjl]; rfl⟩
  clear hrd hrs hjl g1 hlb2 HST HLG HOK HLB hln1 hln2 HB45
  go_wp2_with fail
  refine HRD.out.mono ?_
  rintro e w6 ⟨v, rfl, ho, hb6⟩
  obtain ⟨a, n, c, hv⟩ : ∃ a n c, v = .slice a n c := by
    obtain ⟨a8, c8, hv8, -⟩ := (ownsV_reads ho).shape
    exact ⟨a8, _, c8, hv8⟩
  subst hv
  have hrr := ho.reads
  obtain ⟨a1, n1, c1, hs1, hr1⟩ := slice_to hrr 4 (by rw [frame_len]; omega)
  obtain ⟨a2, n2, c2, hs2, hr2⟩ := slice_mid hrr 8 12 (by decide) (by rw [frame_len]; decide)
  rw [seven_4] at hr1
  rw [seven_12] at hr2
  replace hs1 : ∀ w', (Instr.slice 28 (.slice a n c) none (some (.int .i64 4)) none).run Tryz.prog w' = .ok (.slice a1 n1 c1) w' := hs1
  replace hs2 : ∀ w', (Instr.slice 28 (.slice a n c) (some (.int .i64 8)) (some (.int .i64 12)) none).run Tryz.prog w' = .ok (.slice a2 n2 c2) w' := hs2
  have hq1 := run_string_of hr1
  have hq2 := run_string_of hr2
  have hls := logsize_any (HLI.out.on hb6)
  rw [HSZ.out] at hls
  have HLS := Keep.keep hls
  have HB6 : Keep (Below w.heap.size w w6) := ⟨HB5.out.trans (hb6.mono HB5.out.size)⟩
  clear ho hrr hr1 hr2 hls hb6 HRD
  go_wp2_with fail
  refine HLS.out.mono ?_
  rintro e w7 ⟨rfl, hb7⟩
  have HB7 : Keep (Below w.heap.size w w7) := ⟨HB6.out.trans (hb7.mono HB6.out.size)⟩
  clear hb7 HLS
  go_wp2_with fail
  go_ret
  exact ⟨rfl, HB7.out⟩
end Go.Proofs.YtmkofejijkabnaaGreatDoor
/- TagsParts, plainly: what its loop finds; the size of a journal that was laid anew. -/
namespace Go.Proofs.YtmkofejijkabnaaGreatDoor
theorem endB_succ (l : List (List UInt8)) (j : Nat) (hj : j < l.length) : endB l (j + 1) = endB l j + (8 + l[j].length) := by
  unfold endB jrn
  rw [List.take_succ_eq_append_getElem hj, List.map_append, List.flatten_append, List.length_append]
  simp [frame_len]
theorem endB_all (l : List (List UInt8)) : endB l l.length = (jrn l).length := by unfold endB; rw [List.take_length]
theorem endB_le (l : List (List UInt8)) (j : Nat) : endB l j ≤ (jrn l).length := (jrn_take l j).length_le
theorem jrn_split (l : List (List UInt8)) (j : Nat) (hj : j < l.length) : jrn l = jrn (l.take j) ++ (frameB l[j] ++ jrn (l.drop (j + 1))) := by
  unfold jrn
  conv => lhs; rw [← List.take_append_drop j l, List.drop_eq_getElem_cons hj]
  rw [List.map_append, List.flatten_append, List.map_cons, List.flatten_cons]
theorem jrn_at (l : List (List UInt8)) (j : Nat) (hj : j < l.length) (t : Nat) (ht : t < 8 + l[j].length) : (magicB ++ jrn l)[8 + endB l j + t]? = (frameB l[j])[t]? := by
  rw [List.getElem?_append_right (by rw [magic_len]; omega), magic_len, jrn_split l j hj]
  have e : (jrn (l.take j)).length = endB l j := rfl
  rw [List.getElem?_append_right (by rw [e]; omega), e, List.getElem?_append_left (by rw [frame_len]; omega)]
  congr 1
  omega
theorem jrn_b0 (l : List (List UInt8)) (j : Nat) (hj : j < l.length) (hb : l[j].length ≤ 98) : ∃ c : UInt8, (magicB ++ jrn l)[8 + endB l j]? = some c ∧ c.toNat = l[j].length := by
  refine ⟨byteN l[j].length, ?_, by rw [byte_nat]; exact Nat.mod_eq_of_lt (by omega)⟩
  have := jrn_at l j hj 0 (by omega)
  rw [Nat.add_zero] at this
  rw [this]; rfl
theorem jrn_b1 (l : List (List UInt8)) (j : Nat) (hj : j < l.length) (hb : l[j].length ≤ 98) : (magicB ++ jrn l)[8 + endB l j + 1]? = some 0 := by
  rw [jrn_at l j hj 1 (by omega)]
  show some (byteN (l[j].length / 256)) = some 0
  rw [show l[j].length / 256 = 0 by omega]
  rfl
/-- the last end that the loop has met, of those that the cut leaves -/
def lastN (l : List (List UInt8)) (k : Nat) : Nat → Nat
  | 0 => 0
  | j + 1 => if 8 + endB l (j + 1) ≤ k then 8 + endB l (j + 1) else lastN l k j
theorem lastN_at (l : List (List UInt8)) (k i : Nat) (hi : i ≤ l.length) (hk : 8 ≤ k → 8 + endB l i ≤ k) (h0 : k < 8 → i = 0) (hm : ∀ j, j ≤ l.length → 8 + endB l j ≤ k → j ≤ i) : ∀ j, j ≤ l.length → lastN l k j = (if min i j = 0 then 0 else 8 + endB l (min i j))
  | 0, _ => by simp [lastN]
  | j + 1, hj => by
    unfold lastN
    have ih := lastN_at l k i hi hk h0 hm j (by omega)
    by_cases h : 8 + endB l (j + 1) ≤ k
    · have := hm (j + 1) hj h
      rw [if_pos h, Nat.min_eq_right this, if_neg (by omega)]
    · rw [if_neg h, ih]
      have : i ≤ j := by
        refine Classical.byContradiction fun hij => h ?_
        rcases Nat.lt_or_ge k 8 with h8 | h8
        · have := h0 h8; omega
        · have h1 := hk h8
          rcases Nat.lt_or_ge (j + 1) i with hji | hji
          · have := endB_lt l (j + 1) i hji hi; omega
          · have : i = j + 1 := by omega
            rw [← this]; exact h1
      rw [Nat.min_eq_left this, Nat.min_eq_left (by omega)]
theorem lastN_all (l : List (List UInt8)) (k i : Nat) (hi : i ≤ l.length) (hk : 8 ≤ k → 8 + endB l i ≤ k) (h0 : k < 8 → i = 0) (hm : ∀ j, j ≤ l.length → 8 + endB l j ≤ k → j ≤ i) : lastN l k l.length = if i = 0 then 0 else 8 + endB l i := by
  rw [lastN_at l k i hi hk h0 hm l.length (Nat.le_refl _), Nat.min_eq_left hi]
theorem lastN_le (l : List (List UInt8)) (k : Nat) : ∀ j, lastN l k j ≤ k
  | 0 => Nat.zero_le _
  | j + 1 => by
    unfold lastN
    split
    · assumption
    · exact lastN_le l k j
/-- the ends that the loop has met -/
def hasN (l : List (List UInt8)) (j : Nat) (x : Int) : Bool := (List.range (j + 1)).any fun i => x == ((8 + endB l i : Nat) : Int)
theorem hasN_zero (l : List (List UInt8)) : hasN l 0 = fun x => x == 8 || false := by
  funext x
  simp [hasN, endB_zero]
theorem hasN_succ (l : List (List UInt8)) (j : Nat) : hasN l (j + 1) = fun x => x == ((8 + endB l (j + 1) : Nat) : Int) || hasN l j x := by
  funext x
  unfold hasN
  rw [List.range_succ, List.any_append]
  simp only [List.any_cons, List.any_nil, Bool.or_false]
  exact Bool.or_comm _ _
theorem hasN_all (l : List (List UInt8)) (k i : Nat) (hi : i ≤ l.length) (hk : 8 ≤ k → 8 + endB l i ≤ k) (_h0 : k < 8 → i = 0) (hm : ∀ j, j ≤ l.length → 8 + endB l j ≤ k → j ≤ i) : hasN l l.length (k : Int) = decide (8 ≤ k ∧ 8 + endB l i = k) := by
  unfold hasN
  rw [Bool.eq_iff_iff, List.any_eq_true, decide_eq_true_eq]
  constructor
  · rintro ⟨j, hj, he⟩
    rw [List.mem_range] at hj
    have he : (k : Int) = ((8 + endB l j : Nat) : Int) := by simpa using he
    have he : k = 8 + endB l j := by omega
    have h8 : 8 ≤ k := by omega
    have h1 := hm j (by omega) (by omega)
    have h2 := hk h8
    refine ⟨h8, ?_⟩
    rcases Nat.lt_or_ge j i with h | h
    · have := endB_lt l j i h hi; omega
    · have : j = i := by omega
      rw [he, this]
  · rintro ⟨h8, he⟩
    exact ⟨i, List.mem_range.2 (by omega), by rw [he]; simp⟩
/-- the size of a journal that was laid anew -/
def sumT (m : Tgs) : Nat := (m.map fun y => 42 + y.1.length).sum
theorem layB_size : ∀ m : Tgs, (∀ y ∈ m, y.2.length = 32) → (jrn (layB m)).length = sumT m
  | [], _ => rfl
  | y :: m, h => by
    have ih := layB_size m (fun z hz => h z (by simp [hz]))
    have e : layB (y :: m) = setBd y.1 y.2 :: layB m := rfl
    rw [e, jrn_cons, List.length_append, ih, frame_len]
    have := h y (by simp)
    unfold sumT
    rw [List.map_cons, List.sum_cons]
    simp only [setBd, List.length_cons, List.length_append]
    omega
theorem doesB_dig {m : Tgs} {b : List UInt8} (h : ∀ y ∈ m, y.2.length = 32) : ∀ y ∈ (doesB m b).1, y.2.length = 32 := by
  unfold doesB
  split
  · split
    · exact h
    · split
      · exact h
      · split
        · rename_i hr
          intro y hy
          rcases SM.mem_put.1 hy with rfl | ⟨hy, -⟩
          · exact hr.2
          · exact h y hy
        · split
          · exact fun y hy => h y (List.mem_filter.1 hy).1
          · exact h
  · exact h
theorem runB_dig : ∀ (l : List (List UInt8)) (m : Tgs), (∀ y ∈ m, y.2.length = 32) → ∀ y ∈ runB m l, y.2.length = 32
  | [], _, h => h
  | _b :: l, _m, h => runB_dig l _ (doesB_dig h)
end Go.Proofs.YtmkofejijkabnaaGreatDoor
/- A MAP KEYED BY NUMBERS (int), each value that it holds being one: it stands for a set of numbers. -/
namespace Go.Proofs.YtmkofejijkabnaaGreatDoor
open Go.RowKit Go.Maps Go.WideMaps
/-- block b is a map that leads the numbers of has to one -/
structure MapI (w : World) (k : TypeId) (b n : Nat) (has : Int → Bool) : Prop where
  o : ∃ D, w.ownsMap Tryz.prog k rawE b n D ∧ ∀ (x : Int) (z : DataW Value), D.atKey (.int .i64 x) z = if has x then .held (.int .i64 1) else z
theorem MapI.lt {w : World} {k : TypeId} {b n : Nat} {has : Int → Bool} (h : MapI w k b n has) : b < w.heap.size := by
  obtain ⟨D, ho, _⟩ := h.o
  exact ho.lt
theorem MapI.loc {w w' : World} {k : TypeId} {b n : Nat} {has : Int → Bool} (h : MapI w k b n has) (hb : w'.heap[b]? = w.heap[b]?) : MapI w' k b n has := by
  obtain ⟨D, ⟨es, clock, h1, rest⟩, h2⟩ := h.o
  exact ⟨D, ⟨es, clock, hb.trans h1, rest⟩, h2⟩
theorem MapI.made (w : World) (k : TypeId) : MapI (w.alloc (.map #[] 0)) k w.heap.size 0 (fun _ => false) := ⟨.map [], World.ownsMap_made _ _ _ _, fun _ _ => rfl⟩
section
variable {k : TypeId} (hk : Tryz.prog.underlying k = some (.int .i64)) {t e : TypeId} (ht : Tryz.prog.underlying t = some (.map k e))
include hk ht
set_option maxRecDepth 100000 in
theorem MapI.look1 {w : World} {b n : Nat} {has : Int → Bool} (h : MapI w k b n has) (hz : (zeroValue e).run Tryz.prog w = .ok (.int .i64 0) w) {x : Int} (hx : (Lit.int .i64 x).wf = true) :
    (Instr.lookup t (.map (some b)) (.int .i64 x) false).run Tryz.prog w = .ok (.int .i64 (if has x then 1 else 0)) w := by
  obtain ⟨D, ho, hD⟩ := h.o
  obtain ⟨v, ps, hr, hv⟩ := ho.lookup (int_keyed hk) ht hz (zd := .held (.int .i64 0)) (zp := []) rfl (keyOf_int_mk hk hx)
  rw [hr]
  rw [hD] at hv
  unfold rawE at hv
  injection hv with hv
  injection hv with hv _
  cases hl : has x with
  | false => rw [hl] at hv; injection hv with hv; rw [hv]; rfl
  | true => rw [hl] at hv; injection hv with hv; rw [hv]; rfl
set_option maxRecDepth 100000 in
theorem MapI.put {w : World} {b n : Nat} {has : Int → Bool} (h : MapI w k b n has) {x : Int} (hx : (Lit.int .i64 x).wf = true) (hn : n < maxLen) :
    ∃ w', (Instr.mapUpdate t (.map (some b)) (.int .i64 x) (.int .i64 1)).run Tryz.prog w = .ok () w' ∧ MapI w' k b (n + 1) (fun y => y == x || has y) ∧ Chg (fun j => j = b) w.heap.size w w' := by
  obtain ⟨D, ho, hD⟩ := h.o
  obtain ⟨w', hr, ho', hg⟩ := ho.update (int_keyed hk) ht hn (keyOf_int_mk hk hx) (val := .int .i64 1) (d := .held (.int .i64 1)) (ps := []) rfl
  refine ⟨w', hr, ⟨_, ho', fun y z => ?_⟩, ⟨hg.os, hg.tape, hg.output, hg.size, fun j hj hm => hg.block j hj (fun e => hm (by injection e))⟩⟩
  by_cases hyx : y = x
  · subst hyx
    rw [Maps.atKey_put_same ho.isMap (by trivial)]
    simp
  · rw [Maps.atKey_put_other (by intro e; injection e with _ e; exact hyx e), hD]
    have : (y == x) = false := by simpa using hyx
    simp [this]
variable {P : Program} {ops : Array Oper} {rest : List Oper} {a : Act} {w : World} {Q : Exit → Act → World → Prop} {tp : TypeId} {dst : Option Tmp} {m x v : Operand} {pos : String} {after : Array Edge}
theorem arm_putI {b n : Nat} {has : Int → Bool} (h : MapI w k b n has) {y : Int} (hx : (Lit.int .i64 y).wf = true) (hn : n < maxLen) (hm : a.eval m = .map (some b)) (hxx : a.eval x = .int .i64 y) (hv : a.eval v = .int .i64 1)
    (K : ∀ w', MapI w' k b (n + 1) (fun z => z == y || has z) → Chg (fun j => j = b) w.heap.size w w' → wpList Tryz.prog ops Q rest (a.put dst undef) w') :
    wpList Tryz.prog ops Q (⟨dst, .mapUpdate t m x v, tp, pos, after, none⟩ :: rest) a w := by
  obtain ⟨w', hr, h1, h2⟩ := h.put hk ht hx hn
  refine wpList_skip rfl (w' := w') ?_ (K w' h1 h2)
  simp [execOp, hm, hxx, hv, hr, Result.andThen]
theorem arm_insI {b n : Nat} {has : Int → Bool} (h : MapI w k b n has) {y : Int} (hx : (Lit.int .i64 y).wf = true) (hn : n < maxLen) (hm : a.eval m = .map (some b)) (hxx : a.eval x = .int .i64 y) (hv : a.eval v = .int .i64 1)
    (K : ∀ w', MapI w' k b (n + 1) (fun z => z == y || has z) → Chg (fun j => j = b) w.heap.size w w' → wpList Tryz.prog ops Q rest (a.put dst undef) w') :
    wpList Tryz.prog ops Q (⟨dst, .insert t m x v, tp, pos, after, none⟩ :: rest) a w := by
  obtain ⟨w', hr, h1, h2⟩ := h.put hk ht hx hn
  refine wpList_skip rfl (w' := w') ?_ (K w' h1 h2)
  simp [execOp, hm, hxx, hv, hr, Result.andThen]
end
end Go.Proofs.YtmkofejijkabnaaGreatDoor
/- portolanlaw26.TagsParts. -/
namespace Go.Proofs.YtmkofejijkabnaaGreatDoor
open Go.RowKit
theorem mk_ends (w : World) : (Instr.makeMap 33 none).run Tryz.prog w = .ok (.map (some w.heap.size)) (w.alloc (.map #[] 0)) := by kernel_rfl
theorem zero_int (w : World) : (zeroValue 3).run Tryz.prog w = .ok (.int .i64 0) w := by kernel_rfl
theorem wf_nat {n : Nat} (h : n ≤ 1000000) : (Lit.int .i64 (n : Int)).wf = true := by
  have hm1 : IntKind.i64.min = -9223372036854775808 := rfl
  have hm2 : IntKind.i64.max = 9223372036854775807 := rfl
  simp only [Lit.wf, Bool.and_eq_true, decide_eq_true_eq, hm1, hm2]
  omega
theorem runB_few : ∀ (l : List (List UInt8)) (m : Tgs), AllB m l → m.length ≤ 64 → (runB m l).length ≤ 64
  | [], _, _, h => h
  | _b :: l, _m, ha, h => runB_few l _ ha.2.2 (does_len ha.2.1 h)
/-- what a range over tags has come by -/
def sumW (M : Tgs) (todo : Tx → Bool) : Nat := ((M.filter fun x => !todo x.1).map fun x => 42 + x.1.length).sum
theorem sumW_step {M : Tgs} (h : SM.Srt M) {todo : Tx → Bool} {p : Tx} {g : Dg} (hp : todo p = true) (hl : SM.look M p = some g) : sumW M (fun q => todo q && q != p) = sumW M todo + (42 + p.length) := by
  have h1 := (came_step h hp hl).map fun x => 42 + x.1.length
  unfold sumW
  rw [h1.sum_nat]
  simp
theorem sumW_le (todo : Tx → Bool) : ∀ M : Tgs, sumW M todo ≤ sumT M
  | [] => Nat.le_refl _
  | x :: M => by
    have ih := sumW_le todo M
    unfold sumW sumT at ih ⊢
    rw [List.filter_cons, List.map_cons, List.sum_cons]
    split
    · rw [List.map_cons, List.sum_cons]; omega
    · omega
theorem sumW_start (M : Tgs) : sumW M (fun p => (SM.look (dgV M) p).isSome) = 0 := by
  unfold sumW
  have : (M.filter fun x => !(SM.look (dgV M) x.1).isSome) = [] := by
    rw [← came_start M]
    refine List.filter_congr fun x _ => ?_
    rw [dgV_look, Option.isSome_map]
  rw [this]; rfl
theorem sumW_all {M : Tgs} {todo : Tx → Bool} (h : ∀ p, todo p = false) : sumW M todo = sumT M := by
  unfold sumW sumT
  congr 2
  refine List.filter_eq_self.2 fun x _ => ?_
  rw [h]; rfl
theorem sumT_le : ∀ (M : Tgs), (∀ y ∈ M, y.1.length ≤ 64) → sumT M ≤ M.length * 106
  | [], _ => Nat.le_refl _
  | y :: M, h => by
    have ih := sumT_le M (fun z hz => h z (by simp [hz]))
    have := h y (by simp)
    unfold sumT at ih ⊢
    rw [List.map_cons, List.sum_cons, List.length_cons]
    omega
set_option maxHeartbeats 4000000 in
set_option maxRecDepth 100000 in
theorem parts_any {w : World} {v : Value} {l : List ClV} (hr : RdV w (· < w.heap.size) 5 v l.length (ccells l)) (ht : ∀ y ∈ l, y.tag.length ≤ maxLen) (hT : CrcT w) (c : Nat) (hc : c ≤ 65535) :
    Calls Tryz.prog 3 #[v, .int .u16 (c : Int)] w fun e w' => e = .returned (.bool true) ∧ Below w.heap.size w w' := by
  have HT := Keep.keep hT; have HC := Keep.keep hc
  have HGR := Keep.keep (grown_any hr ht hT)
  obtain ⟨va, vn, vc, hv⟩ : ∃ a n c, v = .slice a n c := by
    obtain ⟨a8, c8, hv8, -⟩ := hr.shape
    exact ⟨a8, _, c8, hv8⟩
  subst hv
  have hmk := mk_ends
  clear hr ht hT hc
  go_enter Tryz.func3, Tryz.ntmps3
  go_wp2_with fail
  refine HGR.out.mono ?_
  rintro e w1 ⟨D, L, mb, O, x, lg, n, rfl, hn, hok, hlb, hli, hb1⟩
  have HOK := Keep.keep hok; have HLB := Keep.keep hlb; have HLI := Keep.keep hli; have HB1 := Keep.keep hb1
  have hjl := jrn_len lg hok.bd
  have hll := hok.len
  have hN9 : 8 + (jrn lg).length ≤ 10000 := by omega
  obtain ⟨N, hN⟩ : ∃ N, 8 + (jrn lg).length = N := ⟨_, rfl⟩
  obtain ⟨J, hJ⟩ : ∃ J, magicB ++ jrn lg = J := ⟨_, rfl⟩
  have HN := Keep.keep hN; have HJ := Keep.keep hJ
  have HJL : Keep (J.length = N) := ⟨by rw [← hJ, ← hN, List.length_append, magic_len]⟩
  have hsz := logsize_any hli
  rw [hok.sizeS, hN] at hsz
  have HSZ := Keep.keep hsz
  have hrs := hok.readS 0 (8 + (jrn lg).length) (Nat.zero_le _) (Nat.le_refl _)
  rw [hN, hJ, List.take_of_length_le (by rw [HJL.out]; exact Nat.le_refl _), List.drop_zero] at hrs
  replace hrs : x.d.read tagsN 0 (N : Int) = (J, 0) := hrs
  have HRD : Keep (∀ wq, Below w1.heap.size w1 wq → Calls Tryz.prog 9 #[.pointer (some ⟨D, 0, none⟩), .string ⟨tagsN.toArray⟩, .int .i64 0, .int .i64 (N : Int)] wq fun e w' => ∃ v, e = .returned (.tuple #[v, .int .i64 0]) ∧ Owns w' wq.heap.size 5 v J ∧ Below wq.heap.size wq w') := ⟨fun wq hb => by
    have := read_any may_ok (hli.on hb).dk tagsN (by decide) 0 (N : Int) (fun k hk => by have := hlb.2 k hk; omega)
    rw [hrs] at this
    exact this⟩
  unfold tagsN at HRD
  rw [hN] at hN9
  have hN8 : 8 ≤ N := by omega
  clear hok hlb hli hb1 hjl hll hN hJ hsz hrs HGR
  go_wp2_with fail
  refine HSZ.out.mono ?_
  rintro e w2 ⟨rfl, hb2⟩
  have HB2 := Keep.keep hb2
  clear hb2 HSZ
  go_wp2_with fail
  refine (HRD.out w2 HB2.out).mono ?_
  rintro e w3 ⟨v3, rfl, ho3, hb3⟩
  obtain ⟨a3, n3, c3, hv3⟩ : ∃ a3 n3 c3, v3 = .slice a3 n3 c3 := by
    obtain ⟨a8, c8, hv8, -⟩ := (ownsV_reads ho3).shape
    exact ⟨a8, _, c8, hv8⟩
  subst hv3
  have hn3 : n3 = N := by
    have := ho3.reads.len.1
    rw [this, HJL.out]
  subst hn3
  have HO3 : Keep (Reads w3 (fun j => w2.heap.size ≤ j ∧ j < w3.heap.size) (.slice a3 n3 c3) J) := ⟨ho3.reads.mono (fun j hj => ⟨hj.1, hj.2.1⟩)⟩
  have HB3 : Keep (Below w1.heap.size w1 w3) := ⟨HB2.out.trans (hb3.mono HB2.out.size)⟩
  clear ho3 hb3 HRD
  go_wp2_with (first | (with_reducible refine arm_sRange ?_) | (with_reducible refine arm_sNext ?_) | (with_reducible refine arm_sDel ?_) | (with_reducible refine arm_sPut ?_) | (with_reducible refine arm_sIns ?_))
  refine StM.out ?_
  obtain ⟨b9, hb9⟩ : ∃ b9, w3.heap.size = b9 := ⟨_, rfl⟩
  refine arm_insI Tryz.underlying3 Tryz.underlying33 (MapI.made w3 3) (y := 8) (by decide) (by decide) rfl rfl rfl ?_
  intro w5 h5 hc5
  have HB9 := Keep.keep hb9
  have hsz4 : (w3.alloc (.map #[] 0)).heap.size = w3.heap.size + 1 := Array.size_push ..
  have HM5 : Keep (MapI w5 3 b9 1 (hasN lg 0)) := ⟨by rw [hasN_zero, ← hb9]; exact h5⟩
  have HC5 : Keep (Below w3.heap.size w3 w5) := ⟨by
    have h1 : Below w3.heap.size w3 (w3.alloc (.map #[] 0)) := (Below.refl _ _).alloc (Nat.le_refl _) _
    have h2 := hc5.lower h1.size
    exact h1.trans (h2.below (fun j hj e => by omega))⟩
  rw [hb9]
  clear h5 hc5 hsz4 hb9 hmk
  have HO5 : Keep (Reads w5 (fun j => w2.heap.size ≤ j ∧ j < w3.heap.size) (.slice a3 n3 c3) J) := ⟨HO3.out.below HC5.out (fun j hj => hj.2)⟩
  obtain ⟨k, hk⟩ : ∃ k, c % (n3 + 1) = k := ⟨_, rfl⟩
  have HK := Keep.keep hk
  have hkl : k < n3 + 1 := by rw [← hk]; exact Nat.mod_lt _ (by omega)
  have hmod : (wrap64 (c : Int)).tmod ((n3 : Int) + 1) = (k : Int) := by rw [show wrap64 (c : Int) = (c : Int) by unfold wrap64; have := HC.out; omega, Int.tmod_eq_emod_of_nonneg (by omega), ← hk]; rfl
  simp only [Act.put]
  clear hk
  go_wp2_with fail
  go_loopg [4, 10, 12, 13] lg.length (fun g u4 u10 u12 u13 wx => ∃ j : Nat, j + g = lg.length ∧ u10 = .int .i64 ((lastN lg k j : Nat) : Int) ∧ u12 = .int .i64 ((8 + endB lg j : Nat) : Int) ∧ Keep (MapI wx 3 b9 (1 + j) (hasN lg j)) ∧ Keep (Below w3.heap.size w3 wx))
  case atStart => exact ⟨0, by omega, rfl, rfl, HM5, HC5⟩
  case round =>
    obtain ⟨j, hjg, rfl, rfl, HMI, HBX⟩ := hrel
    cases gk with
    | zero =>
      obtain rfl : j = lg.length := by omega
      have hkJ : k ≤ (magicB ++ jrn lg).length := by rw [HJ.out, HJL.out]; omega
      obtain ⟨i, hi, h8, h0, hm, hrd1, hrd2⟩ := parts_law lg HOK.out.all k hkJ
      have hlast := lastN_all lg k i hi h8 h0 hm
      have hends := hasN_all lg k i hi h8 h0 hm
      have hmxl : max (if i = 0 then 0 else 8 + endB lg i) (min k 8) ≤ n3 := by
        have := endB_le lg i
        have := HN.out
        split <;> omega
      rw [← hlast] at hrd2 hmxl
      have hat : 8 + endB lg lg.length = n3 := by rw [endB_all]; exact HN.out
      rw [hat]
      rw [HJ.out] at hrd1 hrd2
      obtain ⟨la, hla⟩ : ∃ la, lastN lg k lg.length = la := ⟨_, rfl⟩
      rw [hla] at hrd2 hmxl ⊢
      obtain ⟨mn, hmn⟩ : ∃ mn, min k 8 = mn := ⟨_, rfl⟩
      rw [hmn] at hrd2 hmxl
      obtain ⟨mx, hmx⟩ : ∃ mx, max la mn = mx := ⟨_, rfl⟩
      rw [hmx] at hrd2 hmxl
      have hmnz : min (k : Int) 8 = (mn : Int) := by omega
      have hmxz : max (la : Int) (mn : Int) = (mx : Int) := by omega
      have hw1 := runB_dig (lg.take i) [] (fun y hy => by simp at hy)
      have hw2 := runB_few (lg.take i) [] (allB_take lg [] i HOK.out.all) (by simp)
      generalize runB [] (lg.take i) = mw at hrd1 hrd2 hw1 hw2
      have HW1 := Keep.keep hw1; have HW2 := Keep.keep hw2
      obtain ⟨pb, hpb⟩ : ∃ pb : Bool, decide (8 ≤ k ∧ 8 + endB lg i = k) = pb := ⟨_, rfl⟩
      have htb : decide (¬ (8 ≤ k ∧ 8 + endB lg i = k)) = !pb := by rw [← hpb, decide_not]
      rw [htb] at hrd1
      rw [hpb] at hends
      have hrx : Reads wr (fun j => w2.heap.size ≤ j ∧ j < w3.heap.size) (.slice a3 n3 c3) J := HO3.out.below HBX.out (fun j hj => hj.2)
      obtain ⟨a1, n1, c1, hs1, hq1⟩ := slice_to hrx k (by rw [HJL.out]; omega)
      obtain ⟨a2, n2, c2, hs2, hq2⟩ := slice_to hrx mx (by rw [HJL.out]; omega)
      have hT1 : CrcT w1 := HT.out.on HB1.out
      have hTr : CrcT wr := hT1.on (HB3.out.trans (HBX.out.mono HB3.out.size))
      have HX1 : Keep (Calls Tryz.prog 11 #[.slice a1 n1 c1] wr fun e w' => ∃ mb8, e = .returned (.tuple #[.map (some mb8), .bool (!pb), .int .i64 0]) ∧ wr.heap.size ≤ mb8 ∧ MapS w' 9 mb8 (dgV mw) ∧ Below wr.heap.size wr w') := ⟨by
        refine (tread_any _ _ wr hTr (hq1.mono (fun j hj => Nat.lt_of_lt_of_le hj.2 HBX.out.size)) (by rw [List.length_take, HJL.out]; omega)).mono ?_
        rw [hrd1]
        rintro e w' ⟨⟨mb8, h1, h2, h3⟩, hb⟩
        exact ⟨mb8, h1, h2, h3, hb⟩⟩
      have HX2 : Keep (∀ wq, Below wr.heap.size wr wq → Calls Tryz.prog 11 #[.slice a2 n2 c2] wq fun e w' => ∃ mb8, e = .returned (.tuple #[.map (some mb8), .bool (decide (k < 8)), .int .i64 0]) ∧ wq.heap.size ≤ mb8 ∧ MapS w' 9 mb8 (dgV mw) ∧ Below wq.heap.size wq w') := ⟨fun wq hbq => by
        refine (tread_any _ _ wq (hTr.on hbq) ((hq2.below hbq (fun j hj => Nat.lt_of_lt_of_le hj.2 HBX.out.size)).mono (fun j hj => Nat.lt_of_lt_of_le (Nat.lt_of_lt_of_le hj.2 HBX.out.size) hbq.size)) (by rw [List.length_take, HJL.out]; omega)).mono ?_
        rw [hrd2]
        rintro e w' ⟨⟨mb8, h1, h2, h3⟩, hb⟩
        exact ⟨mb8, h1, h2, h3, hb⟩⟩
      have HEN := Keep.keep hends
      have hk8 : decide ((k : Int) < 8) = decide (k < 8) := by simp only [decide_eq_decide]; omega
      clear hw1 hw2 hrd1 hrd2 hq1 hq2 hrx hT1 hTr hends hpb htb hlast hla hmn hmx h8 h0 hm hi hkJ hat
      go_wp2_with fail
      refine HX1.out.mono ?_
      rintro e w6 ⟨m6, rfl, hm6, hs6, hb6⟩
      have HM6 := Keep.keep hs6; have HB6 := Keep.keep hb6; have HX2' := Keep.keep (HX2.out w6 hb6)
      clear hs6 hb6 HX1 HX2
      go_wp2_with fail
      refine HX2'.out.mono ?_
      rintro e w7 ⟨m7, rfl, hm7, hs7, hb7⟩
      have hlt6 := HM6.out.lt
      have HM67 : Keep (MapS w7 9 m6 (dgV mw)) := ⟨HM6.out.loc (hb7.block _ hlt6)⟩
      have HM7 := Keep.keep hs7
      have HBr7 : Keep (Below wr.heap.size wr w7) := ⟨HB6.out.trans (hb7.mono HB6.out.size)⟩
      have hltI := HMI.out.lt
      have HMI7 : Keep (MapI w7 3 b9 (1 + lg.length) (hasN lg lg.length)) := ⟨HMI.out.loc (HBr7.out.block _ hltI)⟩
      have hlk := HMI7.out.look1 Tryz.underlying3 Tryz.underlying33 (zero_int w7) (x := (k : Int)) (wf_nat (by omega))
      rw [HEN.out] at hlk
      clear hs7 hb7 HX2' HM6 HB6
      go_wp2_with fail
      all_goals
        refine (mequal_any m6 m7 mw mw w7 HM67.out HM7.out HW1.out HW1.out (by have := HW2.out; omega) (by have := HW2.out; omega)).mono ?_
        rintro e w8 ⟨he8, hb8⟩
        rw [decide_eq_true rfl] at he8
        subst he8
        have HB8 : Keep (Below wr.heap.size wr w8) := ⟨HBr7.out.trans (hb8.mono HBr7.out.size)⟩
        have HB18 : Keep (Below w1.heap.size w1 w8) := ⟨HB3.out.trans ((HBX.out.trans (HB8.out.mono HBX.out.size)).mono HB3.out.size)⟩
        have HLI8 := Keep.keep (HLI.out.on HB18.out)
        have HTG : Keep (∀ y ∈ x.m, y.1.length ≤ 64 ∧ y.2.length = 32) := ⟨fun y hy => ⟨tag_len (HOK.out.tg y hy).1, (HOK.out.tg y hy).2⟩⟩
        have HST := Keep.keep (state_any HLI8.out HOK.out.few HTG.out HOK.out.srt)
        clear hlk hb8 hs1 hs2 HM67 HM7 HMI HMI7 HBr7 HEN hk8 hmnz hmxz HW1 HW2
        go_wp2_with fail
        refine HST.out.mono ?_
        rintro e w9 ⟨b10, hb10, rfl, hm9, hb9'⟩
        have HLI9 := Keep.keep (HLI8.out.on hb9')
        have hOm : ∀ y, LogO O L mb y → y < w8.heap.size := fun y hy => by
          rcases hy with hy | hy | hy
          · exact HLI8.out.dk.lt y hy
          · rw [hy]; exact HLI8.out.row.lt
          · rw [hy]; exact HLI8.out.map.lt
        obtain ⟨ha1, ha2, ha3⟩ := HOK.out.anew (by decide) (by omega)
        have hAN := loganew_any HLI9.out HOK.out HLB.out (by omega) (by decide) (by decide)
        rw [ha1] at hAN
        have HAN := Keep.keep hAN
        have HNB : Keep (¬ LogO O L mb b10) := ⟨fun h => by have := hOm _ h; omega⟩
        have HM9 := Keep.keep hm9
        have HB9' : Keep (Below w1.heap.size w1 w9) := ⟨HB18.out.trans (hb9'.mono HB18.out.size)⟩
        obtain ⟨x2, hx2⟩ : ∃ x2, x.anew.2 = x2 := ⟨_, rfl⟩
        rw [hx2] at ha2 ha3 HAN
        have HXM := Keep.keep ha2; have HOK2 := Keep.keep ha3
        clear hAN hm9 hb9' hOm ha1 ha2 ha3 hx2 HST HB8
        go_wp2_with fail
        refine HAN.out.mono ?_
        rintro e w10 ⟨rfl, hto, hlb2⟩
        have hbl10 := LogTo.below HLI9.out hto
        obtain ⟨O2, hli10, hch10, -⟩ := hto
        have HLI10 := Keep.keep hli10
        have hlt10 := HM9.out.lt
        have HM10 : Keep (MapS w10 9 b10 (dgV x.m)) := ⟨HM9.out.loc (hch10.block _ hlt10 HNB.out)⟩
        have HB10 : Keep (Below w.heap.size w w10) := ⟨(HB1.out.trans (HB9'.out.mono HB1.out.size)).trans hbl10⟩
        have HST2 := Keep.keep (state_any hli10 HOK2.out.few (by rw [HXM.out]; exact HTG.out) HOK2.out.srt)
        clear hbl10 hli10 hch10 hlb2 HAN
        go_wp2_with fail
        refine HST2.out.mono ?_
        rintro e w11 ⟨b11, hb11, rfl, hm11, hb11'⟩
        rw [HXM.out] at hm11
        have HM11 := Keep.keep hm11
        have hlt10' := HM10.out.lt
        have HM10' : Keep (MapS w11 9 b10 (dgV x.m)) := ⟨HM10.out.loc (hb11'.block _ hlt10')⟩
        have HLI11 := Keep.keep (HLI10.out.on hb11')
        have HB11 : Keep (Below w.heap.size w w11) := ⟨HB10.out.trans (hb11'.mono HB10.out.size)⟩
        clear hm11 hb11' HST2 HM10 HM9
        go_wp2_with fail
        refine (mequal_any b11 b10 x.m x.m w11 HM11.out HM10'.out (fun y hy => (HTG.out y hy).2) (fun y hy => (HTG.out y hy).2) (by have := HOK.out.few; omega) (by have := HOK.out.few; omega)).mono ?_
        rintro e w12 ⟨he12, hb12⟩
        rw [decide_eq_true rfl] at he12
        subst he12
        have HM12 : Keep (MapS w12 9 b10 (dgV x.m)) := ⟨HM10'.out.loc (hb12.block _ HM10'.out.lt)⟩
        have HLI12 := Keep.keep (HLI11.out.on hb12)
        have HB12 : Keep (Below w.heap.size w w12) := ⟨HB11.out.trans (hb12.mono HB11.out.size)⟩
        clear hb12
        go_wp2_with (first | (with_reducible refine arm_sRange ?_) | (with_reducible refine arm_sNext ?_) | (with_reducible refine arm_sDel ?_) | (with_reducible refine arm_sPut ?_) | (with_reducible refine arm_sIns ?_))
        refine StM.out ?_
        refine arm_rangeS Tryz.underlying9 Tryz.underlying35 HM12.out rfl ?_
        intro w13 hrg hb13 hs13
        obtain ⟨r, hr⟩ : ∃ r, w12.heap.size = r := ⟨_, rfl⟩
        have HB13 := Keep.keep hb13
        have HR := Keep.keep hr
        rw [dgV_len] at hrg
        rw [hr] at hrg ⊢
        have HRG := Keep.keep hrg
        have hjs := layB_size x.m (fun y hy => (HTG.out y hy).2)
        have hsm : sumT x.m ≤ 10000 := by
          have := sumT_le x.m (fun y hy => (HTG.out y hy).1)
          have := HOK.out.few
          omega
        have hsz2 := HOK2.out.sizeS
        rw [hjs] at hsz2
        have HSZ2 := Keep.keep hsz2
        have HSM := Keep.keep hsm
        obtain ⟨nm, hnm⟩ : ∃ nm, x.m.length = nm := ⟨_, rfl⟩
        rw [hnm] at HRG
        clear hrg hb13 hs13 hr hjs hsm hsz2 hnm
        simp only [Act.put, List.setIfInBounds_toArray, List.set_cons_succ, List.set_cons_zero]
        go_wp2_with fail
        go_loopg [21] nm (fun g u21 wx => ∃ (todo : Tx → Bool), RgS wx 9 b10 r (dgV x.m) todo g ∧ u21 = .int .i64 ((8 + sumW x.m todo : Nat) : Int) ∧ Below w12.heap.size w12 wx)
        case atStart => exact ⟨_, HRG.out, by rw [sumW_start]; rfl, HB13.out⟩
        case round =>
          obtain ⟨todo, hrg, rfl, hb⟩ := hrel
          have HRG2 := Keep.keep hrg; have HB := Keep.keep hb
          clear hrg hb HRG HB13
          go_wp2_with (first | (with_reducible refine arm_sRange ?_) | (with_reducible refine arm_sNext ?_) | (with_reducible refine arm_sDel ?_) | (with_reducible refine arm_sPut ?_) | (with_reducible refine arm_sIns ?_))
          refine StM.out ?_
          refine arm_nextS Tryz.underlying9 HRG2.out rfl ?_ ?_
          · intro h0 hall
            rw [sumW_all hall]
            have hls := logsize_any (HLI12.out.on HB.out)
            rw [HSZ2.out] at hls
            have HLS := Keep.keep hls
            clear h0 hall hls
            generalize 8 + sumT x.m = sz at *
            simp only [Act.put, List.setIfInBounds_toArray, List.set_cons_succ, List.set_cons_zero]
            go_wp2_with fail
            refine HLS.out.mono ?_
            rintro e w14 ⟨rfl, hb14⟩
            have HB14 : Keep (Below w.heap.size w w14) := ⟨HB12.out.trans ((HB.out.trans (hb14.mono HB.out.size)).mono HB12.out.size)⟩
            have HTE := Keep.keep (tells_any (HT.out.on HB14.out))
            clear hb14 HLS
            go_wp2_with fail
            refine HTE.out.mono ?_
            rintro e w15 ⟨rfl, hb15⟩
            have HB15 : Keep (Below w.heap.size w w15) := ⟨HB14.out.trans (hb15.mono HB14.out.size)⟩
            clear hb15 HTE
            go_wp2_with fail
            go_ret
            exact ⟨rfl, HB15.out⟩
          · intro p v w4 cnt' h1 h2 h3 h4 h5 h6 hen
            obtain ⟨gd, hln, hve⟩ : ∃ n, SM.look x.m p = some n ∧ v = .agg (bcells n).toArray := by
              rw [dgV_look] at h2
              cases hl : SM.look x.m p with
              | none => rw [hl] at h2; cases h2
              | some n => rw [hl] at h2; injection h2 with h2; exact ⟨n, rfl, h2.symm⟩
            have HB4 : Keep (Below w12.heap.size w12 w4) := ⟨HB.out.trans ((h5.lower HB.out.size).below (fun k hk e => by have := HR.out; omega))⟩
            have hst := sumW_step HOK.out.srt h1 hln
            have hpl : p.length ≤ 64 := (HTG.out (p, gd) (SM.look_mem hln)).1
            have hsw : sumW x.m todo ≤ 10000 := by have := sumW_le todo x.m; have := HSM.out; omega
            have HRG4 := Keep.keep h3
            have HSS := Keep.keep hst
            obtain ⟨ca, hca⟩ : ∃ ca, (bcells gd).toArray = ca := ⟨_, rfl⟩
            rw [hca] at hve
            clear h1 h2 h3 h5 h6 HRG2 hln hca hst
            subst hve
            generalize sumW x.m todo = sw at *
            simp only [Act.put, List.setIfInBounds_toArray, List.set_cons_succ, List.set_cons_zero]
            go_wp2_with fail
            go_roundg cnt'
            case measure => exact h4
            case rel => exact ⟨_, HRG4.out, by rw [HSS.out]; refine congrArg (Value.int .i64) ?_; push_cast; omega, HB4.out⟩
    | succ g =>
      have hj : j < lg.length := by omega
      have hbd : (lg[j]).length ≤ 98 := HOK.out.bd _ (List.getElem_mem hj)
      have hsu := endB_succ lg j hj
      have hle := endB_le lg (j + 1)
      obtain ⟨c0, hc0, hc0n⟩ := jrn_b0 lg j hj hbd
      have hc1 := jrn_b1 lg j hj hbd
      rw [HJ.out] at hc0 hc1
      have hll : lg.length ≤ 200 := by have := HOK.out.len; omega
      have HLN : Keep (lastN lg k (j + 1) = if 8 + endB lg (j + 1) ≤ k then 8 + endB lg (j + 1) else lastN lg k j) := ⟨rfl⟩
      have HHN := Keep.keep (hasN_succ lg j)
      have hNN := HN.out
      have hrx : Reads wr (fun j => w2.heap.size ≤ j ∧ j < w3.heap.size) (.slice a3 n3 c3) J := HO3.out.below HBX.out (fun j hj => hj.2)
      obtain ⟨bN, oN, hab⟩ : ∃ b off, a3 = some ⟨b, off, none⟩ := by
        obtain ⟨a8', c8', hv8, q1, q2, q3⟩ := hrx.shape
        injection hv8 with e1 e2 e3
        rcases q3 with q3 | ⟨b, off, q3, -⟩
        · omega
        · exact ⟨b, off, by rw [e1, q3]⟩
      subst hab
      have hcell0 : wr.cell? ⟨bN, oN + (8 + endB lg j), none⟩ = some (.int .u8 (c0.toNat : Int)) := by
        have hlt : 8 + endB lg j < J.length := (List.getElem?_eq_some_iff.1 hc0).1
        have := hrx.cell bN oN _ _ rfl (8 + endB lg j) hlt
        rw [(List.getElem?_eq_some_iff.1 hc0).2] at this
        exact this
      have hcell1 : wr.cell? ⟨bN, oN + (8 + endB lg j + 1), none⟩ = some (.int .u8 0) := by
        have hlt : 8 + endB lg j + 1 < J.length := (List.getElem?_eq_some_iff.1 hc1).1
        have := hrx.cell bN oN _ _ rfl (8 + endB lg j + 1) hlt
        rw [(List.getElem?_eq_some_iff.1 hc1).2] at this
        exact this
      rw [hc0n] at hcell0
      generalize (lg[j]).length = bl at *
      obtain ⟨at2, hat2⟩ : ∃ at2, 8 + endB lg (j + 1) = at2 := ⟨_, rfl⟩
      have HAT2 := Keep.keep hat2
      rw [hat2] at HLN HHN
      have hae : 8 + endB lg j + (8 + bl) = at2 := by omega
      obtain ⟨at1, hat1⟩ : ∃ at1, 8 + endB lg j = at1 := ⟨_, rfl⟩
      rw [hat1] at hcell0 hcell1 hae ⊢
      obtain ⟨la, hla⟩ : ∃ la, lastN lg k j = la := ⟨_, rfl⟩
      rw [hla] at HLN ⊢
      have hlt2 : at2 ≤ n3 := by omega
      have hlt1 : (at1 : Int) < (n3 : Int) := by omega
      have hlt3 : (at1 : Int) + 1 < (n3 : Int) := by omega
      clear hc0 hc1 hc0n hrx hsu hle hat2 hat1 hla hNN
      go_upto_region 12 with fail
      (refine wp_region_quiet_lit (by kernel_rfl) (by kernel_rfl) ?_); (repeat (first | (fail) | go_big_quiet_step (fail))); (refine wpQuiet_nil ?_); (intro _ hwq); (obtain ⟨nq, hwq⟩ := hwq); (subst hwq)
      have hb1' := below_drewN' (Below.refl wr.heap.size wr) nq
      generalize wr.drewN nq = wy at *
      have HMIY : Keep (MapI wy 3 b9 (1 + j) (hasN lg j)) := ⟨HMI.out.loc (hb1'.block _ HMI.out.lt)⟩
      have HBY : Keep (Below w3.heap.size w3 wy) := ⟨HBX.out.trans (hb1'.mono HBX.out.size)⟩
      have hsum : (at1 : Int) + (8 + (bl : Int)) = (at2 : Int) := by omega
      clear hb1' hcell0 hcell1 HMI HBX
      go_wp2_with (first | (with_reducible refine arm_sRange ?_) | (with_reducible refine arm_sNext ?_) | (with_reducible refine arm_sDel ?_) | (with_reducible refine arm_sPut ?_) | (with_reducible refine arm_sIns ?_))
      refine StM.out ?_
      refine arm_putI Tryz.underlying3 Tryz.underlying33 HMIY.out (y := (at2 : Int)) (wf_nat (by omega)) (by unfold maxLen; omega) rfl rfl rfl ?_
      intro w7 h7 hc7
      have HM7 : Keep (MapI w7 3 b9 (1 + (j + 1)) (hasN lg (j + 1))) := ⟨by rw [HHN.out]; exact h7⟩
      have HB7 : Keep (Below w3.heap.size w3 w7) := ⟨by
        have h2 := hc7.lower HBY.out.size
        exact HBY.out.trans (h2.below (fun j hj e => by have := HB9.out; omega))⟩
      clear h7 hc7 HMIY HBY
      simp only [Act.put]
      by_cases hak : at2 ≤ k
      · have hakz : (at2 : Int) ≤ (k : Int) := by omega
        rw [if_pos hak] at HLN
        clear hak
        go_wp2_with fail
        go_roundg g
        case measure => omega
        case rel => exact ⟨j + 1, by omega, by rw [HLN.out], by rw [HAT2.out], HM7, HB7⟩
      · have hakz : ¬ (at2 : Int) ≤ (k : Int) := by omega
        rw [if_neg hak] at HLN
        clear hak
        go_wp2_with fail
        go_roundg g
        case measure => omega
        case rel => exact ⟨j + 1, by omega, by rw [HLN.out], by rw [HAT2.out], HM7, HB7⟩
end Go.Proofs.YtmkofejijkabnaaGreatDoor
/- TagsParts: what a journal's beginning tells is what its whole frames say; it is torn just if it ends within one; a journal that is laid anew tells the same, and has a frame for each tag. Of the law itself, in the program's form in Lean. -/
namespace Go.Proofs.YtmkofejijkabnaaGreatDoor
open Go.RowKit
theorem parts_law_any {w : World} {v : Value} {l : List ClV} (hr : RdV w (· < w.heap.size) 5 v l.length (ccells l)) (ht : ∀ y ∈ l, y.tag.length ≤ maxLen) (hT : CrcT w) (c : Nat) (hc : c ≤ 65535) :
    Calls Tryz.prog 3 #[v, .int .u16 (c : Int)] w fun e w' => e = .returned (.bool true) ∧ Below w.heap.size w w' := parts_any hr ht hT c hc
end Go.Proofs.YtmkofejijkabnaaGreatDoor
/- WHAT THE ROWS' LISTED VARIABLE GIVES: the table of crc; a world that holds it; arguments that are slices of calls, opened. -/
namespace Go.Proofs.YtmkofejijkabnaaGreatDoor
open Go.ChangeShapes Go.WideShapes Go.ChangeAt Go.RowKit
set_option maxRecDepth 100000 in
theorem crc_of_laid {W : World} (h : laidMetH Tryz.prog [("portolan/crc.table", Rows.laid_portolan_crc_table)] W) : CrcT W := by
  obtain ⟨ps, hlv, _⟩ := h
  have t1 := tab_of_laid (g := 0) (t := 239) (e := 148) (n := 16) (k := .u32) (zs := crcT.map fun x : Nat => (x : Int)) (by kernel_rfl) (by kernel_rfl) Tryz.underlying239 Tryz.underlying148 (by kernel_rfl) (by kernel_rfl) (rest := []) ⟨ps, hlv⟩
  refine ⟨fun i hi => ?_, World.block_lt_of_cell? W _ (t1.cell (g := 0) (by kernel_rfl) 0 (by decide))⟩
  have := t1.cell (g := 0) (by kernel_rfl) i (by simpa [crcT] using hi)
  rw [this]
  congr 2
  unfold tabN
  simp [List.getD_eq_getElem?_getD, show i < crcT.length from hi]
/-- A WORLD FOR THE WITNESS -/
def layRow (c : Array Value) : Obj → Obj
  | .cells _ t frozen => .cells c t frozen
  | o => o
noncomputable def laidWorld (os : Os) : World :=
  { World.holding Tryz.prog os ⟨#[], #[], []⟩ with heap := Array.modify (World.holding Tryz.prog os ⟨#[], #[], []⟩).heap 0 (layRow (crcT.map fun x : Nat => Value.int .u32 (x : Int)).toArray) }
theorem cell_spot {w : World} {a : Addr} {v : Value} (h : w.cell? a = some v) : a.spot = none ∧ a.block < w.heap.size := by
  unfold World.cell? at h
  split at h
  · rename_i c e fr hb
    split at h
    · cases h
    · rename_i hs
      exact ⟨by simpa using hs, (Array.getElem?_eq_some_iff.1 hb).1⟩
  · cases h
section
variable {H : Type} {enc : TypeId × Value → H} {W : World} {fuel : Nat} {x : DataW H × List MemPlace}
set_option maxRecDepth 100000 in
/-- a slice of rows of k cells -/
theorem slice_of_trod {α : Type} [Inhabited α] {t e : TypeId} {k : Nat} (ht : Tryz.prog.underlying t = some (.slice e)) (hk : Tryz.prog.cellsOf e = k) (hk0 : 0 < k) (cl : α → List Value) (hcl : ∀ a, (cl a).length = k) (p : α → Prop) (cells : List α → List Value) (hlen : ∀ l, (cells l).length = l.length * k)
    (hcells : ∀ (l : List α) (j i : Nat) (h : j < l.length), i < k → (cells l)[j * k + i]? = (cl l[j])[i]?)
    (hel : ∀ (n : Nat) (cs : List Value) (y : DataW H × List MemPlace), DataW.trod enc Tryz.prog W 0 (fun _ => true) true n e cs = some y → ∃ a, cs = cl a ∧ p a)
    {v : Value} (hf : DataW.trod enc Tryz.prog W 0 (fun _ => true) true fuel t [v] = some x) : ∃ l : List α, RdV W (· < W.heap.size) k v l.length (cells l) ∧ ∀ a ∈ l, p a := by
  rcases Deep.open_slice ht hf with ⟨hcs, _⟩ | ⟨⟨b, off, sp⟩, len, cap, m, n, D, Pl, hcs, _, hl, hm, hmm, _, hx⟩
  · injection hcs with hcs _
    subst hcs
    refine ⟨[], ⟨by simp [hlen], ⟨_, _, rfl, Nat.zero_le _, Nat.zero_le _, .inl rfl⟩, fun _ _ _ _ e j u hu => by cases e⟩, fun a ha => (List.not_mem_nil ha).elim⟩
  · injection hcs with hcs _
    subst hcs
    simp only [if_true] at hmm
    rw [hk] at hx
    have key : ∀ i, i < m → ∃ a, (∀ j u, (cl a)[j]? = some u → W.cell? ((⟨b, off, sp⟩ : Addr).add (i * k + j)) = some u) ∧ p a := fun i hi => by
      obtain ⟨cs', h1, h2⟩ := hx i hi
      obtain ⟨_, hl', hcell⟩ := World.cells?_some h1
      obtain ⟨a, rfl, hp⟩ := hel _ _ _ h2
      refine ⟨a, fun j u hj => ?_, hp⟩
      have hjl := (List.getElem?_eq_some_iff.1 hj).1
      rw [hcl] at hjl
      have := hcell j hjl
      rw [Deep.add_add] at this
      rw [this]; exact hj
    obtain ⟨q, hq⟩ := Deep.choose_lt (α := α) key
    have hsp : cap = 0 ∨ (sp = none ∧ b < W.heap.size) := by
      rcases Nat.eq_zero_or_pos cap with h | h
      · exact .inl h
      · have h0 := (hq 0 (by omega)).1 0 ((cl (q 0))[0]'(by rw [hcl]; exact hk0)) (List.getElem?_eq_getElem _)
        rw [Nat.zero_mul, Nat.add_zero] at h0
        exact .inr (cell_spot h0)
    have hll : ((List.range len).map q).length = len := by simp
    refine ⟨(List.range len).map q, ⟨hlen _, ⟨_, cap, by rw [hll], by omega, hm, ?_⟩, ?_⟩, fun a ha => ?_⟩
    · rcases hsp with h | ⟨rfl, h⟩
      · exact .inl h
      · exact .inr ⟨b, off, rfl, h⟩
    · intro b' off' m' c' he j u hu
      injection he with e1 _ _; injection e1 with e1; injection e1 with e1 e2 e3; subst e1 e2 e3
      have hj := (List.getElem?_eq_some_iff.1 hu).1
      rw [hlen, hll] at hj
      have hil : j / k < len := Nat.div_lt_of_lt_mul (by rw [Nat.mul_comm]; exact hj)
      have hjk : j / k * k + j % k = j := Nat.div_add_mod' j k
      have hrg := hcells ((List.range len).map q) (j / k) (j % k) (by rw [hll]; exact hil) (Nat.mod_lt _ hk0)
      rw [hjk, hu] at hrg
      have hqi : ((List.range len).map q)[j / k]'(by rw [hll]; exact hil) = q (j / k) := by simp
      rw [hqi] at hrg
      have := (hq (j / k) (by omega)).1 (j % k) u hrg.symm
      rw [hjk, Addr.add_mid] at this
      exact this
    · obtain ⟨i, hi, rfl⟩ := List.mem_map.1 ha
      exact (hq i (by have := List.mem_range.1 hi; omega)).2
set_option maxRecDepth 100000 in
theorem call_of_trod {cs : List Value} (hf : DataW.trod enc Tryz.prog W 0 (fun _ => true) true fuel 73 cs = some x) : ∃ y : ClV, cs = (ccell y).toList ∧ y.tag.length ≤ maxLen := by
  obtain ⟨xs, k, -, -, hlen, hxs, hg⟩ := DataW.trod_struct Tryz.underlying73 hf
  have c1 : Tryz.prog.cellsOf 3 = 1 := by kernel_rfl
  have c2 : Tryz.prog.cellsOf 9 = 1 := by kernel_rfl
  have c3 : Tryz.prog.cellsOf 4 = 1 := by kernel_rfl
  have c4 : Tryz.prog.cellsOf 71 = 1 := by kernel_rfl
  have c5 : Tryz.prog.cellsOf 73 = 5 := by kernel_rfl
  rw [c5] at hlen
  obtain ⟨v0, v1, v2, v3, v4, rfl⟩ : ∃ v0 v1 v2 v3 v4, cs = [v0, v1, v2, v3, v4] := by
    match cs, hlen with
    | [v0, v1, v2, v3, v4], _ => exact ⟨v0, v1, v2, v3, v4, rfl⟩
  obtain ⟨y0, y1, y2, y3, y4, rfl⟩ : ∃ y0 y1 y2 y3 y4, xs = [y0, y1, y2, y3, y4] := by
    match xs, hxs with
    | [y0, y1, y2, y3, y4], _ => exact ⟨y0, y1, y2, y3, y4, rfl⟩
  have g0 := hg 0 _ rfl
  have g1 := hg 1 _ rfl
  have g2 := hg 2 _ rfl
  have g3 := hg 3 _ rfl
  have g4 := hg 4 _ rfl
  simp only [List.getElem_toArray, List.getElem_cons_succ, List.getElem_cons_zero, c1, c2, c3, c4, List.drop_succ_cons, List.drop_zero, List.take_succ_cons, List.take_zero, List.getElem?_cons_zero, List.getElem?_cons_succ] at g0 g1 g2 g3 g4
  obtain ⟨n0, h0, _, _⟩ := DataW.trod_int Tryz.underlying3 g0
  obtain ⟨n1, h1, _, _⟩ := DataW.trod_int Tryz.underlying3 g1
  obtain ⟨⟨⟨tg⟩⟩, h2, _, hm⟩ := DataW.trod_string Tryz.underlying9 g2
  obtain ⟨bn, h3, _⟩ := DataW.trod_bool Tryz.underlying4 g3
  obtain ⟨pa, pn, pc, h4⟩ : ∃ a n c, v4 = .slice a n c := by
    rcases Deep.open_slice Tryz.underlying71 g4 with ⟨hcs, _⟩ | ⟨a, len, cap, m, n, D, Pl, hcs, _⟩
    · injection hcs with hcs _
      exact ⟨_, _, _, hcs⟩
    · injection hcs with hcs _
      exact ⟨_, _, _, hcs⟩
  injection h0 with h0 _; injection h1 with h1 _; injection h2 with h2 _; injection h3 with h3 _
  subst h0 h1 h2 h3 h4
  exact ⟨⟨n0, n1, tg, bn, pa, pn, pc⟩, rfl, hm⟩
set_option maxRecDepth 100000 in
theorem opened_calls {r : Reach} {base : Nat} {v : Value} {d : DataW H} {p : List MemPlace} (hok : Value.okWide Tryz.prog W r base 22 v) (h0 : DataW.Trod enc Tryz.prog W 0 (fun _ => true) true 22 v d p) :
    ∃ l : List ClV, RdV W (· < W.heap.size) 5 v l.length (ccells l) ∧ ∀ y ∈ l, y.tag.length ≤ maxLen := by
  obtain ⟨fuel, hf⟩ := h0
  obtain ⟨a, n, c, rfl⟩ := okWide_slice Tryz.underlying22 hok
  exact slice_of_trod (α := ClV) (k := 5) Tryz.underlying22 (by kernel_rfl) (by decide) (fun y => (ccell y).toList) ccell_len (fun y => y.tag.length ≤ maxLen) ccells ccells_length (fun l j i h hi => by rw [ccells_get l j i h hi]; simp) (fun n cs y h => call_of_trod h) hf
end
theorem okU16 {P : Program} {w : World} {r : Reach} {base : Nat} {t : TypeId} {v : Value} (ht : P.underlying t = some (.int .u16)) (h : Value.okWide P w r base t v) : ∃ n : Nat, v = .int .u16 (n : Int) ∧ n ≤ 65535 := by
  simp only [Value.okWide, ht, Cell.okWide] at h
  have hm1 : IntKind.u16.min = 0 := rfl
  have hm2 : IntKind.u16.max = 65535 := rfl
  cases v <;> simp only [Cell.ok, ht] at h
  rename_i k x
  obtain ⟨rfl, h1, h2⟩ := h
  rw [hm1] at h1; rw [hm2] at h2
  exact ⟨x.toNat, by congr 1; omega, by omega⟩
end Go.Proofs.YtmkofejijkabnaaGreatDoor
