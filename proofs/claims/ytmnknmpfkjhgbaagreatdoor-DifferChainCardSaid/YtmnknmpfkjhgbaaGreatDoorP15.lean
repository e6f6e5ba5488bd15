/- PARTS OF ONE PROOF, set in one file: LawD20, LawD20T, RfLaw, TreeCopy, TreeSame. Each part tells its own conditions. -/
import Derived.RangeFuncNested
import Derived.RangeFuncBound
import Derived.Test.YtmnknmpfkjhgbaaGreatDoorP1
import Derived.Test.YtmnknmpfkjhgbaaGreatDoorP7
import Derived.Test.YtmnknmpfkjhgbaaGreatDoorP8
import Derived.Test.YtmnknmpfkjhgbaaGreatDoorP12
import Derived.Test.YtmnknmpfkjhgbaaGreatDoorP14
/- portolanlaw20: small, paths, tells. -/
namespace Go.Proofs.YtmnknmpfkjhgbaaGreatDoor
open Go.RowKit
theorem growT_sub : ∀ (n : Nat) (P : List Mb), P.length = n → ∀ x, x ∈ growT P → x ∈ P := by
  intro n
  induction n with
  | zero =>
    intro P h x hx
    obtain rfl := List.eq_nil_of_length_eq_zero h
    exact hx
  | succ n ih =>
    intro P h x hx
    obtain ⟨Q, m, rfl⟩ : ∃ Q m, P = Q ++ [m] := ⟨P.dropLast, P.getLast (by intro e; rw [e] at h; cases h), (List.dropLast_concat_getLast _).symm⟩
    rw [growT_snoc, SM.mem_put] at hx
    rcases hx with rfl | ⟨hx, _⟩
    · simp
    · exact List.mem_append_left _ (ih Q (by simpa using h) x hx)
theorem newT_well {P t : List Mb} (h : newT P = (0, some t)) : WellL t := by
  unfold newT at h
  split at h
  · cases h
  · rename_i h1
    split at h
    · cases h
    · split at h
      · cases h
      · rename_i h3
        split at h
        · cases h
        · injection h with _ h; injection h with h; subst h
          refine ⟨growT_srt P, fun x hx => ?_, fun x hx => ?_⟩
          · have hm := growT_sub _ P rfl x hx
            cases hq : mayM x with
            | true => rfl
            | false => exact (h1 (List.any_eq_true.2 ⟨x, hm, by rw [hq]; rfl⟩)).elim
          · have hm := growT_sub _ P rfl x hx
            cases hq : dirT (growT P) (parentP x.1) with
            | true => rfl
            | false => exact (h3 (List.any_eq_true.2 ⟨x, hm, by rw [hq]; rfl⟩)).elim
set_option maxHeartbeats 1000000 in
set_option maxRecDepth 100000 in
theorem small_any (v : Value) (l : List Mv) (B : Nat) (w : World) (hT : Tabs B w) (hr : Mbs w (· < w.heap.size) (· < w.heap.size) v l) (hs : ∀ x ∈ l, Sm x.1) (hl : l.length ≤ 1000000) {t : List Mb} (ht : newT (l.map (·.1)) = (0, some t)) :
    Calls Tryz.prog 20 #[v] w fun e w' => ∃ T mb Bk f, e = .returned (.pointer (some ⟨T, 0, none⟩)) ∧ TreeIn w' T mb Bk f t ∧ (w.heap.size ≤ T ∧ w.heap.size ≤ mb ∧ ∀ b, Bk b → Fresh w.heap.size w' b) ∧ Below w.heap.size w w' := by
  have HN := Keep.keep (new_tree v l B w hT hr hs hl)
  rw [ht] at HN
  obtain ⟨a, cap, hv, -⟩ := hr.rd.shape
  clear hT hr hs ht
  subst hv
  go_enter Tryz.func20, Tryz.ntmps20
  go_wp2_with fail
  refine HN.out.mono ?_
  rintro e w1 ⟨⟨pv, rfl, hnew⟩, hb⟩
  obtain ⟨T, mb, Bk, f, rfl, hti, h1, h2, h3⟩ := hnew
  have HR := Keep.keep (And.intro hti (And.intro (And.intro h1 (And.intro h2 h3)) hb))
  clear hti h1 h2 h3 hb HN
  go_wp2_with fail
  go_ret
  exact ⟨T, mb, Bk, f, rfl, HR.out.1, HR.out.2.1, HR.out.2.2⟩
def pathsS (l : List Mb) : Tx := l.flatMap fun m => m.1 ++ [32]
set_option maxHeartbeats 1000000 in
set_option maxRecDepth 100000 in
theorem paths_any (v : Value) (l : List Mv) (w : World) (hr : Mbs w (· < w.heap.size) (· < w.heap.size) v l) (hs : ∀ x ∈ l, x.1.1.length ≤ 400000) (hl : l.length ≤ 1000) :
    Calls Tryz.prog 24 #[v] w fun e w' => e = .returned (.string ⟨(pathsS (l.map (·.1))).toArray⟩) ∧ Below w.heap.size w w' := by
  obtain ⟨a, cap, hv, hcap, hmx, h3⟩ := hr.rd.shape
  have HR := Keep.keep hr; have H3 := Keep.keep h3; have HS := Keep.keep hs
  unfold maxLen at hmx
  clear hr h3 hs
  subst hv
  obtain ⟨S, hS⟩ : ∃ S, l.map (·.1) = S := ⟨_, rfl⟩
  have HSS := Keep.keep hS
  rw [hS]
  have HSL : Keep (S.length = l.length) := ⟨by rw [← hS, List.length_map]⟩
  obtain ⟨out, hout⟩ : ∃ out, pathsS S = out := ⟨_, rfl⟩
  have HOUT := Keep.keep hout
  rw [hout]
  clear hS hout
  go_enter Tryz.func24, Tryz.ntmps24
  go_wp2_with fail
  go_loopg [3, 8] l.length (fun g u3 u8 wx => ∃ (k : Nat) (acc : Tx), k + g = l.length ∧ u8 = .int .i64 (k : Int) ∧ u3 = .string ⟨acc.toArray⟩ ∧ pathsS (S.take k) = acc ∧ acc.length ≤ k * 400001 ∧ Below w.heap.size w wx)
  case atStart => exact ⟨0, [], by omega, rfl, rfl, rfl, Nat.le_refl _, Below.refl _ _⟩
  case round =>
    obtain ⟨k, acc, hkg, rfl, rfl, hac, hal, hb⟩ := hrel
    have HAC := Keep.keep hac; have HB := Keep.keep hb
    clear hac hb
    cases gk with
    | zero =>
      obtain rfl : k = l.length := by omega
      have HX : Keep (acc = out) := ⟨by rw [← HAC.out, ← HOUT.out, ← HSL.out, List.take_length]⟩
      go_wp2_with fail
      go_ret
      exact ⟨by rw [HX.out]; rfl, HB.out⟩
    | succ g =>
      have hk : k < l.length := by omega
      obtain ⟨b, off, rfl, hbl⟩ : ∃ b off, a = some ⟨b, off, none⟩ ∧ b < w.heap.size := by
        rcases H3.out with h | ⟨b, off, h, hb⟩
        · omega
        · exact ⟨b, off, h, hb⟩
      have hld := (HR.out.below HB.out (fun b hb => hb) (fun b hb => hb)).load hk
      have hkS : k < S.length := by rw [HSL.out]; exact hk
      have hSk : S[k] = l[k].1 := by simp [← HSS.out]
      have HTK : Keep (pathsS (S.take (k + 1)) = pathsS (S.take k) ++ (l[k].1.1 ++ [32])) := ⟨by
        unfold pathsS
        rw [List.take_succ_eq_append_getElem hkS, List.flatMap_append, hSk]
        simp⟩
      have hxp := HS.out l[k] (List.getElem_mem hk)
      have HND := Keep.keep (HR.out.nd l[k] (List.getElem_mem hk))
      clear hkS hSk
      generalize l[k] = x at *
      obtain ⟨⟨xp, ⟨kind, mode, uid, gid, time, attrs, data, link⟩⟩, av, dv⟩ := x
      obtain ⟨aa, la, ca, ad, ld, cd, e1, e2⟩ := HND.out.shape
      dsimp only at e1 e2 hxp HTK
      subst e1 e2
      have HMC : Keep (mcell ((xp, ⟨kind, mode, uid, gid, time, attrs, data, link⟩), .slice aa la ca, .slice ad ld cd) = #[.string ⟨xp.toArray⟩, .int .i64 kind, .int .u32 mode, .int .u32 uid, .int .u32 gid, .int .i64 time, .slice aa la ca, .slice ad ld cd, .string ⟨link.toArray⟩]) := ⟨rfl⟩
      rw [HMC.out] at hld
      have hkb : k * 400001 ≤ 1000 * 400001 := Nat.mul_le_mul_right _ (by omega)
      have hc1 := run_cat (P := Tryz.prog) xp [32] (by simp; omega)
      obtain ⟨xq, hxq⟩ : ∃ y, xp ++ [32] = y := ⟨_, rfl⟩
      have hxl : xq.length ≤ 400001 := by rw [← hxq]; simp; omega
      rw [hxq] at hc1 HTK
      have hc2 := run_cat (P := Tryz.prog) acc xq (by omega)
      obtain ⟨ac2, hac2⟩ : ∃ y, acc ++ xq = y := ⟨_, rfl⟩
      have hal2 : ac2.length ≤ (k + 1) * 400001 := by rw [← hac2, List.length_append]; omega
      have HA2 : Keep (pathsS (S.take (k + 1)) = ac2) := ⟨by rw [HTK.out, HAC.out, hac2]⟩
      rw [hac2] at hc2
      have HAL2 := Keep.keep hal2
      clear hxq hac2 hal hkb hxl hal2
      go_upto_region 5 with ((with_reducible refine arm_loadM hld ?_ ?_); (focus rfl); simp only [Act.put, List.setIfInBounds_toArray, List.set_cons_succ, List.set_cons_zero])
      obtain ⟨b5, hb5⟩ : ∃ b, wr.heap.size = b := ⟨_, rfl⟩
      refine wp_world (R := fun w2 => Hp NoM wr w2 [rowA b5 41 #[.string ⟨xp.toArray⟩, .int .i64 kind, .int .u32 mode, .int .u32 uid, .int .u32 gid, .int .i64 time, .slice aa la ca, .slice ad ld cd, .string ⟨link.toArray⟩]]) (by have := (Hp.begin NoM wr).newRow 41 #[.string ⟨xp.toArray⟩, .int .i64 kind, .int .u32 mode, .int .u32 uid, .int .u32 gid, .int .i64 time, .slice aa la ca, .slice ad ld cd, .string ⟨link.toArray⟩]; rw [hb5] at this; exact this) ?_
      intro w2 H2
      rw [hb5]
      have c0 := (H2.out.row 0 rfl).cell (i := 0) rfl
      have HB2 := Keep.keep (HB.out.trans (H2.out.below.mono HB.out.size))
      clear hld hb5
      go_wp2_with fail
      go_roundg g
      case measure => omega
      case rel => exact ⟨k + 1, ac2, by omega, by simp, rfl, HA2.out, HAL2.out, HB2.out⟩
/-- a File with bytes -/
def fileD (data : Tx) : Nd := ⟨2, 0, 0, 0, 0, [], data, []⟩
set_option maxHeartbeats 1000000 in
set_option maxRecDepth 100000 in
theorem tl1_any (p : Tx) (w : World) : Calls Tryz.prog 58 #[.string ⟨p.toArray⟩] w fun e w' => e = .returned (.agg (mbC (p, dirN) nilV nilV)) ∧ Below w.heap.size w w' := by
  have hb1 : ∀ w, (Instr.build 39 #[(0, .int .i64 1)]).run Tryz.prog w = .ok (.agg #[.int .i64 1, .int .u32 0, .int .u32 0, .int .u32 0, .int .i64 0, .slice none 0 0, .slice none 0 0, .string ⟨#[]⟩]) w := fun w => by kernel_rfl
  have hb3 : ∀ w, (Instr.build 41 #[(0, .string ⟨p.toArray⟩), (1, .agg #[.int .i64 1, .int .u32 0, .int .u32 0, .int .u32 0, .int .i64 0, .slice none 0 0, .slice none 0 0, .string ⟨#[]⟩])]).run Tryz.prog w = .ok (.agg #[.string ⟨p.toArray⟩, .int .i64 1, .int .u32 0, .int .u32 0, .int .u32 0, .int .i64 0, .slice none 0 0, .slice none 0 0, .string ⟨#[]⟩]) w := fun w => buildM (p, dirN) nilV nilV w
  have HX : Keep (mbC (p, dirN) nilV nilV = #[.string ⟨p.toArray⟩, .int .i64 1, .int .u32 0, .int .u32 0, .int .u32 0, .int .i64 0, .slice none 0 0, .slice none 0 0, .string ⟨#[]⟩]) := ⟨rfl⟩
  have HZ : Keep ((#[.string ⟨#[]⟩, .int .i64 0, .int .u32 0, .int .u32 0, .int .u32 0, .int .i64 0, .slice none 0 0, .slice none 0 0, .string ⟨#[]⟩] : Array Value).size = 9) := ⟨rfl⟩
  have HSZ : Keep ((#[.string ⟨p.toArray⟩, .int .i64 1, .int .u32 0, .int .u32 0, .int .u32 0, .int .i64 0, .slice none 0 0, .slice none 0 0, .string ⟨#[]⟩] : Array Value).size = 9) := ⟨rfl⟩
  have HON : Keep ((#[.string ⟨p.toArray⟩, .int .i64 1, .int .u32 0, .int .u32 0, .int .u32 0, .int .i64 0, .slice none 0 0, .slice none 0 0, .string ⟨#[]⟩] : Array Value).all (·.oneCell') = true) := ⟨by simp [Value.oneCell']⟩
  rw [HX.out]
  go_enter Tryz.func58, Tryz.ntmps58
  go_upto_region 1 with fail
  refine wp_world (R := fun w1 => Hp NoM w w1 [rowA w.heap.size 41 #[.string ⟨#[]⟩, .int .i64 0, .int .u32 0, .int .u32 0, .int .u32 0, .int .i64 0, .slice none 0 0, .slice none 0 0, .string ⟨#[]⟩]]) ((Hp.begin NoM w).newRow _ _) ?_
  intro w1 H1
  have HRW := Keep.keep (H1.out.row 0 rfl)
  have HB := Keep.keep ((Chg.of_below (M := NoM) H1.out.below))
  go_wp2_with ((with_reducible refine arm_storeRow HRW.out aggM HZ.out HSZ.out HON.out ?_ ?_ ?_); (focus rfl); (focus rfl); simp only [Act.put])
  exact bodyPost_ret (results_row (p := 2) (ty := 41) rfl (HRW.out.setRow _) aggM HSZ.out rfl) rfl ⟨rfl, (HB.out.setRow (.inl (Nat.le_refl _)) _).below (fun _ _ h => h)⟩
set_option maxHeartbeats 1000000 in
set_option maxRecDepth 100000 in
theorem tl2_any (p data : Tx) (hd : data.length ≤ 1000) (w : World) : Calls Tryz.prog 59 #[.string ⟨p.toArray⟩, .string ⟨data.toArray⟩] w fun e w' => ∃ dv, e = .returned (.agg (mbC (p, fileD data) nilV dv)) ∧ NdR w' (Fresh w.heap.size w') (fileD data) nilV dv ∧ Below w.heap.size w w' := by
  obtain ⟨n, hn⟩ : ∃ n, data.length = n := ⟨_, rfl⟩
  obtain ⟨cf, rf, mf, hcv, hcr⟩ := convS data n hn (by unfold maxLen; omega)
  have HCR := Keep.keep hcr
  have hb1 : ∀ a n c w, (Instr.build 39 #[(0, .int .i64 2), (6, .slice a n c)]).run Tryz.prog w = .ok (.agg #[.int .i64 2, .int .u32 0, .int .u32 0, .int .u32 0, .int .i64 0, .slice none 0 0, .slice a n c, .string ⟨#[]⟩]) w := fun a n c w => by kernel_rfl
  have hb3 : ∀ a n c w, (Instr.build 41 #[(0, .string ⟨p.toArray⟩), (1, .agg #[.int .i64 2, .int .u32 0, .int .u32 0, .int .u32 0, .int .i64 0, .slice none 0 0, .slice a n c, .string ⟨#[]⟩])]).run Tryz.prog w = .ok (.agg #[.string ⟨p.toArray⟩, .int .i64 2, .int .u32 0, .int .u32 0, .int .u32 0, .int .i64 0, .slice none 0 0, .slice a n c, .string ⟨#[]⟩]) w := fun a n c w => buildM (p, fileD data) nilV (.slice a n c) w
  have HZ : Keep ((#[.string ⟨#[]⟩, .int .i64 0, .int .u32 0, .int .u32 0, .int .u32 0, .int .i64 0, .slice none 0 0, .slice none 0 0, .string ⟨#[]⟩] : Array Value).size = 9) := ⟨rfl⟩
  have HX : Keep (∀ a n c, mbC (p, fileD data) nilV (.slice a n c) = #[.string ⟨p.toArray⟩, .int .i64 2, .int .u32 0, .int .u32 0, .int .u32 0, .int .i64 0, .slice none 0 0, .slice a n c, .string ⟨#[]⟩]) := ⟨fun _ _ _ => rfl⟩
  clear hcr hn hd
  go_enter Tryz.func59, Tryz.ntmps59
  go_upto_region 1 with fail
  refine wp_world (R := fun w1 => Hp NoM w w1 [rowA w.heap.size 41 #[.string ⟨#[]⟩, .int .i64 0, .int .u32 0, .int .u32 0, .int .u32 0, .int .i64 0, .slice none 0 0, .slice none 0 0, .string ⟨#[]⟩]]) ((Hp.begin NoM w).newRow _ _) ?_
  intro w1 H1
  obtain ⟨b0, hb0⟩ : ∃ b, w.heap.size = b := ⟨_, rfl⟩
  have HB0 := Keep.keep hb0
  rw [hb0] at H1 ⊢
  clear hb0
  go_wp2_with (with_reducible refine arm_sSt ?_)
  refine StM.out ?_
  refine wpList_world (R := fun w2 => Hp NoM w w2 [rowA b0 41 #[.string ⟨#[]⟩, .int .i64 0, .int .u32 0, .int .u32 0, .int .u32 0, .int .i64 0, .slice none 0 0, .slice none 0 0, .string ⟨#[]⟩]] ∧ Reads w2 (fun b => b = w1.heap.size) (.slice (some ⟨w1.heap.size, 0, none⟩) n (cf w1)) data ∧ w1.heap.size < w2.heap.size) ⟨H1.out.call (((Below.refl w1.heap.size w1).drew).alloc (Nat.le_refl _) _), HCR.out w1, Nat.lt_of_lt_of_le (Nat.lt_succ_self w1.heap.size) (Nat.le_of_eq (World.size_alloc w1 _).symm)⟩ ?_
  intro w2 H2
  obtain ⟨b7, hb7⟩ : ∃ b, w1.heap.size = b := ⟨_, rfl⟩
  have hs1 := (H1.out.row 0 rfl).lt
  have hsw := H1.out.size
  have HHB := Keep.keep HB0.out
  rw [hb7] at H2 hs1 hsw ⊢
  generalize cf w1 = c7 at *
  clear hb7 hcv H1 hb1 hb3
  have HRW := Keep.keep (H2.out.1.row 0 rfl)
  have HSZ : Keep ((#[.string ⟨p.toArray⟩, .int .i64 2, .int .u32 0, .int .u32 0, .int .u32 0, .int .i64 0, .slice none 0 0, .slice (some ⟨b7, 0, none⟩) n c7, .string ⟨#[]⟩] : Array Value).size = 9) := ⟨rfl⟩
  have HON : Keep ((#[.string ⟨p.toArray⟩, .int .i64 2, .int .u32 0, .int .u32 0, .int .u32 0, .int .i64 0, .slice none 0 0, .slice (some ⟨b7, 0, none⟩) n c7, .string ⟨#[]⟩] : Array Value).all (·.oneCell') = true) := ⟨by simp [Value.oneCell']⟩
  refine arm_storeRow HRW.out aggM HZ.out HSZ.out HON.out rfl rfl ?_
  simp only [Act.put]
  go_wp2_with fail
  have hch : Chg (fun k => k = b0) w2.heap.size w2 (w2.setRow b0 #[.string ⟨p.toArray⟩, .int .i64 2, .int .u32 0, .int .u32 0, .int .u32 0, .int .i64 0, .slice none 0 0, .slice (some ⟨b7, 0, none⟩) n c7, .string ⟨#[]⟩]) := Chg.setRow (M := fun k => k = b0) (.refl _ _ _) (.inr rfl) _
  refine bodyPost_ret (results_row (p := 4) (ty := 41) rfl (HRW.out.setRow _) aggM HSZ.out rfl) rfl ⟨.slice (some ⟨b7, 0, none⟩) n c7, rfl, ⟨RdV.ofNil, ?_⟩, ?_⟩
  · exact (H2.out.2.1.chg hch (fun b e => by subst e; exact ⟨H2.out.2.2, by omega⟩)).mono (fun b e => by subst e; exact ⟨by have := HB0.out; omega, by have := hch.size; have := H2.out.2.2; omega⟩)
  · exact ((Chg.of_below (M := NoM) H2.out.1.below).setRow (.inl (by have := HB0.out; omega)) _).below (fun _ _ h => h)
end Go.Proofs.YtmnknmpfkjhgbaaGreatDoor
/- portolanlaw20.tells: the chapter's rows. -/
namespace Go.Proofs.YtmnknmpfkjhgbaaGreatDoor
open Go.RowKit
/-- a tree at hand -/
def TrL (w : World) (T : Nat) (t : List Mb) : Prop := ∃ mb Bk f, TreeIn w T mb Bk f t ∧ ∀ b, Bk b → b < w.heap.size
theorem TrL.on {w w' : World} {T : Nat} {t : List Mb} (h : TrL w T t) (hb : Below w.heap.size w w') : TrL w' T t := by
  obtain ⟨mb, Bk, f, h1, h2⟩ := h
  exact ⟨mb, Bk, f, h1.loc (fun b hb' => hb.block b (by
    rcases hb' with rfl | rfl | h
    · exact h1.row.lt
    · exact h1.map.lt
    · exact h2 b h)), fun b hb' => Nat.lt_of_lt_of_le (h2 b hb') hb.size⟩
def NdL (w : World) (n : Nd) (av dv : Value) : Prop := NdR w (· < w.heap.size) n av dv
theorem NdL.on {w w' : World} {n : Nd} {av dv : Value} (h : NdL w n av dv) (hb : Below w.heap.size w w') : NdL w' n av dv := (h.below hb (fun _ hb => hb)).mono (fun _ hb' => Nat.lt_of_lt_of_le hb' hb.size)
theorem Of_tr {w : World} {Ta Tb : Nat} {A B : List Mb} (T : Nat) (hT : Tabs T w) (hA : WellL A) (hB : WellL B) (hLA : A.length ≤ 4095) (hLB : B.length ≤ 4095) (h1 : TrL w Ta A) (h2 : TrL w Tb B) :
    Calls Tryz.prog 9 #[.pointer (some ⟨Ta, 0, none⟩), .pointer (some ⟨Tb, 0, none⟩)] w fun e w' => ∃ v l, e = .returned (.tuple #[v, .int .i64 0]) ∧ OfL A B (l.map (·.1)) ∧ (l.map (·.1)).Perm (toldL A B) ∧ RowM w.heap.size NoM w' v l ∧ Below w.heap.size w w' := by
  obtain ⟨ta, Ba, fa, ha, hBa⟩ := h1
  obtain ⟨tb, Bb, fb, hb, hBb⟩ := h2
  refine (Of_any Ta ta Ba fa A Tb tb Bb fb B T w hT hA hB (by omega) hLB ha hBa hb hBb).mono ?_
  rintro e w' ⟨v, l, he, hp, hs, hr, hbb⟩
  exact ⟨v, l, he, of_leads hA hB hLB ha.sm hb.sm hp (by rw [List.pairwise_map]; exact hs), hp, hr, hbb⟩
theorem small_tr {w : World} {v : Value} {l : List Mv} (B : Nat) (hT : Tabs B w) (hr : Mbs w (· < w.heap.size) (· < w.heap.size) v l) (hs : ∀ x ∈ l, Sm x.1) (hl : l.length ≤ 1000000) {t : List Mb} (ht : newT (l.map (·.1)) = (0, some t)) :
    Calls Tryz.prog 20 #[v] w fun e w' => ∃ T, e = .returned (.pointer (some ⟨T, 0, none⟩)) ∧ TrL w' T t ∧ Below w.heap.size w w' := by
  refine (small_any v l B w hT hr hs hl ht).mono ?_
  rintro e w' ⟨T, mb, Bk, f, he, h1, h2, h3⟩
  exact ⟨T, he, ⟨mb, Bk, f, h1, fun b hb => (h2.2.2 b hb).2⟩, h3⟩
theorem told_is {A B L K1 K : List Mb} (hA : WellL A) (hB : WellL B) (hT : belF A B (ksU A B) 500000 [] = L) (hL : L.Perm K1) (hS : SM.Srt K1) (hp : K.Perm (toldL A B)) (hs : SM.Srt K) : K = K1 := by
  have h1 : (toldL A B).Perm L := by rw [← hT]; exact bel_perm (ksT_kids hA hB) (ksU_kids hA hB) 500000 []
  exact srt_mem hs hS (fun x => ((hp.trans h1).trans hL).mem_iff)
def tA1 : List Mb := [([100], dirN), ([100, 47, 97], fileD []), ([100, 47, 98], fileD []), ([100, 47, 99], fileD [])]
def tB1 : List Mb := [([100], dirN), ([100, 47, 97], fileD [120])]
def tA2 : List Mb := [([97], fileD [])]
def tB2 : List Mb := [([97], dirN), ([97, 47, 120], fileD [])]
def tA3 : List Mb := [([120], fileD []), ([121], fileD [])]
def tB3 : List Mb := [([120], fileD [])]
def tK1 : List Mb := [([100], dirN), ([100, 47, 46, 119, 104, 46, 46, 119, 104, 46, 46, 111, 112, 113], bareN), ([100, 47, 97], fileD [120])]
def tK2 : List Mb := [([97], dirN), ([97, 47, 120], fileD [])]
def tK3 : List Mb := [([46, 119, 104, 46, 121], bareN)]
set_option maxRecDepth 100000 in
theorem tn1 : newT tA1 = (0, some tA1) := by kernel_rfl
set_option maxRecDepth 100000 in
theorem tn2 : newT tB1 = (0, some tB1) := by kernel_rfl
set_option maxRecDepth 100000 in
theorem tn3 : newT tA2 = (0, some tA2) := by kernel_rfl
set_option maxRecDepth 100000 in
theorem tn4 : newT tB2 = (0, some tB2) := by kernel_rfl
set_option maxRecDepth 100000 in
theorem tn5 : newT tA3 = (0, some tA3) := by kernel_rfl
set_option maxRecDepth 100000 in
theorem tn6 : newT tB3 = (0, some tB3) := by kernel_rfl
set_option maxRecDepth 100000 in
theorem tt1 : belF tA1 tB1 (ksU tA1 tB1) 500000 [] = [([100, 47, 97], fileD [120]), ([100, 47, 46, 119, 104, 46, 46, 119, 104, 46, 46, 111, 112, 113], bareN), ([100], dirN)] := by kernel_rfl
set_option maxRecDepth 100000 in
theorem tt2 : belF tA2 tB2 (ksU tA2 tB2) 500000 [] = tK2 := by kernel_rfl
set_option maxRecDepth 100000 in
theorem tt3 : belF tA3 tB3 (ksU tA3 tB3) 500000 [] = tK3 := by kernel_rfl
theorem ts1 : SM.Srt tK1 := by unfold SM.Srt; decide
theorem ts2 : SM.Srt tK2 := by unfold SM.Srt; decide
theorem ts3 : SM.Srt tK3 := by unfold SM.Srt; decide
theorem tp1 : pathsS tK1 = [100, 32, 100, 47, 46, 119, 104, 46, 46, 119, 104, 46, 46, 111, 112, 113, 32, 100, 47, 97, 32] := by kernel_rfl
theorem tp2 : pathsS tK2 = [97, 32, 97, 47, 120, 32] := by kernel_rfl
theorem tp3 : pathsS tK3 = [46, 119, 104, 46, 121, 32] := by kernel_rfl
def MbL (w : World) (v : Value) (l : List Mv) : Prop := Mbs w (· < w.heap.size) (· < w.heap.size) v l
theorem MbL.on {w w' : World} {v : Value} {l : List Mv} (h : MbL w v l) (hb : Below w.heap.size w w') : MbL w' v l := (Mbs.below h hb (fun _ hb => hb) (fun _ hb => hb)).mono (fun _ hb' => Nat.lt_of_lt_of_le hb' hb.size) (fun _ hb' => Nat.lt_of_lt_of_le hb' hb.size)
theorem tl1_lit (p : Tx) (w : World) : Calls Tryz.prog 58 #[.string ⟨p.toArray⟩] w fun e w' => e = .returned (.agg #[.string ⟨p.toArray⟩, .int .i64 1, .int .u32 0, .int .u32 0, .int .u32 0, .int .i64 0, .slice none 0 0, .slice none 0 0, .string ⟨#[]⟩]) ∧ Below w.heap.size w w' := tl1_any p w
theorem tl2_lit (p data : Tx) (n : Nat) (hn : data.length = n) (hd : n ≤ 1000) (w : World) : Calls Tryz.prog 59 #[.string ⟨p.toArray⟩, .string ⟨data.toArray⟩] w fun e w' => ∃ a c, e = .returned (.agg #[.string ⟨p.toArray⟩, .int .i64 2, .int .u32 0, .int .u32 0, .int .u32 0, .int .i64 0, .slice none 0 0, .slice a n c, .string ⟨#[]⟩]) ∧ NdL w' (fileD data) nilV (.slice a n c) ∧ Below w.heap.size w w' := by
  refine (tl2_any p data (by omega) w).mono ?_
  rintro e w' ⟨dv, rfl, hn', hb⟩
  obtain ⟨a, c, he, -⟩ := hn'.dt.shape
  have he : dv = .slice a n c := by rw [he, ← hn]; rfl
  subst he
  exact ⟨a, c, rfl, hn'.mono (fun _ h => h.2), hb⟩
theorem dirL (w : World) : NdL w dirN nilV nilV := ndR_nil rfl rfl
theorem sm_dirN (p : Tx) (hp : p.length ≤ 1000) : Sm (p, dirN) := ⟨by simp; omega, by simp [dirN], by simp [dirN], by simp [dirN], fun x hx => by simp [dirN] at hx, by simp [dirN]⟩
theorem sm_fileD (p d : Tx) (hp : p.length ≤ 1000) (hd : d.length ≤ 1000) : Sm (p, fileD d) := ⟨by simp; omega, by simp [fileD], by simp [fileD]; omega, by simp [fileD], fun x hx => by simp [fileD] at hx, by simp [fileD]⟩
theorem MbL.ofRow {w : World} {v : Value} {l : List Mv} {B : Nat} (h : RowM B NoM w v l) : MbL w v l := h.mbs.mono (fun _ hb => hb.2) (fun _ hb => hb.2.1)
set_option maxHeartbeats 8000000 in
set_option maxRecDepth 100000 in
theorem dtells_any (B : Nat) (w : World) (hT : Tabs B w) : Calls Tryz.prog 19 #[] w fun e w' => e = .returned (.bool true) ∧ Below w.heap.size w w' := by
  have HT := Keep.keep hT
  have HW0 : Keep (Below w.heap.size w w) := ⟨Below.refl _ _⟩
  have hent1 : ∀ args w, (callFunc 58 args).run Tryz.prog w = .ok (.enter 58 args) w := enters_of Tryz.func58 (by kernel_rfl) rfl
  have hent2 : ∀ args w, (callFunc 59 args).run Tryz.prog w = .ok (.enter 59 args) w := enters_of Tryz.func59 (by kernel_rfl) rfl
  clear hT
  go_enter Tryz.func19, Tryz.ntmps19
  go_wp2_with fail
  refine (tl1_lit [100] _).mono ?_
  rintro e w1 ⟨rfl, hb⟩
  have HW1 := Keep.keep (HW0.out.trans (hb.mono HW0.out.size))
  clear hb
  go_wp2_with fail
  refine (tl2_lit [100, 47, 97] [] 0 rfl (by decide) _).mono ?_
  rintro e w2 ⟨a0, c0, rfl, hn, hb⟩
  have HW2 := Keep.keep (HW1.out.trans (hb.mono HW1.out.size))
  have HN0 := Keep.keep hn
  clear hn hb
  go_wp2_with fail
  refine (tl2_lit [100, 47, 98] [] 0 rfl (by decide) _).mono ?_
  rintro e w3 ⟨a1, c1, rfl, hn, hb⟩
  have HW3 := Keep.keep (HW2.out.trans (hb.mono HW2.out.size))
  have HN0' := Keep.keep (HN0.out.on hb)
  clear HN0
  have HN0 := HN0'
  clear HN0'
  have HN1 := Keep.keep hn
  clear hn hb
  go_wp2_with fail
  refine (tl2_lit [100, 47, 99] [] 0 rfl (by decide) _).mono ?_
  rintro e w4 ⟨a2, c2, rfl, hn, hb⟩
  have HW4 := Keep.keep (HW3.out.trans (hb.mono HW3.out.size))
  have HN0' := Keep.keep (HN0.out.on hb)
  clear HN0
  have HN0 := HN0'
  clear HN0'
  have HN1' := Keep.keep (HN1.out.on hb)
  clear HN1
  have HN1 := HN1'
  clear HN1'
  have HN2 := Keep.keep hn
  clear hn hb
  go_wp2_with fail
  refine calls_at (R := fun wq => Below w4.heap.size w4 wq ∧ RdV wq (· < wq.heap.size) 9 (.slice (some ⟨w4.heap.size, 0, none⟩) 4 4) 4 (mcells ([(([100], dirN), nilV, nilV), (([100, 47, 97], fileD []), nilV, .slice a0 0 c0), (([100, 47, 98], fileD []), nilV, .slice a1 0 c1), (([100, 47, 99], fileD []), nilV, .slice a2 0 c2)] : List Mv))) ⟨(Below.refl _ _).alloc (Nat.le_refl _) _, RdV.new 41 (mcells ([(([100], dirN), nilV, nilV), (([100, 47, 97], fileD []), nilV, .slice a0 0 c0), (([100, 47, 98], fileD []), nilV, .slice a1 0 c1), (([100, 47, 99], fileD []), nilV, .slice a2 0 c2)] : List Mv)) 9 4 _ rfl rfl (by unfold maxLen; omega) (by simp)⟩ ?_
  intro w5 Hq
  have hbq := Hq.out.1
  have HW5 := Keep.keep (HW4.out.trans (hbq.mono HW4.out.size))
  have HN0' := Keep.keep (HN0.out.on hbq)
  clear HN0
  have HN0 := HN0'
  clear HN0'
  have HN1' := Keep.keep (HN1.out.on hbq)
  clear HN1
  have HN1 := HN1'
  clear HN1'
  have HN2' := Keep.keep (HN2.out.on hbq)
  clear HN2
  have HN2 := HN2'
  clear HN2'
  refine (small_tr (v := .slice (some ⟨_, 0, none⟩) 4 4) (l := [(([100], dirN), nilV, nilV), (([100, 47, 97], fileD []), nilV, .slice a0 0 c0), (([100, 47, 98], fileD []), nilV, .slice a1 0 c1), (([100, 47, 99], fileD []), nilV, .slice a2 0 c2)]) B (HT.out.on (HW5.out.mono HT.out.b)) ⟨Hq.out.2, fun x hx => ?_⟩ (fun x hx => ?_) (by simp) tn1).mono ?_
  · simp only [List.mem_cons, List.not_mem_nil, or_false] at hx
    rcases hx with rfl | rfl | rfl | rfl
    · exact dirL _
    · exact HN0.out
    · exact HN1.out
    · exact HN2.out
  · simp only [List.mem_cons, List.not_mem_nil, or_false] at hx
    rcases hx with rfl | rfl | rfl | rfl
    · exact sm_dirN _ (by decide)
    · exact sm_fileD _ _ (by decide) (by decide)
    · exact sm_fileD _ _ (by decide) (by decide)
    · exact sm_fileD _ _ (by decide) (by decide)
  rintro e w6 ⟨T1, rfl, ht, hb⟩
  have HW6 := Keep.keep (HW5.out.trans (hb.mono HW5.out.size))
  have HN0' := Keep.keep (HN0.out.on hb)
  clear HN0
  have HN0 := HN0'
  clear HN0'
  have HN1' := Keep.keep (HN1.out.on hb)
  clear HN1
  have HN1 := HN1'
  clear HN1'
  have HN2' := Keep.keep (HN2.out.on hb)
  clear HN2
  have HN2 := HN2'
  clear HN2'
  have HT1 := Keep.keep ht
  clear ht hb hbq Hq
  clear HN0
  clear HN1
  clear HN2
  go_wp2_with fail
  refine (tl1_lit [100] _).mono ?_
  rintro e w7 ⟨rfl, hb⟩
  have HW7 := Keep.keep (HW6.out.trans (hb.mono HW6.out.size))
  have HT1' := Keep.keep (HT1.out.on hb)
  clear HT1
  have HT1 := HT1'
  clear HT1'
  clear hb
  go_wp2_with fail
  refine (tl2_lit [100, 47, 97] [120] 1 rfl (by decide) _).mono ?_
  rintro e w8 ⟨a3, c3, rfl, hn, hb⟩
  have HW8 := Keep.keep (HW7.out.trans (hb.mono HW7.out.size))
  have HT1' := Keep.keep (HT1.out.on hb)
  clear HT1
  have HT1 := HT1'
  clear HT1'
  have HN3 := Keep.keep hn
  clear hn hb
  go_wp2_with fail
  refine calls_at (R := fun wq => Below w8.heap.size w8 wq ∧ RdV wq (· < wq.heap.size) 9 (.slice (some ⟨w8.heap.size, 0, none⟩) 2 2) 2 (mcells ([(([100], dirN), nilV, nilV), (([100, 47, 97], fileD [120]), nilV, .slice a3 1 c3)] : List Mv))) ⟨(Below.refl _ _).alloc (Nat.le_refl _) _, RdV.new 41 (mcells ([(([100], dirN), nilV, nilV), (([100, 47, 97], fileD [120]), nilV, .slice a3 1 c3)] : List Mv)) 9 2 _ rfl rfl (by unfold maxLen; omega) (by simp)⟩ ?_
  intro w9 Hq
  have hbq := Hq.out.1
  have HW9 := Keep.keep (HW8.out.trans (hbq.mono HW8.out.size))
  have HT1' := Keep.keep (HT1.out.on hbq)
  clear HT1
  have HT1 := HT1'
  clear HT1'
  have HN3' := Keep.keep (HN3.out.on hbq)
  clear HN3
  have HN3 := HN3'
  clear HN3'
  refine (small_tr (v := .slice (some ⟨_, 0, none⟩) 2 2) (l := [(([100], dirN), nilV, nilV), (([100, 47, 97], fileD [120]), nilV, .slice a3 1 c3)]) B (HT.out.on (HW9.out.mono HT.out.b)) ⟨Hq.out.2, fun x hx => ?_⟩ (fun x hx => ?_) (by simp) tn2).mono ?_
  · simp only [List.mem_cons, List.not_mem_nil, or_false] at hx
    rcases hx with rfl | rfl
    · exact dirL _
    · exact HN3.out
  · simp only [List.mem_cons, List.not_mem_nil, or_false] at hx
    rcases hx with rfl | rfl
    · exact sm_dirN _ (by decide)
    · exact sm_fileD _ _ (by decide) (by decide)
  rintro e w10 ⟨T2, rfl, ht, hb⟩
  have HW10 := Keep.keep (HW9.out.trans (hb.mono HW9.out.size))
  have HT1' := Keep.keep (HT1.out.on hb)
  clear HT1
  have HT1 := HT1'
  clear HT1'
  have HN3' := Keep.keep (HN3.out.on hb)
  clear HN3
  have HN3 := HN3'
  clear HN3'
  have HT2 := Keep.keep ht
  clear ht hb hbq Hq
  clear HN3
  go_wp2_with fail
  refine (Of_tr B (HT.out.on (HW10.out.mono HT.out.b)) (newT_well tn1) (newT_well tn2) (by decide) (by decide) HT1.out HT2.out).mono ?_
  rintro e w11 ⟨v1, l1, rfl, ho, hp, hr, hb⟩
  have HW11 := Keep.keep (HW10.out.trans (hb.mono HW10.out.size))
  have HT1' := Keep.keep (HT1.out.on hb)
  clear HT1
  have HT1 := HT1'
  clear HT1'
  have HT2' := Keep.keep (HT2.out.on hb)
  clear HT2
  have HT2 := HT2'
  clear HT2'
  have HK1 : Keep (l1.map (·.1) = tK1) := ⟨told_is (newT_well tn1) (newT_well tn2) tt1 (List.isPerm_iff.1 (by kernel_rfl)) ts1 hp ho.srt⟩
  have HM1 : Keep (MbL w11 v1 l1) := ⟨MbL.ofRow hr⟩
  have HS1 : Keep (∀ x ∈ l1, x.1.1.length ≤ 400000) := ⟨fun x hx => (ho.sm x.1 (List.mem_map.2 ⟨x, hx, rfl⟩)).p⟩
  obtain ⟨ao1, co1, hv1, -⟩ := (ownsV_reads hr.own).shape
  have hln1 : l1.length = tK1.length := by rw [← HK1.out, List.length_map]
  rw [hln1] at hv1
  have HL1 := Keep.keep hln1
  clear ho hp hr hb hln1 HT1 HT2
  subst hv1
  go_wp2_with fail
  refine (tl2_lit [97] [] 0 rfl (by decide) _).mono ?_
  rintro e w12 ⟨a4, c4, rfl, hn, hb⟩
  have HW12 := Keep.keep (HW11.out.trans (hb.mono HW11.out.size))
  have HM1' := Keep.keep (HM1.out.on hb)
  clear HM1
  have HM1 := HM1'
  clear HM1'
  have HN4 := Keep.keep hn
  clear hn hb
  go_wp2_with fail
  refine calls_at (R := fun wq => Below w12.heap.size w12 wq ∧ RdV wq (· < wq.heap.size) 9 (.slice (some ⟨w12.heap.size, 0, none⟩) 1 1) 1 (mcells ([(([97], fileD []), nilV, .slice a4 0 c4)] : List Mv))) ⟨(Below.refl _ _).alloc (Nat.le_refl _) _, RdV.new 41 (mcells ([(([97], fileD []), nilV, .slice a4 0 c4)] : List Mv)) 9 1 _ rfl rfl (by unfold maxLen; omega) (by simp)⟩ ?_
  intro w13 Hq
  have hbq := Hq.out.1
  have HW13 := Keep.keep (HW12.out.trans (hbq.mono HW12.out.size))
  have HM1' := Keep.keep (HM1.out.on hbq)
  clear HM1
  have HM1 := HM1'
  clear HM1'
  have HN4' := Keep.keep (HN4.out.on hbq)
  clear HN4
  have HN4 := HN4'
  clear HN4'
  refine (small_tr (v := .slice (some ⟨_, 0, none⟩) 1 1) (l := [(([97], fileD []), nilV, .slice a4 0 c4)]) B (HT.out.on (HW13.out.mono HT.out.b)) ⟨Hq.out.2, fun x hx => ?_⟩ (fun x hx => ?_) (by simp) tn3).mono ?_
  · simp only [List.mem_cons, List.not_mem_nil, or_false] at hx
    rcases hx with rfl
    · exact HN4.out
  · simp only [List.mem_cons, List.not_mem_nil, or_false] at hx
    rcases hx with rfl
    · exact sm_fileD _ _ (by decide) (by decide)
  rintro e w14 ⟨T3, rfl, ht, hb⟩
  have HW14 := Keep.keep (HW13.out.trans (hb.mono HW13.out.size))
  have HM1' := Keep.keep (HM1.out.on hb)
  clear HM1
  have HM1 := HM1'
  clear HM1'
  have HN4' := Keep.keep (HN4.out.on hb)
  clear HN4
  have HN4 := HN4'
  clear HN4'
  have HT3 := Keep.keep ht
  clear ht hb hbq Hq
  clear HN4
  go_wp2_with fail
  refine (tl1_lit [97] _).mono ?_
  rintro e w15 ⟨rfl, hb⟩
  have HW15 := Keep.keep (HW14.out.trans (hb.mono HW14.out.size))
  have HM1' := Keep.keep (HM1.out.on hb)
  clear HM1
  have HM1 := HM1'
  clear HM1'
  have HT3' := Keep.keep (HT3.out.on hb)
  clear HT3
  have HT3 := HT3'
  clear HT3'
  clear hb
  go_wp2_with fail
  refine (tl2_lit [97, 47, 120] [] 0 rfl (by decide) _).mono ?_
  rintro e w16 ⟨a5, c5, rfl, hn, hb⟩
  have HW16 := Keep.keep (HW15.out.trans (hb.mono HW15.out.size))
  have HM1' := Keep.keep (HM1.out.on hb)
  clear HM1
  have HM1 := HM1'
  clear HM1'
  have HT3' := Keep.keep (HT3.out.on hb)
  clear HT3
  have HT3 := HT3'
  clear HT3'
  have HN5 := Keep.keep hn
  clear hn hb
  go_wp2_with fail
  refine calls_at (R := fun wq => Below w16.heap.size w16 wq ∧ RdV wq (· < wq.heap.size) 9 (.slice (some ⟨w16.heap.size, 0, none⟩) 2 2) 2 (mcells ([(([97], dirN), nilV, nilV), (([97, 47, 120], fileD []), nilV, .slice a5 0 c5)] : List Mv))) ⟨(Below.refl _ _).alloc (Nat.le_refl _) _, RdV.new 41 (mcells ([(([97], dirN), nilV, nilV), (([97, 47, 120], fileD []), nilV, .slice a5 0 c5)] : List Mv)) 9 2 _ rfl rfl (by unfold maxLen; omega) (by simp)⟩ ?_
  intro w17 Hq
  have hbq := Hq.out.1
  have HW17 := Keep.keep (HW16.out.trans (hbq.mono HW16.out.size))
  have HM1' := Keep.keep (HM1.out.on hbq)
  clear HM1
  have HM1 := HM1'
  clear HM1'
  have HT3' := Keep.keep (HT3.out.on hbq)
  clear HT3
  have HT3 := HT3'
  clear HT3'
  have HN5' := Keep.keep (HN5.out.on hbq)
  clear HN5
  have HN5 := HN5'
  clear HN5'
  refine (small_tr (v := .slice (some ⟨_, 0, none⟩) 2 2) (l := [(([97], dirN), nilV, nilV), (([97, 47, 120], fileD []), nilV, .slice a5 0 c5)]) B (HT.out.on (HW17.out.mono HT.out.b)) ⟨Hq.out.2, fun x hx => ?_⟩ (fun x hx => ?_) (by simp) tn4).mono ?_
  · simp only [List.mem_cons, List.not_mem_nil, or_false] at hx
    rcases hx with rfl | rfl
    · exact dirL _
    · exact HN5.out
  · simp only [List.mem_cons, List.not_mem_nil, or_false] at hx
    rcases hx with rfl | rfl
    · exact sm_dirN _ (by decide)
    · exact sm_fileD _ _ (by decide) (by decide)
  rintro e w18 ⟨T4, rfl, ht, hb⟩
  have HW18 := Keep.keep (HW17.out.trans (hb.mono HW17.out.size))
  have HM1' := Keep.keep (HM1.out.on hb)
  clear HM1
  have HM1 := HM1'
  clear HM1'
  have HT3' := Keep.keep (HT3.out.on hb)
  clear HT3
  have HT3 := HT3'
  clear HT3'
  have HN5' := Keep.keep (HN5.out.on hb)
  clear HN5
  have HN5 := HN5'
  clear HN5'
  have HT4 := Keep.keep ht
  clear ht hb hbq Hq
  clear HN5
  go_wp2_with fail
  refine (Of_tr B (HT.out.on (HW18.out.mono HT.out.b)) (newT_well tn3) (newT_well tn4) (by decide) (by decide) HT3.out HT4.out).mono ?_
  rintro e w19 ⟨v2, l2, rfl, ho, hp, hr, hb⟩
  have HW19 := Keep.keep (HW18.out.trans (hb.mono HW18.out.size))
  have HM1' := Keep.keep (HM1.out.on hb)
  clear HM1
  have HM1 := HM1'
  clear HM1'
  have HT3' := Keep.keep (HT3.out.on hb)
  clear HT3
  have HT3 := HT3'
  clear HT3'
  have HT4' := Keep.keep (HT4.out.on hb)
  clear HT4
  have HT4 := HT4'
  clear HT4'
  have HK2 : Keep (l2.map (·.1) = tK2) := ⟨told_is (newT_well tn3) (newT_well tn4) tt2 (List.Perm.refl _) ts2 hp ho.srt⟩
  have HM2 : Keep (MbL w19 v2 l2) := ⟨MbL.ofRow hr⟩
  have HS2 : Keep (∀ x ∈ l2, x.1.1.length ≤ 400000) := ⟨fun x hx => (ho.sm x.1 (List.mem_map.2 ⟨x, hx, rfl⟩)).p⟩
  obtain ⟨ao2, co2, hv2, -⟩ := (ownsV_reads hr.own).shape
  have hln2 : l2.length = tK2.length := by rw [← HK2.out, List.length_map]
  rw [hln2] at hv2
  have HL2 := Keep.keep hln2
  clear ho hp hr hb hln2 HT3 HT4
  subst hv2
  go_wp2_with fail
  refine (tl2_lit [120] [] 0 rfl (by decide) _).mono ?_
  rintro e w20 ⟨a6, c6, rfl, hn, hb⟩
  have HW20 := Keep.keep (HW19.out.trans (hb.mono HW19.out.size))
  have HM1' := Keep.keep (HM1.out.on hb)
  clear HM1
  have HM1 := HM1'
  clear HM1'
  have HM2' := Keep.keep (HM2.out.on hb)
  clear HM2
  have HM2 := HM2'
  clear HM2'
  have HN6 := Keep.keep hn
  clear hn hb
  go_wp2_with fail
  refine (tl2_lit [121] [] 0 rfl (by decide) _).mono ?_
  rintro e w21 ⟨a7, c7, rfl, hn, hb⟩
  have HW21 := Keep.keep (HW20.out.trans (hb.mono HW20.out.size))
  have HM1' := Keep.keep (HM1.out.on hb)
  clear HM1
  have HM1 := HM1'
  clear HM1'
  have HM2' := Keep.keep (HM2.out.on hb)
  clear HM2
  have HM2 := HM2'
  clear HM2'
  have HN6' := Keep.keep (HN6.out.on hb)
  clear HN6
  have HN6 := HN6'
  clear HN6'
  have HN7 := Keep.keep hn
  clear hn hb
  go_wp2_with fail
  refine calls_at (R := fun wq => Below w21.heap.size w21 wq ∧ RdV wq (· < wq.heap.size) 9 (.slice (some ⟨w21.heap.size, 0, none⟩) 2 2) 2 (mcells ([(([120], fileD []), nilV, .slice a6 0 c6), (([121], fileD []), nilV, .slice a7 0 c7)] : List Mv))) ⟨(Below.refl _ _).alloc (Nat.le_refl _) _, RdV.new 41 (mcells ([(([120], fileD []), nilV, .slice a6 0 c6), (([121], fileD []), nilV, .slice a7 0 c7)] : List Mv)) 9 2 _ rfl rfl (by unfold maxLen; omega) (by simp)⟩ ?_
  intro w22 Hq
  have hbq := Hq.out.1
  have HW22 := Keep.keep (HW21.out.trans (hbq.mono HW21.out.size))
  have HM1' := Keep.keep (HM1.out.on hbq)
  clear HM1
  have HM1 := HM1'
  clear HM1'
  have HM2' := Keep.keep (HM2.out.on hbq)
  clear HM2
  have HM2 := HM2'
  clear HM2'
  have HN6' := Keep.keep (HN6.out.on hbq)
  clear HN6
  have HN6 := HN6'
  clear HN6'
  have HN7' := Keep.keep (HN7.out.on hbq)
  clear HN7
  have HN7 := HN7'
  clear HN7'
  refine (small_tr (v := .slice (some ⟨_, 0, none⟩) 2 2) (l := [(([120], fileD []), nilV, .slice a6 0 c6), (([121], fileD []), nilV, .slice a7 0 c7)]) B (HT.out.on (HW22.out.mono HT.out.b)) ⟨Hq.out.2, fun x hx => ?_⟩ (fun x hx => ?_) (by simp) tn5).mono ?_
  · simp only [List.mem_cons, List.not_mem_nil, or_false] at hx
    rcases hx with rfl | rfl
    · exact HN6.out
    · exact HN7.out
  · simp only [List.mem_cons, List.not_mem_nil, or_false] at hx
    rcases hx with rfl | rfl
    · exact sm_fileD _ _ (by decide) (by decide)
    · exact sm_fileD _ _ (by decide) (by decide)
  rintro e w23 ⟨T5, rfl, ht, hb⟩
  have HW23 := Keep.keep (HW22.out.trans (hb.mono HW22.out.size))
  have HM1' := Keep.keep (HM1.out.on hb)
  clear HM1
  have HM1 := HM1'
  clear HM1'
  have HM2' := Keep.keep (HM2.out.on hb)
  clear HM2
  have HM2 := HM2'
  clear HM2'
  have HN6' := Keep.keep (HN6.out.on hb)
  clear HN6
  have HN6 := HN6'
  clear HN6'
  have HN7' := Keep.keep (HN7.out.on hb)
  clear HN7
  have HN7 := HN7'
  clear HN7'
  have HT5 := Keep.keep ht
  clear ht hb hbq Hq
  clear HN6
  clear HN7
  go_wp2_with fail
  refine (tl2_lit [120] [] 0 rfl (by decide) _).mono ?_
  rintro e w24 ⟨a8, c8, rfl, hn, hb⟩
  have HW24 := Keep.keep (HW23.out.trans (hb.mono HW23.out.size))
  have HM1' := Keep.keep (HM1.out.on hb)
  clear HM1
  have HM1 := HM1'
  clear HM1'
  have HM2' := Keep.keep (HM2.out.on hb)
  clear HM2
  have HM2 := HM2'
  clear HM2'
  have HT5' := Keep.keep (HT5.out.on hb)
  clear HT5
  have HT5 := HT5'
  clear HT5'
  have HN8 := Keep.keep hn
  clear hn hb
  go_wp2_with fail
  refine calls_at (R := fun wq => Below w24.heap.size w24 wq ∧ RdV wq (· < wq.heap.size) 9 (.slice (some ⟨w24.heap.size, 0, none⟩) 1 1) 1 (mcells ([(([120], fileD []), nilV, .slice a8 0 c8)] : List Mv))) ⟨(Below.refl _ _).alloc (Nat.le_refl _) _, RdV.new 41 (mcells ([(([120], fileD []), nilV, .slice a8 0 c8)] : List Mv)) 9 1 _ rfl rfl (by unfold maxLen; omega) (by simp)⟩ ?_
  intro w25 Hq
  have hbq := Hq.out.1
  have HW25 := Keep.keep (HW24.out.trans (hbq.mono HW24.out.size))
  have HM1' := Keep.keep (HM1.out.on hbq)
  clear HM1
  have HM1 := HM1'
  clear HM1'
  have HM2' := Keep.keep (HM2.out.on hbq)
  clear HM2
  have HM2 := HM2'
  clear HM2'
  have HT5' := Keep.keep (HT5.out.on hbq)
  clear HT5
  have HT5 := HT5'
  clear HT5'
  have HN8' := Keep.keep (HN8.out.on hbq)
  clear HN8
  have HN8 := HN8'
  clear HN8'
  refine (small_tr (v := .slice (some ⟨_, 0, none⟩) 1 1) (l := [(([120], fileD []), nilV, .slice a8 0 c8)]) B (HT.out.on (HW25.out.mono HT.out.b)) ⟨Hq.out.2, fun x hx => ?_⟩ (fun x hx => ?_) (by simp) tn6).mono ?_
  · simp only [List.mem_cons, List.not_mem_nil, or_false] at hx
    rcases hx with rfl
    · exact HN8.out
  · simp only [List.mem_cons, List.not_mem_nil, or_false] at hx
    rcases hx with rfl
    · exact sm_fileD _ _ (by decide) (by decide)
  rintro e w26 ⟨T6, rfl, ht, hb⟩
  have HW26 := Keep.keep (HW25.out.trans (hb.mono HW25.out.size))
  have HM1' := Keep.keep (HM1.out.on hb)
  clear HM1
  have HM1 := HM1'
  clear HM1'
  have HM2' := Keep.keep (HM2.out.on hb)
  clear HM2
  have HM2 := HM2'
  clear HM2'
  have HT5' := Keep.keep (HT5.out.on hb)
  clear HT5
  have HT5 := HT5'
  clear HT5'
  have HN8' := Keep.keep (HN8.out.on hb)
  clear HN8
  have HN8 := HN8'
  clear HN8'
  have HT6 := Keep.keep ht
  clear ht hb hbq Hq
  clear HN8
  go_wp2_with fail
  refine (Of_tr B (HT.out.on (HW26.out.mono HT.out.b)) (newT_well tn5) (newT_well tn6) (by decide) (by decide) HT5.out HT6.out).mono ?_
  rintro e w27 ⟨v3, l3, rfl, ho, hp, hr, hb⟩
  have HW27 := Keep.keep (HW26.out.trans (hb.mono HW26.out.size))
  have HM1' := Keep.keep (HM1.out.on hb)
  clear HM1
  have HM1 := HM1'
  clear HM1'
  have HM2' := Keep.keep (HM2.out.on hb)
  clear HM2
  have HM2 := HM2'
  clear HM2'
  have HT5' := Keep.keep (HT5.out.on hb)
  clear HT5
  have HT5 := HT5'
  clear HT5'
  have HT6' := Keep.keep (HT6.out.on hb)
  clear HT6
  have HT6 := HT6'
  clear HT6'
  have HK3 : Keep (l3.map (·.1) = tK3) := ⟨told_is (newT_well tn5) (newT_well tn6) tt3 (List.Perm.refl _) ts3 hp ho.srt⟩
  have HM3 : Keep (MbL w27 v3 l3) := ⟨MbL.ofRow hr⟩
  have HS3 : Keep (∀ x ∈ l3, x.1.1.length ≤ 400000) := ⟨fun x hx => (ho.sm x.1 (List.mem_map.2 ⟨x, hx, rfl⟩)).p⟩
  obtain ⟨ao3, co3, hv3, -⟩ := (ownsV_reads hr.own).shape
  have hln3 : l3.length = tK3.length := by rw [← HK3.out, List.length_map]
  rw [hln3] at hv3
  have HL3 := Keep.keep hln3
  clear ho hp hr hb hln3 HT5 HT6
  subst hv3
  go_wp2_with fail
  refine (paths_any _ l1 _ HM1.out HS1.out (by rw [HL1.out]; decide)).mono ?_
  rw [HK1.out, tp1]
  rintro e w28 ⟨rfl, hb⟩
  have HW28 := Keep.keep (HW27.out.trans (hb.mono HW27.out.size))
  have HM2' := Keep.keep (HM2.out.on hb)
  clear HM2
  have HM2 := HM2'
  clear HM2'
  have HM3' := Keep.keep (HM3.out.on hb)
  clear HM3
  have HM3 := HM3'
  clear HM3'
  clear hb
  go_wp2_with fail
  refine (paths_any _ l2 _ HM2.out HS2.out (by rw [HL2.out]; decide)).mono ?_
  rw [HK2.out, tp2]
  rintro e w29 ⟨rfl, hb⟩
  have HW29 := Keep.keep (HW28.out.trans (hb.mono HW28.out.size))
  have HM3' := Keep.keep (HM3.out.on hb)
  clear HM3
  have HM3 := HM3'
  clear HM3'
  clear hb
  go_wp2_with fail
  refine (paths_any _ l3 _ HM3.out HS3.out (by rw [HL3.out]; decide)).mono ?_
  rw [HK3.out, tp3]
  rintro e w30 ⟨rfl, hb⟩
  have HW30 := Keep.keep (HW29.out.trans (hb.mono HW29.out.size))
  clear hb
  go_wp2_with fail
  go_ret
  exact ⟨rfl, HW30.out⟩
end Go.Proofs.YtmnknmpfkjhgbaaGreatDoor
/- A RANGE OVER A FUNCTION IN A LAW: whose loop variable is a box of its own; quiet regions in its body; the memory as a list of assertions. -/
namespace Go.Proofs.YtmnknmpfkjhgbaaGreatDoor
open Go.RowKit
theorem Hp.grownBy {w X Y : World} {row : Option Nat} {ls : List As} (h : Hp NoM w X ls) (hg : X.grownBy Y row) (hr : ∀ r, row = some r → w.heap.size ≤ r ∧ ∀ A ∈ ls, ¬ A.blk r) : Hp NoM w Y ls := by
  refine ⟨⟨hg.os.trans h.c.os, hg.tape.trans h.c.tape, hg.output.trans h.c.output, Nat.le_trans h.c.size hg.size, fun k hk hm => ?_⟩, fun A hA => ?_, h.d⟩
  · have := h.c.size
    rw [hg.block k (by omega) (fun e => by have := (hr k e.symm).1; omega)]
    exact h.c.block k hk hm
  · have := h.p A hA
    exact ⟨A.loc X Y (fun b hb => hg.block b (this.2 b hb).2 (fun e => (hr b e.symm).2 A hA hb)) this.1, fun b hb => ⟨(this.2 b hb).1, Nat.lt_of_lt_of_le (this.2 b hb).2 hg.size⟩⟩
/-- what speaks of blocks below B alone abides -/
theorem hp_own {β : Type} {w : World} {B : Nat} (hw : w.heap.size ≤ B) (ls : β → List As) (hls : ∀ s, ∀ A ∈ ls s, ∀ b, A.blk b → b < B) : OwnFrom B (fun s W => Hp NoM w W (ls s)) :=
  fun s X Y row h hg hr => h.grownBy hg (fun r e => ⟨by have := (hr r e).1; omega, fun A hA hb => by have := hls s A hA r hb; have := (hr r e).1; omega⟩)
theorem wpIn_region_quiet_wide {r n id : Nat} {P : Program} {l : List Oper} {Q : Exit → Act → World → Prop} {a : Act} {w : World} (hm : P.follows .mixedOrders = true) (hd : noDefer l.toArray = true) (hq : ¬ LetsOut Q) (hB : Region.lexB .any l.toArray = true)
    (h : wpQuiet P l.toArray (fun w' => ∃ n, w' = w.drewN n) (fun a' => ∀ w', (∃ n, w' = w.drewN n) → Q .normal a' w') l a) : (Code.region id l.toArray true).wpIn (Fence.wide.inRound r) n P Q a w := by
  simp only [Region.lexB, Bool.and_eq_true] at hB
  refine wpIn_region_wide hm hd hq (wpAny_of_quiet (C := fun w' => ∃ n, w' = w.drewN n) (Q := fun a' => ∀ w', (∃ n, w' = w.drewN n) → Q .normal a' w') (fun _ w' hw' h => h w' hw') _ _ _ _ ⟨1, rfl⟩ ?_)
  have := wpAnyQ_lex (C := fun w' => ∃ n, w' = w.drewN n) (md := .any) hB.1 l 0 (Array.replicate l.toArray.size false) a (by simp) (by simpa using hB.2) h
  simpa using this
/-- THE LAW: the loop variable v is a new row of the type ty, told by p -/
theorem rangeFunc_row {n : Nat} {P : Program} {α : Type} {g : Operand} {p v : Tmp} {assign body : Code} {Q : Exit → Act → World → Prop} {a : Act} {w : World} (h1 : 1 ≤ n) {gf : Nat} {lb : Array Value} (hg : a.eval g = .func (.func gf) #[] lb) (eg : ∀ args w, (callFunc gf args).run P w = .ok (.enter gf args) w)
    {cs : α → Array Value} {Kp : World → World → Prop} {S Sp : List α → Prop} {N : Nat} (ty : TypeId) (hseq : SeqStopsK Fence.wide (n - 1) P gf lb (fun x => #[.agg (cs x)]) Kp S Sp N w)
    (hKt : ∀ {A B C : World}, Kp A B → Kp B C → Kp A C) (hKb : ∀ (W : World) (l : Nat) (o o' : Obj), w.heap.size ≤ l → W.heap[l]? = some o → o.isCells = false → o.isWalk = false → Kp W (W.putObj l o'))
    (I : List α → World → Prop) (Ix : Code → List α → World → Prop) (hI : OwnFrom w.heap.size I) (hIx : ∀ c, OwnFrom w.heap.size (Ix c)) (h0 : I [] w)
    (hassign : ∀ (l : Nat) (pre : List α) (x : α) (W : World) (K : Act → World → Prop), I pre W → (∀ a' W', KeepsFrom w.heap.size W W' → Kp W W' → I pre W' → (∃ Bx, (Row W' Bx ty (cs x) ∧ w.heap.size ≤ Bx) ∧ a' = { tmps := (a.tmps.setIfInBounds p (.agg (cs x))).setIfInBounds v (.pointer (some ⟨Bx, 0, none⟩)), defers := [] }) → K a' W') →
      assign.wpIn (Fence.wide.inRound l) (n - 1 - 1) P (Exit.then K (fun _ _ _ => False)) { tmps := a.tmps.setIfInBounds p (.agg (cs x)), defers := [] } W)
    (hbody : ∀ (l : Nat) (pre : List α) (x : α) (W : World) (Bx : Nat), w.heap.size ≤ l → (∃ r, W.heap[l]? = some (.loop r)) → I pre W → Row W Bx ty (cs x) → w.heap.size ≤ Bx → pre.length < N →
      body.wpIn (Fence.wide.inRound l) (n - 1 - 1) P (ownPostG w.heap.size Kp I Ix (pre ++ [x]) W) { tmps := (a.tmps.setIfInBounds p (.agg (cs x))).setIfInBounds v (.pointer (some ⟨Bx, 0, none⟩)), defers := [] } W)
    (hdone : ∀ (D : Nat) (xs : List α) (W : World), w.heap.size ≤ D → S xs → I xs W → W.heap[D]? = some (.deferred (some [])) → Q .normal { a with defers := { target := .collected D, args := #[] } :: a.defers } W)
    (hstop : ∀ (D : Nat) (c : Code) (pre : List α) (W : World), w.heap.size ≤ D → Sp pre → Ix c pre W → W.heap[D]? = some (.deferred (some [])) → c.wp P Q { a with defers := { target := .collected D, args := #[] } :: a.defers } W) :
    (Code.rangeFunc g #[p] assign body).wp P Q a w := by
  refine (wpIn_wide (n := n)).1 ?_
  refine wpIn_rangeFunc_ownH rfl h1 hg trivial eg hseq hKt hKb (Below.refl _ _) (fun _ => rfl) I Ix hI hIx h0
    (fun x a' W => ∃ Bx, (Row W Bx ty (cs x) ∧ w.heap.size ≤ Bx) ∧ a' = { tmps := (a.tmps.setIfInBounds p (.agg (cs x))).setIfInBounds v (.pointer (some ⟨Bx, 0, none⟩)), defers := [] })
    (fun x a' _ X Y row hs hg hr => by obtain ⟨Bx, ⟨e2, e3⟩, e4⟩ := hs; exact ⟨Bx, ⟨(grownBy_keeps_cells hg (fun r e => (hr r e).2) e2 rfl).trans e2, e3⟩, e4⟩)
    (fun l pre x W K hi hK => ?_) (fun l pre x a' W hl hr hi ha hN => ?_) hdone (fun D c pre W hD hs hx hk => wpIn_wide.2 (hstop D c pre W hD hs hx hk))
  · simpa using hassign l pre x W K hi hK
  · obtain ⟨Bx, ⟨h2, h3⟩, rfl⟩ := ha
    exact hbody l pre x W Bx hl hr hi h2 h3 hN
end Go.Proofs.YtmnknmpfkjhgbaaGreatDoor
/- tree.Copy: a tree that lives apart. -/
namespace Go.Proofs.YtmnknmpfkjhgbaaGreatDoor
open Go.RowKit
/-- what has come, when one more comes -/
theorem came_put {L : List Mb} (h : SM.Srt L) {todo : Tx → Bool} {p : Tx} {n : Nd} (hp : todo p = true) (hl : SM.look L p = some n) : L.filter (fun x => !(todo x.1 && x.1 != p)) = SM.put (L.filter (fun x => !todo x.1)) (p, n) := by
  have hs : SM.Srt (L.filter (fun x => !todo x.1)) := h.filter _
  have h2 : SM.Srt (L.filter (fun x => !(todo x.1 && x.1 != p))) := h.filter _
  refine h2.ext (hs.put _) (fun q => ?_)
  rw [hs.look_put, h.look_filter (fun k => !(todo k && k != p)), h.look_filter (fun k => !todo k)]
  by_cases e : q = p
  · subst e
    simp [hl]
  · simp [e]
def cpT (W : World) (T2 m2 : Nat) (p : Tx) (n : Nd) (av dv : Value) : Nat → Value → World → Prop
  | 0, v, _ => v = .pointer (some ⟨T2, 0, none⟩)
  | 1, v, _ => v = .pointer (some ⟨T2, 0, none⟩)
  | 2, v, _ => v = .pointer (some ⟨T2, 0, none⟩)
  | 3, v, _ => v = .map (some m2)
  | 4, v, _ => v = .string ⟨p.toArray⟩
  | 5, v, _ => v = .agg (ndC n av dv)
  | _, v, w => ∃ av' dv', v = .agg (ndC n av' dv') ∧ NdR w (Fresh W.heap.size w) n av' dv'
theorem cpT_stays {W : World} {T2 m2 : Nat} {p : Tx} {n : Nd} {av dv : Value} (k : Nat) (v : Value) (w w' : World) (h : cpT W T2 m2 p n av dv k v w) (hb : Below w.heap.size w w') : cpT W T2 m2 p n av dv k v w' := by
  unfold cpT at h ⊢
  split at h
  · exact h
  · exact h
  · exact h
  · exact h
  · exact h
  · exact h
  · obtain ⟨a, d, h1, h2⟩ := h
    exact ⟨a, d, h1, (h2.below hb (fun b hb => hb.2)).mono (fun b hb' => hb'.mono (Nat.le_refl _) hb.size)⟩
set_option maxHeartbeats 4000000 in
set_option maxRecDepth 100000 in
theorem copy_tree (T mb : Nat) (Bk : Nat → Prop) (f : Tx → Value × Value) (L : List Mb) (w : World) (h : TreeIn w T mb Bk f L) (hBk : ∀ b, Bk b → b < w.heap.size) (hL : L.length ≤ 100000) :
    Calls Tryz.prog 27 #[.pointer (some ⟨T, 0, none⟩)] w fun e w' => ∃ T2 m2 Bk2 f2, e = .returned (.pointer (some ⟨T2, 0, none⟩)) ∧ TreeIn w' T2 m2 Bk2 f2 L ∧ (w.heap.size ≤ T2 ∧ w.heap.size ≤ m2 ∧ ∀ b, Bk2 b → Fresh w.heap.size w' b) ∧ Below w.heap.size w w' := by
  have HT := Keep.keep h; have HBK := Keep.keep hBk
  have HN := Keep.keep (none_ok T mb w h.row)
  have hmbw := h.map.lt
  have hTw := h.row.lt
  clear h hBk
  go_enter Tryz.func27, Tryz.ntmps27
  go_wp2_with fail
  refine HN.out.mono ?_
  rintro e w' ⟨rfl, rfl⟩
  have hmm := @run_makeMap Tryz.prog
  go_upto_region 4 with fail
  refine wp_world (R := fun w2 => Hp NoM w w2 [trA (w.heap.size + 1) w.heap.size (fun _ => False) (fun _ => (nilV, nilV)) []]) ?_ ?_
  · have h1 := Hp.begin NoM w
    have hb2 : Below w.heap.size w ((w.alloc (Obj.map #[] 0)).alloc (Obj.cells #[Value.map (some w.heap.size)] 88)) := ((Below.refl _ _).alloc (Nat.le_refl _) _).alloc (by simp) _
    have hm1 := MapS.made (k := 9) w
    exact h1.push (trA (w.heap.size + 1) w.heap.size (fun _ => False) (fun _ => (nilV, nilV)) []) (.of_below hb2)
      ⟨Row.new' (by simp) rfl, hm1.loc (Below.heap_alloc _ _ _ hm1.lt), (fun m hm => (List.not_mem_nil hm).elim), (fun m hm => (List.not_mem_nil hm).elim), ⟨by omega, fun h => h, fun h => h⟩⟩
      (fun b hb => by rcases hb with rfl | rfl | h
                      · simp
                      · simp; omega
                      · exact h.elim)
  intro w2 H2
  obtain ⟨m2, hm2⟩ : ∃ m2, w.heap.size = m2 := ⟨_, rfl⟩
  have HM2 := Keep.keep hm2
  obtain ⟨T2, hT2⟩ : ∃ T2, m2 + 1 = T2 := ⟨_, rfl⟩
  have HT2E := Keep.keep hT2
  rw [hm2, hT2] at H2 ⊢
  clear hmm hm2 hT2
  have hT2w : TreeIn w2 T mb Bk f L := HT.out.loc (fun b hb => H2.out.below.block b (by
    rcases hb with rfl | rfl | h
    · exact hTw
    · exact hmbw
    · exact HBK.out b h))
  have cT := hT2w.row.cell (i := 0) rfl
  have HM := Keep.keep hT2w.map
  have HSR := Keep.keep HT.out.srt
  have HSM := Keep.keep HT.out.sm
  have HND := Keep.keep HT.out.nd
  have HEL : Keep ((entries f L).length = L.length) := ⟨by simp [entries]⟩
  have hs2 := H2.out.size
  have hT2lt : T2 < w2.heap.size := by
    have := (H2.out.p _ (List.mem_of_getElem? (i := 0) rfl)).2 T2 (.inl rfl)
    exact this.2
  clear hT2w HN
  go_wp2_with (first | (with_reducible refine arm_sRange ?_) | (with_reducible refine arm_sNext ?_) | (with_reducible refine arm_sDel ?_) | (with_reducible refine arm_sPut ?_) | (with_reducible refine arm_sIns ?_))
  refine StM.out ?_
  refine arm_rangeS Tryz.underlying9 Tryz.underlying86 HM.out rfl ?_
  intro w3 hrg hb3 hs3
  obtain ⟨r, hr⟩ : ∃ r, w2.heap.size = r := ⟨_, rfl⟩
  have HRE : Keep (w.heap.size ≤ r ∧ mb < r ∧ T2 < r ∧ m2 < r) := ⟨by have := HT2E.out; omega⟩
  have H3 := Keep.keep (H2.out.call hb3)
  rw [hr] at hrg ⊢
  have HRG := Keep.keep hrg
  clear hrg hb3 hs3 hr cT HM H2 hs2 hT2lt
  simp only [Act.put, List.setIfInBounds_toArray, List.set_cons_succ, List.set_cons_zero]
  go_wp2_with fail
  go_loopg [4] L.length (fun g _ wx => ∃ (todo : Tx → Bool) (Bk2 : Nat → Prop) (f2 : Tx → Value × Value), RgS wx 9 mb r (entries f L) todo g ∧ Hp NoM w wx [trA T2 m2 Bk2 f2 (L.filter (fun x => !todo x.1))] ∧ ∀ b, Bk2 b → r < b)
  case atStart =>
    refine ⟨_, fun _ => False, fun _ => (nilV, nilV), by rw [← HEL.out]; exact HRG.out, ?_, fun b hb => hb.elim⟩
    have e0 : L.filter (fun x => !(SM.look (entries f L) x.1).isSome) = [] := by
      rw [List.filter_eq_nil_iff]
      intro x hx
      rw [look_entries, HSR.out.look.2 hx]; simp
    rw [e0]
    exact H3.out
  case round =>
    obtain ⟨todo, Bk2, f2, hrg, hH, hbr⟩ := hrel
    have HRG2 := Keep.keep hrg; have HH := Keep.keep hH; have HBR := Keep.keep hbr
    clear hrg hH hbr HRG H3
    go_wp2_with (first | (with_reducible refine arm_sRange ?_) | (with_reducible refine arm_sNext ?_) | (with_reducible refine arm_sDel ?_) | (with_reducible refine arm_sPut ?_) | (with_reducible refine arm_sIns ?_))
    refine StM.out ?_
    refine arm_nextS Tryz.underlying9 HRG2.out rfl ?_ ?_
    · intro h0 hall
      have e0 : L.filter (fun x => !todo x.1) = L := by
        rw [List.filter_eq_self]
        intro x _
        simp [hall]
      rw [e0] at HH
      clear h0 hall e0
      simp only [Act.put, List.setIfInBounds_toArray, List.set_cons_succ, List.set_cons_zero]
      go_wp2_with fail
      go_ret
      refine ⟨T2, m2, Bk2, f2, rfl, HH.out.get 0 rfl, ?_, HH.out.below⟩
      refine ⟨HH.out.new 0 rfl (b := T2) (.inl rfl) |>.1, HH.out.new 0 rfl (b := m2) (.inr (.inl rfl)) |>.1, fun b hb => HH.out.new 0 rfl (b := b) (.inr (.inr hb))⟩
    · intro p v w4 cnt' h1 h2 h3 h4 h5 h6 hen
      obtain ⟨n, hln, hve⟩ : ∃ n, SM.look L p = some n ∧ v = .agg (ndC n (f p).1 (f p).2) := by
        rw [look_entries] at h2
        cases hl : SM.look L p with
        | none => rw [hl] at h2; cases h2
        | some n => rw [hl] at h2; injection h2 with h2; exact ⟨n, rfl, h2.symm⟩
      have hmem := SM.look_mem hln
      have HCP := Keep.keep (came_put HSR.out h1 hln)
      have HNX := Keep.keep (HND.out _ hmem)
      have HSX := Keep.keep (HSM.out _ hmem)
      have HLN : Keep ((L.filter (fun x => !todo x.1)).length ≤ L.length) := ⟨List.length_filter_le _ _⟩
      obtain ⟨aa, la, ca, ad, ld, cd, e1, e2⟩ := HNX.out.shape
      dsimp only at e1 e2 HNX
      rw [e1, e2] at HNX hve
      have HRG4 := Keep.keep h3
      have hne5 : ∀ b, b < wr.heap.size → b ≠ r → w4.heap[b]? = wr.heap[b]? := fun b hb hn => h5.block b hb hn
      have hr4 := HRG2.out.lt.2.1
      have H4 : Keep (Hp NoM w w4 [trA T2 m2 Bk2 f2 (L.filter (fun x => !todo x.1))]) := ⟨by
        refine HH.out.grownBy (row := some r) ⟨h5.os, h5.tape, h5.output, h5.size, fun k hk hm => h5.block k hk (fun e => hm (by rw [e]))⟩ (fun r' e => ?_)
        injection e with e
        subst e
        refine ⟨HRE.out.1, fun A hA => ?_⟩
        obtain rfl := List.mem_singleton.1 hA
        rintro (h | h | h)
        · have := HRE.out.2.2.1; omega
        · have := HRE.out.2.2.2; omega
        · have := HBR.out _ h; omega⟩
      have hs4 := h5.size
      clear h1 h2 h3 h5 h6 e1 e2 HRG2 HH hmem
      subst hve
      have HNC : Keep (ndC n (.slice aa la ca) (.slice ad ld cd) = #[.int .i64 n.kind, .int .u32 n.mode, .int .u32 n.uid, .int .u32 n.gid, .int .i64 n.time, .slice aa la ca, .slice ad ld cd, .string ⟨n.link.toArray⟩]) := ⟨rfl⟩
      rw [HNC.out] at hen ⊢
      simp only [Act.put, List.setIfInBounds_toArray, List.set_cons_succ, List.set_cons_zero]
      go_upto_region 7 with fail
      refine wp_world (R := fun w5 => (Hp NoM w w5 [trA T2 m2 Bk2 f2 (L.filter (fun x => !todo x.1)), rowA w4.heap.size 39 #[.int .i64 n.kind, .int .u32 n.mode, .int .u32 n.uid, .int .u32 n.gid, .int .i64 n.time, .slice aa la ca, .slice ad ld cd, .string ⟨n.link.toArray⟩]]) ∧ RgS w5 9 mb r (entries f L) (fun q => todo q && q != p) cnt') ⟨H4.out.newRow _ _, HRG4.out.loc (Below.heap_alloc _ _ _ HRG4.out.lt.1) (Below.heap_alloc _ _ _ HRG4.out.lt.2.1)⟩ ?_
      intro w5 H5
      obtain ⟨b5, hb5⟩ : ∃ b5, w4.heap.size = b5 := ⟨_, rfl⟩
      rw [hb5] at H5 ⊢
      have hs5 := (H5.out.1.row 1 rfl).lt
      have hrg5 := H5.out.2.lt
      clear hen H4 HRG4
      refine wp_region_spcT 7 [21, 22, 23, 24, 25, 26, 27] (Below w5.heap.size w5) (cpT w5 T2 m2 p n (.slice aa la ca) (.slice ad ld cd)) (fun w w' => Below w.heap.size w w') (by kernel_rfl) rfl (by decide) (by show ∀ d ∈ _, d < 29; decide) (by kernel_rfl) (by decide) (by kernel_rfl) (by kernel_rfl) (by kernel_rfl) (Below.refl _ _).drew (fun i v w w' h _ hb => cpT_stays i v w w' h hb) ?_ ?_
      · intro q hq a1 w6 hF hC hT
        have b3 : a1.eval (.tmp 3) = .pointer (some ⟨T2, 0, none⟩) := (hF.same 3 (by decide)).trans rfl
        have b4 : a1.eval (.tmp 4) = .string ⟨p.toArray⟩ := (hF.same 4 (by decide)).trans rfl
        have b5e : a1.eval (.tmp 5) = .pointer (some ⟨b5, 0, none⟩) := (hF.same 5 (by decide)).trans rfl
        have hkr : Below w6.heap.size w6 w6 := Below.refl _ _
        have HP := H5.out.1.call hC
        have hRC := HP.row 1 rfl
        have hTW := (HP.get 0 rfl).row
        rcases (by omega : q = 0 ∨ q = 1 ∨ q = 2 ∨ q = 3 ∨ q = 4 ∨ q = 5 ∨ q = 6) with rfl | rfl | rfl | rfl | rfl | rfl | rfl
        · exact spcS_val (d := 21) rfl (wanted_none rfl) run_move hC hkr b3
        · have hx : a1.eval (.tmp 21) = .pointer (some ⟨T2, 0, none⟩) := hT 0 (by decide) (by kernel_rfl)
          exact spcS_val (d := 22) rfl (wanted_none rfl) (by simp [execOp, hx]) hC hkr rfl
        · have hx : a1.eval (.tmp 22) = .pointer (some ⟨T2, 0, none⟩) := hT 1 (by decide) (by kernel_rfl)
          exact spcS_val (d := 23) rfl (wanted_none rfl) (run_fieldAddr (m := 0) Tryz.underlying88 rfl (by kernel_rfl) hx) hC hkr rfl
        · have hx : a1.eval (.tmp 23) = .pointer (some ⟨T2, 0, none⟩) := hT 2 (by decide) (by kernel_rfl)
          exact spcS_val (d := 24) rfl (wanted_none rfl) (run_loadCell (run_isAgg_plain Tryz.underlying86 rfl) (hTW.cell (i := 0) rfl) hx) hC hkr rfl
        · exact spcS_val (d := 25) rfl (wanted_none rfl) run_move hC hkr b4
        · have hld := hRC.loadAt (P := Tryz.prog) 39 _ Tryz.underlying39 rfl (by kernel_rfl)
          exact spcS_val (d := 26) rfl (wanted_none rfl) (by unfold execOp; simp only [b5e, Sem.run_bind, Sem.run_pure, Result.andThen_ok, hld]; rfl) hC hkr rfl
        · have hx : a1.eval (.tmp 26) = .agg (ndC n (.slice aa la ca) (.slice ad ld cd)) := hT 5 (by decide) (by kernel_rfl)
          refine spcS_call (d := 27) (vs := #[.agg (ndC n (.slice aa la ca) (.slice ad ld cd))]) rfl (wanted_none rfl) (Go.Proofs.enters_of Tryz.func57 (by kernel_rfl) rfl) (by simp [hx]) ?_
          have hsz6 := HP.size
          refine (clone_node n _ _ w6 ((HNX.out.below HP.below (fun b hb => HBK.out b hb)).mono (fun b hb => by have := HBK.out b hb; omega)) HSX.out.a (Nat.le_trans HSX.out.d (by decide))).mono ?_
          rintro e wz ⟨a', d', rfl, hn', hb⟩
          exact ⟨_, rfl, hC.trans (hb.mono hC.size), hb, a', d', rfl, hn'.mono (fun b hb' => hb'.mono hC.size (Nat.le_refl _))⟩
      · intro a2 w6 ha hC hT
        have t3 : slot a2 24 = .map (some m2) := hT 3 (by decide)
        have t5 : slot a2 25 = .string ⟨p.toArray⟩ := hT 4 (by decide)
        obtain ⟨av', dv', t8, hn'⟩ : ∃ av' dv', slot a2 27 = .agg (ndC n av' dv') ∧ NdR w6 (Fresh w5.heap.size w6) n av' dv' := hT 6 (by decide)
        simp only [List.foldl_cons, List.foldl_nil, t3, t5, t8] at ha
        clear hT t3 t5 t8
        generalize slot a2 21 = y21 at *
        generalize slot a2 22 = y22 at *
        generalize slot a2 23 = y23 at *
        generalize slot a2 26 = y26 at *
        have HN' := Keep.keep hn'
        have H6 := Keep.keep (H5.out.1.call hC)
        have HS6 := Keep.keep hC.size
        have HC6 := Keep.keep hC
        have HRG6 : Keep (RgS w6 9 mb r (entries f L) (fun q => todo q && q != p) cnt') := ⟨H5.out.2.loc (hC.block _ hrg5.1) (hC.block _ hrg5.2.1)⟩
        clear hn' hC
        subst ha
        simp only [List.drop_succ_cons, List.drop_zero]
        simp only [Act.put, List.setIfInBounds_toArray, List.set_cons_succ, List.set_cons_zero]
        have hT6 : TreeIn w6 T2 m2 Bk2 f2 (L.filter (fun x => !todo x.1)) := H6.out.get 0 rfl
        have hbk6 : ∀ b, Bk2 b → b < w5.heap.size := fun b hb => ((H5.out.1.p _ (List.mem_of_getElem? (i := 0) rfl)).2 b (.inr (.inr hb))).2
        have hT6lt : T2 < w5.heap.size ∧ m2 < w5.heap.size := ⟨((H5.out.1.p _ (List.mem_of_getElem? (i := 0) rfl)).2 T2 (.inl rfl)).2, ((H5.out.1.p _ (List.mem_of_getElem? (i := 0) rfl)).2 m2 (.inr (.inl rfl))).2⟩
        have HT6 := Keep.keep hT6; have HBK6 := Keep.keep hbk6; have HLT6 := Keep.keep hT6lt
        have hel : (entries f2 (L.filter (fun x => !todo x.1))).length < maxLen := by
          have := HLN.out
          simp only [entries, List.length_map]
          unfold maxLen; omega
        clear hT6 hbk6 hT6lt
        go_wp2_with (first | (with_reducible refine arm_sRange ?_) | (with_reducible refine arm_sNext ?_) | (with_reducible refine arm_sDel ?_) | (with_reducible refine arm_sPut ?_) | (with_reducible refine arm_sIns ?_))
        refine StM.out ?_
        refine arm_putS Tryz.underlying9 Tryz.underlying86 HT6.out.map (p := p) (by have := HSX.out.p; dsimp only at this; unfold maxLen; omega) hel rfl rfl rfl ?_
        intro w7 hm7 hc7
        have hs6 := HS6.out
        have hs7 := hc7.size
        have hfin := HT6.out.put (Bk' := fun b => Bk2 b ∨ Fresh w5.heap.size w6 b) (fun b hb => by have := HBK6.out b hb; omega) (p, n) av' dv' HSX.out hm7 hc7 (HN'.out.mono (fun b hb => .inr hb)) (fun b hb => .inl hb) (fun b hb => by
          rcases hb with hb | hb
          · have h1 := HBK6.out b hb
            exact ⟨by omega, fun e => HT6.out.ne.2.1 (e ▸ hb), fun e => HT6.out.ne.2.2 (e ▸ hb)⟩
          · have h1 := hb.1
            have h2 := HLT6.out
            exact ⟨hb.2, by omega, by omega⟩)
        rw [← HCP.out] at hfin
        have hch : Chg (fun j => (trA T2 m2 Bk2 f2 (L.filter (fun x => !todo x.1))).blk j) w5.heap.size w5 w7 := ((Chg.of_below (M := fun j => (trA T2 m2 Bk2 f2 (L.filter (fun x => !todo x.1))).blk j) HC6.out)).trans ((hc7.lower HS6.out).mono (Nat.le_refl _) (fun j hj => .inr (.inl hj)))
        have H7 := Keep.keep (H5.out.1.upd 0 rfl (trA T2 m2 (fun b => Bk2 b ∨ Fresh w5.heap.size w6 b) (fun q => if q = p then (av', dv') else f2 q) (L.filter (fun x => !(todo x.1 && x.1 != p)))) hch hfin (fun b hb => by
          rcases hb with h | h | h | h
          · exact .inl (.inl h)
          · exact .inl (.inr (.inl h))
          · exact .inl (.inr (.inr h))
          · exact .inr ⟨h.1, by have := h.2; omega⟩))
        have HRG7 : Keep (RgS w7 9 mb r (entries f L) (fun q => todo q && q != p) cnt') := ⟨HRG6.out.loc (hc7.block _ HRG6.out.lt.1 (by have := HRE.out; have := HM2.out; omega)) (hc7.block _ HRG6.out.lt.2.1 (by have := HRE.out; omega))⟩
        clear hfin hm7 hc7 hch
        simp only [Act.put]
        go_wp2_with fail
        go_roundg cnt'
        case measure => omega
        case rel =>
          refine ⟨_, (fun b => Bk2 b ∨ Fresh w5.heap.size w6 b), (fun q => if q = p then (av', dv') else f2 q), HRG7.out, H7.out.take 1, fun b hb => ?_⟩
          rcases hb with hb | hb
          · exact HBR.out b hb
          · have := hb.1; omega
end Go.Proofs.YtmnknmpfkjhgbaaGreatDoor
/- tree.Same: two trees are the same. -/
namespace Go.Proofs.YtmnknmpfkjhgbaaGreatDoor
open Go.RowKit
theorem srt_sub {L K : List Mb} (h : SM.Srt L) (k : SM.Srt K) (hs : ∀ p n, SM.look L p = some n → SM.look K p = some n) (hl : L.length = K.length) : L = K := by
  have e : K.filter (fun x => (SM.look L x.1).isSome) = L := by
    refine SM.Srt.ext (k.filter _) h (fun p => ?_)
    rw [k.look_filter (fun p => (SM.look L p).isSome)]
    cases hp : SM.look L p with
    | none => simp
    | some n => simp [hs p n hp]
  have e2 : K.filter (fun x => (SM.look L x.1).isSome) = K := by
    refine List.filter_eq_self.2 ?_
    refine List.length_filter_eq_length_iff.1 ?_
    rw [e, hl]
  rw [← e, e2]
set_option maxHeartbeats 4000000 in
set_option maxRecDepth 100000 in
theorem same_tree (T mb : Nat) (Bk : Nat → Prop) (f : Tx → Value × Value) (L : List Mb) (T2 m2 : Nat) (Bk2 : Nat → Prop) (f2 : Tx → Value × Value) (L2 : List Mb) (w : World) (h : TreeIn w T mb Bk f L) (hBk : ∀ b, Bk b → b < w.heap.size) (h2 : TreeIn w T2 m2 Bk2 f2 L2) (hBk2 : ∀ b, Bk2 b → b < w.heap.size) (_hL : L.length ≤ 100000) :
    Calls Tryz.prog 12 #[.pointer (some ⟨T, 0, none⟩), .pointer (some ⟨T2, 0, none⟩)] w fun e w' => SaysB (L = L2) e ∧ Below w.heap.size w w' := by
  have HT := Keep.keep h; have HBK := Keep.keep hBk
  have HT2 := Keep.keep h2; have HBK2 := Keep.keep hBk2
  have HN := Keep.keep (none_ok T mb w h.row)
  have HN2 := Keep.keep (none_ok T2 m2 w h2.row)
  have hmbw := h.map.lt
  have hTw := h.row.lt
  have hm2w := h2.map.lt
  have hT2w := h2.row.lt
  have HEQ : Keep (∀ p n, SM.look L p = some n → SM.look L2 p ≠ some n → L ≠ L2) := ⟨fun p n h1 h2 e => h2 (by rw [← e]; exact h1)⟩
  have HLE : Keep (L.length ≠ L2.length → L ≠ L2) := ⟨fun h e => h (by rw [e])⟩
  have HSB : Keep (L.length = L2.length → (∀ p n, SM.look L p = some n → SM.look L2 p = some n) → L = L2) := ⟨fun hl hs => srt_sub h.srt h2.srt hs hl⟩
  clear h hBk h2 hBk2
  obtain ⟨P, hP⟩ : ∃ P : Prop, (L = L2) = P := ⟨_, rfl⟩
  rw [hP] at HSB ⊢
  have HP : Keep (P ↔ L = L2) := ⟨by rw [hP]⟩
  clear hP
  go_enter Tryz.func12, Tryz.ntmps12
  go_wp2_with fail
  refine HN.out.mono ?_
  rintro e w' ⟨rfl, rfl⟩
  go_wp2_with fail
  refine HN2.out.mono ?_
  rintro e w' ⟨rfl, rfl⟩
  have cT := HT.out.row.cell (i := 0) rfl
  have cT2 := HT2.out.row.cell (i := 0) rfl
  have e1 : (entries f L).length = L.length := by simp [entries]
  have e2 : (entries f2 L2).length = L2.length := by simp [entries]
  have hlen := fun n => (HT.out.map.loc (w' := w.drewN n) rfl).len Tryz.underlying86 3
  have hlen2 := fun n => (HT2.out.map.loc (w' := w.drewN n) rfl).len Tryz.underlying86 3
  rw [e1] at hlen
  rw [e2] at hlen2
  have HE1 := Keep.keep e1
  clear e1 e2 HN HN2
  go_upto_region 3 with fail
  (refine wp_region_quiet_lit (by kernel_rfl) (by kernel_rfl) ?_); (repeat (first | (fail) | go_big_quiet_step (fail))); (refine wpQuiet_nil ?_); (intro _ hwq); (obtain ⟨nq, hwq⟩ := hwq); (subst hwq)
  by_cases hl : L.length = L2.length
  · have hne : ((L.length : Int) != (L2.length : Int)) = false := by simp [hl]
    have HL := Keep.keep hl
    simp only [hne]
    clear hl hlen hlen2 cT cT2 hne
    have hb1 := below_drewN' (Below.refl w.heap.size w) nq
    generalize w.drewN nq = w1 at *
    have HB1 := Keep.keep hb1
    have hs1 := hb1.size
    have HTX : Keep (∀ wx, Below w.heap.size w wx → TreeIn wx T mb Bk f L) := ⟨fun wx hb => HT.out.loc (fun b hb' => hb.block b (by
      rcases hb' with rfl | rfl | h
      · exact hTw
      · exact hmbw
      · exact HBK.out b h))⟩
    have HTY : Keep (∀ wx, Below w.heap.size w wx → TreeIn wx T2 m2 Bk2 f2 L2) := ⟨fun wx hb => HT2.out.loc (fun b hb' => hb.block b (by
      rcases hb' with rfl | rfl | h
      · exact hT2w
      · exact hm2w
      · exact HBK2.out b h))⟩
    have cT := (HTX.out w1 hb1).row.cell (i := 0) rfl
    have HM := Keep.keep (HTX.out w1 hb1).map
    clear hb1
    go_wp2_with (first | (with_reducible refine arm_sRange ?_) | (with_reducible refine arm_sNext ?_) | (with_reducible refine arm_sDel ?_) | (with_reducible refine arm_sPut ?_) | (with_reducible refine arm_sIns ?_))
    refine StM.out ?_
    refine arm_rangeS Tryz.underlying9 Tryz.underlying86 HM.out rfl ?_
    intro w3 hrg hb3 hs3
    obtain ⟨r, hr⟩ : ∃ r, w1.heap.size = r := ⟨_, rfl⟩
    have hwr : w.heap.size ≤ r := by omega
    have HB3 := Keep.keep (HB1.out.trans (hb3.mono hs1))
    rw [hr] at hrg ⊢
    rw [HE1.out] at hrg
    have HRG := Keep.keep hrg
    clear hrg hb3 hs3 hr cT HM
    simp only [Act.put, List.setIfInBounds_toArray, List.set_cons_succ, List.set_cons_zero]
    go_wp2_with fail
    go_loopg [5] L.length (fun g _ wx => ∃ (todo : Tx → Bool), RgS wx 9 mb r (entries f L) todo g ∧ (∀ p n, SM.look L p = some n → todo p = false → SM.look L2 p = some n) ∧ Below w.heap.size w wx)
    case atStart =>
      refine ⟨_, HRG.out, fun p n h1 h2 => ?_, HB3.out⟩
      rw [look_entries, h1] at h2
      simp at h2
    case round =>
      obtain ⟨todo, hrg, hok, hb⟩ := hrel
      have HRG2 := Keep.keep hrg; have HOK := Keep.keep hok; have HB := Keep.keep hb
      clear hrg hok hb HRG HB3
      go_wp2_with (first | (with_reducible refine arm_sRange ?_) | (with_reducible refine arm_sNext ?_) | (with_reducible refine arm_sDel ?_) | (with_reducible refine arm_sPut ?_) | (with_reducible refine arm_sIns ?_))
      refine StM.out ?_
      refine arm_nextS Tryz.underlying9 HRG2.out rfl ?_ ?_
      · intro h0 hall
        have HF : Keep P := ⟨HP.out.2 (by
          have := HSB.out HL.out (fun p n h => HOK.out p n h (hall p))
          exact HP.out.1 this)⟩
        clear h0 hall
        simp only [Act.put, List.setIfInBounds_toArray, List.set_cons_succ, List.set_cons_zero]
        go_wp2_with fail
        go_ret
        exact ⟨⟨true, rfl, ⟨fun _ => HF.out, fun _ => rfl⟩⟩, HB.out⟩
      · intro p v w4 cnt' h1 h2 h3 h4 h5 h6 hen
        obtain ⟨n, hln, hve⟩ : ∃ n, SM.look L p = some n ∧ v = .agg (ndC n (f p).1 (f p).2) := by
          rw [look_entries] at h2
          cases hl : SM.look L p with
          | none => rw [hl] at h2; cases h2
          | some n => rw [hl] at h2; injection h2 with h2; exact ⟨n, rfl, h2.symm⟩
        have HB4 : Keep (Below w.heap.size w w4) := ⟨HB.out.trans ((h5.lower HB.out.size).below (fun k hk e => by omega))⟩
        have hmem := SM.look_mem hln
        have HNX := Keep.keep ((HTX.out w4 HB4.out).nd _ hmem)
        have HSX := Keep.keep (HT.out.sm _ hmem)
        obtain ⟨aa, la, ca, ad, ld, cd, e1, e2⟩ := HNX.out.shape
        dsimp only at e1 e2 HNX
        rw [e1, e2] at HNX hve
        have HRG4 := Keep.keep h3
        have HLN := Keep.keep hln
        have HSH := Keep.keep (And.intro e1 e2)
        have HTD := Keep.keep h1
        clear h1 h2 h3 h5 h6 e1 e2 HRG2 hmem
        subst hve
        have hlt4 := HRG4.out.lt
        have HNC : Keep (ndC n (.slice aa la ca) (.slice ad ld cd) = #[.int .i64 n.kind, .int .u32 n.mode, .int .u32 n.uid, .int .u32 n.gid, .int .i64 n.time, .slice aa la ca, .slice ad ld cd, .string ⟨n.link.toArray⟩]) := ⟨rfl⟩
        rw [HNC.out] at hen ⊢
        simp only [Act.put, List.setIfInBounds_toArray, List.set_cons_succ, List.set_cons_zero]
        go_upto_region 8 with fail
        refine wp_world (R := fun w5 => Below w.heap.size w w5 ∧ RgS w5 9 mb r (entries f L) (fun q => todo q && q != p) cnt' ∧ Row w5 w4.heap.size 39 #[.int .i64 n.kind, .int .u32 n.mode, .int .u32 n.uid, .int .u32 n.gid, .int .i64 n.time, .slice aa la ca, .slice ad ld cd, .string ⟨n.link.toArray⟩]) ⟨HB4.out.alloc HB4.out.size _, HRG4.out.loc (Below.heap_alloc _ _ _ hlt4.1) (Below.heap_alloc _ _ _ hlt4.2.1), Row.new _ _ _⟩ ?_
        intro w5 H5
        obtain ⟨b6, hb6⟩ : ∃ b6, w4.heap.size = b6 := ⟨_, rfl⟩
        rw [hb6] at H5 ⊢
        have hT5 := HTY.out w5 H5.out.1
        have c2 := hT5.row.cell (i := 0) rfl
        have hlk := hT5.map.lookOk Tryz.underlying9 Tryz.underlying86 (zeroN w5) (p := p) (by have := HSX.out.p; dsimp only at this; unfold maxLen; omega)
        have HND2 := Keep.keep hT5.nd
        have hb6lt := H5.out.2.2.lt
        rw [look_entries] at hlk
        clear hen HRG4 HB4 HNX hT5
        cases hl2 : SM.look L2 p with
        | none =>
          have HNE := Keep.keep (HEQ.out p n HLN.out (by rw [hl2]; simp))
          rw [hl2] at hlk
          replace hlk : (Instr.lookup 86 (.map (some m2)) (.string ⟨p.toArray⟩) true).run Tryz.prog w5 = .ok (.tuple #[.agg #[.int .i64 0, .int .u32 0, .int .u32 0, .int .u32 0, .int .i64 0, .slice none 0 0, .slice none 0 0, .string ⟨#[]⟩], .bool false]) w5 := hlk
          clear hl2
          go_wp2_with fail
          go_ret
          exact ⟨⟨false, rfl, ⟨fun h => (by cases h), fun h => (HNE.out (HP.out.1 h)).elim⟩⟩, H5.out.1.alloc H5.out.1.size _⟩
        | some m =>
          have hnm := HND2.out _ (SM.look_mem hl2)
          obtain ⟨ba, lb, cb, bd, le, ce, e1, e2⟩ := hnm.shape
          dsimp only at e1 e2 hnm
          rw [hl2] at hlk
          replace hlk : (Instr.lookup 86 (.map (some m2)) (.string ⟨p.toArray⟩) true).run Tryz.prog w5 = .ok (.tuple #[.agg (ndC m (f2 p).1 (f2 p).2), .bool true]) w5 := hlk
          rw [e1, e2] at hnm hlk
          replace hlk : (Instr.lookup 86 (.map (some m2)) (.string ⟨p.toArray⟩) true).run Tryz.prog w5 = .ok (.tuple #[.agg #[.int .i64 m.kind, .int .u32 m.mode, .int .u32 m.uid, .int .u32 m.gid, .int .i64 m.time, .slice ba lb cb, .slice bd le ce, .string ⟨m.link.toArray⟩], .bool true]) w5 := hlk
          have HNM := Keep.keep hnm
          have HL2 := Keep.keep hl2
          have HS2 := Keep.keep (And.intro e1 e2)
          clear hl2 hnm e1 e2
          go_upto_region 9 with fail
          refine wp_world (R := fun w9 => Below w5.heap.size w5 w9 ∧ Row w9 w5.heap.size 39 #[.int .i64 m.kind, .int .u32 m.mode, .int .u32 m.uid, .int .u32 m.gid, .int .i64 m.time, .slice ba lb cb, .slice bd le ce, .string ⟨m.link.toArray⟩]) ⟨(Below.refl _ _).alloc (Nat.le_refl _) _, Row.new _ _ _⟩ ?_
          intro w9 H9
          obtain ⟨b7, hb7⟩ : ∃ b7, w5.heap.size = b7 := ⟨_, rfl⟩
          rw [hb7] at H9 ⊢
          have HR6 := Keep.keep (H5.out.2.2.below (hb7 ▸ H9.out.1) hb6lt)
          have HR7 := Keep.keep H9.out.2
          have HS6 : Keep ((#[.int .i64 n.kind, .int .u32 n.mode, .int .u32 n.uid, .int .u32 n.gid, .int .i64 n.time, .slice aa la ca, .slice ad ld cd, .string ⟨n.link.toArray⟩] : Array Value).size = 8) := ⟨rfl⟩
          have HS7 : Keep ((#[.int .i64 m.kind, .int .u32 m.mode, .int .u32 m.uid, .int .u32 m.gid, .int .i64 m.time, .slice ba lb cb, .slice bd le ce, .string ⟨m.link.toArray⟩] : Array Value).size = 8) := ⟨rfl⟩
          have HB9 := Keep.keep (H5.out.1.trans ((show Below w5.heap.size w5 w9 from hb7 ▸ H9.out.1).mono H5.out.1.size))
          have hw9 := HB9.out.size
          have hbm1 : ∀ w, (Instr.build 41 #[(0, .string ⟨p.toArray⟩), (1, .agg #[.int .i64 n.kind, .int .u32 n.mode, .int .u32 n.uid, .int .u32 n.gid, .int .i64 n.time, .slice aa la ca, .slice ad ld cd, .string ⟨n.link.toArray⟩])]).run Tryz.prog w = .ok (.agg (mbC (p, n) (.slice aa la ca) (.slice ad ld cd))) w := fun w => by kernel_rfl
          have hbm2 : ∀ w, (Instr.build 41 #[(0, .string ⟨p.toArray⟩), (1, .agg #[.int .i64 m.kind, .int .u32 m.mode, .int .u32 m.uid, .int .u32 m.gid, .int .i64 m.time, .slice ba lb cb, .slice bd le ce, .string ⟨m.link.toArray⟩])]).run Tryz.prog w = .ok (.agg (mbC (p, m) (.slice ba lb cb) (.slice bd le ce))) w := fun w => by kernel_rfl
          have HTS := Keep.keep (same_tar (p, n) (p, m) (.slice aa la ca) (.slice ad ld cd) (.slice ba lb cb) (.slice bd le ce) w9 (by
            have h1 := (HTX.out w9 HB9.out).nd _ (SM.look_mem HLN.out)
            dsimp only at h1
            rw [HSH.out.1, HSH.out.2] at h1
            exact h1.mono (fun b hb => by have := HBK.out b hb; omega)) (by
            have h1 := (HTY.out w9 HB9.out).nd _ (SM.look_mem HL2.out)
            dsimp only at h1
            rw [HS2.out.1, HS2.out.2] at h1
            exact h1.mono (fun b hb => by have := HBK2.out b hb; omega)))
          clear hlk c2
          go_wp2_with (first
            | ((with_reducible refine arm_loadRowG ?_ HR6.out aggN HS6.out ?_ ?_); (focus rfl); (focus rfl); simp only [Act.put, List.setIfInBounds_toArray, List.set_cons_succ, List.set_cons_zero])
            | ((with_reducible refine arm_loadRowG ?_ HR7.out aggN HS7.out ?_ ?_); (focus rfl); (focus rfl); simp only [Act.put, List.setIfInBounds_toArray, List.set_cons_succ, List.set_cons_zero]))
          refine HTS.out.mono ?_
          rintro e w10 ⟨⟨rb, rfl, hrb⟩, hb10⟩
          have HB10 := Keep.keep (HB9.out.trans (hb10.mono hw9))
          have hrg5 := H5.out.2.1.lt
          have HRG10 : Keep (RgS w10 9 mb r (entries f L) (fun q => todo q && q != p) cnt') := ⟨H5.out.2.1.loc (by rw [hb10.block mb (by have := HB9.out.size; omega), H9.out.1.block mb (by omega)]) (by rw [hb10.block r (by have := (hb7 ▸ H9.out.1 : Below w5.heap.size w5 w9).size; omega), H9.out.1.block r (by omega)])⟩
          cases rb with
          | true =>
            have hmn : n = m := by
              have := hrb.1 rfl
              injection this
            have HMN := Keep.keep hmn
            clear hmn hrb hb10
            go_wp2_with fail
            go_roundg cnt'
            case measure => omega
            case rel =>
              refine ⟨_, HRG10.out, fun p' n' h1 h2 => ?_, HB10.out⟩
              by_cases e : p' = p
              · rw [e] at h1 ⊢
                rw [HLN.out] at h1
                rw [HL2.out, ← HMN.out]; exact h1
              · exact HOK.out p' n' h1 (by simpa [e] using h2)
          | false =>
            have HNE := Keep.keep (HEQ.out p n HLN.out (by
              rw [HL2.out]
              intro e
              injection e with e
              have := hrb.2 (by rw [e])
              cases this))
            clear hrb hb10
            go_wp2_with fail
            go_ret
            exact ⟨⟨false, rfl, ⟨fun h => (by cases h), fun h => (HNE.out (HP.out.1 h)).elim⟩⟩, HB10.out⟩
  · have hne : ((L.length : Int) == (L2.length : Int)) = false := by simp; omega
    have HL := Keep.keep hl
    clear hl hlen hlen2
    go_wp2_with fail
    go_ret
    exact ⟨⟨false, rfl, ⟨fun h => (by cases h), fun h => (HLE.out HL.out (HP.out.1 h)).elim⟩⟩, below_drewN' (Below.refl _ _) _⟩
end Go.Proofs.YtmnknmpfkjhgbaaGreatDoor
