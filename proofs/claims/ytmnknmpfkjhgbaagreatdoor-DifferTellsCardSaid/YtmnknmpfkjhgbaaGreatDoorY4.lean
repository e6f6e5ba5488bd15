/- PARTS OF ONE PROOF, set in one file: LawD20, LawD20T, RfLaw, TreeCopy, DfTr, DtKs, RTreeL, PathRef. Each part tells its own conditions. -/
import Derived.RangeFuncNested
import Derived.RangeFuncBound
import Derived.Test.YtmnknmpfkjhgbaaGreatDoorY3
/- portolanlaw20: small, paths, tells. -/
namespace Go.Proofs.YtmnknmpfkjhgbaaGreatDoor
open Go.RowKit
theorem growT_sub : ∀ (n : Nat) (P : List Mb), P.length = n → ∀ x, x ∈ growT P → x ∈ P := by
  intro n
  induction n with
  | zero =>
    intro P h x hx
    obtain rfl := List.eq_nil_of_length_eq_zero h
    exact hx
  | succ n ih =>
    intro P h x hx
    obtain ⟨Q, m, rfl⟩ : ∃ Q m, P = Q ++ [m] := ⟨P.dropLast, P.getLast (by intro e; rw [e] at h; cases h), (List.dropLast_concat_getLast _).symm⟩
    rw [growT_snoc, SM.mem_put] at hx
    rcases hx with rfl | ⟨hx, _⟩
    · simp
    · exact List.mem_append_left _ (ih Q (by simpa using h) x hx)
theorem newT_well {P t : List Mb} (h : newT P = (0, some t)) : WellL t := by
  unfold newT at h
  split at h
  · cases h
  · rename_i h1
    split at h
    · cases h
    · split at h
      · cases h
      · rename_i h3
        split at h
        · cases h
        · injection h with _ h; injection h with h; subst h
          refine ⟨growT_srt P, fun x hx => ?_, fun x hx => ?_⟩
          · have hm := growT_sub _ P rfl x hx
            cases hq : mayM x with
            | true => rfl
            | false => exact (h1 (List.any_eq_true.2 ⟨x, hm, by rw [hq]; rfl⟩)).elim
          · have hm := growT_sub _ P rfl x hx
            cases hq : dirT (growT P) (parentP x.1) with
            | true => rfl
            | false => exact (h3 (List.any_eq_true.2 ⟨x, hm, by rw [hq]; rfl⟩)).elim
set_option maxHeartbeats 1000000 in
set_option maxRecDepth 100000 in
theorem small_any (v : Value) (l : List Mv) (B : Nat) (w : World) (hT : Tabs B w) (hr : Mbs w (· < w.heap.size) (· < w.heap.size) v l) (hs : ∀ x ∈ l, Sm x.1) (hl : l.length ≤ 1000000) {t : List Mb} (ht : newT (l.map (·.1)) = (0, some t)) :
    Calls Tryz.prog 20 #[v] w fun e w' => ∃ T mb Bk f, e = .returned (.pointer (some ⟨T, 0, none⟩)) ∧ TreeIn w' T mb Bk f t ∧ (w.heap.size ≤ T ∧ w.heap.size ≤ mb ∧ ∀ b, Bk b → Fresh w.heap.size w' b) ∧ Below w.heap.size w w' := by
  have HN := Keep.keep (new_tree v l B w hT hr hs hl)
  rw [ht] at HN
  obtain ⟨a, cap, hv, -⟩ := hr.rd.shape
  clear hT hr hs ht
  subst hv
  go_enter Tryz.func20, Tryz.ntmps20
  go_wp2_with fail
  refine HN.out.mono ?_
  rintro e w1 ⟨⟨pv, rfl, hnew⟩, hb⟩
  obtain ⟨T, mb, Bk, f, rfl, hti, h1, h2, h3⟩ := hnew
  have HR := Keep.keep (And.intro hti (And.intro (And.intro h1 (And.intro h2 h3)) hb))
  clear hti h1 h2 h3 hb HN
  go_wp2_with fail
  go_ret
  exact ⟨T, mb, Bk, f, rfl, HR.out.1, HR.out.2.1, HR.out.2.2⟩
def pathsS (l : List Mb) : Tx := l.flatMap fun m => m.1 ++ [32]
set_option maxHeartbeats 1000000 in
set_option maxRecDepth 100000 in
theorem paths_any (v : Value) (l : List Mv) (w : World) (hr : Mbs w (· < w.heap.size) (· < w.heap.size) v l) (hs : ∀ x ∈ l, x.1.1.length ≤ 400000) (hl : l.length ≤ 1000) :
    Calls Tryz.prog 24 #[v] w fun e w' => e = .returned (.string ⟨(pathsS (l.map (·.1))).toArray⟩) ∧ Below w.heap.size w w' := by
  obtain ⟨a, cap, hv, hcap, hmx, h3⟩ := hr.rd.shape
  have HR := Keep.keep hr; have H3 := Keep.keep h3; have HS := Keep.keep hs
  unfold maxLen at hmx
  clear hr h3 hs
  subst hv
  obtain ⟨S, hS⟩ : ∃ S, l.map (·.1) = S := ⟨_, rfl⟩
  have HSS := Keep.keep hS
  rw [hS]
  have HSL : Keep (S.length = l.length) := ⟨by rw [← hS, List.length_map]⟩
  obtain ⟨out, hout⟩ : ∃ out, pathsS S = out := ⟨_, rfl⟩
  have HOUT := Keep.keep hout
  rw [hout]
  clear hS hout
  go_enter Tryz.func24, Tryz.ntmps24
  go_wp2_with fail
  go_loopg [3, 8] l.length (fun g u3 u8 wx => ∃ (k : Nat) (acc : Tx), k + g = l.length ∧ u8 = .int .i64 (k : Int) ∧ u3 = .string ⟨acc.toArray⟩ ∧ pathsS (S.take k) = acc ∧ acc.length ≤ k * 400001 ∧ Below w.heap.size w wx)
  case atStart => exact ⟨0, [], by omega, rfl, rfl, rfl, Nat.le_refl _, Below.refl _ _⟩
  case round =>
    obtain ⟨k, acc, hkg, rfl, rfl, hac, hal, hb⟩ := hrel
    have HAC := Keep.keep hac; have HB := Keep.keep hb
    clear hac hb
    cases gk with
    | zero =>
      obtain rfl : k = l.length := by omega
      have HX : Keep (acc = out) := ⟨by rw [← HAC.out, ← HOUT.out, ← HSL.out, List.take_length]⟩
      go_wp2_with fail
      go_ret
      exact ⟨by rw [HX.out]; rfl, HB.out⟩
    | succ g =>
      have hk : k < l.length := by omega
      obtain ⟨b, off, rfl, hbl⟩ : ∃ b off, a = some ⟨b, off, none⟩ ∧ b < w.heap.size := by
        rcases H3.out with h | ⟨b, off, h, hb⟩
        · omega
        · exact ⟨b, off, h, hb⟩
      have hld := (HR.out.below HB.out (fun b hb => hb) (fun b hb => hb)).load hk
      have hkS : k < S.length := by rw [HSL.out]; exact hk
      have hSk : S[k] = l[k].1 := by simp [← HSS.out]
      have HTK : Keep (pathsS (S.take (k + 1)) = pathsS (S.take k) ++ (l[k].1.1 ++ [32])) := ⟨by
        unfold pathsS
        rw [List.take_succ_eq_append_getElem hkS, List.flatMap_append, hSk]
        simp⟩
      have hxp := HS.out l[k] (List.getElem_mem hk)
      have HND := Keep.keep (HR.out.nd l[k] (List.getElem_mem hk))
      clear hkS hSk
      generalize l[k] = x at *
      obtain ⟨⟨xp, ⟨kind, mode, uid, gid, time, attrs, data, link⟩⟩, av, dv⟩ := x
      obtain ⟨aa, la, ca, ad, ld, cd, e1, e2⟩ := HND.out.shape
      dsimp only at e1 e2 hxp HTK
      subst e1 e2
      have HMC : Keep (mcell ((xp, ⟨kind, mode, uid, gid, time, attrs, data, link⟩), .slice aa la ca, .slice ad ld cd) = #[.string ⟨xp.toArray⟩, .int .i64 kind, .int .u32 mode, .int .u32 uid, .int .u32 gid, .int .i64 time, .slice aa la ca, .slice ad ld cd, .string ⟨link.toArray⟩]) := ⟨rfl⟩
      rw [HMC.out] at hld
      have hkb : k * 400001 ≤ 1000 * 400001 := Nat.mul_le_mul_right _ (by omega)
      have hc1 := run_cat (P := Tryz.prog) xp [32] (by simp; omega)
      obtain ⟨xq, hxq⟩ : ∃ y, xp ++ [32] = y := ⟨_, rfl⟩
      have hxl : xq.length ≤ 400001 := by rw [← hxq]; simp; omega
      rw [hxq] at hc1 HTK
      have hc2 := run_cat (P := Tryz.prog) acc xq (by omega)
      obtain ⟨ac2, hac2⟩ : ∃ y, acc ++ xq = y := ⟨_, rfl⟩
      have hal2 : ac2.length ≤ (k + 1) * 400001 := by rw [← hac2, List.length_append]; omega
      have HA2 : Keep (pathsS (S.take (k + 1)) = ac2) := ⟨by rw [HTK.out, HAC.out, hac2]⟩
      rw [hac2] at hc2
      have HAL2 := Keep.keep hal2
      clear hxq hac2 hal hkb hxl hal2
      go_upto_region 5 with ((with_reducible refine arm_loadM hld ?_ ?_); (focus rfl); simp only [Act.put, List.setIfInBounds_toArray, List.set_cons_succ, List.set_cons_zero])
      obtain ⟨b5, hb5⟩ : ∃ b, wr.heap.size = b := ⟨_, rfl⟩
      refine wp_world (R := fun w2 => Hp NoM wr w2 [rowA b5 41 #[.string ⟨xp.toArray⟩, .int .i64 kind, .int .u32 mode, .int .u32 uid, .int .u32 gid, .int .i64 time, .slice aa la ca, .slice ad ld cd, .string ⟨link.toArray⟩]]) (by have := (Hp.begin NoM wr).newRow 41 #[.string ⟨xp.toArray⟩, .int .i64 kind, .int .u32 mode, .int .u32 uid, .int .u32 gid, .int .i64 time, .slice aa la ca, .slice ad ld cd, .string ⟨link.toArray⟩]; rw [hb5] at this; exact this) ?_
      intro w2 H2
      rw [hb5]
      have c0 := (H2.out.row 0 rfl).cell (i := 0) rfl
      have HB2 := Keep.keep (HB.out.trans (H2.out.below.mono HB.out.size))
      clear hld hb5
      go_wp2_with fail
      go_roundg g
      case measure => omega
      case rel => exact ⟨k + 1, ac2, by omega, by simp, rfl, HA2.out, HAL2.out, HB2.out⟩
/-- a File with bytes -/
def fileD (data : Tx) : Nd := ⟨2, 0, 0, 0, 0, [], data, []⟩
set_option maxHeartbeats 1000000 in
set_option maxRecDepth 100000 in
theorem tl1_any (p : Tx) (w : World) : Calls Tryz.prog 58 #[.string ⟨p.toArray⟩] w fun e w' => e = .returned (.agg (mbC (p, dirN) nilV nilV)) ∧ Below w.heap.size w w' := by
  have hb1 : ∀ w, (Instr.build 39 #[(0, .int .i64 1)]).run Tryz.prog w = .ok (.agg #[.int .i64 1, .int .u32 0, .int .u32 0, .int .u32 0, .int .i64 0, .slice none 0 0, .slice none 0 0, .string ⟨#[]⟩]) w := fun w => by kernel_rfl
  have hb3 : ∀ w, (Instr.build 41 #[(0, .string ⟨p.toArray⟩), (1, .agg #[.int .i64 1, .int .u32 0, .int .u32 0, .int .u32 0, .int .i64 0, .slice none 0 0, .slice none 0 0, .string ⟨#[]⟩])]).run Tryz.prog w = .ok (.agg #[.string ⟨p.toArray⟩, .int .i64 1, .int .u32 0, .int .u32 0, .int .u32 0, .int .i64 0, .slice none 0 0, .slice none 0 0, .string ⟨#[]⟩]) w := fun w => buildM (p, dirN) nilV nilV w
  have HX : Keep (mbC (p, dirN) nilV nilV = #[.string ⟨p.toArray⟩, .int .i64 1, .int .u32 0, .int .u32 0, .int .u32 0, .int .i64 0, .slice none 0 0, .slice none 0 0, .string ⟨#[]⟩]) := ⟨rfl⟩
  have HZ : Keep ((#[.string ⟨#[]⟩, .int .i64 0, .int .u32 0, .int .u32 0, .int .u32 0, .int .i64 0, .slice none 0 0, .slice none 0 0, .string ⟨#[]⟩] : Array Value).size = 9) := ⟨rfl⟩
  have HSZ : Keep ((#[.string ⟨p.toArray⟩, .int .i64 1, .int .u32 0, .int .u32 0, .int .u32 0, .int .i64 0, .slice none 0 0, .slice none 0 0, .string ⟨#[]⟩] : Array Value).size = 9) := ⟨rfl⟩
  have HON : Keep ((#[.string ⟨p.toArray⟩, .int .i64 1, .int .u32 0, .int .u32 0, .int .u32 0, .int .i64 0, .slice none 0 0, .slice none 0 0, .string ⟨#[]⟩] : Array Value).all (·.oneCell') = true) := ⟨by simp [Value.oneCell']⟩
  rw [HX.out]
  go_enter Tryz.func58, Tryz.ntmps58
  go_upto_region 1 with fail
  refine wp_world (R := fun w1 => Hp NoM w w1 [rowA w.heap.size 41 #[.string ⟨#[]⟩, .int .i64 0, .int .u32 0, .int .u32 0, .int .u32 0, .int .i64 0, .slice none 0 0, .slice none 0 0, .string ⟨#[]⟩]]) ((Hp.begin NoM w).newRow _ _) ?_
  intro w1 H1
  have HRW := Keep.keep (H1.out.row 0 rfl)
  have HB := Keep.keep ((Chg.of_below (M := NoM) H1.out.below))
  go_wp2_with ((with_reducible refine arm_storeRow HRW.out aggM HZ.out HSZ.out HON.out ?_ ?_ ?_); (focus rfl); (focus rfl); simp only [Act.put])
  exact bodyPost_ret (results_row (p := 2) (ty := 41) rfl (HRW.out.setRow _) aggM HSZ.out rfl) rfl ⟨rfl, (HB.out.setRow (.inl (Nat.le_refl _)) _).below (fun _ _ h => h)⟩
set_option maxHeartbeats 1000000 in
set_option maxRecDepth 100000 in
theorem tl2_any (p data : Tx) (hd : data.length ≤ 1000) (w : World) : Calls Tryz.prog 59 #[.string ⟨p.toArray⟩, .string ⟨data.toArray⟩] w fun e w' => ∃ dv, e = .returned (.agg (mbC (p, fileD data) nilV dv)) ∧ NdR w' (Fresh w.heap.size w') (fileD data) nilV dv ∧ Below w.heap.size w w' := by
  obtain ⟨n, hn⟩ : ∃ n, data.length = n := ⟨_, rfl⟩
  obtain ⟨cf, rf, mf, hcv, hcr⟩ := convS data n hn (by unfold maxLen; omega)
  have HCR := Keep.keep hcr
  have hb1 : ∀ a n c w, (Instr.build 39 #[(0, .int .i64 2), (6, .slice a n c)]).run Tryz.prog w = .ok (.agg #[.int .i64 2, .int .u32 0, .int .u32 0, .int .u32 0, .int .i64 0, .slice none 0 0, .slice a n c, .string ⟨#[]⟩]) w := fun a n c w => by kernel_rfl
  have hb3 : ∀ a n c w, (Instr.build 41 #[(0, .string ⟨p.toArray⟩), (1, .agg #[.int .i64 2, .int .u32 0, .int .u32 0, .int .u32 0, .int .i64 0, .slice none 0 0, .slice a n c, .string ⟨#[]⟩])]).run Tryz.prog w = .ok (.agg #[.string ⟨p.toArray⟩, .int .i64 2, .int .u32 0, .int .u32 0, .int .u32 0, .int .i64 0, .slice none 0 0, .slice a n c, .string ⟨#[]⟩]) w := fun a n c w => buildM (p, fileD data) nilV (.slice a n c) w
  have HZ : Keep ((#[.string ⟨#[]⟩, .int .i64 0, .int .u32 0, .int .u32 0, .int .u32 0, .int .i64 0, .slice none 0 0, .slice none 0 0, .string ⟨#[]⟩] : Array Value).size = 9) := ⟨rfl⟩
  have HX : Keep (∀ a n c, mbC (p, fileD data) nilV (.slice a n c) = #[.string ⟨p.toArray⟩, .int .i64 2, .int .u32 0, .int .u32 0, .int .u32 0, .int .i64 0, .slice none 0 0, .slice a n c, .string ⟨#[]⟩]) := ⟨fun _ _ _ => rfl⟩
  clear hcr hn hd
  go_enter Tryz.func59, Tryz.ntmps59
  go_upto_region 1 with fail
  refine wp_world (R := fun w1 => Hp NoM w w1 [rowA w.heap.size 41 #[.string ⟨#[]⟩, .int .i64 0, .int .u32 0, .int .u32 0, .int .u32 0, .int .i64 0, .slice none 0 0, .slice none 0 0, .string ⟨#[]⟩]]) ((Hp.begin NoM w).newRow _ _) ?_
  intro w1 H1
  obtain ⟨b0, hb0⟩ : ∃ b, w.heap.size = b := ⟨_, rfl⟩
  have HB0 := Keep.keep hb0
  rw [hb0] at H1 ⊢
  clear hb0
  go_wp2_with (with_reducible refine arm_sSt ?_)
  refine StM.out ?_
  refine wpList_world (R := fun w2 => Hp NoM w w2 [rowA b0 41 #[.string ⟨#[]⟩, .int .i64 0, .int .u32 0, .int .u32 0, .int .u32 0, .int .i64 0, .slice none 0 0, .slice none 0 0, .string ⟨#[]⟩]] ∧ Reads w2 (fun b => b = w1.heap.size) (.slice (some ⟨w1.heap.size, 0, none⟩) n (cf w1)) data ∧ w1.heap.size < w2.heap.size) ⟨H1.out.call (((Below.refl w1.heap.size w1).drew).alloc (Nat.le_refl _) _), HCR.out w1, Nat.lt_of_lt_of_le (Nat.lt_succ_self w1.heap.size) (Nat.le_of_eq (World.size_alloc w1 _).symm)⟩ ?_
  intro w2 H2
  obtain ⟨b7, hb7⟩ : ∃ b, w1.heap.size = b := ⟨_, rfl⟩
  have hs1 := (H1.out.row 0 rfl).lt
  have hsw := H1.out.size
  have HHB := Keep.keep HB0.out
  rw [hb7] at H2 hs1 hsw ⊢
  generalize cf w1 = c7 at *
  clear hb7 hcv H1 hb1 hb3
  have HRW := Keep.keep (H2.out.1.row 0 rfl)
  have HSZ : Keep ((#[.string ⟨p.toArray⟩, .int .i64 2, .int .u32 0, .int .u32 0, .int .u32 0, .int .i64 0, .slice none 0 0, .slice (some ⟨b7, 0, none⟩) n c7, .string ⟨#[]⟩] : Array Value).size = 9) := ⟨rfl⟩
  have HON : Keep ((#[.string ⟨p.toArray⟩, .int .i64 2, .int .u32 0, .int .u32 0, .int .u32 0, .int .i64 0, .slice none 0 0, .slice (some ⟨b7, 0, none⟩) n c7, .string ⟨#[]⟩] : Array Value).all (·.oneCell') = true) := ⟨by simp [Value.oneCell']⟩
  refine arm_storeRow HRW.out aggM HZ.out HSZ.out HON.out rfl rfl ?_
  simp only [Act.put]
  go_wp2_with fail
  have hch : Chg (fun k => k = b0) w2.heap.size w2 (w2.setRow b0 #[.string ⟨p.toArray⟩, .int .i64 2, .int .u32 0, .int .u32 0, .int .u32 0, .int .i64 0, .slice none 0 0, .slice (some ⟨b7, 0, none⟩) n c7, .string ⟨#[]⟩]) := Chg.setRow (M := fun k => k = b0) (.refl _ _ _) (.inr rfl) _
  refine bodyPost_ret (results_row (p := 4) (ty := 41) rfl (HRW.out.setRow _) aggM HSZ.out rfl) rfl ⟨.slice (some ⟨b7, 0, none⟩) n c7, rfl, ⟨RdV.ofNil, ?_⟩, ?_⟩
  · exact (H2.out.2.1.chg hch (fun b e => by subst e; exact ⟨H2.out.2.2, by omega⟩)).mono (fun b e => by subst e; exact ⟨by have := HB0.out; omega, by have := hch.size; have := H2.out.2.2; omega⟩)
  · exact ((Chg.of_below (M := NoM) H2.out.1.below).setRow (.inl (by have := HB0.out; omega)) _).below (fun _ _ h => h)
end Go.Proofs.YtmnknmpfkjhgbaaGreatDoor
/- portolanlaw20.tells: the chapter's rows. -/
namespace Go.Proofs.YtmnknmpfkjhgbaaGreatDoor
open Go.RowKit
/-- a tree at hand -/
def TrL (w : World) (T : Nat) (t : List Mb) : Prop := ∃ mb Bk f, TreeIn w T mb Bk f t ∧ ∀ b, Bk b → b < w.heap.size
theorem TrL.on {w w' : World} {T : Nat} {t : List Mb} (h : TrL w T t) (hb : Below w.heap.size w w') : TrL w' T t := by
  obtain ⟨mb, Bk, f, h1, h2⟩ := h
  exact ⟨mb, Bk, f, h1.loc (fun b hb' => hb.block b (by
    rcases hb' with rfl | rfl | h
    · exact h1.row.lt
    · exact h1.map.lt
    · exact h2 b h)), fun b hb' => Nat.lt_of_lt_of_le (h2 b hb') hb.size⟩
def NdL (w : World) (n : Nd) (av dv : Value) : Prop := NdR w (· < w.heap.size) n av dv
theorem NdL.on {w w' : World} {n : Nd} {av dv : Value} (h : NdL w n av dv) (hb : Below w.heap.size w w') : NdL w' n av dv := (h.below hb (fun _ hb => hb)).mono (fun _ hb' => Nat.lt_of_lt_of_le hb' hb.size)
theorem Of_tr {w : World} {Ta Tb : Nat} {A B : List Mb} (T : Nat) (hT : Tabs T w) (hA : WellL A) (hB : WellL B) (hLA : A.length ≤ 4095) (hLB : B.length ≤ 4095) (h1 : TrL w Ta A) (h2 : TrL w Tb B) :
    Calls Tryz.prog 9 #[.pointer (some ⟨Ta, 0, none⟩), .pointer (some ⟨Tb, 0, none⟩)] w fun e w' => ∃ v l, e = .returned (.tuple #[v, .int .i64 0]) ∧ OfL A B (l.map (·.1)) ∧ (l.map (·.1)).Perm (toldL A B) ∧ RowM w.heap.size NoM w' v l ∧ Below w.heap.size w w' := by
  obtain ⟨ta, Ba, fa, ha, hBa⟩ := h1
  obtain ⟨tb, Bb, fb, hb, hBb⟩ := h2
  refine (Of_anyO Ta ta Ba fa A Tb tb Bb fb B T w hT hA hB (by omega) hLB ha hBa hb hBb).mono ?_
  rintro e w' ⟨v, l, he, hp, hs, hr, hbb⟩
  exact ⟨v, l, he, of_leads hA hB hLB ha.sm hb.sm hp (by rw [List.pairwise_map]; exact hs), hp, hr.row, hbb⟩
theorem small_tr {w : World} {v : Value} {l : List Mv} (B : Nat) (hT : Tabs B w) (hr : Mbs w (· < w.heap.size) (· < w.heap.size) v l) (hs : ∀ x ∈ l, Sm x.1) (hl : l.length ≤ 1000000) {t : List Mb} (ht : newT (l.map (·.1)) = (0, some t)) :
    Calls Tryz.prog 20 #[v] w fun e w' => ∃ T, e = .returned (.pointer (some ⟨T, 0, none⟩)) ∧ TrL w' T t ∧ Below w.heap.size w w' := by
  refine (small_any v l B w hT hr hs hl ht).mono ?_
  rintro e w' ⟨T, mb, Bk, f, he, h1, h2, h3⟩
  exact ⟨T, he, ⟨mb, Bk, f, h1, fun b hb => (h2.2.2 b hb).2⟩, h3⟩
theorem told_is {A B L K1 K : List Mb} (hA : WellL A) (hB : WellL B) (hT : belF A B (ksU A B) 500000 [] = L) (hL : L.Perm K1) (hS : SM.Srt K1) (hp : K.Perm (toldL A B)) (hs : SM.Srt K) : K = K1 := by
  have h1 : (toldL A B).Perm L := by rw [← hT]; exact bel_perm (ksT_kids hA hB) (ksU_kids hA hB) 500000 []
  exact srt_mem hs hS (fun x => ((hp.trans h1).trans hL).mem_iff)
def tA1 : List Mb := [([100], dirN), ([100, 47, 97], fileD []), ([100, 47, 98], fileD []), ([100, 47, 99], fileD [])]
def tB1 : List Mb := [([100], dirN), ([100, 47, 97], fileD [120])]
def tA2 : List Mb := [([97], fileD [])]
def tB2 : List Mb := [([97], dirN), ([97, 47, 120], fileD [])]
def tA3 : List Mb := [([120], fileD []), ([121], fileD [])]
def tB3 : List Mb := [([120], fileD [])]
def tK1 : List Mb := [([100], dirN), ([100, 47, 46, 119, 104, 46, 46, 119, 104, 46, 46, 111, 112, 113], bareN), ([100, 47, 97], fileD [120])]
def tK2 : List Mb := [([97], dirN), ([97, 47, 120], fileD [])]
def tK3 : List Mb := [([46, 119, 104, 46, 121], bareN)]
set_option maxRecDepth 100000 in
theorem tn1 : newT tA1 = (0, some tA1) := by kernel_rfl
set_option maxRecDepth 100000 in
theorem tn2 : newT tB1 = (0, some tB1) := by kernel_rfl
set_option maxRecDepth 100000 in
theorem tn3 : newT tA2 = (0, some tA2) := by kernel_rfl
set_option maxRecDepth 100000 in
theorem tn4 : newT tB2 = (0, some tB2) := by kernel_rfl
set_option maxRecDepth 100000 in
theorem tn5 : newT tA3 = (0, some tA3) := by kernel_rfl
set_option maxRecDepth 100000 in
theorem tn6 : newT tB3 = (0, some tB3) := by kernel_rfl
set_option maxRecDepth 100000 in
theorem tt1 : belF tA1 tB1 (ksU tA1 tB1) 500000 [] = [([100, 47, 97], fileD [120]), ([100, 47, 46, 119, 104, 46, 46, 119, 104, 46, 46, 111, 112, 113], bareN), ([100], dirN)] := by kernel_rfl
set_option maxRecDepth 100000 in
theorem tt2 : belF tA2 tB2 (ksU tA2 tB2) 500000 [] = tK2 := by kernel_rfl
set_option maxRecDepth 100000 in
theorem tt3 : belF tA3 tB3 (ksU tA3 tB3) 500000 [] = tK3 := by kernel_rfl
theorem ts1 : SM.Srt tK1 := by unfold SM.Srt; decide
theorem ts2 : SM.Srt tK2 := by unfold SM.Srt; decide
theorem ts3 : SM.Srt tK3 := by unfold SM.Srt; decide
theorem tp1 : pathsS tK1 = [100, 32, 100, 47, 46, 119, 104, 46, 46, 119, 104, 46, 46, 111, 112, 113, 32, 100, 47, 97, 32] := by kernel_rfl
theorem tp2 : pathsS tK2 = [97, 32, 97, 47, 120, 32] := by kernel_rfl
theorem tp3 : pathsS tK3 = [46, 119, 104, 46, 121, 32] := by kernel_rfl
def MbL (w : World) (v : Value) (l : List Mv) : Prop := Mbs w (· < w.heap.size) (· < w.heap.size) v l
theorem MbL.on {w w' : World} {v : Value} {l : List Mv} (h : MbL w v l) (hb : Below w.heap.size w w') : MbL w' v l := (Mbs.below h hb (fun _ hb => hb) (fun _ hb => hb)).mono (fun _ hb' => Nat.lt_of_lt_of_le hb' hb.size) (fun _ hb' => Nat.lt_of_lt_of_le hb' hb.size)
theorem tl1_lit (p : Tx) (w : World) : Calls Tryz.prog 58 #[.string ⟨p.toArray⟩] w fun e w' => e = .returned (.agg #[.string ⟨p.toArray⟩, .int .i64 1, .int .u32 0, .int .u32 0, .int .u32 0, .int .i64 0, .slice none 0 0, .slice none 0 0, .string ⟨#[]⟩]) ∧ Below w.heap.size w w' := tl1_any p w
theorem tl2_lit (p data : Tx) (n : Nat) (hn : data.length = n) (hd : n ≤ 1000) (w : World) : Calls Tryz.prog 59 #[.string ⟨p.toArray⟩, .string ⟨data.toArray⟩] w fun e w' => ∃ a c, e = .returned (.agg #[.string ⟨p.toArray⟩, .int .i64 2, .int .u32 0, .int .u32 0, .int .u32 0, .int .i64 0, .slice none 0 0, .slice a n c, .string ⟨#[]⟩]) ∧ NdL w' (fileD data) nilV (.slice a n c) ∧ Below w.heap.size w w' := by
  refine (tl2_any p data (by omega) w).mono ?_
  rintro e w' ⟨dv, rfl, hn', hb⟩
  obtain ⟨a, c, he, -⟩ := hn'.dt.shape
  have he : dv = .slice a n c := by rw [he, ← hn]; rfl
  subst he
  exact ⟨a, c, rfl, hn'.mono (fun _ h => h.2), hb⟩
theorem dirL (w : World) : NdL w dirN nilV nilV := ndR_nil rfl rfl
theorem sm_dirN (p : Tx) (hp : p.length ≤ 1000) : Sm (p, dirN) := ⟨by simp; omega, by simp [dirN], by simp [dirN], by simp [dirN], fun x hx => by simp [dirN] at hx, by simp [dirN]⟩
theorem sm_fileD (p d : Tx) (hp : p.length ≤ 1000) (hd : d.length ≤ 1000) : Sm (p, fileD d) := ⟨by simp; omega, by simp [fileD], by simp [fileD]; omega, by simp [fileD], fun x hx => by simp [fileD] at hx, by simp [fileD]⟩
theorem MbL.ofRow {w : World} {v : Value} {l : List Mv} {B : Nat} (h : RowM B NoM w v l) : MbL w v l := h.mbs.mono (fun _ hb => hb.2) (fun _ hb => hb.2.1)
set_option maxHeartbeats 8000000 in
set_option maxRecDepth 100000 in
theorem dtells_any (B : Nat) (w : World) (hT : Tabs B w) : Calls Tryz.prog 19 #[] w fun e w' => e = .returned (.bool true) ∧ Below w.heap.size w w' := by
  have HT := Keep.keep hT
  have HW0 : Keep (Below w.heap.size w w) := ⟨Below.refl _ _⟩
  have hent1 : ∀ args w, (callFunc 58 args).run Tryz.prog w = .ok (.enter 58 args) w := enters_of Tryz.func58 (by kernel_rfl) rfl
  have hent2 : ∀ args w, (callFunc 59 args).run Tryz.prog w = .ok (.enter 59 args) w := enters_of Tryz.func59 (by kernel_rfl) rfl
  clear hT
  go_enter Tryz.func19, Tryz.ntmps19
  go_wp2_with fail
  refine (tl1_lit [100] _).mono ?_
  rintro e w1 ⟨rfl, hb⟩
  have HW1 := Keep.keep (HW0.out.trans (hb.mono HW0.out.size))
  clear hb
  go_wp2_with fail
  refine (tl2_lit [100, 47, 97] [] 0 rfl (by decide) _).mono ?_
  rintro e w2 ⟨a0, c0, rfl, hn, hb⟩
  have HW2 := Keep.keep (HW1.out.trans (hb.mono HW1.out.size))
  have HN0 := Keep.keep hn
  clear hn hb
  go_wp2_with fail
  refine (tl2_lit [100, 47, 98] [] 0 rfl (by decide) _).mono ?_
  rintro e w3 ⟨a1, c1, rfl, hn, hb⟩
  have HW3 := Keep.keep (HW2.out.trans (hb.mono HW2.out.size))
  have HN0' := Keep.keep (HN0.out.on hb)
  clear HN0
  have HN0 := HN0'
  clear HN0'
  have HN1 := Keep.keep hn
  clear hn hb
  go_wp2_with fail
  refine (tl2_lit [100, 47, 99] [] 0 rfl (by decide) _).mono ?_
  rintro e w4 ⟨a2, c2, rfl, hn, hb⟩
  have HW4 := Keep.keep (HW3.out.trans (hb.mono HW3.out.size))
  have HN0' := Keep.keep (HN0.out.on hb)
  clear HN0
  have HN0 := HN0'
  clear HN0'
  have HN1' := Keep.keep (HN1.out.on hb)
  clear HN1
  have HN1 := HN1'
  clear HN1'
  have HN2 := Keep.keep hn
  clear hn hb
  go_wp2_with fail
  refine calls_at (R := fun wq => Below w4.heap.size w4 wq ∧ RdV wq (· < wq.heap.size) 9 (.slice (some ⟨w4.heap.size, 0, none⟩) 4 4) 4 (mcells ([(([100], dirN), nilV, nilV), (([100, 47, 97], fileD []), nilV, .slice a0 0 c0), (([100, 47, 98], fileD []), nilV, .slice a1 0 c1), (([100, 47, 99], fileD []), nilV, .slice a2 0 c2)] : List Mv))) ⟨(Below.refl _ _).alloc (Nat.le_refl _) _, RdV.new 41 (mcells ([(([100], dirN), nilV, nilV), (([100, 47, 97], fileD []), nilV, .slice a0 0 c0), (([100, 47, 98], fileD []), nilV, .slice a1 0 c1), (([100, 47, 99], fileD []), nilV, .slice a2 0 c2)] : List Mv)) 9 4 _ rfl rfl (by unfold maxLen; omega) (by simp)⟩ ?_
  intro w5 Hq
  have hbq := Hq.out.1
  have HW5 := Keep.keep (HW4.out.trans (hbq.mono HW4.out.size))
  have HN0' := Keep.keep (HN0.out.on hbq)
  clear HN0
  have HN0 := HN0'
  clear HN0'
  have HN1' := Keep.keep (HN1.out.on hbq)
  clear HN1
  have HN1 := HN1'
  clear HN1'
  have HN2' := Keep.keep (HN2.out.on hbq)
  clear HN2
  have HN2 := HN2'
  clear HN2'
  refine (small_tr (v := .slice (some ⟨_, 0, none⟩) 4 4) (l := [(([100], dirN), nilV, nilV), (([100, 47, 97], fileD []), nilV, .slice a0 0 c0), (([100, 47, 98], fileD []), nilV, .slice a1 0 c1), (([100, 47, 99], fileD []), nilV, .slice a2 0 c2)]) B (HT.out.on (HW5.out.mono HT.out.b)) ⟨Hq.out.2, fun x hx => ?_⟩ (fun x hx => ?_) (by simp) tn1).mono ?_
  · simp only [List.mem_cons, List.not_mem_nil, or_false] at hx
    rcases hx with rfl | rfl | rfl | rfl
    · exact dirL _
    · exact HN0.out
    · exact HN1.out
    · exact HN2.out
  · simp only [List.mem_cons, List.not_mem_nil, or_false] at hx
    rcases hx with rfl | rfl | rfl | rfl
    · exact sm_dirN _ (by decide)
    · exact sm_fileD _ _ (by decide) (by decide)
    · exact sm_fileD _ _ (by decide) (by decide)
    · exact sm_fileD _ _ (by decide) (by decide)
  rintro e w6 ⟨T1, rfl, ht, hb⟩
  have HW6 := Keep.keep (HW5.out.trans (hb.mono HW5.out.size))
  have HN0' := Keep.keep (HN0.out.on hb)
  clear HN0
  have HN0 := HN0'
  clear HN0'
  have HN1' := Keep.keep (HN1.out.on hb)
  clear HN1
  have HN1 := HN1'
  clear HN1'
  have HN2' := Keep.keep (HN2.out.on hb)
  clear HN2
  have HN2 := HN2'
  clear HN2'
  have HT1 := Keep.keep ht
  clear ht hb hbq Hq
  clear HN0
  clear HN1
  clear HN2
  go_wp2_with fail
  refine (tl1_lit [100] _).mono ?_
  rintro e w7 ⟨rfl, hb⟩
  have HW7 := Keep.keep (HW6.out.trans (hb.mono HW6.out.size))
  have HT1' := Keep.keep (HT1.out.on hb)
  clear HT1
  have HT1 := HT1'
  clear HT1'
  clear hb
  go_wp2_with fail
  refine (tl2_lit [100, 47, 97] [120] 1 rfl (by decide) _).mono ?_
  rintro e w8 ⟨a3, c3, rfl, hn, hb⟩
  have HW8 := Keep.keep (HW7.out.trans (hb.mono HW7.out.size))
  have HT1' := Keep.keep (HT1.out.on hb)
  clear HT1
  have HT1 := HT1'
  clear HT1'
  have HN3 := Keep.keep hn
  clear hn hb
  go_wp2_with fail
  refine calls_at (R := fun wq => Below w8.heap.size w8 wq ∧ RdV wq (· < wq.heap.size) 9 (.slice (some ⟨w8.heap.size, 0, none⟩) 2 2) 2 (mcells ([(([100], dirN), nilV, nilV), (([100, 47, 97], fileD [120]), nilV, .slice a3 1 c3)] : List Mv))) ⟨(Below.refl _ _).alloc (Nat.le_refl _) _, RdV.new 41 (mcells ([(([100], dirN), nilV, nilV), (([100, 47, 97], fileD [120]), nilV, .slice a3 1 c3)] : List Mv)) 9 2 _ rfl rfl (by unfold maxLen; omega) (by simp)⟩ ?_
  intro w9 Hq
  have hbq := Hq.out.1
  have HW9 := Keep.keep (HW8.out.trans (hbq.mono HW8.out.size))
  have HT1' := Keep.keep (HT1.out.on hbq)
  clear HT1
  have HT1 := HT1'
  clear HT1'
  have HN3' := Keep.keep (HN3.out.on hbq)
  clear HN3
  have HN3 := HN3'
  clear HN3'
  refine (small_tr (v := .slice (some ⟨_, 0, none⟩) 2 2) (l := [(([100], dirN), nilV, nilV), (([100, 47, 97], fileD [120]), nilV, .slice a3 1 c3)]) B (HT.out.on (HW9.out.mono HT.out.b)) ⟨Hq.out.2, fun x hx => ?_⟩ (fun x hx => ?_) (by simp) tn2).mono ?_
  · simp only [List.mem_cons, List.not_mem_nil, or_false] at hx
    rcases hx with rfl | rfl
    · exact dirL _
    · exact HN3.out
  · simp only [List.mem_cons, List.not_mem_nil, or_false] at hx
    rcases hx with rfl | rfl
    · exact sm_dirN _ (by decide)
    · exact sm_fileD _ _ (by decide) (by decide)
  rintro e w10 ⟨T2, rfl, ht, hb⟩
  have HW10 := Keep.keep (HW9.out.trans (hb.mono HW9.out.size))
  have HT1' := Keep.keep (HT1.out.on hb)
  clear HT1
  have HT1 := HT1'
  clear HT1'
  have HN3' := Keep.keep (HN3.out.on hb)
  clear HN3
  have HN3 := HN3'
  clear HN3'
  have HT2 := Keep.keep ht
  clear ht hb hbq Hq
  clear HN3
  go_wp2_with fail
  refine (Of_tr B (HT.out.on (HW10.out.mono HT.out.b)) (newT_well tn1) (newT_well tn2) (by decide) (by decide) HT1.out HT2.out).mono ?_
  rintro e w11 ⟨v1, l1, rfl, ho, hp, hr, hb⟩
  have HW11 := Keep.keep (HW10.out.trans (hb.mono HW10.out.size))
  have HT1' := Keep.keep (HT1.out.on hb)
  clear HT1
  have HT1 := HT1'
  clear HT1'
  have HT2' := Keep.keep (HT2.out.on hb)
  clear HT2
  have HT2 := HT2'
  clear HT2'
  have HK1 : Keep (l1.map (·.1) = tK1) := ⟨told_is (newT_well tn1) (newT_well tn2) tt1 (List.isPerm_iff.1 (by kernel_rfl)) ts1 hp ho.srt⟩
  have HM1 : Keep (MbL w11 v1 l1) := ⟨MbL.ofRow hr⟩
  have HS1 : Keep (∀ x ∈ l1, x.1.1.length ≤ 400000) := ⟨fun x hx => (ho.sm x.1 (List.mem_map.2 ⟨x, hx, rfl⟩)).p⟩
  obtain ⟨ao1, co1, hv1, -⟩ := (ownsV_reads hr.own).shape
  have hln1 : l1.length = tK1.length := by rw [← HK1.out, List.length_map]
  rw [hln1] at hv1
  have HL1 := Keep.keep hln1
  clear ho hp hr hb hln1 HT1 HT2
  subst hv1
  go_wp2_with fail
  refine (tl2_lit [97] [] 0 rfl (by decide) _).mono ?_
  rintro e w12 ⟨a4, c4, rfl, hn, hb⟩
  have HW12 := Keep.keep (HW11.out.trans (hb.mono HW11.out.size))
  have HM1' := Keep.keep (HM1.out.on hb)
  clear HM1
  have HM1 := HM1'
  clear HM1'
  have HN4 := Keep.keep hn
  clear hn hb
  go_wp2_with fail
  refine calls_at (R := fun wq => Below w12.heap.size w12 wq ∧ RdV wq (· < wq.heap.size) 9 (.slice (some ⟨w12.heap.size, 0, none⟩) 1 1) 1 (mcells ([(([97], fileD []), nilV, .slice a4 0 c4)] : List Mv))) ⟨(Below.refl _ _).alloc (Nat.le_refl _) _, RdV.new 41 (mcells ([(([97], fileD []), nilV, .slice a4 0 c4)] : List Mv)) 9 1 _ rfl rfl (by unfold maxLen; omega) (by simp)⟩ ?_
  intro w13 Hq
  have hbq := Hq.out.1
  have HW13 := Keep.keep (HW12.out.trans (hbq.mono HW12.out.size))
  have HM1' := Keep.keep (HM1.out.on hbq)
  clear HM1
  have HM1 := HM1'
  clear HM1'
  have HN4' := Keep.keep (HN4.out.on hbq)
  clear HN4
  have HN4 := HN4'
  clear HN4'
  refine (small_tr (v := .slice (some ⟨_, 0, none⟩) 1 1) (l := [(([97], fileD []), nilV, .slice a4 0 c4)]) B (HT.out.on (HW13.out.mono HT.out.b)) ⟨Hq.out.2, fun x hx => ?_⟩ (fun x hx => ?_) (by simp) tn3).mono ?_
  · simp only [List.mem_cons, List.not_mem_nil, or_false] at hx
    rcases hx with rfl
    · exact HN4.out
  · simp only [List.mem_cons, List.not_mem_nil, or_false] at hx
    rcases hx with rfl
    · exact sm_fileD _ _ (by decide) (by decide)
  rintro e w14 ⟨T3, rfl, ht, hb⟩
  have HW14 := Keep.keep (HW13.out.trans (hb.mono HW13.out.size))
  have HM1' := Keep.keep (HM1.out.on hb)
  clear HM1
  have HM1 := HM1'
  clear HM1'
  have HN4' := Keep.keep (HN4.out.on hb)
  clear HN4
  have HN4 := HN4'
  clear HN4'
  have HT3 := Keep.keep ht
  clear ht hb hbq Hq
  clear HN4
  go_wp2_with fail
  refine (tl1_lit [97] _).mono ?_
  rintro e w15 ⟨rfl, hb⟩
  have HW15 := Keep.keep (HW14.out.trans (hb.mono HW14.out.size))
  have HM1' := Keep.keep (HM1.out.on hb)
  clear HM1
  have HM1 := HM1'
  clear HM1'
  have HT3' := Keep.keep (HT3.out.on hb)
  clear HT3
  have HT3 := HT3'
  clear HT3'
  clear hb
  go_wp2_with fail
  refine (tl2_lit [97, 47, 120] [] 0 rfl (by decide) _).mono ?_
  rintro e w16 ⟨a5, c5, rfl, hn, hb⟩
  have HW16 := Keep.keep (HW15.out.trans (hb.mono HW15.out.size))
  have HM1' := Keep.keep (HM1.out.on hb)
  clear HM1
  have HM1 := HM1'
  clear HM1'
  have HT3' := Keep.keep (HT3.out.on hb)
  clear HT3
  have HT3 := HT3'
  clear HT3'
  have HN5 := Keep.keep hn
  clear hn hb
  go_wp2_with fail
  refine calls_at (R := fun wq => Below w16.heap.size w16 wq ∧ RdV wq (· < wq.heap.size) 9 (.slice (some ⟨w16.heap.size, 0, none⟩) 2 2) 2 (mcells ([(([97], dirN), nilV, nilV), (([97, 47, 120], fileD []), nilV, .slice a5 0 c5)] : List Mv))) ⟨(Below.refl _ _).alloc (Nat.le_refl _) _, RdV.new 41 (mcells ([(([97], dirN), nilV, nilV), (([97, 47, 120], fileD []), nilV, .slice a5 0 c5)] : List Mv)) 9 2 _ rfl rfl (by unfold maxLen; omega) (by simp)⟩ ?_
  intro w17 Hq
  have hbq := Hq.out.1
  have HW17 := Keep.keep (HW16.out.trans (hbq.mono HW16.out.size))
  have HM1' := Keep.keep (HM1.out.on hbq)
  clear HM1
  have HM1 := HM1'
  clear HM1'
  have HT3' := Keep.keep (HT3.out.on hbq)
  clear HT3
  have HT3 := HT3'
  clear HT3'
  have HN5' := Keep.keep (HN5.out.on hbq)
  clear HN5
  have HN5 := HN5'
  clear HN5'
  refine (small_tr (v := .slice (some ⟨_, 0, none⟩) 2 2) (l := [(([97], dirN), nilV, nilV), (([97, 47, 120], fileD []), nilV, .slice a5 0 c5)]) B (HT.out.on (HW17.out.mono HT.out.b)) ⟨Hq.out.2, fun x hx => ?_⟩ (fun x hx => ?_) (by simp) tn4).mono ?_
  · simp only [List.mem_cons, List.not_mem_nil, or_false] at hx
    rcases hx with rfl | rfl
    · exact dirL _
    · exact HN5.out
  · simp only [List.mem_cons, List.not_mem_nil, or_false] at hx
    rcases hx with rfl | rfl
    · exact sm_dirN _ (by decide)
    · exact sm_fileD _ _ (by decide) (by decide)
  rintro e w18 ⟨T4, rfl, ht, hb⟩
  have HW18 := Keep.keep (HW17.out.trans (hb.mono HW17.out.size))
  have HM1' := Keep.keep (HM1.out.on hb)
  clear HM1
  have HM1 := HM1'
  clear HM1'
  have HT3' := Keep.keep (HT3.out.on hb)
  clear HT3
  have HT3 := HT3'
  clear HT3'
  have HN5' := Keep.keep (HN5.out.on hb)
  clear HN5
  have HN5 := HN5'
  clear HN5'
  have HT4 := Keep.keep ht
  clear ht hb hbq Hq
  clear HN5
  go_wp2_with fail
  refine (Of_tr B (HT.out.on (HW18.out.mono HT.out.b)) (newT_well tn3) (newT_well tn4) (by decide) (by decide) HT3.out HT4.out).mono ?_
  rintro e w19 ⟨v2, l2, rfl, ho, hp, hr, hb⟩
  have HW19 := Keep.keep (HW18.out.trans (hb.mono HW18.out.size))
  have HM1' := Keep.keep (HM1.out.on hb)
  clear HM1
  have HM1 := HM1'
  clear HM1'
  have HT3' := Keep.keep (HT3.out.on hb)
  clear HT3
  have HT3 := HT3'
  clear HT3'
  have HT4' := Keep.keep (HT4.out.on hb)
  clear HT4
  have HT4 := HT4'
  clear HT4'
  have HK2 : Keep (l2.map (·.1) = tK2) := ⟨told_is (newT_well tn3) (newT_well tn4) tt2 (List.Perm.refl _) ts2 hp ho.srt⟩
  have HM2 : Keep (MbL w19 v2 l2) := ⟨MbL.ofRow hr⟩
  have HS2 : Keep (∀ x ∈ l2, x.1.1.length ≤ 400000) := ⟨fun x hx => (ho.sm x.1 (List.mem_map.2 ⟨x, hx, rfl⟩)).p⟩
  obtain ⟨ao2, co2, hv2, -⟩ := (ownsV_reads hr.own).shape
  have hln2 : l2.length = tK2.length := by rw [← HK2.out, List.length_map]
  rw [hln2] at hv2
  have HL2 := Keep.keep hln2
  clear ho hp hr hb hln2 HT3 HT4
  subst hv2
  go_wp2_with fail
  refine (tl2_lit [120] [] 0 rfl (by decide) _).mono ?_
  rintro e w20 ⟨a6, c6, rfl, hn, hb⟩
  have HW20 := Keep.keep (HW19.out.trans (hb.mono HW19.out.size))
  have HM1' := Keep.keep (HM1.out.on hb)
  clear HM1
  have HM1 := HM1'
  clear HM1'
  have HM2' := Keep.keep (HM2.out.on hb)
  clear HM2
  have HM2 := HM2'
  clear HM2'
  have HN6 := Keep.keep hn
  clear hn hb
  go_wp2_with fail
  refine (tl2_lit [121] [] 0 rfl (by decide) _).mono ?_
  rintro e w21 ⟨a7, c7, rfl, hn, hb⟩
  have HW21 := Keep.keep (HW20.out.trans (hb.mono HW20.out.size))
  have HM1' := Keep.keep (HM1.out.on hb)
  clear HM1
  have HM1 := HM1'
  clear HM1'
  have HM2' := Keep.keep (HM2.out.on hb)
  clear HM2
  have HM2 := HM2'
  clear HM2'
  have HN6' := Keep.keep (HN6.out.on hb)
  clear HN6
  have HN6 := HN6'
  clear HN6'
  have HN7 := Keep.keep hn
  clear hn hb
  go_wp2_with fail
  refine calls_at (R := fun wq => Below w21.heap.size w21 wq ∧ RdV wq (· < wq.heap.size) 9 (.slice (some ⟨w21.heap.size, 0, none⟩) 2 2) 2 (mcells ([(([120], fileD []), nilV, .slice a6 0 c6), (([121], fileD []), nilV, .slice a7 0 c7)] : List Mv))) ⟨(Below.refl _ _).alloc (Nat.le_refl _) _, RdV.new 41 (mcells ([(([120], fileD []), nilV, .slice a6 0 c6), (([121], fileD []), nilV, .slice a7 0 c7)] : List Mv)) 9 2 _ rfl rfl (by unfold maxLen; omega) (by simp)⟩ ?_
  intro w22 Hq
  have hbq := Hq.out.1
  have HW22 := Keep.keep (HW21.out.trans (hbq.mono HW21.out.size))
  have HM1' := Keep.keep (HM1.out.on hbq)
  clear HM1
  have HM1 := HM1'
  clear HM1'
  have HM2' := Keep.keep (HM2.out.on hbq)
  clear HM2
  have HM2 := HM2'
  clear HM2'
  have HN6' := Keep.keep (HN6.out.on hbq)
  clear HN6
  have HN6 := HN6'
  clear HN6'
  have HN7' := Keep.keep (HN7.out.on hbq)
  clear HN7
  have HN7 := HN7'
  clear HN7'
  refine (small_tr (v := .slice (some ⟨_, 0, none⟩) 2 2) (l := [(([120], fileD []), nilV, .slice a6 0 c6), (([121], fileD []), nilV, .slice a7 0 c7)]) B (HT.out.on (HW22.out.mono HT.out.b)) ⟨Hq.out.2, fun x hx => ?_⟩ (fun x hx => ?_) (by simp) tn5).mono ?_
  · simp only [List.mem_cons, List.not_mem_nil, or_false] at hx
    rcases hx with rfl | rfl
    · exact HN6.out
    · exact HN7.out
  · simp only [List.mem_cons, List.not_mem_nil, or_false] at hx
    rcases hx with rfl | rfl
    · exact sm_fileD _ _ (by decide) (by decide)
    · exact sm_fileD _ _ (by decide) (by decide)
  rintro e w23 ⟨T5, rfl, ht, hb⟩
  have HW23 := Keep.keep (HW22.out.trans (hb.mono HW22.out.size))
  have HM1' := Keep.keep (HM1.out.on hb)
  clear HM1
  have HM1 := HM1'
  clear HM1'
  have HM2' := Keep.keep (HM2.out.on hb)
  clear HM2
  have HM2 := HM2'
  clear HM2'
  have HN6' := Keep.keep (HN6.out.on hb)
  clear HN6
  have HN6 := HN6'
  clear HN6'
  have HN7' := Keep.keep (HN7.out.on hb)
  clear HN7
  have HN7 := HN7'
  clear HN7'
  have HT5 := Keep.keep ht
  clear ht hb hbq Hq
  clear HN6
  clear HN7
  go_wp2_with fail
  refine (tl2_lit [120] [] 0 rfl (by decide) _).mono ?_
  rintro e w24 ⟨a8, c8, rfl, hn, hb⟩
  have HW24 := Keep.keep (HW23.out.trans (hb.mono HW23.out.size))
  have HM1' := Keep.keep (HM1.out.on hb)
  clear HM1
  have HM1 := HM1'
  clear HM1'
  have HM2' := Keep.keep (HM2.out.on hb)
  clear HM2
  have HM2 := HM2'
  clear HM2'
  have HT5' := Keep.keep (HT5.out.on hb)
  clear HT5
  have HT5 := HT5'
  clear HT5'
  have HN8 := Keep.keep hn
  clear hn hb
  go_wp2_with fail
  refine calls_at (R := fun wq => Below w24.heap.size w24 wq ∧ RdV wq (· < wq.heap.size) 9 (.slice (some ⟨w24.heap.size, 0, none⟩) 1 1) 1 (mcells ([(([120], fileD []), nilV, .slice a8 0 c8)] : List Mv))) ⟨(Below.refl _ _).alloc (Nat.le_refl _) _, RdV.new 41 (mcells ([(([120], fileD []), nilV, .slice a8 0 c8)] : List Mv)) 9 1 _ rfl rfl (by unfold maxLen; omega) (by simp)⟩ ?_
  intro w25 Hq
  have hbq := Hq.out.1
  have HW25 := Keep.keep (HW24.out.trans (hbq.mono HW24.out.size))
  have HM1' := Keep.keep (HM1.out.on hbq)
  clear HM1
  have HM1 := HM1'
  clear HM1'
  have HM2' := Keep.keep (HM2.out.on hbq)
  clear HM2
  have HM2 := HM2'
  clear HM2'
  have HT5' := Keep.keep (HT5.out.on hbq)
  clear HT5
  have HT5 := HT5'
  clear HT5'
  have HN8' := Keep.keep (HN8.out.on hbq)
  clear HN8
  have HN8 := HN8'
  clear HN8'
  refine (small_tr (v := .slice (some ⟨_, 0, none⟩) 1 1) (l := [(([120], fileD []), nilV, .slice a8 0 c8)]) B (HT.out.on (HW25.out.mono HT.out.b)) ⟨Hq.out.2, fun x hx => ?_⟩ (fun x hx => ?_) (by simp) tn6).mono ?_
  · simp only [List.mem_cons, List.not_mem_nil, or_false] at hx
    rcases hx with rfl
    · exact HN8.out
  · simp only [List.mem_cons, List.not_mem_nil, or_false] at hx
    rcases hx with rfl
    · exact sm_fileD _ _ (by decide) (by decide)
  rintro e w26 ⟨T6, rfl, ht, hb⟩
  have HW26 := Keep.keep (HW25.out.trans (hb.mono HW25.out.size))
  have HM1' := Keep.keep (HM1.out.on hb)
  clear HM1
  have HM1 := HM1'
  clear HM1'
  have HM2' := Keep.keep (HM2.out.on hb)
  clear HM2
  have HM2 := HM2'
  clear HM2'
  have HT5' := Keep.keep (HT5.out.on hb)
  clear HT5
  have HT5 := HT5'
  clear HT5'
  have HN8' := Keep.keep (HN8.out.on hb)
  clear HN8
  have HN8 := HN8'
  clear HN8'
  have HT6 := Keep.keep ht
  clear ht hb hbq Hq
  clear HN8
  go_wp2_with fail
  refine (Of_tr B (HT.out.on (HW26.out.mono HT.out.b)) (newT_well tn5) (newT_well tn6) (by decide) (by decide) HT5.out HT6.out).mono ?_
  rintro e w27 ⟨v3, l3, rfl, ho, hp, hr, hb⟩
  have HW27 := Keep.keep (HW26.out.trans (hb.mono HW26.out.size))
  have HM1' := Keep.keep (HM1.out.on hb)
  clear HM1
  have HM1 := HM1'
  clear HM1'
  have HM2' := Keep.keep (HM2.out.on hb)
  clear HM2
  have HM2 := HM2'
  clear HM2'
  have HT5' := Keep.keep (HT5.out.on hb)
  clear HT5
  have HT5 := HT5'
  clear HT5'
  have HT6' := Keep.keep (HT6.out.on hb)
  clear HT6
  have HT6 := HT6'
  clear HT6'
  have HK3 : Keep (l3.map (·.1) = tK3) := ⟨told_is (newT_well tn5) (newT_well tn6) tt3 (List.Perm.refl _) ts3 hp ho.srt⟩
  have HM3 : Keep (MbL w27 v3 l3) := ⟨MbL.ofRow hr⟩
  have HS3 : Keep (∀ x ∈ l3, x.1.1.length ≤ 400000) := ⟨fun x hx => (ho.sm x.1 (List.mem_map.2 ⟨x, hx, rfl⟩)).p⟩
  obtain ⟨ao3, co3, hv3, -⟩ := (ownsV_reads hr.own).shape
  have hln3 : l3.length = tK3.length := by rw [← HK3.out, List.length_map]
  rw [hln3] at hv3
  have HL3 := Keep.keep hln3
  clear ho hp hr hb hln3 HT5 HT6
  subst hv3
  go_wp2_with fail
  refine (paths_any _ l1 _ HM1.out HS1.out (by rw [HL1.out]; decide)).mono ?_
  rw [HK1.out, tp1]
  rintro e w28 ⟨rfl, hb⟩
  have HW28 := Keep.keep (HW27.out.trans (hb.mono HW27.out.size))
  have HM2' := Keep.keep (HM2.out.on hb)
  clear HM2
  have HM2 := HM2'
  clear HM2'
  have HM3' := Keep.keep (HM3.out.on hb)
  clear HM3
  have HM3 := HM3'
  clear HM3'
  clear hb
  go_wp2_with fail
  refine (paths_any _ l2 _ HM2.out HS2.out (by rw [HL2.out]; decide)).mono ?_
  rw [HK2.out, tp2]
  rintro e w29 ⟨rfl, hb⟩
  have HW29 := Keep.keep (HW28.out.trans (hb.mono HW28.out.size))
  have HM3' := Keep.keep (HM3.out.on hb)
  clear HM3
  have HM3 := HM3'
  clear HM3'
  clear hb
  go_wp2_with fail
  refine (paths_any _ l3 _ HM3.out HS3.out (by rw [HL3.out]; decide)).mono ?_
  rw [HK3.out, tp3]
  rintro e w30 ⟨rfl, hb⟩
  have HW30 := Keep.keep (HW29.out.trans (hb.mono HW29.out.size))
  clear hb
  go_wp2_with fail
  go_ret
  exact ⟨rfl, HW30.out⟩
end Go.Proofs.YtmnknmpfkjhgbaaGreatDoor
/- A RANGE OVER A FUNCTION IN A LAW: whose loop variable is a box of its own; quiet regions in its body; the memory as a list of assertions. -/
namespace Go.Proofs.YtmnknmpfkjhgbaaGreatDoor
open Go.RowKit
theorem Hp.grownBy {w X Y : World} {row : Option Nat} {ls : List As} (h : Hp NoM w X ls) (hg : X.grownBy Y row) (hr : ∀ r, row = some r → w.heap.size ≤ r ∧ ∀ A ∈ ls, ¬ A.blk r) : Hp NoM w Y ls := by
  refine ⟨⟨hg.os.trans h.c.os, hg.tape.trans h.c.tape, hg.output.trans h.c.output, Nat.le_trans h.c.size hg.size, fun k hk hm => ?_⟩, fun A hA => ?_, h.d⟩
  · have := h.c.size
    rw [hg.block k (by omega) (fun e => by have := (hr k e.symm).1; omega)]
    exact h.c.block k hk hm
  · have := h.p A hA
    exact ⟨A.loc X Y (fun b hb => hg.block b (this.2 b hb).2 (fun e => (hr b e.symm).2 A hA hb)) this.1, fun b hb => ⟨(this.2 b hb).1, Nat.lt_of_lt_of_le (this.2 b hb).2 hg.size⟩⟩
end Go.Proofs.YtmnknmpfkjhgbaaGreatDoor
/- tree.Copy: a tree that lives apart. -/
namespace Go.Proofs.YtmnknmpfkjhgbaaGreatDoor
open Go.RowKit
/-- what has come, when one more comes -/
theorem came_put {L : List Mb} (h : SM.Srt L) {todo : Tx → Bool} {p : Tx} {n : Nd} (hp : todo p = true) (hl : SM.look L p = some n) : L.filter (fun x => !(todo x.1 && x.1 != p)) = SM.put (L.filter (fun x => !todo x.1)) (p, n) := by
  have hs : SM.Srt (L.filter (fun x => !todo x.1)) := h.filter _
  have h2 : SM.Srt (L.filter (fun x => !(todo x.1 && x.1 != p))) := h.filter _
  refine h2.ext (hs.put _) (fun q => ?_)
  rw [hs.look_put, h.look_filter (fun k => !(todo k && k != p)), h.look_filter (fun k => !todo k)]
  by_cases e : q = p
  · subst e
    simp [hl]
  · simp [e]
def cpT (W : World) (T2 m2 : Nat) (p : Tx) (n : Nd) (av dv : Value) : Nat → Value → World → Prop
  | 0, v, _ => v = .pointer (some ⟨T2, 0, none⟩)
  | 1, v, _ => v = .pointer (some ⟨T2, 0, none⟩)
  | 2, v, _ => v = .pointer (some ⟨T2, 0, none⟩)
  | 3, v, _ => v = .map (some m2)
  | 4, v, _ => v = .string ⟨p.toArray⟩
  | 5, v, _ => v = .agg (ndC n av dv)
  | _, v, w => ∃ av' dv', v = .agg (ndC n av' dv') ∧ NdR w (Fresh W.heap.size w) n av' dv'
theorem cpT_stays {W : World} {T2 m2 : Nat} {p : Tx} {n : Nd} {av dv : Value} (k : Nat) (v : Value) (w w' : World) (h : cpT W T2 m2 p n av dv k v w) (hb : Below w.heap.size w w') : cpT W T2 m2 p n av dv k v w' := by
  unfold cpT at h ⊢
  split at h
  · exact h
  · exact h
  · exact h
  · exact h
  · exact h
  · exact h
  · obtain ⟨a, d, h1, h2⟩ := h
    exact ⟨a, d, h1, (h2.below hb (fun b hb => hb.2)).mono (fun b hb' => hb'.mono (Nat.le_refl _) hb.size)⟩
set_option maxHeartbeats 4000000 in
set_option maxRecDepth 100000 in
theorem copy_tree (T mb : Nat) (Bk : Nat → Prop) (f : Tx → Value × Value) (L : List Mb) (w : World) (h : TreeIn w T mb Bk f L) (hBk : ∀ b, Bk b → b < w.heap.size) (hL : L.length ≤ 100000) :
    Calls Tryz.prog 27 #[.pointer (some ⟨T, 0, none⟩)] w fun e w' => ∃ T2 m2 Bk2 f2, e = .returned (.pointer (some ⟨T2, 0, none⟩)) ∧ TreeIn w' T2 m2 Bk2 f2 L ∧ (w.heap.size ≤ T2 ∧ w.heap.size ≤ m2 ∧ ∀ b, Bk2 b → Fresh w.heap.size w' b) ∧ Below w.heap.size w w' := by
  have HT := Keep.keep h; have HBK := Keep.keep hBk
  have HN := Keep.keep (none_ok T mb w h.row)
  have hmbw := h.map.lt
  have hTw := h.row.lt
  clear h hBk
  go_enter Tryz.func27, Tryz.ntmps27
  go_wp2_with fail
  refine HN.out.mono ?_
  rintro e w' ⟨rfl, rfl⟩
  have hmm := @run_makeMap Tryz.prog
  go_upto_region 4 with fail
  refine wp_world (R := fun w2 => Hp NoM w w2 [trA (w.heap.size + 1) w.heap.size (fun _ => False) (fun _ => (nilV, nilV)) []]) ?_ ?_
  · have h1 := Hp.begin NoM w
    have hb2 : Below w.heap.size w ((w.alloc (Obj.map #[] 0)).alloc (Obj.cells #[Value.map (some w.heap.size)] 88)) := ((Below.refl _ _).alloc (Nat.le_refl _) _).alloc (by simp) _
    have hm1 := MapS.made (k := 9) w
    exact h1.push (trA (w.heap.size + 1) w.heap.size (fun _ => False) (fun _ => (nilV, nilV)) []) (.of_below hb2)
      ⟨Row.new' (by simp) rfl, hm1.loc (Below.heap_alloc _ _ _ hm1.lt), (fun m hm => (List.not_mem_nil hm).elim), (fun m hm => (List.not_mem_nil hm).elim), ⟨by omega, fun h => h, fun h => h⟩⟩
      (fun b hb => by rcases hb with rfl | rfl | h
                      · simp
                      · simp; omega
                      · exact h.elim)
  intro w2 H2
  obtain ⟨m2, hm2⟩ : ∃ m2, w.heap.size = m2 := ⟨_, rfl⟩
  have HM2 := Keep.keep hm2
  obtain ⟨T2, hT2⟩ : ∃ T2, m2 + 1 = T2 := ⟨_, rfl⟩
  have HT2E := Keep.keep hT2
  rw [hm2, hT2] at H2 ⊢
  clear hmm hm2 hT2
  have hT2w : TreeIn w2 T mb Bk f L := HT.out.loc (fun b hb => H2.out.below.block b (by
    rcases hb with rfl | rfl | h
    · exact hTw
    · exact hmbw
    · exact HBK.out b h))
  have cT := hT2w.row.cell (i := 0) rfl
  have HM := Keep.keep hT2w.map
  have HSR := Keep.keep HT.out.srt
  have HSM := Keep.keep HT.out.sm
  have HND := Keep.keep HT.out.nd
  have HEL : Keep ((entries f L).length = L.length) := ⟨by simp [entries]⟩
  have hs2 := H2.out.size
  have hT2lt : T2 < w2.heap.size := by
    have := (H2.out.p _ (List.mem_of_getElem? (i := 0) rfl)).2 T2 (.inl rfl)
    exact this.2
  clear hT2w HN
  go_wp2_with (first | (with_reducible refine arm_sRange ?_) | (with_reducible refine arm_sNext ?_) | (with_reducible refine arm_sDel ?_) | (with_reducible refine arm_sPut ?_) | (with_reducible refine arm_sIns ?_))
  refine StM.out ?_
  refine arm_rangeS Tryz.underlying9 Tryz.underlying86 HM.out rfl ?_
  intro w3 hrg hb3 hs3
  obtain ⟨r, hr⟩ : ∃ r, w2.heap.size = r := ⟨_, rfl⟩
  have HRE : Keep (w.heap.size ≤ r ∧ mb < r ∧ T2 < r ∧ m2 < r) := ⟨by have := HT2E.out; omega⟩
  have H3 := Keep.keep (H2.out.call hb3)
  rw [hr] at hrg ⊢
  have HRG := Keep.keep hrg
  clear hrg hb3 hs3 hr cT HM H2 hs2 hT2lt
  simp only [Act.put, List.setIfInBounds_toArray, List.set_cons_succ, List.set_cons_zero]
  go_wp2_with fail
  go_loopg [4] L.length (fun g _ wx => ∃ (todo : Tx → Bool) (Bk2 : Nat → Prop) (f2 : Tx → Value × Value), RgS wx 9 mb r (entries f L) todo g ∧ Hp NoM w wx [trA T2 m2 Bk2 f2 (L.filter (fun x => !todo x.1))] ∧ ∀ b, Bk2 b → r < b)
  case atStart =>
    refine ⟨_, fun _ => False, fun _ => (nilV, nilV), by rw [← HEL.out]; exact HRG.out, ?_, fun b hb => hb.elim⟩
    have e0 : L.filter (fun x => !(SM.look (entries f L) x.1).isSome) = [] := by
      rw [List.filter_eq_nil_iff]
      intro x hx
      rw [look_entries, HSR.out.look.2 hx]; simp
    rw [e0]
    exact H3.out
  case round =>
    obtain ⟨todo, Bk2, f2, hrg, hH, hbr⟩ := hrel
    have HRG2 := Keep.keep hrg; have HH := Keep.keep hH; have HBR := Keep.keep hbr
    clear hrg hH hbr HRG H3
    go_wp2_with (first | (with_reducible refine arm_sRange ?_) | (with_reducible refine arm_sNext ?_) | (with_reducible refine arm_sDel ?_) | (with_reducible refine arm_sPut ?_) | (with_reducible refine arm_sIns ?_))
    refine StM.out ?_
    refine arm_nextS Tryz.underlying9 HRG2.out rfl ?_ ?_
    · intro h0 hall
      have e0 : L.filter (fun x => !todo x.1) = L := by
        rw [List.filter_eq_self]
        intro x _
        simp [hall]
      rw [e0] at HH
      clear h0 hall e0
      simp only [Act.put, List.setIfInBounds_toArray, List.set_cons_succ, List.set_cons_zero]
      go_wp2_with fail
      go_ret
      refine ⟨T2, m2, Bk2, f2, rfl, HH.out.get 0 rfl, ?_, HH.out.below⟩
      refine ⟨HH.out.new 0 rfl (b := T2) (.inl rfl) |>.1, HH.out.new 0 rfl (b := m2) (.inr (.inl rfl)) |>.1, fun b hb => HH.out.new 0 rfl (b := b) (.inr (.inr hb))⟩
    · intro p v w4 cnt' h1 h2 h3 h4 h5 h6 hen
      obtain ⟨n, hln, hve⟩ : ∃ n, SM.look L p = some n ∧ v = .agg (ndC n (f p).1 (f p).2) := by
        rw [look_entries] at h2
        cases hl : SM.look L p with
        | none => rw [hl] at h2; cases h2
        | some n => rw [hl] at h2; injection h2 with h2; exact ⟨n, rfl, h2.symm⟩
      have hmem := SM.look_mem hln
      have HCP := Keep.keep (came_put HSR.out h1 hln)
      have HNX := Keep.keep (HND.out _ hmem)
      have HSX := Keep.keep (HSM.out _ hmem)
      have HLN : Keep ((L.filter (fun x => !todo x.1)).length ≤ L.length) := ⟨List.length_filter_le _ _⟩
      obtain ⟨aa, la, ca, ad, ld, cd, e1, e2⟩ := HNX.out.shape
      dsimp only at e1 e2 HNX
      rw [e1, e2] at HNX hve
      have HRG4 := Keep.keep h3
      have hne5 : ∀ b, b < wr.heap.size → b ≠ r → w4.heap[b]? = wr.heap[b]? := fun b hb hn => h5.block b hb hn
      have hr4 := HRG2.out.lt.2.1
      have H4 : Keep (Hp NoM w w4 [trA T2 m2 Bk2 f2 (L.filter (fun x => !todo x.1))]) := ⟨by
        refine HH.out.grownBy (row := some r) ⟨h5.os, h5.tape, h5.output, h5.size, fun k hk hm => h5.block k hk (fun e => hm (by rw [e]))⟩ (fun r' e => ?_)
        injection e with e
        subst e
        refine ⟨HRE.out.1, fun A hA => ?_⟩
        obtain rfl := List.mem_singleton.1 hA
        rintro (h | h | h)
        · have := HRE.out.2.2.1; omega
        · have := HRE.out.2.2.2; omega
        · have := HBR.out _ h; omega⟩
      have hs4 := h5.size
      clear h1 h2 h3 h5 h6 e1 e2 HRG2 HH hmem
      subst hve
      have HNC : Keep (ndC n (.slice aa la ca) (.slice ad ld cd) = #[.int .i64 n.kind, .int .u32 n.mode, .int .u32 n.uid, .int .u32 n.gid, .int .i64 n.time, .slice aa la ca, .slice ad ld cd, .string ⟨n.link.toArray⟩]) := ⟨rfl⟩
      rw [HNC.out] at hen ⊢
      simp only [Act.put, List.setIfInBounds_toArray, List.set_cons_succ, List.set_cons_zero]
      go_upto_region 7 with fail
      refine wp_world (R := fun w5 => (Hp NoM w w5 [trA T2 m2 Bk2 f2 (L.filter (fun x => !todo x.1)), rowA w4.heap.size 39 #[.int .i64 n.kind, .int .u32 n.mode, .int .u32 n.uid, .int .u32 n.gid, .int .i64 n.time, .slice aa la ca, .slice ad ld cd, .string ⟨n.link.toArray⟩]]) ∧ RgS w5 9 mb r (entries f L) (fun q => todo q && q != p) cnt') ⟨H4.out.newRow _ _, HRG4.out.loc (Below.heap_alloc _ _ _ HRG4.out.lt.1) (Below.heap_alloc _ _ _ HRG4.out.lt.2.1)⟩ ?_
      intro w5 H5
      obtain ⟨b5, hb5⟩ : ∃ b5, w4.heap.size = b5 := ⟨_, rfl⟩
      rw [hb5] at H5 ⊢
      have hs5 := (H5.out.1.row 1 rfl).lt
      have hrg5 := H5.out.2.lt
      clear hen H4 HRG4
      refine wp_region_spcT 7 [21, 22, 23, 24, 25, 26, 27] (Below w5.heap.size w5) (cpT w5 T2 m2 p n (.slice aa la ca) (.slice ad ld cd)) (fun w w' => Below w.heap.size w w') (by kernel_rfl) rfl (by decide) (by show ∀ d ∈ _, d < 29; decide) (by kernel_rfl) (by decide) (by kernel_rfl) (by kernel_rfl) (by kernel_rfl) (Below.refl _ _).drew (fun i v w w' h _ hb => cpT_stays i v w w' h hb) ?_ ?_
      · intro q hq a1 w6 hF hC hT
        have b3 : a1.eval (.tmp 3) = .pointer (some ⟨T2, 0, none⟩) := (hF.same 3 (by decide)).trans rfl
        have b4 : a1.eval (.tmp 4) = .string ⟨p.toArray⟩ := (hF.same 4 (by decide)).trans rfl
        have b5e : a1.eval (.tmp 5) = .pointer (some ⟨b5, 0, none⟩) := (hF.same 5 (by decide)).trans rfl
        have hkr : Below w6.heap.size w6 w6 := Below.refl _ _
        have HP := H5.out.1.call hC
        have hRC := HP.row 1 rfl
        have hTW := (HP.get 0 rfl).row
        rcases (by omega : q = 0 ∨ q = 1 ∨ q = 2 ∨ q = 3 ∨ q = 4 ∨ q = 5 ∨ q = 6) with rfl | rfl | rfl | rfl | rfl | rfl | rfl
        · exact spcS_val (d := 21) rfl (wanted_none rfl) run_move hC hkr b3
        · have hx : a1.eval (.tmp 21) = .pointer (some ⟨T2, 0, none⟩) := hT 0 (by decide) (by kernel_rfl)
          exact spcS_val (d := 22) rfl (wanted_none rfl) (by simp [execOp, hx]) hC hkr rfl
        · have hx : a1.eval (.tmp 22) = .pointer (some ⟨T2, 0, none⟩) := hT 1 (by decide) (by kernel_rfl)
          exact spcS_val (d := 23) rfl (wanted_none rfl) (run_fieldAddr (m := 0) Tryz.underlying88 rfl (by kernel_rfl) hx) hC hkr rfl
        · have hx : a1.eval (.tmp 23) = .pointer (some ⟨T2, 0, none⟩) := hT 2 (by decide) (by kernel_rfl)
          exact spcS_val (d := 24) rfl (wanted_none rfl) (run_loadCell (run_isAgg_plain Tryz.underlying86 rfl) (hTW.cell (i := 0) rfl) hx) hC hkr rfl
        · exact spcS_val (d := 25) rfl (wanted_none rfl) run_move hC hkr b4
        · have hld := hRC.loadAt (P := Tryz.prog) 39 _ Tryz.underlying39 rfl (by kernel_rfl)
          exact spcS_val (d := 26) rfl (wanted_none rfl) (by unfold execOp; simp only [b5e, Sem.run_bind, Sem.run_pure, Result.andThen_ok, hld]; rfl) hC hkr rfl
        · have hx : a1.eval (.tmp 26) = .agg (ndC n (.slice aa la ca) (.slice ad ld cd)) := hT 5 (by decide) (by kernel_rfl)
          refine spcS_call (d := 27) (vs := #[.agg (ndC n (.slice aa la ca) (.slice ad ld cd))]) rfl (wanted_none rfl) (Go.Proofs.enters_of Tryz.func57 (by kernel_rfl) rfl) (by simp [hx]) ?_
          have hsz6 := HP.size
          refine (clone_node n _ _ w6 ((HNX.out.below HP.below (fun b hb => HBK.out b hb)).mono (fun b hb => by have := HBK.out b hb; omega)) HSX.out.a (Nat.le_trans HSX.out.d (by decide))).mono ?_
          rintro e wz ⟨a', d', rfl, hn', hb⟩
          exact ⟨_, rfl, hC.trans (hb.mono hC.size), hb, a', d', rfl, hn'.mono (fun b hb' => hb'.mono hC.size (Nat.le_refl _))⟩
      · intro a2 w6 ha hC hT
        have t3 : slot a2 24 = .map (some m2) := hT 3 (by decide)
        have t5 : slot a2 25 = .string ⟨p.toArray⟩ := hT 4 (by decide)
        obtain ⟨av', dv', t8, hn'⟩ : ∃ av' dv', slot a2 27 = .agg (ndC n av' dv') ∧ NdR w6 (Fresh w5.heap.size w6) n av' dv' := hT 6 (by decide)
        simp only [List.foldl_cons, List.foldl_nil, t3, t5, t8] at ha
        clear hT t3 t5 t8
        generalize slot a2 21 = y21 at *
        generalize slot a2 22 = y22 at *
        generalize slot a2 23 = y23 at *
        generalize slot a2 26 = y26 at *
        have HN' := Keep.keep hn'
        have H6 := Keep.keep (H5.out.1.call hC)
        have HS6 := Keep.keep hC.size
        have HC6 := Keep.keep hC
        have HRG6 : Keep (RgS w6 9 mb r (entries f L) (fun q => todo q && q != p) cnt') := ⟨H5.out.2.loc (hC.block _ hrg5.1) (hC.block _ hrg5.2.1)⟩
        clear hn' hC
        subst ha
        simp only [List.drop_succ_cons, List.drop_zero]
        simp only [Act.put, List.setIfInBounds_toArray, List.set_cons_succ, List.set_cons_zero]
        have hT6 : TreeIn w6 T2 m2 Bk2 f2 (L.filter (fun x => !todo x.1)) := H6.out.get 0 rfl
        have hbk6 : ∀ b, Bk2 b → b < w5.heap.size := fun b hb => ((H5.out.1.p _ (List.mem_of_getElem? (i := 0) rfl)).2 b (.inr (.inr hb))).2
        have hT6lt : T2 < w5.heap.size ∧ m2 < w5.heap.size := ⟨((H5.out.1.p _ (List.mem_of_getElem? (i := 0) rfl)).2 T2 (.inl rfl)).2, ((H5.out.1.p _ (List.mem_of_getElem? (i := 0) rfl)).2 m2 (.inr (.inl rfl))).2⟩
        have HT6 := Keep.keep hT6; have HBK6 := Keep.keep hbk6; have HLT6 := Keep.keep hT6lt
        have hel : (entries f2 (L.filter (fun x => !todo x.1))).length < maxLen := by
          have := HLN.out
          simp only [entries, List.length_map]
          unfold maxLen; omega
        clear hT6 hbk6 hT6lt
        go_wp2_with (first | (with_reducible refine arm_sRange ?_) | (with_reducible refine arm_sNext ?_) | (with_reducible refine arm_sDel ?_) | (with_reducible refine arm_sPut ?_) | (with_reducible refine arm_sIns ?_))
        refine StM.out ?_
        refine arm_putS Tryz.underlying9 Tryz.underlying86 HT6.out.map (p := p) (by have := HSX.out.p; dsimp only at this; unfold maxLen; omega) hel rfl rfl rfl ?_
        intro w7 hm7 hc7
        have hs6 := HS6.out
        have hs7 := hc7.size
        have hfin := HT6.out.put (Bk' := fun b => Bk2 b ∨ Fresh w5.heap.size w6 b) (fun b hb => by have := HBK6.out b hb; omega) (p, n) av' dv' HSX.out hm7 hc7 (HN'.out.mono (fun b hb => .inr hb)) (fun b hb => .inl hb) (fun b hb => by
          rcases hb with hb | hb
          · have h1 := HBK6.out b hb
            exact ⟨by omega, fun e => HT6.out.ne.2.1 (e ▸ hb), fun e => HT6.out.ne.2.2 (e ▸ hb)⟩
          · have h1 := hb.1
            have h2 := HLT6.out
            exact ⟨hb.2, by omega, by omega⟩)
        rw [← HCP.out] at hfin
        have hch : Chg (fun j => (trA T2 m2 Bk2 f2 (L.filter (fun x => !todo x.1))).blk j) w5.heap.size w5 w7 := ((Chg.of_below (M := fun j => (trA T2 m2 Bk2 f2 (L.filter (fun x => !todo x.1))).blk j) HC6.out)).trans ((hc7.lower HS6.out).mono (Nat.le_refl _) (fun j hj => .inr (.inl hj)))
        have H7 := Keep.keep (H5.out.1.upd 0 rfl (trA T2 m2 (fun b => Bk2 b ∨ Fresh w5.heap.size w6 b) (fun q => if q = p then (av', dv') else f2 q) (L.filter (fun x => !(todo x.1 && x.1 != p)))) hch hfin (fun b hb => by
          rcases hb with h | h | h | h
          · exact .inl (.inl h)
          · exact .inl (.inr (.inl h))
          · exact .inl (.inr (.inr h))
          · exact .inr ⟨h.1, by have := h.2; omega⟩))
        have HRG7 : Keep (RgS w7 9 mb r (entries f L) (fun q => todo q && q != p) cnt') := ⟨HRG6.out.loc (hc7.block _ HRG6.out.lt.1 (by have := HRE.out; have := HM2.out; omega)) (hc7.block _ HRG6.out.lt.2.1 (by have := HRE.out; omega))⟩
        clear hfin hm7 hc7 hch
        simp only [Act.put]
        go_wp2_with fail
        go_roundg cnt'
        case measure => omega
        case rel =>
          refine ⟨_, (fun b => Bk2 b ∨ Fresh w5.heap.size w6 b), (fun q => if q = p then (av', dv') else f2 q), HRG7.out, H7.out.take 1, fun b hb => ?_⟩
          rcases hb with hb | hb
          · exact HBR.out b hb
          · have := hb.1; omega
end Go.Proofs.YtmnknmpfkjhgbaaGreatDoor
/- Trees at hand: All, Copy, Len. -/
namespace Go.Proofs.YtmnknmpfkjhgbaaGreatDoor
open Go.RowKit
theorem copy_tr {w : World} {T : Nat} {A : List Mb} (h : TrL w T A) (hA : A.length ≤ 100000) : Calls Tryz.prog 27 #[.pointer (some ⟨T, 0, none⟩)] w fun e w' => ∃ T2, e = .returned (.pointer (some ⟨T2, 0, none⟩)) ∧ TrL w' T2 A ∧ Below w.heap.size w w' := by
  obtain ⟨mb, Bk, f, h1, h2⟩ := h
  refine (copy_tree T mb Bk f A w h1 h2 hA).mono ?_
  rintro e w' ⟨T2, m2, Bk2, f2, he, h3, h4, h5⟩
  exact ⟨T2, he, ⟨m2, Bk2, f2, h3, fun b hb => (h4.2.2 b hb).2⟩, h5⟩
theorem all_tr {w : World} {T : Nat} {A : List Mb} (h : TrL w T A) (hA : A.length ≤ 100000) : Calls Tryz.prog 26 #[.pointer (some ⟨T, 0, none⟩)] w fun e w' => ∃ a n c l, e = .returned (.slice a n c) ∧ l.map (·.1) = A ∧ MbL w' (.slice a n c) l ∧ Below w.heap.size w w' := by
  obtain ⟨mb, Bk, f, h1, h2⟩ := h
  refine (all_own T mb Bk f A w hA h1 ⟨h1.row.lt, h1.map.lt, h2⟩).mono ?_
  rintro e w' ⟨v, l, rfl, hl, ho, hb⟩
  have hm : MbL w' v l := ho.mbs.mono (fun _ h => h.2) (fun _ h => h.2)
  obtain ⟨a, c, hv, -⟩ := hm.rd.shape
  subst hv
  exact ⟨a, _, c, l, rfl, hl, hm, hb⟩
theorem TrL.paths {w : World} {T : Nat} {A : List Mb} (h : TrL w T A) : ∀ x ∈ A, x.1.length < 500000 := by
  obtain ⟨mb, Bk, f, h1, -⟩ := h
  intro x hx
  have := (h1.sm x hx).p
  omega
end Go.Proofs.YtmnknmpfkjhgbaaGreatDoor
/- THE DOCUMENT'S LIST of what is in a Dir of either tree, plainly: it is one of those of which told speaks. -/
namespace Go.Proofs.YtmnknmpfkjhgbaaGreatDoor
/-- a text put behind others, unless it is there -/
def addN (acc : List Tx) (p : Tx) : List Tx := if acc.any (· == p) then acc else acc ++ [p]
def joinL (A : List Mb) (d : Tx) : List Tx := (listT A d).1.map fun n => joinP [d, n]
def ksR (A B : List Mb) (d : Tx) : List Tx := (joinL A d ++ joinL B d).foldl addN []
theorem addN_mem {acc : List Tx} {p q : Tx} : p ∈ addN acc q ↔ p ∈ acc ∨ p = q := by
  unfold addN
  split
  · rename_i h
    obtain ⟨x, hx, e⟩ := List.any_eq_true.1 h
    have e : x = q := by simpa using e
    subst e
    exact ⟨.inl, fun h => h.elim id (fun e => e ▸ hx)⟩
  · simp
theorem fold_mem {p : Tx} : ∀ (l acc : List Tx), p ∈ l.foldl addN acc ↔ p ∈ acc ∨ p ∈ l
  | [], acc => by simp
  | q :: l, acc => by rw [List.foldl_cons, fold_mem l, addN_mem, List.mem_cons, or_assoc]
theorem fold_nd : ∀ (l acc : List Tx), acc.Nodup → (l.foldl addN acc).Nodup
  | [], _, h => h
  | q :: l, acc, h => by
    rw [List.foldl_cons]
    refine fold_nd l _ ?_
    unfold addN
    split
    · exact h
    · rename_i hq
      refine List.nodup_append.2 ⟨h, List.nodup_cons.2 ⟨List.not_mem_nil, List.nodup_nil⟩, fun a ha b hb e => ?_⟩
      obtain rfl := List.mem_singleton.1 hb
      subst e
      exact hq (List.any_eq_true.2 ⟨a, ha, by simp⟩)
theorem join_kid {q : Tx} (hq : mayP q = true) (h0 : q ≠ []) : joinP [parentP q, baseP q] = q := by
  have h := path_join hq h0
  rw [joinP_two]
  by_cases hp : parentP q = []
  · rw [if_pos hp]; rw [if_pos hp] at h; exact h.symm
  · rw [if_neg hp] at h ⊢
    rw [if_neg (mayN_ne (may_base hq h0)).1]
    exact h.symm
theorem joinL_mem {A : List Mb} (hA : WellL A) {d p : Tx} : p ∈ joinL A d ↔ parentP p = d ∧ (SM.look A p).isSome = true := by
  have hn : ∀ {n : Tx}, n ∈ namesT d A ↔ ∃ x ∈ A, parentP x.1 = d ∧ baseP x.1 = n := by
    intro n
    unfold namesT
    rw [List.mem_map]
    constructor
    · rintro ⟨x, hx, e⟩
      obtain ⟨h1, h2⟩ := List.mem_filter.1 hx
      exact ⟨x, h1, by simpa using h2, e⟩
    · rintro ⟨x, hx, h1, e⟩
      exact ⟨x, List.mem_filter.2 ⟨hx, by simpa using h1⟩, e⟩
  unfold joinL
  rw [List.mem_map]
  constructor
  · rintro ⟨n, hm, rfl⟩
    have hm : n ∈ namesT d A := by
      unfold listT at hm
      split at hm
      · exact (List.not_mem_nil hm).elim
      · split at hm
        · exact (List.not_mem_nil hm).elim
        · exact List.mem_mergeSort.1 hm
    obtain ⟨x, hx, h1, h2⟩ := hn.1 hm
    obtain ⟨p1, p2⟩ := hA.path hx
    have := join_kid p1 p2
    rw [h1, h2] at this
    rw [this]
    exact ⟨h1, by rw [hA.s.look.2 (show (x.1, x.2) ∈ A from hx)]; rfl⟩
  · rintro ⟨h1, h2⟩
    obtain ⟨v, hv⟩ := Option.isSome_iff_exists.1 h2
    have hx : (p, v) ∈ A := SM.look_mem hv
    obtain ⟨p1, p2⟩ := hA.path hx
    refine ⟨baseP p, ?_, by rw [← h1]; exact join_kid p1 p2⟩
    have hd := hA.p _ hx
    dsimp only at hd
    rw [h1] at hd
    have hg : (getT A d).2 = true ∧ (getT A d).1.kind = 1 := by
      rcases dirT_iff.1 hd with e | ⟨n, e, hk⟩
      · unfold getT; rw [if_pos e]; exact ⟨rfl, rfl⟩
      · unfold getT
        by_cases e0 : d = []
        · rw [if_pos e0]; exact ⟨rfl, rfl⟩
        · rw [if_neg e0, e]; exact ⟨rfl, hk⟩
    unfold listT
    rw [if_neg (by rw [hg.1]; decide), if_neg (by rw [hg.2]; decide)]
    exact List.mem_mergeSort.2 (hn.2 ⟨_, hx, h1, rfl⟩)
theorem ksR_kids {A B : List Mb} (hA : WellL A) (hB : WellL B) : KidsOf A B (ksR A B) :=
  ⟨fun d => fold_nd _ _ List.nodup_nil, fun d p => by
    unfold ksR
    rw [fold_mem, List.mem_append, joinL_mem hA, joinL_mem hB]
    constructor
    · rintro (h | h | h)
      · exact (List.not_mem_nil h).elim
      · exact ⟨h.1, .inl h.2⟩
      · exact ⟨h.1, .inr h.2⟩
    · rintro ⟨h1, h2 | h2⟩
      · exact .inr (.inl ⟨h1, h2⟩)
      · exact .inr (.inr ⟨h1, h2⟩)⟩
/-- what the document's tells, below a Dir -/
def toldR (A B : List Mb) : List Mb := belF A B (ksR A B) 500000 []
theorem toldR_perm {A B : List Mb} (hA : WellL A) (hB : WellL B) : (toldR A B).Perm (toldL A B) := bel_perm (ksR_kids hA hB) (ksT_kids hA hB) 500000 []
/-- put where it belongs, behind those that are less -/
def insM (l : List Mb) (m : Mb) : List Mb := (l.takeWhile fun x => decide (x.1 < m.1)) ++ m :: (l.dropWhile fun x => decide (x.1 < m.1))
theorem insM_perm (l : List Mb) (m : Mb) : (insM l m).Perm (l ++ [m]) := by
  unfold insM
  refine List.perm_middle.trans ?_
  rw [List.takeWhile_append_dropWhile]
  exact (List.perm_append_comm (l₁ := [m]) (l₂ := l))
theorem insM_le {l : List Mb} {m : Mb} (h : l.Pairwise (fun x y => x.1 ≤ y.1)) : (insM l m).Pairwise (fun x y => x.1 ≤ y.1) := by
  unfold insM
  have ht : ∀ x ∈ l.takeWhile (fun x => decide (x.1 < m.1)), x.1 < m.1 := fun x hx => by
    have := List.all_takeWhile (p := fun x : Mb => decide (x.1 < m.1)) (l := l)
    exact of_decide_eq_true (List.all_eq_true.1 this x hx)
  have h0 := h
  rw [← List.takeWhile_append_dropWhile (p := fun x : Mb => decide (x.1 < m.1)) (l := l), List.pairwise_append] at h
  have hd : ∀ x ∈ l.dropWhile (fun x => decide (x.1 < m.1)), m.1 ≤ x.1 := by
    intro x hx
    cases hdw : l.dropWhile (fun x => decide (x.1 < m.1)) with
    | nil => rw [hdw] at hx; exact (List.not_mem_nil hx).elim
    | cons y r =>
      rw [hdw] at hx
      have hy : ¬ y.1 < m.1 := by
        have := List.head_dropWhile_not (p := fun x : Mb => decide (x.1 < m.1)) (l := l) (by rw [hdw]; simp)
        simp only [hdw, List.head_cons] at this
        exact of_decide_eq_false this
      have hy : m.1 ≤ y.1 := List.not_lt.1 hy
      rcases List.mem_cons.1 hx with rfl | hx
      · exact hy
      · have hp := h.2.1
        rw [hdw] at hp
        exact List.le_trans hy ((List.pairwise_cons.1 hp).1 x hx)
  refine List.pairwise_append.2 ⟨h.1, List.pairwise_cons.2 ⟨hd, h.2.1⟩, fun a ha b hb => ?_⟩
  rcases List.mem_cons.1 hb with rfl | hb
  · exact List.le_of_lt (ht a ha)
  · exact List.le_trans (List.le_of_lt (ht a ha)) (hd b hb)
theorem fold_ins : ∀ (l acc : List Mb), acc.Pairwise (fun x y => x.1 ≤ y.1) → (l.foldl insM acc).Pairwise (fun x y => x.1 ≤ y.1) ∧ (l.foldl insM acc).Perm (acc ++ l)
  | [], acc, h => ⟨h, by rw [List.append_nil]; exact List.Perm.refl _⟩
  | m :: l, acc, h => by
    obtain ⟨h1, h2⟩ := fold_ins l (insM acc m) (insM_le h)
    refine ⟨h1, h2.trans ?_⟩
    have := (insM_perm acc m).append_right l
    rw [List.append_assoc] at this
    exact this
end Go.Proofs.YtmnknmpfkjhgbaaGreatDoor
/- WHERE A KEY STANDS in a sorted list that is gone along; plain facts. -/
namespace Go.Proofs.YtmnknmpfkjhgbaaGreatDoor
namespace SM
section
variable {α : Type}
theorem Srt.plc_at {L : List (Tx × α)} (h : Srt L) {p : Tx} {k : Nat} (hk : k ≤ L.length) (h1 : ∀ j, (hj : j < k) → (hl : j < L.length) → L[j].1 < p) (h2 : ∀ hl : k < L.length, ¬ L[k].1 < p) : k = plc L p := by
  have e : lo L p = L.take k := by
    unfold lo
    conv => lhs; rw [← List.take_append_drop k L]
    rw [List.filter_append, List.filter_eq_self.2 (fun x hx => ?_), List.filter_eq_nil_iff.2 (fun x hx => ?_), List.append_nil]
    · obtain ⟨j, hj, rfl⟩ := List.mem_iff_getElem.1 hx
      rw [List.length_drop] at hj
      rw [List.getElem_drop]
      have h2 := h2 (by omega)
      rcases Nat.eq_zero_or_pos j with rfl | h0
      · simpa using h2
      · have := h.rise (i := k) (j := k + j) (by omega) (by omega)
        simpa using fun e : (L[k + j]).1 < p => h2 (tx_trans this e)
    · obtain ⟨j, hj, rfl⟩ := List.mem_iff_getElem.1 hx
      rw [List.length_take] at hj
      rw [List.getElem_take]
      simpa using h1 j (by omega) (by omega)
  unfold plc
  rw [e, List.length_take]
  omega
end
end SM
end Go.Proofs.YtmnknmpfkjhgbaaGreatDoor
/- portolanref11: begins, Name, MayName, Split, May, Join. -/
namespace Go.Proofs.YtmnknmpfkjhgbaaGreatDoor
open Go.RowKit
theorem prefix_take (s t : List UInt8) (_h : t.length ≤ s.length) : (s.take t.length == t) = t.isPrefixOf s := by
  rw [Bool.eq_iff_iff, beq_iff_eq, List.isPrefixOf_iff_prefix]
  constructor
  · intro e; rw [← e]; exact List.take_prefix _ _
  · intro hp; exact (List.prefix_iff_eq_take.1 hp).symm
theorem begins_any (s t : List UInt8) (w : World) : Calls Tryz.prog 136 #[.string ⟨s.toArray⟩, .string ⟨t.toArray⟩] w fun e w' => e = .returned (.bool (t.isPrefixOf s)) ∧ w = w' := by
  by_cases h : t.length ≤ s.length
  · have hd : decide ((t.length : Int) ≤ (s.length : Int)) = true := decide_eq_true (by omega)
    have hd2 : decide (t.length ≤ s.length) = true := decide_eq_true h
    have hst := run_slice_to (P := Tryz.prog) Tryz.underlying9 s .i64 t.length h
    have he := prefix_take s t h
    generalize s.take t.length = q at *
    generalize t.isPrefixOf s = b at *
    go_enter Tryz.func136, Tryz.ntmps136
    go_wp2_with fail
    go_ret
    exact ⟨rfl, rfl⟩
  · have hd : decide ((t.length : Int) ≤ (s.length : Int)) = false := decide_eq_false (by omega)
    have hd2 : decide (t.length ≤ s.length) = false := decide_eq_false h
    have he : t.isPrefixOf s = false := by
      cases hx : t.isPrefixOf s with
      | false => rfl
      | true => exact absurd (List.isPrefixOf_iff_prefix.1 hx).length_le h
    rw [he]
    clear he h
    go_enter Tryz.func136, Tryz.ntmps136
    go_wp2_with fail
    go_ret
    exact ⟨rfl, rfl⟩
def nameB (s : List UInt8) : Bool := !(s.any fun c => c == 47 || c == 0) && (decide (1 ≤ s.length) && decide (s.length ≤ 255) && s != [46] && s != [46, 46])
set_option maxHeartbeats 2000000 in
set_option maxRecDepth 100000 in
theorem rname_any (s : List UInt8) (hs : s.length ≤ 1000000) (w : World) : Calls Tryz.prog 138 #[.string ⟨s.toArray⟩] w fun e w' => e = .returned (.bool (nameB s)) ∧ w = w' := by
  go_enter Tryz.func138, Tryz.ntmps138
  go_wp2_with fail
  go_loopg [3] s.length (fun g u3 wx => ∃ k : Nat, k + g = s.length ∧ u3 = .int .i64 (k : Int) ∧ (∀ j, (hj : j < k) → (hl : j < s.length) → s[j] ≠ 47 ∧ s[j] ≠ 0) ∧ w = wx)
  case atStart => exact ⟨0, by omega, rfl, fun j hj => by omega, rfl⟩
  case round =>
    obtain ⟨k, hkg, rfl, hno, rfl⟩ := hrel
    have HNO := Keep.keep hno
    clear hno
    cases gk with
    | zero =>
      obtain rfl : k = s.length := by omega
      have HE : Keep (nameB s = (decide (1 ≤ s.length) && decide (s.length ≤ 255) && s != [46] && s != [46, 46])) := ⟨by
        have : (s.any fun c => c == 47 || c == 0) = false := by
          rw [List.any_eq_false]
          intro c hc
          obtain ⟨j, hj, rfl⟩ := List.mem_iff_getElem.1 hc
          obtain ⟨h1, h2⟩ := HNO.out j hj hj
          simp [h1, h2]
        unfold nameB; rw [this]; rfl⟩
      simp only [bne] at HE
      obtain ⟨b1, h1⟩ : ∃ b, decide (1 ≤ s.length) = b := ⟨_, rfl⟩
      obtain ⟨b2, h2⟩ : ∃ b, decide (s.length ≤ 255) = b := ⟨_, rfl⟩
      obtain ⟨b3, h3⟩ : ∃ b, (s == [46]) = b := ⟨_, rfl⟩
      obtain ⟨b4, h4⟩ : ∃ b, (s == [46, 46]) = b := ⟨_, rfl⟩
      simp only [h1, h2, h3, h4] at HE
      have h1i : decide ((1 : Int) ≤ (s.length : Int)) = b1 := by rw [← h1]; simp only [decide_eq_decide]; omega
      have h2i : decide ((s.length : Int) ≤ 255) = b2 := by rw [← h2]; simp only [decide_eq_decide]; omega
      clear HNO
      cases b1 with
      | false =>
        go_wp2_with fail
        go_ret
        exact ⟨by rw [HE.out]; rfl, rfl⟩
      | true =>
      cases b2 with
      | false =>
        go_wp2_with fail
        go_ret
        exact ⟨by rw [HE.out]; rfl, rfl⟩
      | true =>
      cases b3 with
      | true =>
        go_wp2_with fail
        go_ret
        exact ⟨by rw [HE.out]; rfl, rfl⟩
      | false =>
        cases b4 with
        | true =>
          go_wp2_with fail
          go_ret
          exact ⟨by rw [HE.out]; rfl, rfl⟩
        | false =>
          go_wp2_with fail
          go_ret
          exact ⟨by rw [HE.out]; rfl, rfl⟩
    | succ g =>
      have hk : k < s.length := by omega
      have hidx := run_index_str (P := Tryz.prog) Tryz.underlying9 ⟨s.toArray⟩ .i64 k s[k] (by simp [hk])
      have hgi : (⟨s.toArray⟩ : ByteArray)[k]'(hk) = s[k] := rfl
      have HSTEP : Keep (s[k] ≠ 47 ∧ s[k] ≠ 0 → ∀ j, (hj : j < k + 1) → (hl : j < s.length) → s[j] ≠ 47 ∧ s[j] ≠ 0) := ⟨fun he j hj hl => by
        rcases Nat.lt_succ_iff_lt_or_eq.1 hj with h | rfl
        · exact HNO.out j h hl
        · exact he⟩
      have HBAD : Keep (s[k] = 47 ∨ s[k] = 0 → nameB s = false) := ⟨fun h => by
        have : (s.any fun c => c == 47 || c == 0) = true := List.any_eq_true.2 ⟨_, List.getElem_mem hk, by rcases h with h | h <;> simp [h]⟩
        unfold nameB; rw [this]; rfl⟩
      by_cases h0 : s[k] = 0
      · have HX := Keep.keep (HBAD.out (.inr h0))
        rw [h0] at hidx hgi
        clear HSTEP HBAD h0 HNO
        go_wp2_with fail
        go_ret
        exact ⟨by rw [HX.out]; rfl, rfl⟩
      · by_cases h47 : s[k] = 47
        · have HX := Keep.keep (HBAD.out (.inl h47))
          rw [h47] at hidx hgi
          clear HSTEP HBAD h0 h47 HNO
          go_wp2_with fail
          go_ret
          exact ⟨by rw [HX.out]; rfl, rfl⟩
        · have HST := Keep.keep (HSTEP.out ⟨h47, h0⟩)
          have hn0 : ((s[k].toNat : Int) == 0) = false := by
            rw [beq_eq_false_iff_ne]; intro e; exact h0 (UInt8.toNat_inj.1 (by show s[k].toNat = 0; omega))
          have hn47 : ((s[k].toNat : Int) == 47) = false := by
            rw [beq_eq_false_iff_ne]; intro e; exact h47 (UInt8.toNat_inj.1 (by show s[k].toNat = 47; omega))
          clear HSTEP HBAD h0 h47 HNO
          generalize s[k] = c at *
          go_wp2_with fail
          go_roundg g
          case measure => omega
          case rel => exact ⟨k + 1, by omega, by simp, HST.out, rfl⟩
theorem mayN_name (s : List UInt8) : mayN s = (nameB s && decide (s.length ≤ 251) && !whiteB.isPrefixOf s) := by
  unfold mayN nameB
  have h1 : decide (1 ≤ s.length) = !s.isEmpty := by cases s <;> simp
  rw [h1, show ([46, 119, 104, 46] : List UInt8) = whiteB from rfl]
  by_cases h2 : s.length ≤ 251
  · rw [decide_eq_true h2, decide_eq_true (show s.length ≤ 255 by omega)]
    cases s.isEmpty <;> cases (s != [46]) <;> cases (s != [46, 46]) <;> cases (s.any fun c => c == 47 || c == 0) <;> cases whiteB.isPrefixOf s <;> rfl
  · rw [decide_eq_false h2]; simp
set_option maxHeartbeats 1000000 in
theorem rmayname_any (s : List UInt8) (hs : s.length ≤ 1000000) (w : World) : Calls Tryz.prog 110 #[.string ⟨s.toArray⟩] w fun e w' => e = .returned (.bool (mayN s)) ∧ w = w' := by
  have HN := Keep.keep (fun w => rname_any s hs w)
  have HB : Keep (∀ w, Calls Tryz.prog 136 #[.string ⟨s.toArray⟩, .string ⟨#[46, 119, 104, 46]⟩] w fun e w' => e = .returned (.bool (whiteB.isPrefixOf s)) ∧ w = w') := ⟨fun w => begins_any s whiteB w⟩
  rw [mayN_name]
  have h2i : decide ((s.length : Int) ≤ 251) = decide (s.length ≤ 251) := by simp only [decide_eq_decide]; omega
  generalize nameB s = b1 at *
  generalize decide (s.length ≤ 251) = b2 at *
  generalize whiteB.isPrefixOf s = b3 at *
  go_enter Tryz.func110, Tryz.ntmps110
  go_wp2_with fail
  refine (HN.out _).mono ?_
  rintro e w' ⟨rfl, rfl⟩
  cases b1 with
  | false =>
    go_wp2_with fail
    go_ret
    exact ⟨rfl, rfl⟩
  | true =>
  cases b2 with
  | false =>
    go_wp2_with fail
    go_ret
    exact ⟨rfl, rfl⟩
  | true =>
    go_wp2_with fail
    refine (HB.out _).mono ?_
    rintro e w' ⟨rfl, rfl⟩
    go_wp2_with fail
    go_ret
    exact ⟨rfl, rfl⟩
theorem SpAt.end_ {p : List UInt8} {f : Nat} {D : List (List UInt8)} (h : SpAt p p.length f D) : SpAt p (p.length + 1) (p.length + 1) (D ++ [(p.drop f).take (p.length - f)]) := by
  rcases h with ⟨h1, h2, h3, h4⟩ | ⟨h1, _⟩
  · refine .inr ⟨rfl, ?_⟩
    have e1 : (p.drop f).take (p.length - f) = p.drop f := by rw [List.take_of_length_le]; rw [List.length_drop]; omega
    have h5 := seg_noSl h4
    rw [e1] at h5 ⊢
    rw [spl_none h5] at h3
    exact h3
  · omega
theorem run_slice_mid {P : Program} {T : TypeId} (hu : P.underlying T = some .string) (l : List UInt8) (k1 k2 : IntKind) (i j : Nat) (h1 : i ≤ j) (h2 : j ≤ l.length) (w : World) :
    (Instr.slice T (.string ⟨l.toArray⟩) (some (.int k1 (i : Int))) (some (.int k2 (j : Int))) none).run P w = .ok (.string ⟨((l.drop i).take (j - i)).toArray⟩) w := by
  have h := run_slice_str (P := P) hu l k1 k2 (i : Int) (j : Int) (by omega) (by omega) (by omega) w
  rw [h]
  simp
set_option maxHeartbeats 4000000 in
set_option maxRecDepth 100000 in
theorem rsplit_any (p : List UInt8) (hp : p.length ≤ 1000000) (w : World) : Calls Tryz.prog 109 #[.string ⟨p.toArray⟩] w fun e w' => ∃ v, e = .returned v ∧ OwnS w' w.heap.size v (splitP p) ∧ Below w.heap.size w w' := by
  have heq := bne_nil p
  cases hl0 : p.isEmpty with
  | true =>
    have hs : splitP p = [] := by cases p with | nil => rfl | cons c l => cases hl0
    rw [hl0] at heq
    rw [hs]
    clear hs hl0
    go_enter Tryz.func109, Tryz.ntmps109
    go_wp2_with fail
    go_ret
    exact ⟨_, rfl, World.ownsRow_nil _ _ _ _, Below.refl _ _⟩
  | false =>
    have hs : splitP p = spl p := by cases p with | nil => cases hl0 | cons c l => rfl
    rw [hl0] at heq
    rw [hs]
    have hlen := spl_length p
    clear hs hl0
    go_enter Tryz.func109, Tryz.ntmps109
    go_wp2_with fail
    go_loopg [3, 4, 5] (p.length + 1) (fun g u3 u4 u5 wx => ∃ (k f : Nat) (D : List (List UInt8)), k + g = p.length + 1 ∧ u5 = .int .i64 (k : Int) ∧ u4 = .int .i64 (f : Int) ∧ SpAt p k f D ∧ D.length ≤ k ∧ Hp NoM w wx [slA w.heap.size 9 1 u3 D.length (D.map strV)])
    case atStart => exact ⟨0, 0, [], by omega, rfl, rfl, .inl ⟨Nat.zero_le _, Nat.le_refl _, rfl, fun j _ hj => by omega⟩, Nat.le_refl _, (Hp.begin NoM w).nilS _ _ _⟩
    case round =>
      obtain ⟨k, f, D, hkg, rfl, rfl, hsp, hDl, hH⟩ := hrel
      have HH := Keep.keep hH; have HSP := Keep.keep hsp
      have hown := hH.sl 0 rfl
      obtain ⟨a3, c3, rfl, -⟩ := (ownsV_reads hown).shape
      have HO := Keep.keep hown
      clear hH hown hsp
      cases gk with
      | zero =>
        obtain rfl : k = p.length + 1 := by omega
        have HD : Keep (D = spl p) := ⟨by
          rcases HSP.out with ⟨h, _⟩ | ⟨_, h⟩
          · omega
          · exact h⟩
        have hd : decide (((p.length + 1 : Nat) : Int) ≤ (p.length : Int)) = false := decide_eq_false (by omega)
        have hd2 : decide ((p.length : Int) + 1 ≤ (p.length : Int)) = false := decide_eq_false (by omega)
        have hd3 : decide (p.length + 1 ≤ p.length) = false := decide_eq_false (by omega)
        go_wp2_with fail
        go_ret
        exact ⟨_, rfl, by rw [← HD.out]; exact HO.out, HH.out.below⟩
      | succ g =>
        have hk1 : k ≤ p.length := by omega
        have hf := HSP.out.le hk1
        have hd : decide ((k : Int) ≤ (p.length : Int)) = true := decide_eq_true (by omega)
        have hd2 : decide (k ≤ p.length) = true := decide_eq_true hk1
        have hst := run_slice_mid (P := Tryz.prog) Tryz.underlying9 p .i64 .i64 f k hf hk1
        by_cases hke : k = p.length
        · have hek : ((k : Int) == (p.length : Int)) = true := by rw [hke]; exact beq_self_eq_true _
          have hek2 : (k == p.length) = true := by rw [hke]; exact beq_self_eq_true _
          have HNX : Keep (SpAt p (k + 1) (k + 1) (D ++ [(p.drop f).take (k - f)])) := ⟨by
            subst hke; exact HSP.out.end_⟩
          clear hke
          generalize (p.drop f).take (k - f) = x at *
          go_wp2_with (with_reducible refine arm_stop ?_)
          refine Stopped.out ?_
          refine arm_appendV slS ((HH.out.alloc _).sl 0 rfl) (RdV.new (N := fun _ => True) 9 [strV x] 1 1 _ rfl rfl (by unfold maxLen; omega) trivial) (by simp [strV, Value.oneCell']) (by unfold maxLen; omega) (by omega) (by simp; have := HH.out.size; omega) rfl rfl ?_
          intro v' w' ho hg hb _
          have HG := Keep.keep ((HH.out.alloc _).grow 0 rfl hg ho hb)
          obtain ⟨a4, c4, rfl, -⟩ := (ownsV_reads ho).shape
          clear ho hg hb
          simp only [Act.put, List.setIfInBounds_toArray, List.set_cons_succ, List.set_cons_zero]
          go_wp2_with fail
          go_roundg g
          case measure => omega
          case rel => exact ⟨k + 1, k + 1, _, by omega, by simp, by simp, HNX.out, by simp; omega, by rw [List.length_append, List.map_append]; exact HG.out⟩
        · have hk : k < p.length := by omega
          have hek : ((k : Int) == (p.length : Int)) = false := by rw [beq_eq_false_iff_ne]; omega
          have hek2 : (k == p.length) = false := by rw [beq_eq_false_iff_ne]; omega
          have hidx := run_index_str (P := Tryz.prog) Tryz.underlying9 ⟨p.toArray⟩ .i64 k p[k] (by simp [hk])
          have hgi : (⟨p.toArray⟩ : ByteArray)[k]'(hk) = p[k] := rfl
          have HCUT := Keep.keep (fun h => HSP.out.cut hk h)
          have HSKIP := Keep.keep (fun h => HSP.out.skip hk h)
          by_cases h47 : p[k] = 47
          · have HNX := Keep.keep (HCUT.out h47)
            rw [h47] at hidx hgi
            clear HCUT HSKIP h47 hke
            generalize (p.drop f).take (k - f) = x at *
            go_wp2_with (with_reducible refine arm_stop ?_)
            refine Stopped.out ?_
            refine arm_appendV slS ((HH.out.alloc _).sl 0 rfl) (RdV.new (N := fun _ => True) 9 [strV x] 1 1 _ rfl rfl (by unfold maxLen; omega) trivial) (by simp [strV, Value.oneCell']) (by unfold maxLen; omega) (by omega) (by simp; have := HH.out.size; omega) rfl rfl ?_
            intro v' w' ho hg hb _
            have HG := Keep.keep ((HH.out.alloc _).grow 0 rfl hg ho hb)
            obtain ⟨a4, c4, rfl, -⟩ := (ownsV_reads ho).shape
            clear ho hg hb
            simp only [Act.put, List.setIfInBounds_toArray, List.set_cons_succ, List.set_cons_zero]
            go_wp2_with fail
            go_roundg g
            case measure => omega
            case rel => exact ⟨k + 1, k + 1, _, by omega, by simp, by simp, HNX.out, by simp; omega, by rw [List.length_append, List.map_append]; exact HG.out⟩
          · have HNX := Keep.keep (HSKIP.out h47)
            have hn47 : ((p[k].toNat : Int) == 47) = false := by
              rw [beq_eq_false_iff_ne]; intro e; exact h47 (UInt8.toNat_inj.1 (by show p[k].toNat = 47; omega))
            clear HCUT HSKIP h47 hke hst
            generalize p[k] = c at *
            go_wp2_with fail
            go_roundg g
            case measure => omega
            case rel => exact ⟨k + 1, f, D, by omega, by simp, rfl, HNX.out, by omega, HH.out⟩
end Go.Proofs.YtmnknmpfkjhgbaaGreatDoor
