/- PARTS OF ONE PROOF, set in one file: LayC, TgLog, TgApp, TgSet, TgGet, TgOpen, TgEq, TgSta. Each part tells its own conditions. -/
import Derived.Sort.LoopGhostIn
import Derived.Test.YtmkofejijkabnaaGreatDoorP8
/- The steps of laying a journal anew, one by one, and their bounds; of appending to it. -/
namespace Go.Proofs.YtmkofejijkabnaaGreatDoor
theorem lay_steps {fs : Nat → FileS} {M : Nat} {S T : Fol} {q : Int} {dn : Bool} {b : List UInt8} (hS : (S.map (·.1)).contains freshN = false) (hl : SM.look S freshN = none) (hT : SM.put S (freshN, M) = T) (hlT : SM.look T freshN = some M) (hr : doD T (.rename freshN tagsN) = [(tagsN, M)])
    (hu : ((T.map fun x => (setF fs M ⟨[], 0⟩ x.2).bytes.length).sum : Int) + (b.length : Int) ≤ q)
    (hM : M ≤ 900000) (hf : ∀ k, k < M → (fs k).bytes.length ≤ 1000000) (hq0 : 0 ≤ q) (hq : q ≤ 268435456) (hSl : S.length ≤ 500) (hTl : T.length ≤ 500) (hbl : b.length ≤ 1000000) (hu0 : (S.map fun x => (fs x.2).bytes.length).sum ≤ 1000000000) (hu3 : (T.map fun x => (setF fs M ⟨b, 0⟩ x.2).bytes.length).sum ≤ 1000000000) (hu4 : (T.map fun x => (setF fs M ⟨b, b.length⟩ x.2).bytes.length).sum ≤ 1000000000) :
    ∃ d1 d2 d3 d4 d5, Lay6 b ⟨fs, M, S, [], q, false, -1, dn⟩ d1 d2 d3 d4 d5 ⟨setF fs M ⟨b, b.length⟩, M + 1, [(tagsN, M)], [], q, false, -1, dn⟩ := by
  have hnow : ∀ (gs : Nat → FileS), (⟨gs, M + 1, S, [.create freshN M], q, false, -1, dn⟩ : DkS).now = T := fun gs => hT
  have hfs : ∀ (g : FileS), g.bytes.length ≤ 1000000000 → ∀ k, k < M + 1 → (setF fs M g k).bytes.length ≤ 1000000000 := fun g hg k hk => by
    unfold setF
    split
    · exact hg
    · have := hf k (by omega); omega
  have bD : ∀ (g : FileS), g.bytes.length ≤ 1000000000 → (T.map fun x => (setF fs M g x.2).bytes.length).sum ≤ 1000000000 → DkB ⟨setF fs M g, M + 1, S, [.create freshN M], q, false, -1, dn⟩ := fun g hg hgu =>
    ⟨rfl, by show (1 : Nat) ≤ 1000; decide, by show M + 1 ≤ 1000000; omega, by rw [hnow]; omega, by unfold DkS.used; rw [hnow]; exact hgu, hq0, hq, hfs g hg⟩
  have h0 : DkB ⟨fs, M, S, [], q, false, -1, dn⟩ := ⟨rfl, Nat.zero_le _, by show M ≤ 1000000; omega, by show S.length ≤ 1000; omega, hu0, hq0, hq, fun k hk => by have := hf k hk; show (fs k).bytes.length ≤ _; omega⟩
  have hT0 : (T.map fun x => (setF fs M ⟨[], 0⟩ x.2).bytes.length).sum ≤ 1000000000 := by omega
  have h2 : DkB ⟨setF fs M ⟨[], 0⟩, M + 1, S, [.create freshN M], q, false, -1, dn⟩ := bD ⟨[], 0⟩ (by simp) hT0
  have h3 : DkB ⟨setF fs M ⟨b, 0⟩, M + 1, S, [.create freshN M], q, false, -1, dn⟩ := bD ⟨b, 0⟩ (by show b.length ≤ _; omega) hu3
  have h4 : DkB ⟨setF fs M ⟨b, b.length⟩, M + 1, S, [.create freshN M], q, false, -1, dn⟩ := bD ⟨b, b.length⟩ (by show b.length ≤ _; omega) hu4
  have hnow5 : (⟨setF fs M ⟨b, b.length⟩, M + 1, S, [.create freshN M, .rename freshN tagsN], q, false, -1, dn⟩ : DkS).now = [(tagsN, M)] := by
    show doD (SM.put S (freshN, M)) (.rename freshN tagsN) = _
    rw [hT, hr]
  have h5 : DkB ⟨setF fs M ⟨b, b.length⟩, M + 1, S, [.create freshN M, .rename freshN tagsN], q, false, -1, dn⟩ :=
    ⟨rfl, by show (2 : Nat) ≤ 1000; decide, by show M + 1 ≤ 1000000; omega, by rw [hnow5]; show (1 : Nat) ≤ 1000; decide, by unfold DkS.used; rw [hnow5]; simp [setF]; omega, hq0, hq, hfs ⟨b, b.length⟩ (by show b.length ≤ _; omega)⟩
  refine ⟨⟨fs, M, S, [], q, false, -1, dn⟩, ⟨setF fs M ⟨[], 0⟩, M + 1, S, [.create freshN M], q, false, -1, dn⟩, ⟨setF fs M ⟨b, 0⟩, M + 1, S, [.create freshN M], q, false, -1, dn⟩, ⟨setF fs M ⟨b, b.length⟩, M + 1, S, [.create freshN M], q, false, -1, dn⟩, ⟨setF fs M ⟨b, b.length⟩, M + 1, S, [.create freshN M, .rename freshN tagsN], q, false, -1, dn⟩, ⟨?_, ?_, ?_, ?_, ?_, ?_, h0, h0, h2, h3, h4, h5⟩⟩
  · unfold clearD
    rw [if_neg (by show ¬ ((S.map (·.1)).contains freshN = true); rw [hS]; decide)]
  · exact create_on rfl fresh_may rfl hl (by show S.length < 8192; omega)
  · rw [append_on (k := M) rfl fresh_may rfl (by rw [hnow]; exact hlT) (by
      show ((((⟨setF fs M ⟨[], 0⟩, M + 1, S, [.create freshN M], q, false, -1, dn⟩ : DkS).now.map fun x => (setF fs M ⟨[], 0⟩ x.2).bytes.length).sum : Nat) : Int) + _ ≤ q
      rw [hnow]; exact hu)]
    unfold DkS.setFile
    dsimp only
    rw [setF_twice, setF_same]
    rfl
  · rw [sync_on (k := M) rfl fresh_may rfl (by rw [hnow]; exact hlT)]
    unfold DkS.setFile
    dsimp only
    rw [setF_twice, setF_same]
  · exact rename_on rfl fresh_may tags_may rfl (by rw [hnow]; exact hlT)
  · rw [settle_on rfl rfl, hnow5]
/-- bounds of a log's disk behind n calls -/
def LB (x : LogS) (n : Nat) : Prop := x.d.many ≤ n + 1 ∧ ∀ k, k < x.d.many → (x.d.files k).bytes.length ≤ 100000
theorem look_tags (f : Nat) : SM.look ([(tagsN, f)] : Fol) tagsN = some f := by
  unfold SM.look
  rw [List.find?_cons_of_pos (by show (tagsN == tagsN) = true; decide)]
  rfl
theorem DkB.tags {fs : Nat → FileS} {M f : Nat} {q : Int} {dn : Bool} (hM : M ≤ 1000000) (hf : f < M) (hfs : ∀ k, k < M → (fs k).bytes.length ≤ 1000000) (hq0 : 0 ≤ q) (hq : q ≤ 268435456) : DkB ⟨fs, M, [(tagsN, f)], [], q, false, -1, dn⟩ :=
  ⟨rfl, Nat.zero_le _, hM, by show (1 : Nat) ≤ 1000; decide, by
    show (([(tagsN, f)] : Fol).map fun x => (fs x.2).bytes.length).sum ≤ _
    simp only [List.map_cons, List.map_nil, List.sum_cons, List.sum_nil, Nat.add_zero]
    have := hfs f hf; omega, hq0, hq, fun k hk => by have := hfs k hk; show (fs k).bytes.length ≤ _; omega⟩
theorem LOk.dkb {q : Int} {x : LogS} {l : List (List UInt8)} {n : Nat} (h : LOk q x l n) (hb : LB x n) (hn : n ≤ 60) (hq0 : 0 ≤ q) (hq : q ≤ 268435456) : DkB x.d := by
  obtain ⟨fs, M, f, dn, hxd, hfM, hby⟩ := h.d
  obtain ⟨b1, b2⟩ := hb
  rw [hxd] at b1 b2 ⊢
  exact DkB.tags (by have : M ≤ n + 1 := b1; omega) hfM (fun k hk => by have : (fs k).bytes.length ≤ 100000 := b2 k hk; omega) hq0 hq
/-- a frame is appended, and made safe -/
theorem LOk.appS {q : Int} {x : LogS} {l : List (List UInt8)} {n : Nat} (h : LOk q x l n) (hb : LB x n) (hn : n ≤ 60) (hq0 : 0 ≤ q) (hq : q ≤ 268435456) {b : List UInt8} (hbl : b.length ≤ 98) (hcap : (16 + (jrn l).length + b.length : Int) ≤ q) :
    ∃ d1 d2, x.d.append tagsN (frameB b) = (0, d1) ∧ d1.sync tagsN = (0, d2) ∧ DkB d1 ∧ x.app b = (0, ⟨d2, (doesB x.m b).1, false⟩) ∧ LB ⟨d2, (doesB x.m b).1, false⟩ (n + 1) := by
  obtain ⟨fs, M, f, dn, hxd, hfM, hby⟩ := h.d
  have hjl := jrn_len l h.bd
  have hll := h.len
  have hoff := h.off
  obtain ⟨b1, b2⟩ := hb
  obtain ⟨xd, xm, xo⟩ := x
  dsimp only at hxd hoff b1 b2 ⊢
  subst hxd hoff
  have hlk := look_tags f
  have hlen : (fs f).bytes.length = 8 + (jrn l).length := by rw [hby, List.length_append, magic_len]
  have h1 : (⟨fs, M, [(tagsN, f)], [], q, false, -1, dn⟩ : DkS).append tagsN (frameB b) = (0, ⟨setF fs f ⟨(fs f).bytes ++ frameB b, (fs f).safe⟩, M, [(tagsN, f)], [], q, false, -1, dn⟩) := by
    rw [append_on (d := ⟨fs, M, [(tagsN, f)], [], q, false, -1, dn⟩) (b := frameB b) (k := f) rfl tags_may rfl hlk (by
      show (((([(tagsN, f)] : Fol).map fun x => (fs x.2).bytes.length).sum : Nat) : Int) + _ ≤ q
      simp only [List.map_cons, List.map_nil, List.sum_cons, List.sum_nil, Nat.add_zero, frame_len]
      rw [hlen]
      omega)]
    rfl
  have h2 : (⟨setF fs f ⟨(fs f).bytes ++ frameB b, (fs f).safe⟩, M, [(tagsN, f)], [], q, false, -1, dn⟩ : DkS).sync tagsN = (0, ⟨setF fs f ⟨(fs f).bytes ++ frameB b, ((fs f).bytes ++ frameB b).length⟩, M, [(tagsN, f)], [], q, false, -1, dn⟩) := by
    rw [sync_on (d := ⟨setF fs f ⟨(fs f).bytes ++ frameB b, (fs f).safe⟩, M, [(tagsN, f)], [], q, false, -1, dn⟩) (k := f) rfl tags_may rfl hlk]
    unfold DkS.setFile
    dsimp only
    rw [setF_twice, setF_same]
  have hnl : ((fs f).bytes ++ frameB b).length ≤ 100000 := by rw [List.length_append, hlen, frame_len]; omega
  have hfs : ∀ (s : Nat) k, k < M → (setF fs f ⟨(fs f).bytes ++ frameB b, s⟩ k).bytes.length ≤ 100000 := fun s k hk => by
    unfold setF
    split
    · exact hnl
    · exact b2 k hk
  have hM : M ≤ n + 1 := b1
  refine ⟨_, _, h1, h2, DkB.tags (by omega) hfM (fun k hk => by have := hfs (fs f).safe k hk; omega) hq0 hq, ?_, by show M ≤ n + 1 + 1; omega, fun k hk => hfs _ k hk⟩
  have hg : goesD (⟨fs, M, [(tagsN, f)], [], q, false, -1, dn⟩ : DkS) [fun d => d.append tagsN (frameB b), fun d => d.sync tagsN] = (0, ⟨setF fs f ⟨(fs f).bytes ++ frameB b, ((fs f).bytes ++ frameB b).length⟩, M, [(tagsN, f)], [], q, false, -1, dn⟩) := by
    rw [goesD_ok (f := fun d => d.append tagsN (frameB b)) h1, goesD_ok (f := fun d => d.sync tagsN) h2, goesD_nil]
  unfold LogS.app
  dsimp only
  rw [hg]
  rfl
/-- laid anew -/
theorem LOk.anewS {q : Int} {x : LogS} {l : List (List UInt8)} {n : Nat} (h : LOk q x l n) (hb : LB x n) (hn : n ≤ 60) (hq0 : 30000 ≤ q) (hq : q ≤ 268435456) :
    ∃ d1 d2 d3 d4 d5 d6, Lay6 (magicB ++ jrn (layB x.m)) x.d d1 d2 d3 d4 d5 d6 ∧ x.anew = (0, ⟨d6, x.m, false⟩) ∧ LB ⟨d6, x.m, false⟩ (n + 1) := by
  obtain ⟨fs, M, f, dn, hxd, hfM, hby⟩ := h.d
  have hjl := jrn_len l h.bd
  have hll := h.len
  have hoff := h.off
  have h64 := h.few
  have hbd : ∀ b ∈ layB x.m, b.length ≤ 98 := fun b hb => by
    obtain ⟨y, hy, rfl⟩ := List.mem_map.1 hb
    have h1 := h.tg y hy
    have := tag_len h1.1
    have := h1.2
    simp only [setBd, List.length_cons, List.length_append]
    omega
  have hj2 := jrn_len (layB x.m) hbd
  rw [layB_len] at hj2
  obtain ⟨b1, b2⟩ := hb
  obtain ⟨xd, xm, xo⟩ := x
  dsimp only at hxd hoff b1 b2 h64 hj2 ⊢
  subst hxd hoff
  have hM : M ≤ n + 1 := b1
  have hlen : (fs f).bytes.length = 8 + (jrn l).length := by rw [hby, List.length_append, magic_len]
  have hbl : (magicB ++ jrn (layB xm)).length ≤ 7000 := by rw [List.length_append, magic_len]; omega
  have hfM' : f ≠ M := by omega
  have hsum : ∀ (g : FileS), ([(tagsN, f), (freshN, M)].map fun x : Tx × Nat => (setF fs M g x.2).bytes.length).sum = (fs f).bytes.length + g.bytes.length := fun g => by
    simp only [List.map_cons, List.map_nil, List.sum_cons, List.sum_nil, setF, if_neg hfM', if_true, Nat.add_zero]
  obtain ⟨d1, d2, d3, d4, d5, hL⟩ := lay_steps (fs := fs) (M := M) (S := [(tagsN, f)]) (T := [(tagsN, f), (freshN, M)]) (q := q) (dn := dn) (b := magicB ++ jrn (layB xm)) (show ([tagsN] : List Tx).contains freshN = false by decide) (by
    unfold SM.look
    rw [List.find?_cons_of_neg (by show ¬ (tagsN == freshN) = true; decide)]
    rfl) (put_fresh f M) (by
    unfold SM.look
    rw [List.find?_cons_of_neg (by show ¬ (tagsN == freshN) = true; decide), List.find?_cons_of_pos (by show (freshN == freshN) = true; decide)]
    rfl) (ren_fresh f M) (by rw [hsum]; simp only [List.length_nil, Nat.add_zero]; rw [hlen]; omega) (by omega) (fun k hk => by have : (fs k).bytes.length ≤ 100000 := b2 k hk; omega) (by omega) hq (by simp) (by simp) (by omega) (by
      simp only [List.map_cons, List.map_nil, List.sum_cons, List.sum_nil, Nat.add_zero]
      rw [hlen]; omega) (by rw [hsum, hlen]; show 8 + (jrn l).length + (magicB ++ jrn (layB xm)).length ≤ _; omega) (by rw [hsum, hlen]; show 8 + (jrn l).length + (magicB ++ jrn (layB xm)).length ≤ _; omega)
  refine ⟨d1, d2, d3, d4, d5, _, hL, ?_, by show M + 1 ≤ n + 1 + 1; omega, fun k hk => ?_⟩
  · have hlay := lay_again (fs := fs) (f := f) (M := M) (q := q) (dn := dn) (b := magicB ++ jrn (layB xm)) hfM (by rw [hlen]; omega)
    unfold LogS.anew
    dsimp only
    rw [if_neg (by decide)]
    unfold layD
    rw [hlay]
    rfl
  · have hk : k < M + 1 := hk
    show (setF fs M _ k).bytes.length ≤ 100000
    unfold setF
    split
    · show (magicB ++ jrn (layB xm)).length ≤ _; omega
    · exact b2 k (show k < M by rename_i hne; omega)
/-- opened on a new disk -/
theorem open_steps {q : Int} (hq0 : 8 ≤ q) (hq : q ≤ 268435456) : ∃ d1 d2 d3 d4 d5 d6, Lay6 (magicB ++ jrn (layB [])) (newDk q) d1 d2 d3 d4 d5 d6 ∧ layD (newDk q) [] = (0, d6) ∧ LOk q ⟨d6, [], false⟩ [] 0 ∧ LB ⟨d6, [], false⟩ 0 := by
  have hb : magicB ++ jrn (layB []) = magicB := by simp [layB, jrn]
  have hsum : ∀ (g : FileS), ([(freshN, 0)].map fun x : Tx × Nat => (setF (fun _ => (⟨[], 0⟩ : FileS)) 0 g x.2).bytes.length).sum = g.bytes.length := fun g => by
    simp [setF]
  obtain ⟨d1, d2, d3, d4, d5, hL⟩ := lay_steps (fs := fun _ => ⟨[], 0⟩) (M := 0) (S := []) (T := [(freshN, 0)]) (q := q) (dn := false) (b := magicB) rfl rfl rfl (by
    unfold SM.look
    rw [List.find?_cons_of_pos (by show (freshN == freshN) = true; decide)]
    rfl) (ren_first 0) (by rw [hsum]; show (0 : Int) + 8 ≤ q; omega) (by omega) (fun k hk => by omega) (by omega) hq (by simp) (by simp) (by decide) (by simp) (by rw [hsum]; decide) (by rw [hsum]; decide)
  have hlay : layD (newDk q) [] = (0, ⟨setF (fun _ => ⟨[], 0⟩) 0 ⟨magicB, 8⟩, 1, [(tagsN, 0)], [], q, false, -1, false⟩) := lay_first (b := magicB) (by rw [magic_len]; omega)
  refine ⟨d1, d2, d3, d4, d5, _, by rw [hb]; exact hL, hlay, ⟨⟨_, 1, 0, false, rfl, by decide, by rw [setF_same]; simp [jrn]⟩, rfl, trivial, rfl, SM.Srt.nil, fun y hy => by simp at hy, by simp, by simp, fun b hb => by simp at hb⟩, by show (1 : Nat) ≤ 0 + 1; decide, fun k hk => ?_⟩
  show (setF (fun _ => (⟨[], 0⟩ : FileS)) 0 ⟨magicB, 8⟩ k).bytes.length ≤ _
  unfold setF
  split
  · decide
  · simp
end Go.Proofs.YtmkofejijkabnaaGreatDoor
/- A log of tags in memory; asks, told, the closures of append. -/
namespace Go.Proofs.YtmkofejijkabnaaGreatDoor
open Go.RowKit
/-- a log, at L; its map at mb; its disk at D, whose parts lie in O; nothing below B is its own -/
structure LogIn (w : World) (B : Nat) (O : Nat → Prop) (L mb D : Nat) (x : LogS) : Prop where
  row : Row w L 50 #[.pointer (some ⟨D, 0, none⟩), .map (some mb), .bool x.off]
  map : MapS w 9 mb (dgV x.m)
  dk : DkAt w O D x.d
  nL : ¬ O L
  nm : ¬ O mb
  ne : L ≠ mb
  lo : ∀ j, O j → B ≤ j
  loL : B ≤ L
  lom : B ≤ mb
  tb : CrcT w
  tB : 0 < B
/-- what a log is made of -/
def LogO (O : Nat → Prop) (L mb : Nat) : Nat → Prop := fun j => O j ∨ j = L ∨ j = mb
theorem CrcT.of {w w' : World} {B : Nat} (h : CrcT w) (hB : 0 < B) (hb : Below B w w') : CrcT w' :=
  ⟨fun i hi => by rw [(Chg.of_below (M := fun _ => False) hb).cell (p := ⟨0, i, none⟩) hB (fun e => e)]; exact h.c i hi, Nat.lt_of_lt_of_le h.l hb.size⟩
theorem LogIn.bsz {w : World} {B : Nat} {O : Nat → Prop} {L mb D : Nat} {x : LogS} (h : LogIn w B O L mb D x) : B ≤ w.heap.size := Nat.le_trans h.loL (Nat.le_of_lt h.row.lt)
theorem LogIn.on {w w' : World} {B : Nat} {O : Nat → Prop} {L mb D : Nat} {x : LogS} (h : LogIn w B O L mb D x) (hb : Below w.heap.size w w') : LogIn w' B O L mb D x :=
  ⟨h.row.below hb h.row.lt, h.map.loc (hb.block mb h.map.lt), h.dk.on hb, h.nL, h.nm, h.ne, h.lo, h.loL, h.lom, h.tb.on hb, h.tB⟩
/-- behind a call of the log -/
def LogTo (w : World) (B : Nat) (O : Nat → Prop) (L mb D : Nat) (x : LogS) (w' : World) : Prop := ∃ O', LogIn w' B O' L mb D x ∧ Chg (LogO O L mb) w.heap.size w w' ∧ ∀ j, O' j → O j ∨ w.heap.size ≤ j
theorem LogTo.comp {w w1 w2 : World} {B : Nat} {O O' : Nat → Prop} {L mb D : Nat} {x : LogS} (h2 : Chg (LogO O L mb) w.heap.size w w1) (h3 : ∀ j, O' j → O j ∨ w.heap.size ≤ j) (k : LogTo w1 B O' L mb D x w2) : LogTo w B O L mb D x w2 := by
  obtain ⟨O'', g1, g2, g3⟩ := k
  refine ⟨O'', g1, h2.trans ((g2.lower h2.size).at (fun j hj ho => ?_)), fun j hj => ?_⟩
  · rcases ho with ho | ho
    · exact .inl ((h3 j ho).resolve_right (by omega))
    · exact .inr ho
  · rcases g3 j hj with e | e
    · exact h3 j e
    · exact .inr (Nat.le_trans h2.size e)
theorem LogTo.of {w w' : World} {B : Nat} {O : Nat → Prop} {L mb D : Nat} {x : LogS} (h : LogIn w B O L mb D x) (hb : Below w.heap.size w w') : LogTo w B O L mb D x w' := ⟨O, h.on hb, Chg.of_below hb, fun _ hj => .inl hj⟩
theorem LogTo.below {w w' : World} {B : Nat} {O : Nat → Prop} {L mb D : Nat} {x x0 : LogS} (h0 : LogIn w B O L mb D x0) (h : LogTo w B O L mb D x w') : Below B w w' := by
  obtain ⟨O', h1, h2, h3⟩ := h
  refine (h2.lower h0.bsz).below (fun j hj ho => ?_)
  rcases ho with ho | ho | ho
  · have := h0.lo j ho; omega
  · have := h0.loL; omega
  · have := h0.lom; omega
/-- a change of the disk -/
theorem LogIn.disk {w w' : World} {B : Nat} {O : Nat → Prop} {L mb D : Nat} {x : LogS} {d : DkS} (h : LogIn w B O L mb D x) (k : DkTo w O D d w') : LogTo w B O L mb D ⟨d, x.m, x.off⟩ w' := by
  obtain ⟨O', h1, h2, h3⟩ := k
  have hb : Below B w w' := (h2.lower h.bsz).below (fun j hj ho => by have := h.lo j ho; omega)
  exact ⟨O', ⟨h.row.chg h2 h.row.lt h.nL, h.map.loc (h2.block mb h.map.lt h.nm), h1, fun o => by
      rcases h3 L o with e | e
      · exact h.nL e
      · have := h.row.lt; omega, fun o => by
      rcases h3 mb o with e | e
      · exact h.nm e
      · have := h.map.lt; omega, h.ne, fun j o => by
      rcases h3 j o with e | e
      · exact h.lo j e
      · exact Nat.le_trans h.bsz e, h.loL, h.lom, h.tb.of h.tB hb, h.tB⟩, h2.mono (Nat.le_refl _) (fun j hj => .inl hj), h3⟩
/-- a change of the map -/
theorem LogIn.tags {w w' : World} {B : Nat} {O : Nat → Prop} {L mb D : Nat} {x : LogS} {m : Tgs} (h : LogIn w B O L mb D x) (hm : MapS w' 9 mb (dgV m)) (hc : Chg (fun j => j = mb) w.heap.size w w') : LogTo w B O L mb D ⟨x.d, m, x.off⟩ w' := by
  have hb : Below B w w' := (hc.lower h.bsz).below (fun j hj ho => by have := h.lom; omega)
  exact ⟨O, ⟨h.row.chg hc h.row.lt h.ne, hm, h.dk.chg hc (fun j hj ho => h.nm (hj ▸ ho)), h.nL, h.nm, h.ne, h.lo, h.loL, h.lom, h.tb.of h.tB hb, h.tB⟩, hc.mono (Nat.le_refl _) (fun j hj => .inr (.inr hj)), fun _ hj => .inl hj⟩
/-- a change of the log's variable -/
theorem LogIn.var {w w' : World} {B : Nat} {O : Nat → Prop} {L mb D : Nat} {x : LogS} {of' : Bool} (h : LogIn w B O L mb D x) (hr : Row w' L 50 #[.pointer (some ⟨D, 0, none⟩), .map (some mb), .bool of']) (hc : Chg (fun j => j = L) w.heap.size w w') : LogTo w B O L mb D ⟨x.d, x.m, of'⟩ w' := by
  have hb : Below B w w' := (hc.lower h.bsz).below (fun j hj ho => by have := h.loL; omega)
  exact ⟨O, ⟨hr, h.map.loc (hc.block mb h.map.lt (Ne.symm h.ne)), h.dk.chg hc (fun j hj ho => h.nL (hj ▸ ho)), h.nL, h.nm, h.ne, h.lo, h.loL, h.lom, h.tb.of h.tB hb, h.tB⟩, hc.mono (Nat.le_refl _) (fun j hj => .inr (.inl hj)), fun _ hj => .inl hj⟩
set_option maxHeartbeats 1000000 in
set_option maxRecDepth 100000 in
theorem asks_log {w : World} {B : Nat} {O : Nat → Prop} {L mb D : Nat} {x : LogS} (h : LogIn w B O L mb D x) (hof : x.off = false) : Calls Tryz.prog 44 #[.pointer (some ⟨L, 0, none⟩)] w fun e w' => e = .returned (.int .i64 0) ∧ w' = w := by
  have c1 : w.cell? ⟨L, 1, none⟩ = some (.map (some mb)) := h.row.cell rfl
  have c2 : w.cell? ⟨L, 2, none⟩ = some (.bool false) := by rw [← hof]; exact h.row.cell rfl
  have hmn : ∀ w, (Go.binOp .eql 35 (.map (some mb)) (.map none)).run Tryz.prog w = .ok (.bool false) w := fun w => by kernel_rfl
  clear h hof
  go_enter Tryz.func44, Tryz.ntmps44
  go_wp2_with fail
  go_ret
  exact ⟨rfl, rfl⟩
set_option maxHeartbeats 1000000 in
set_option maxRecDepth 100000 in
theorem told_log {w : World} {B : Nat} {O : Nat → Prop} {L mb D : Nat} {x : LogS} (h : LogIn w B O L mb D x) (hof : x.off = false) : Calls Tryz.prog 45 #[.pointer (some ⟨L, 0, none⟩), .int .i64 0] w fun e w' => e = .returned (.int .i64 0) ∧ LogTo w B O L mb D ⟨x.d, x.m, false⟩ w' := by
  have hrow := h.row
  rw [hof] at hrow
  have c2 : w.cell? ⟨L, 2, none⟩ = some (.bool false) := hrow.cell rfl
  have f2 := hrow.frozen 2
  have HH := Keep.keep h; have HR := Keep.keep hrow
  clear h hof hrow
  go_enter Tryz.func45, Tryz.ntmps45
  go_wp2_with fail
  go_ret
  exact ⟨rfl, HH.out.var (HR.out.set' 2 _ rfl) ((Chg.refl (fun j => j = L) w.heap.size w).setCell (p := ⟨L, 2, none⟩) (.inr rfl) _)⟩
end Go.Proofs.YtmkofejijkabnaaGreatDoor
/- (*Log).append. -/
namespace Go.Proofs.YtmkofejijkabnaaGreatDoor
open Go.RowKit
theorem slBB : SlK Tryz.prog 180 28 (.slice none 0 0) 1 24 := SlK.mk' Tryz.underlying180 (by kernel_rfl) rfl (by decide)
set_option maxHeartbeats 1000000 in
set_option maxRecDepth 100000 in
theorem app2_any {w : World} {O : Nat → Prop} {D L bL : Nat} {mv ov : Value} {d : DkS} (hO : ¬ O bL) (hL : ¬ O L) (hc : w.cell? ⟨bL, 0, none⟩ = some (.pointer (some ⟨L, 0, none⟩))) (hl : Row w L 50 #[.pointer (some ⟨D, 0, none⟩), mv, ov]) (hb : DkB d) : StepTo w O D d (d.sync tagsN) 97 #[.pointer (some ⟨bL, 0, none⟩)] := by
  intro w' ht
  have c0 := ht.cell hO hc
  have c1 := ht.cell hL (hl.cell (i := 0) rfl)
  obtain ⟨O', h1, h2, h3⟩ := ht
  have HC := Keep.keep ((sync_any may_ok h1 hb.ok tagsN (by decide)).mono (fun e w2 hr => (⟨hr.1, DkTo.comp h2 h3 hr.2⟩ : e = .returned (.int .i64 (d.sync tagsN).1) ∧ DkTo w O D (d.sync tagsN).2 w2)))
  generalize d.sync tagsN = r at *
  clear h1 h2 h3 hc hb hO hL hl
  unfold tagsN at HC
  go_enter Tryz.func97, Tryz.ntmps97
  go_wp2_with fail
  refine HC.out.mono ?_
  rintro e w2 ⟨rfl, hr⟩
  have HR := Keep.keep hr
  clear hr HC c0 c1
  go_wp2_with fail
  go_ret
  exact ⟨rfl, HR.out⟩
def ap1T (L D : Nat) (bv : Value) (body : List UInt8) : Nat → Value → World → Prop
  | 0, v, _ => v = .pointer (some ⟨L, 0, none⟩)
  | 1, v, _ => v = .pointer (some ⟨L, 0, none⟩)
  | 2, v, _ => v = .pointer (some ⟨L, 0, none⟩)
  | 3, v, _ => v = .pointer (some ⟨D, 0, none⟩)
  | 4, v, _ => v = bv
  | 5, v, w => Reads w (· < w.heap.size) v (frameB body)
  | 6, v, w => ∃ x, RdB w v [frameB body] [x]
  | _, _, _ => True
theorem ap1T_stays {L D : Nat} {bv : Value} {body : List UInt8} (i : Nat) (v : Value) (w w' : World) (h : ap1T L D bv body i v w) (hs : Below w.heap.size w w') : ap1T L D bv body i v w' := by
  rcases (by omega : i = 0 ∨ i = 1 ∨ i = 2 ∨ i = 3 ∨ i = 4 ∨ i = 5 ∨ i = 6 ∨ 7 ≤ i) with rfl | rfl | rfl | rfl | rfl | rfl | rfl | h8
  · exact h
  · exact h
  · exact h
  · exact h
  · exact h
  · have h : Reads w (· < w.heap.size) v (frameB body) := h
    exact (h.below hs (fun b hb => hb)).mono (fun b hb => Nat.lt_of_lt_of_le hb hs.size)
  · obtain ⟨x, h⟩ := h
    exact ⟨x, h.below hs⟩
  · obtain ⟨k, rfl⟩ : ∃ k, i = k + 7 := ⟨i - 7, by omega⟩
    trivial
set_option maxHeartbeats 2000000 in
set_option maxRecDepth 100000 in
theorem app1_any {w : World} {B : Nat} {O : Nat → Prop} {D L bL bB : Nat} {mv ov bv : Value} {d : DkS} {body : List UInt8} (hO : ¬ O bL) (hL : ¬ O L) (hO2 : ¬ O bB) (hc : w.cell? ⟨bL, 0, none⟩ = some (.pointer (some ⟨L, 0, none⟩))) (hc2 : w.cell? ⟨bB, 0, none⟩ = some bv) (hl : Row w L 50 #[.pointer (some ⟨D, 0, none⟩), mv, ov])
    (hr : Reads w (fun j => j < w.heap.size ∧ ¬ O j) bv body) (hlen : body.length ≤ 1000) (hT : CrcT w) (hlo : ∀ j, O j → B ≤ j) (hB : 0 < B) (hBw : B ≤ w.heap.size) (hb : DkB d) : StepTo w O D d (d.append tagsN (frameB body)) 96 #[.pointer (some ⟨bL, 0, none⟩), .pointer (some ⟨bB, 0, none⟩)] := by
  intro w' ht
  have hch := ht.chg
  have HBW : Keep (Below B w w') := ⟨(hch.lower hBw).below (fun j hj ho => by have := hlo j ho; omega)⟩
  have c0 := ht.cell hO hc
  have c1 := ht.cell hL (hl.cell (i := 0) rfl)
  have c2 := ht.cell hO2 hc2
  have HT : Keep (CrcT w') := ⟨hT.of hB HBW.out⟩
  have HRB : Keep (Reads w' (· < w'.heap.size) bv body) := ⟨(hr.chg hch (fun j hj => hj)).mono (fun j hj => Nat.lt_of_lt_of_le hj.1 hch.size)⟩
  have HL1 : Keep (∀ wx, Below w'.heap.size w' wx → wx.cell? ⟨bL, 0, none⟩ = some (.pointer (some ⟨L, 0, none⟩)) ∧ wx.cell? ⟨L, 0, none⟩ = some (.pointer (some ⟨D, 0, none⟩)) ∧ wx.cell? ⟨bB, 0, none⟩ = some bv) := ⟨fun wx hb => ⟨later_cell hb c0, later_cell hb c1, later_cell hb c2⟩⟩
  obtain ⟨O', h1, h2, h3⟩ := ht
  have HC : Keep (∀ wq v x, Below w'.heap.size w' wq → RdB wq v [frameB body] [x] → Calls Tryz.prog 73 #[.pointer (some ⟨D, 0, none⟩), .string ⟨tagsN.toArray⟩, v] wq fun e w2 => e = .returned (.int .i64 (d.append tagsN (frameB body)).1) ∧ DkTo w O D (d.append tagsN (frameB body)).2 w2) := ⟨fun wq v x hbl hrb => by
    have hfl : ([frameB body] : List (List UInt8)).flatten = frameB body := by simp
    have := append_any may_ok (h1.on hbl) hb.ok hb.used hb.q0 hb.q1 hb.files tagsN (by decide) v [frameB body] [x] hrb (by rw [hfl, frame_len]; omega)
    rw [hfl] at this
    exact this.mono (fun e w2 hr => ⟨hr.1, DkTo.comp h2 h3 (DkTo.mono hbl hr.2)⟩)⟩
  generalize d.append tagsN (frameB body) = r at *
  clear h1 h2 h3 hc hc2 hr hb hO hL hO2 hl hT hlo hB hBw hch c0 c1 c2 HBW
  unfold tagsN at HC
  go_enter Tryz.func96, Tryz.ntmps96
  go_upto_region 1 with fail
  refine wp_region_spcT 7 [3, 4, 5, 6, 7, 8, 9] (fun wx => Below w'.heap.size w' wx) (ap1T L D bv body) (fun w w' => Below w.heap.size w w') (by kernel_rfl) rfl (by decide) (by show ∀ d ∈ _, d < 11; decide) (by kernel_rfl) (by decide) (by kernel_rfl) (by kernel_rfl) (by kernel_rfl) (Below.refl _ _).drew (fun i v w w' h _ hb => ap1T_stays i v w w' h hb) ?_ ?_
  · intro i hi a1' wx hFr hC hTk
    obtain ⟨k0, k1, k2⟩ := HL1.out wx hC
    have t0 : a1'.eval (.tmp 0) = .pointer (some ⟨bL, 0, none⟩) := (hFr.same 0 (by decide)).trans rfl
    have t1 : a1'.eval (.tmp 1) = .pointer (some ⟨bB, 0, none⟩) := (hFr.same 1 (by decide)).trans rfl
    have hrf : Below wx.heap.size wx wx := Below.refl _ _
    rcases (by omega : i = 0 ∨ i = 1 ∨ i = 2 ∨ i = 3 ∨ i = 4 ∨ i = 5 ∨ i = 6) with rfl | rfl | rfl | rfl | rfl | rfl | rfl
    · exact spcS_val (d := 3) rfl (wanted_none rfl) (run_loadCell (run_isAgg_plain Tryz.underlying25 rfl) k0 t0) hC hrf rfl
    · have hx : a1'.eval (.tmp 3) = .pointer (some ⟨L, 0, none⟩) := hTk 0 (by decide) (by kernel_rfl)
      exact spcS_val (d := 4) rfl (wanted_none rfl) (by simp [execOp, hx]) hC hrf rfl
    · have hx : a1'.eval (.tmp 4) = .pointer (some ⟨L, 0, none⟩) := hTk 1 (by decide) (by kernel_rfl)
      exact spcS_val (d := 5) rfl (wanted_none rfl) (run_fieldAddr (m := 0) Tryz.underlying50 rfl (by kernel_rfl) hx) hC hrf rfl
    · have hx : a1'.eval (.tmp 5) = .pointer (some ⟨L, 0, none⟩) := hTk 2 (by decide) (by kernel_rfl)
      exact spcS_val (d := 6) rfl (wanted_none rfl) (run_loadCell (run_isAgg_plain Tryz.underlying24 rfl) k1 hx) hC hrf rfl
    · exact spcS_val (d := 7) rfl (wanted_none rfl) (run_loadCell (run_isAgg_plain Tryz.underlying28 rfl) k2 t1) hC hrf rfl
    · have hx : a1'.eval (.tmp 7) = bv := hTk 4 (by decide) (by kernel_rfl)
      have hrx : Reads wx (· < wx.heap.size) bv body := (HRB.out.below hC (fun j hj => hj)).mono (fun j hj => Nat.lt_of_lt_of_le hj hC.size)
      refine spcS_call (d := 8) (vs := #[bv]) rfl (wanted_none rfl) (enters_of Tryz.func42 (by kernel_rfl) rfl) (by simp only [List.map_toArray, List.map_cons, List.map_nil, hx]) ((frame_any bv body wx (HT.out.on hC) hrx (by omega)).mono ?_)
      rintro e wy ⟨v, rfl, ho, hb⟩
      exact ⟨v, rfl, hC.trans (hb.mono hC.size), hb, ho.reads.mono (fun j hj => hj.2.1)⟩
    · have hrd : Reads wx (· < wx.heap.size) (a1'.eval (.tmp 8)) (frameB body) := hTk 5 (by decide) (by kernel_rfl)
      obtain ⟨a8, c8, hv8, -⟩ := hrd.shape
      have hce : (a1'.eval (.tmp 8)).cells = #[a1'.eval (.tmp 8)] := by rw [hv8]; rfl
      have hrun := run_build1 (d := some 9) (x := .tmp 8) (t := 180) (pos := "") (af := #[]) (g := none) (w := wx) slBB (by decide) (ρ := a1'.eval) (by rw [hce]; rfl)
      rw [hce] at hrun
      have hal : Below wx.heap.size wx (wx.alloc (.cells #[a1'.eval (.tmp 8)] 28)) := (Below.refl _ _).alloc (Nat.le_refl _) _
      exact spcS_val (d := 9) rfl (wanted_none rfl) hrun (hC.trans (hal.mono hC.size)) hal ⟨_, rdB_one wx _ (frameB body) hrd⟩
  · intro a1' wy ha hC hTk
    have t6 : slot a1' 6 = .pointer (some ⟨D, 0, none⟩) := hTk 3 (by decide)
    obtain ⟨x, hrb⟩ : ∃ x, RdB wy (slot a1' 9) [frameB body] [x] := hTk 6 (by decide)
    have HCY := Keep.keep (HC.out wy _ x hC hrb)
    simp only [List.foldl_cons, List.foldl_nil, t6] at ha
    clear hTk t6 hC hrb HC
    generalize slot a1' 3 = x3 at *
    generalize slot a1' 4 = x4 at *
    generalize slot a1' 5 = x5 at *
    generalize slot a1' 7 = x7 at *
    generalize slot a1' 8 = x8 at *
    generalize slot a1' 9 = x9 at *
    subst ha
    simp only [Act.put, List.setIfInBounds_toArray, List.set_cons_succ, List.set_cons_zero]
    simp only [List.drop_succ_cons, List.drop_zero]
    go_wp2_with fail
    refine HCY.out.mono ?_
    rintro e w2 ⟨rfl, hr⟩
    have HR := Keep.keep hr
    clear hr HCY
    go_wp2_with fail
    go_ret
    exact ⟨rfl, HR.out⟩
def fs2 (bL bB : Nat) : List Value := [.func (.func 96) #[] #[.pointer (some ⟨bL, 0, none⟩), .pointer (some ⟨bB, 0, none⟩)], .func (.func 97) #[] #[.pointer (some ⟨bL, 0, none⟩)]]
set_option maxHeartbeats 2000000 in
set_option maxRecDepth 100000 in
theorem logapp_any {w : World} {B : Nat} {O : Nat → Prop} {L mb D : Nat} {x : LogS} (h : LogIn w B O L mb D x) (hof : x.off = false) (bv : Value) (body : List UInt8) (hr : Reads w (fun j => j < w.heap.size ∧ ¬ LogO O L mb j) bv body) (hbl : body.length ≤ 1000) {d1 d2 : DkS} (e1 : x.d.append tagsN (frameB body) = (0, d1)) (e2 : d1.sync tagsN = (0, d2)) (b0 : DkB x.d) (b1 : DkB d1) (hml : x.m.length ≤ 64) :
    Calls Tryz.prog 50 #[.pointer (some ⟨L, 0, none⟩), bv] w fun e w' => e = .returned (.int .i64 0) ∧ LogTo w B O L mb D ⟨d2, (doesB x.m body).1, false⟩ w' := by
  obtain ⟨av, nv, cv, hbv⟩ : ∃ av nv cv, bv = .slice av nv cv := by
    obtain ⟨a8, c8, hv8, -⟩ := hr.shape
    exact ⟨a8, _, c8, hv8⟩
  have HH := Keep.keep h; have HR := Keep.keep hr
  have HOF := Keep.keep hof
  have hOlt : ∀ j, O j → j < w.heap.size := h.dk.lt
  have hLlt := h.row.lt
  have hmlt := h.map.lt
  have HNO : Keep (∀ j, w.heap.size ≤ j → ¬ LogO O L mb j) := ⟨fun j hj ho => by
    rcases ho with ho | ho | ho
    · have := hOlt j ho; omega
    · omega
    · omega⟩
  have HGO : Keep (∀ wq v, Below w.heap.size w wq → wq.cell? ⟨w.heap.size, 0, none⟩ = some (.pointer (some ⟨L, 0, none⟩)) → wq.cell? ⟨w.heap.size + 1, 0, none⟩ = some bv → v = .slice (some ⟨w.heap.size + 1 + 1, 0, none⟩) 2 2 → RdV wq (fun j => j = w.heap.size + 1 + 1) 1 v 2 (fs2 w.heap.size (w.heap.size + 1)) → w.heap.size + 1 + 1 < wq.heap.size →
      Calls Tryz.prog 84 #[v] wq fun e w' => e = .returned (.int .i64 0) ∧ DkTo wq O D d2 w') := ⟨by
    intro wq v hb c1 c2 hv hrv hlt
    have hq := h.on hb
    have n0 : ¬ O w.heap.size := fun o => by have := hOlt _ o; omega
    have n1 : ¬ O (w.heap.size + 1) := fun o => by have := hOlt _ o; omega
    have n2 : ¬ O (w.heap.size + 1 + 1) := fun o => by have := hOlt _ o; omega
    have hrq : Reads wq (fun j => j < wq.heap.size ∧ ¬ O j) bv body := (hr.below hb (fun j hj => hj.1)).mono (fun j hj => ⟨Nat.lt_of_lt_of_le hj.1 hb.size, fun o => hj.2 (.inl o)⟩)
    refine (goes_any v (fs2 w.heap.size (w.heap.size + 1)) wq (fun k w' => DkTo wq O D (([x.d, d1, d2] : List DkS).getD k d2) w') (fun _ _ => False) ⟨_, _, _, hv, rfl⟩ (by show 2 ≤ 1000; decide) (DkTo.of hq.dk (Below.refl _ _)) (fun k w' ht => ?_) (fun k hk => ?_)).mono ?_
    · exact (hrv.chg ht.chg (fun j hj => by subst hj; exact ⟨hlt, n2⟩)).mono (fun _ _ => trivial)
    · have st : ∀ {d d' : DkS} {r : Int × DkS} {f : FuncId} {args : Array Value}, StepTo wq O D d r f args → r = (0, d') → ∀ w', DkTo wq O D d w' → Calls Tryz.prog f args w' fun e w2 => (e = .returned (.int .i64 0) ∧ DkTo wq O D d' w2) ∨ ∃ er : Int, er ≠ 0 ∧ e = .returned (.int .i64 er) ∧ False := fun {d d' r f args} hs hr w' ht => (hs w' ht).mono (fun e w2 h => by rw [hr] at h; exact .inl h)
      have hk : k < 2 := hk
      rcases (by omega : k = 0 ∨ k = 1) with rfl | rfl
      · exact ⟨96, #[], _, rfl, .inl rfl, enters_of Tryz.func96 (by kernel_rfl) rfl, st (app1_any n0 hq.nL n1 c1 c2 hq.row hrq hbl hq.tb hq.lo hq.tB hq.bsz b0) e1⟩
      · exact ⟨97, #[], _, rfl, .inl rfl, enters_of Tryz.func97 (by kernel_rfl) rfl, st (app2_any n0 hq.nL c1 hq.row b1) e2⟩
    · rintro e w' (⟨rfl, ht⟩ | ⟨er, -, -, hf⟩)
      · exact ⟨rfl, ht⟩
      · exact hf.elim⟩
  clear h hr hof e1 e2 b0 b1 hOlt hLlt hmlt
  subst hbv
  go_enter Tryz.func50, Tryz.ntmps50
  go_wp2_with fail
  refine calls_at (R := fun wq => Below w.heap.size w wq ∧ wq.cell? ⟨w.heap.size, 0, none⟩ = some (.pointer (some ⟨L, 0, none⟩)) ∧ wq.cell? ⟨w.heap.size + 1, 0, none⟩ = some (.slice av nv cv) ∧ RdV wq (fun j => j = w.heap.size + 1 + 1) 1 (.slice (some ⟨w.heap.size + 1 + 1, 0, none⟩) 2 2) 2 (fs2 w.heap.size (w.heap.size + 1)) ∧ w.heap.size + 1 + 1 < wq.heap.size) ⟨below_al3 _ _ _ _, later_cell ((Below.refl _ _).alloc (Nat.le_refl _) _) (cell_al2a ..), later_cell ((Below.refl _ _).alloc (Nat.le_refl _) _) (cell_al2b ..), ?_, ?_⟩ ?_
  · refine RdV.new 42 (fs2 w.heap.size (w.heap.size + 1)) 1 2 _ ?_ rfl (by decide) rfl
    show _ = ((w.heap.push _).push _).size
    rw [Array.size_push, Array.size_push]
  · show _ < (((w.heap.push _).push _).push _).size
    rw [Array.size_push, Array.size_push, Array.size_push]
    omega
  intro wq HQ
  obtain ⟨q1, q2, q3, q4, q5⟩ := HQ.out
  refine (HGO.out wq _ q1 q2 q3 rfl q4 q5).mono ?_
  rintro e w3 ⟨rfl, ht⟩
  have hd3 := (HH.out.on q1).disk ht
  have k2 := ht.cell (fun o => by have := HH.out.dk.lt _ o; omega) q2
  have k3 := ht.cell (fun o => by have := HH.out.dk.lt _ o; omega) q3
  obtain ⟨O3, L3, ch3, sub3⟩ := hd3
  have HL3 := Keep.keep L3
  have HCH3 : Keep (Chg (LogO O L mb) w.heap.size w w3) := ⟨(Chg.of_below q1).trans (ch3.lower q1.size)⟩
  have HS3 : Keep (∀ j, O3 j → O j ∨ w.heap.size ≤ j) := ⟨fun j o => (sub3 j o).imp id (fun e => Nat.le_trans q1.size e)⟩
  have HR3 : Keep (Reads w3 (fun j => j < w3.heap.size ∧ j ≠ mb) (.slice av nv cv) body) := ⟨(HR.out.chg HCH3.out (fun j hj => hj)).mono (fun j hj => ⟨Nat.lt_of_lt_of_le hj.1 HCH3.out.size, fun e => hj.2 (.inr (.inr e))⟩)⟩
  have m3 : w3.cell? ⟨L, 1, none⟩ = some (.map (some mb)) := L3.row.cell rfl
  have HK2 := Keep.keep k2
  clear ht L3 ch3 sub3 q1 q2 q3 q4 q5 HQ HGO
  go_upto_region 3 with fail
  refine wp_region_quiet_tail_drawn 5 (by kernel_rfl) (by kernel_rfl) ?_; simp only [List.take_succ_cons, List.take_zero, List.drop_succ_cons, List.drop_zero]; (repeat (go_big_quiet_step (fail))); refine wpQuiet_nil ?_; rintro _ ⟨nq, rfl⟩
  refine wpList_world (R := fun w4 => Below w3.heap.size w3 w4) (below_drewN' (Below.refl _ _) _) ?_
  intro w4 H4
  have HL4 := Keep.keep (HL3.out.on H4.out)
  have HDO : Keep (Calls Tryz.prog 43 #[.map (some mb), .slice av nv cv] w4 fun e w' => e = .returned (.bool (doesB x.m body).2) ∧ MapS w' 9 mb (dgV (doesB x.m body).1) ∧ Chg (fun j => j = mb) w4.heap.size w4 w') := ⟨does_any mb x.m _ body w4 HL4.out.map ((HR3.out.below H4.out (fun j hj => hj.1)).mono (fun j hj => ⟨Nat.lt_of_lt_of_le hj.1 H4.out.size, hj.2⟩)) (by omega) (by omega)⟩
  clear k2 k3 m3
  go_wp2_with fail
  refine HDO.out.mono ?_
  rintro e w5 ⟨rfl, hm5, hc5⟩
  obtain ⟨O5, L5, ch5, sub5⟩ := HL4.out.tags hm5 hc5
  have HT5 := Keep.keep (told_log L5 HOF.out)
  have k5 : w5.cell? ⟨w.heap.size, 0, none⟩ = some (.pointer (some ⟨L, 0, none⟩)) := by
    rw [hc5.cell (p := ⟨w.heap.size, 0, none⟩) (World.block_lt_of_cell? w4 _ (later_cell H4.out HK2.out)) (fun e => by have e : w.heap.size = mb := e; have := HH.out.map.lt; omega)]
    exact later_cell H4.out HK2.out
  have HFIN : Keep (∀ w6, LogTo w5 B O5 L mb D ⟨d2, (doesB x.m body).1, false⟩ w6 → LogTo w B O L mb D ⟨d2, (doesB x.m body).1, false⟩ w6) := ⟨fun w6 h6 => LogTo.comp HCH3.out HS3.out (LogTo.comp (Chg.of_below H4.out) (fun j o => .inl o) (LogTo.comp ch5 (fun j o => (sub5 j o).imp id (fun e => e)) h6)) |> fun z => z⟩
  clear hm5 hc5 L5 ch5 sub5 HDO
  go_wp2_with fail
  refine HT5.out.mono ?_
  rintro e w6 ⟨rfl, h6⟩
  have HF := Keep.keep (HFIN.out w6 h6)
  clear h6 HT5
  go_wp2_with fail
  go_ret
  exact ⟨rfl, HF.out⟩
end Go.Proofs.YtmkofejijkabnaaGreatDoor
/- (*Log).Set, Drop. -/
namespace Go.Proofs.YtmkofejijkabnaaGreatDoor
open Go.RowKit
theorem aggDig : AggTy Tryz.prog 40 32 := ⟨⟨_, Tryz.underlying40, rfl⟩, by kernel_rfl⟩
theorem oneC (g : Dg) : (bcells g).toArray.all (·.oneCell') = true := all_oneCell_toArray (bcells_one _)
/-- a digest that a map tells, or nothing -/
theorem getD_arr (m : Tgs) (t : Tx) (htg : ∀ y ∈ m, y.2.length = 32) : ∃ g : Dg, g.length = 32 ∧ (SM.look (dgV m) t).getD (arrV (List.replicate 32 0)) = .agg (bcells g).toArray := by
  rw [dgV_look]
  cases hl : SM.look m t with
  | none => exact ⟨List.replicate 32 0, by simp, rfl⟩
  | some g => exact ⟨g, htg _ (SM.look_mem hl), rfl⟩
set_option maxHeartbeats 2000000 in
set_option maxRecDepth 100000 in
theorem logset_any {w : World} {B : Nat} {O : Nat → Prop} {L mb D : Nat} {x : LogS} {q : Int} {l : List (List UInt8)} {n : Nat} (h : LogIn w B O L mb D x) (hk : LOk q x l n) (hb : LB x n) (hn : n ≤ 60) (hq0 : 0 ≤ q) (hq : q ≤ 268435456) (hcap : (16 + (jrn l).length + 98 : Int) ≤ q) (t : Tx) (ht : t.length ≤ maxLen) (g : Dg) (hg : g.length = 32) :
    Calls Tryz.prog 18 #[.pointer (some ⟨L, 0, none⟩), .string ⟨t.toArray⟩, .agg (bcells g).toArray] w fun e w' => e = .returned (.int .i64 (x.set t g).1) ∧ LogTo w B O L mb D (x.set t g).2 w' ∧ LB (x.set t g).2 (n + 1) := by
  have HH := Keep.keep h
  have hof := hk.off
  have HAS : Keep (∀ wq, Below w.heap.size w wq → Calls Tryz.prog 44 #[.pointer (some ⟨L, 0, none⟩)] wq fun e w' => e = .returned (.int .i64 0) ∧ w' = wq) := ⟨fun wq hb => asks_log (h.on hb) hof⟩
  have HMY : Keep (∀ wq, Calls Tryz.prog 49 #[.string ⟨t.toArray⟩] wq fun e w' => e = .returned (.bool (tagP t)) ∧ Below wq.heap.size wq w') := ⟨fun wq => tmay_all t wq⟩
  have HCL : Keep (∀ wq, Below w.heap.size w wq → wq.cell? ⟨L, 1, none⟩ = some (.map (some mb))) := ⟨fun wq hb => (h.on hb).row.cell rfl⟩
  obtain ⟨cz, hcz, hgz⟩ := getD_arr x.m t (fun y hy => (hk.tg y hy).2)
  have HLK : Keep (∀ wq, Below w.heap.size w wq → (Instr.lookup 35 (.map (some mb)) (.string ⟨t.toArray⟩) true).run Tryz.prog wq = .ok (.tuple #[.agg (bcells cz).toArray, .bool (SM.look x.m t).isSome]) wq) := ⟨fun wq hb => by
    have := (h.on hb).map.lookOk Tryz.underlying9 Tryz.underlying35 (zero_dig wq) (p := t) ht
    rw [hgz, dgV_look, Option.isSome_map] at this
    exact this⟩
  have HLN : Keep (∀ wq, Below w.heap.size w wq → ∀ ty, (Builtin.len_ #[35] ty #[.map (some mb)]).run Tryz.prog wq = .ok (.int .i64 (x.m.length : Int)) wq) := ⟨fun wq hb ty => by
    have := (h.on hb).map.len Tryz.underlying35 ty
    rw [dgV_len] at this
    exact this⟩
  have HX : Keep (x.set t g = if !tagP t then (1, x) else if (SM.look x.m t).isNone && decide (64 ≤ x.m.length) then (42, x) else x.app (setBd t g)) := ⟨by unfold LogS.set; rw [hof, if_neg (by decide)]⟩
  have HLB : Keep (LB x (n + 1)) := ⟨⟨Nat.le_trans hb.1 (Nat.le_succ _), hb.2⟩⟩
  have HAP : Keep (tagP t = true → ∀ wq v, Below w.heap.size w wq → Reads wq (fun j => w.heap.size ≤ j ∧ j < wq.heap.size) v (setBd t g) → Calls Tryz.prog 50 #[.pointer (some ⟨L, 0, none⟩), v] wq fun e w' => e = .returned (.int .i64 (x.app (setBd t g)).1) ∧ LogTo w B O L mb D (x.app (setBd t g)).2 w' ∧ LB (x.app (setBd t g)).2 (n + 1)) := ⟨fun htp wq v hbl hr => by
    have htl := tag_len htp
    have hbdl : (setBd t g).length ≤ 98 := by simp only [setBd, List.length_cons, List.length_append]; omega
    obtain ⟨d1, d2, e1, e2, b1, e3, b2⟩ := hk.appS hb hn hq0 hq (b := setBd t g) hbdl (by omega)
    rw [e3]
    have hq' := h.on hbl
    refine (logapp_any hq' hof v (setBd t g) (hr.mono (fun j hj => ⟨hj.2, fun o => ?_⟩)) (by omega) e1 e2 (hk.dkb hb hn hq0 hq) b1 hk.few).mono ?_
    · rcases o with o | o | o
      · have := h.dk.lt j o; omega
      · have := h.row.lt; omega
      · have := h.map.lt; omega
    · rintro e w' ⟨rfl, hto⟩
      exact ⟨rfl, LogTo.comp (Chg.of_below hbl) (fun j o => .inl o) hto, b2⟩⟩
  have HNE : Keep ((SM.look x.m t).isNone = !(SM.look x.m t).isSome) := ⟨by cases SM.look x.m t <;> rfl⟩
  have h64 := hk.few
  have HG := Keep.keep hg; have HCZ := Keep.keep hcz
  rw [HNE.out] at HX
  generalize htp : tagP t = tp at *
  generalize (SM.look x.m t).isSome = is at *
  generalize x.m.length = ml at *
  generalize hr1 : x.app (setBd t g) = r1 at *
  have HTL : Keep (tp = true → t.length ≤ 64) := ⟨fun e => tag_len (htp.trans e)⟩
  obtain ⟨cg, hcg⟩ : ∃ cg, (bcells g).toArray = cg := ⟨_, rfl⟩
  have HCG := Keep.keep hcg
  obtain ⟨cza, hcza⟩ : ∃ cza, (bcells cz).toArray = cza := ⟨_, rfl⟩
  have HS1 : Keep (cg.size = 32) := ⟨by rw [← hcg]; simp [bcells_length, hg]⟩
  have HS2 : Keep (cza.size = 32) := ⟨by rw [← hcza]; simp [bcells_length, hcz]⟩
  have HO2 : Keep (cza.all (·.oneCell') = true) := ⟨by rw [← hcza]; exact oneC cz⟩
  rw [hcza] at HLK
  rw [hcg]
  clear h hk hb hn hq0 hq hcap hof hcz hgz HNE hg htp hr1 hcg hcza
  go_enter Tryz.func18, Tryz.ntmps18
  go_wp2_with fail
  refine calls_at (R := fun wq => Below w.heap.size w wq ∧ Row wq w.heap.size 40 cg) ⟨(Below.refl _ _).alloc (Nat.le_refl _) _, Row.new w _ _⟩ ?_
  intro w1 H1
  refine (HAS.out w1 H1.out.1).mono ?_
  rintro e w2 ⟨rfl, rfl⟩
  have c1 := HCL.out w2 H1.out.1
  have hlk := HLK.out w2 H1.out.1
  go_wp2_with (first | ((with_reducible refine arm_storeRow (Row.new w2 40 _) aggDig ?_ HS2.out HO2.out ?_ ?_ ?_); (focus rfl); (focus rfl); (focus rfl); simp only [Act.put, World.setRow_alloc_new]))
  refine calls_at (R := fun wq => Below w.heap.size w wq ∧ Row wq w.heap.size 40 cg) ⟨H1.out.1.alloc H1.out.1.size _, H1.out.2.old _⟩ ?_
  intro w3 H3
  refine (HMY.out w3).mono ?_
  rintro e w4 ⟨rfl, hb4⟩
  have HB4 := Keep.keep (H3.out.1.trans (hb4.mono H3.out.1.size))
  have HROW := Keep.keep (H3.out.2.below hb4 H3.out.2.lt)
  have c4 := HCL.out w4 HB4.out
  have hln := HLN.out w4 HB4.out
  clear hb4 c1 hlk HLK HLN HCL HMY HAS H1 H3
  cases tp with
  | false =>
    have HR : Keep (x.set t g = (1, x)) := ⟨by rw [HX.out]; rfl⟩
    clear HX HAP
    go_wp2_with fail
    go_ret
    rw [HR.out]
    exact ⟨rfl, LogTo.of HH.out HB4.out, HLB.out⟩
  | true =>
    have HX2 : Keep (x.set t g = if (!is && decide (64 ≤ ml)) = true then (42, x) else r1) := ⟨by rw [HX.out]; rfl⟩
    have HSE : Keep (∀ wq, Calls Tryz.prog 51 #[.string ⟨t.toArray⟩, .agg cg] wq fun e w' => ∃ v, e = .returned v ∧ Owns w' wq.heap.size 5 v (setBd t g) ∧ Below wq.heap.size wq w') := ⟨fun wq => by rw [← HCG.out]; exact set_any t g wq (HTL.out rfl) HG.out⟩
    have HAP2 := Keep.keep (HAP.out rfl)
    clear HX HAP
    cases is with
    | true =>
      have HR : Keep (x.set t g = r1) := ⟨by rw [HX2.out]; rfl⟩
      clear HX2
      go_wp2_with ((with_reducible refine arm_loadRow HROW.out aggDig HS1.out ?_ ?_); (focus rfl); simp only [Act.put, List.setIfInBounds_toArray, List.set_cons_succ, List.set_cons_zero])
      refine (HSE.out w4).mono ?_
      rintro e w5 ⟨v, rfl, ho, hb5⟩
      have HA := Keep.keep (HAP2.out w5 v (HB4.out.trans (hb5.mono HB4.out.size)) (ho.reads.mono (fun j hj => ⟨Nat.le_trans HB4.out.size hj.1, hj.2.1⟩)))
      obtain ⟨a8, n8, c8, hv8⟩ : ∃ a8 n8 c8, v = .slice a8 n8 c8 := by
        obtain ⟨a8, c8, hv8, -⟩ := (ownsV_reads ho).shape
        exact ⟨a8, _, c8, hv8⟩
      clear ho hb5 HSE c4 hln
      subst hv8
      go_wp2_with fail
      refine HA.out.mono ?_
      rintro e w6 ⟨rfl, hr⟩
      have HRR := Keep.keep hr
      clear hr HA
      go_wp2_with fail
      go_ret
      rw [HR.out]
      exact ⟨rfl, HRR.out⟩
    | false =>
      by_cases hfull : 64 ≤ ml
      · have HR : Keep (x.set t g = (42, x)) := ⟨by rw [HX2.out]; simp [hfull]⟩
        clear HX2
        go_wp2_with fail
        go_ret
        rw [HR.out]
        exact ⟨rfl, LogTo.of HH.out HB4.out, HLB.out⟩
      · have HR : Keep (x.set t g = r1) := ⟨by rw [HX2.out]; simp [hfull]⟩
        clear HX2
        go_wp2_with ((with_reducible refine arm_loadRow HROW.out aggDig HS1.out ?_ ?_); (focus rfl); simp only [Act.put, List.setIfInBounds_toArray, List.set_cons_succ, List.set_cons_zero])
        refine (HSE.out w4).mono ?_
        rintro e w5 ⟨v, rfl, ho, hb5⟩
        have HA := Keep.keep (HAP2.out w5 v (HB4.out.trans (hb5.mono HB4.out.size)) (ho.reads.mono (fun j hj => ⟨Nat.le_trans HB4.out.size hj.1, hj.2.1⟩)))
        obtain ⟨a8, n8, c8, hv8⟩ : ∃ a8 n8 c8, v = .slice a8 n8 c8 := by
          obtain ⟨a8, c8, hv8, -⟩ := (ownsV_reads ho).shape
          exact ⟨a8, _, c8, hv8⟩
        clear ho hb5 HSE c4 hln
        subst hv8
        go_wp2_with fail
        refine HA.out.mono ?_
        rintro e w6 ⟨rfl, hr⟩
        have HRR := Keep.keep hr
        clear hr HA
        go_wp2_with fail
        go_ret
        rw [HR.out]
        exact ⟨rfl, HRR.out⟩
set_option maxHeartbeats 2000000 in
set_option maxRecDepth 100000 in
theorem logdrop_any {w : World} {B : Nat} {O : Nat → Prop} {L mb D : Nat} {x : LogS} {q : Int} {l : List (List UInt8)} {n : Nat} (h : LogIn w B O L mb D x) (hk : LOk q x l n) (hb : LB x n) (hn : n ≤ 60) (hq0 : 0 ≤ q) (hq : q ≤ 268435456) (hcap : (16 + (jrn l).length + 98 : Int) ≤ q) (t : Tx) (ht : t.length ≤ maxLen) :
    Calls Tryz.prog 19 #[.pointer (some ⟨L, 0, none⟩), .string ⟨t.toArray⟩] w fun e w' => e = .returned (.int .i64 (x.drop t).1) ∧ LogTo w B O L mb D (x.drop t).2 w' ∧ LB (x.drop t).2 (n + 1) := by
  have HH := Keep.keep h
  have hof := hk.off
  have HAS : Keep (Calls Tryz.prog 44 #[.pointer (some ⟨L, 0, none⟩)] w fun e w' => e = .returned (.int .i64 0) ∧ w' = w) := ⟨asks_log h hof⟩
  have HMY : Keep (∀ wq, Calls Tryz.prog 49 #[.string ⟨t.toArray⟩] wq fun e w' => e = .returned (.bool (tagP t)) ∧ Below wq.heap.size wq w') := ⟨fun wq => tmay_all t wq⟩
  have c1 : w.cell? ⟨L, 1, none⟩ = some (.map (some mb)) := h.row.cell rfl
  obtain ⟨cz, hcz, hgz⟩ := getD_arr x.m t (fun y hy => (hk.tg y hy).2)
  have hlk : (Instr.lookup 35 (.map (some mb)) (.string ⟨t.toArray⟩) true).run Tryz.prog w = .ok (.tuple #[.agg (bcells cz).toArray, .bool (SM.look x.m t).isSome]) w := by
    have := h.map.lookOk Tryz.underlying9 Tryz.underlying35 (zero_dig w) (p := t) ht
    rw [hgz, dgV_look, Option.isSome_map] at this
    exact this
  have HX : Keep (x.drop t = if !tagP t then (1, x) else if (SM.look x.m t).isNone then (6, x) else x.app (dropBd t)) := ⟨by unfold LogS.drop; rw [hof, if_neg (by decide)]⟩
  have HLB : Keep (LB x (n + 1)) := ⟨⟨Nat.le_trans hb.1 (Nat.le_succ _), hb.2⟩⟩
  have HAP : Keep (tagP t = true → ∀ wq v, Below w.heap.size w wq → Reads wq (fun j => w.heap.size ≤ j ∧ j < wq.heap.size) v (dropBd t) → Calls Tryz.prog 50 #[.pointer (some ⟨L, 0, none⟩), v] wq fun e w' => e = .returned (.int .i64 (x.app (dropBd t)).1) ∧ LogTo w B O L mb D (x.app (dropBd t)).2 w' ∧ LB (x.app (dropBd t)).2 (n + 1)) := ⟨fun htp wq v hbl hr => by
    have htl := tag_len htp
    have hbdl : (dropBd t).length ≤ 98 := by simp only [dropBd, List.length_cons]; omega
    obtain ⟨d1, d2, e1, e2, b1, e3, b2⟩ := hk.appS hb hn hq0 hq (b := dropBd t) hbdl (by omega)
    rw [e3]
    have hq' := h.on hbl
    refine (logapp_any hq' hof v (dropBd t) (hr.mono (fun j hj => ⟨hj.2, fun o => ?_⟩)) (by omega) e1 e2 (hk.dkb hb hn hq0 hq) b1 hk.few).mono ?_
    · rcases o with o | o | o
      · have := h.dk.lt j o; omega
      · have := h.row.lt; omega
      · have := h.map.lt; omega
    · rintro e w' ⟨rfl, hto⟩
      exact ⟨rfl, LogTo.comp (Chg.of_below hbl) (fun j o => .inl o) hto, b2⟩⟩
  have HNE : Keep ((SM.look x.m t).isNone = !(SM.look x.m t).isSome) := ⟨by cases SM.look x.m t <;> rfl⟩
  rw [HNE.out] at HX
  generalize htp : tagP t = tp at *
  generalize (SM.look x.m t).isSome = is at *
  generalize hr1 : x.app (dropBd t) = r1 at *
  have HTL : Keep (tp = true → t.length ≤ 64) := ⟨fun e => tag_len (htp.trans e)⟩
  obtain ⟨cza, hcza⟩ : ∃ cza, (bcells cz).toArray = cza := ⟨_, rfl⟩
  have HS2 : Keep (cza.size = 32) := ⟨by rw [← hcza]; simp [bcells_length, hcz]⟩
  have HO2 : Keep (cza.all (·.oneCell') = true) := ⟨by rw [← hcza]; exact oneC cz⟩
  rw [hcza] at hlk
  clear h hk hb hn hq0 hq hcap hof hcz hgz HNE htp hr1 hcza
  go_enter Tryz.func19, Tryz.ntmps19
  go_wp2_with fail
  refine HAS.out.mono ?_
  rintro e w2 ⟨rfl, rfl⟩
  clear HAS
  go_wp2_with (first | ((with_reducible refine arm_storeRow (Row.new w2 40 _) aggDig ?_ HS2.out HO2.out ?_ ?_ ?_); (focus rfl); (focus rfl); (focus rfl); simp only [Act.put, World.setRow_alloc_new]))
  refine calls_at (R := fun wq => Below w2.heap.size w2 wq) ((Below.refl _ _).alloc (Nat.le_refl _) _) ?_
  intro w3 H3
  refine (HMY.out w3).mono ?_
  rintro e w4 ⟨rfl, hb4⟩
  have HB4 := Keep.keep (H3.out.trans (hb4.mono H3.out.size))
  clear hb4 c1 hlk HMY H3
  cases tp with
  | false =>
    have HR : Keep (x.drop t = (1, x)) := ⟨by rw [HX.out]; rfl⟩
    clear HX HAP
    go_wp2_with fail
    go_ret
    rw [HR.out]
    exact ⟨rfl, LogTo.of HH.out HB4.out, HLB.out⟩
  | true =>
    have HX2 : Keep (x.drop t = if (!is) = true then (6, x) else r1) := ⟨by rw [HX.out]; rfl⟩
    have HSE : Keep (∀ wq, Calls Tryz.prog 52 #[.string ⟨t.toArray⟩] wq fun e w' => ∃ v, e = .returned v ∧ Owns w' wq.heap.size 5 v (dropBd t) ∧ Below wq.heap.size wq w') := ⟨fun wq => drop_any t wq (HTL.out rfl)⟩
    have HAP2 := Keep.keep (HAP.out rfl)
    clear HX HAP
    cases is with
    | false =>
      have HR : Keep (x.drop t = (6, x)) := ⟨by rw [HX2.out]; rfl⟩
      clear HX2
      go_wp2_with fail
      go_ret
      rw [HR.out]
      exact ⟨rfl, LogTo.of HH.out HB4.out, HLB.out⟩
    | true =>
      have HR : Keep (x.drop t = r1) := ⟨by rw [HX2.out]; rfl⟩
      clear HX2
      go_wp2_with fail
      refine (HSE.out w4).mono ?_
      rintro e w5 ⟨v, rfl, ho, hb5⟩
      have HA := Keep.keep (HAP2.out w5 v (HB4.out.trans (hb5.mono HB4.out.size)) (ho.reads.mono (fun j hj => ⟨Nat.le_trans HB4.out.size hj.1, hj.2.1⟩)))
      obtain ⟨a8, n8, c8, hv8⟩ : ∃ a8 n8 c8, v = .slice a8 n8 c8 := by
        obtain ⟨a8, c8, hv8, -⟩ := (ownsV_reads ho).shape
        exact ⟨a8, _, c8, hv8⟩
      clear ho hb5 HSE
      subst hv8
      go_wp2_with fail
      refine HA.out.mono ?_
      rintro e w6 ⟨rfl, hr⟩
      have HRR := Keep.keep hr
      clear hr HA
      go_wp2_with fail
      go_ret
      rw [HR.out]
      exact ⟨rfl, HRR.out⟩
end Go.Proofs.YtmkofejijkabnaaGreatDoor
/- (*Log).List, Get, Size, Anew. -/
namespace Go.Proofs.YtmkofejijkabnaaGreatDoor
open Go.RowKit
set_option maxHeartbeats 1000000 in
set_option maxRecDepth 100000 in
theorem loglist_any {w : World} {B : Nat} {O : Nat → Prop} {L mb D : Nat} {x : LogS} (h : LogIn w B O L mb D x) (hml : x.m.length ≤ 64) :
    Calls Tryz.prog 20 #[.pointer (some ⟨L, 0, none⟩)] w fun e w' => ∃ v, e = .returned v ∧ w'.ownsRow w.heap.size 9 1 v x.m.length ((x.m.map (·.1)).map strV) ∧ Below w.heap.size w w' := by
  have c1 : w.cell? ⟨L, 1, none⟩ = some (.map (some mb)) := h.row.cell rfl
  have HSO := Keep.keep (sortedT_any h.map (by rw [dgV_len]; omega))
  clear h
  go_enter Tryz.func20, Tryz.ntmps20
  go_wp2_with fail
  refine (keysT_any mb w).mono ?_
  rintro e w3 ⟨rfl, rfl⟩
  go_wp2_with fail
  refine HSO.out.mono ?_
  rintro e w4 ⟨v, rfl, ho, hb4⟩
  have HO := Keep.keep ho; have HB4 := Keep.keep hb4
  obtain ⟨a8, n8, c8, hv8⟩ : ∃ a8 n8 c8, v = .slice a8 n8 c8 := by
    obtain ⟨a8, c8, hv8, -⟩ := (ownsV_reads ho).shape
    exact ⟨a8, _, c8, hv8⟩
  clear ho hb4 HSO
  subst hv8
  go_wp2_with fail
  go_ret
  refine ⟨_, rfl, ?_, HB4.out⟩
  have := HO.out
  have e1 : (dgV x.m).map (·.1) = x.m.map (·.1) := by unfold dgV; rw [List.map_map]; rfl
  rw [e1, dgV_len] at this
  exact this
set_option maxHeartbeats 2000000 in
set_option maxRecDepth 100000 in
theorem logget_any {w : World} {B : Nat} {O : Nat → Prop} {L mb D : Nat} {x : LogS} (h : LogIn w B O L mb D x) (t : Tx) (ht : t.length ≤ 1000000) {g : Dg} (hg : g.length = 32) (hgz : SM.look x.m t = some g) :
    Calls Tryz.prog 21 #[.pointer (some ⟨L, 0, none⟩), .string ⟨t.toArray⟩] w fun e w' => e = .returned (.tuple #[.agg (bcells g).toArray, .bool true]) ∧ Below w.heap.size w w' := by
  have HH := Keep.keep h
  have hl := HH.out.map.lookOk Tryz.underlying9 Tryz.underlying35 (zero_dig w) (p := t) (by unfold maxLen; omega)
  have HCL : Keep (∀ wq, Below w.heap.size w wq → wq.cell? ⟨L, 1, none⟩ = some (.map (some mb)) ∧ (Instr.lookup 35 (.map (some mb)) (.string ⟨t.toArray⟩) true).run Tryz.prog wq = .ok (.tuple #[.agg (bcells g).toArray, .bool true]) wq) := ⟨fun wq hb => by
    have := (h.on hb).map.lookOk Tryz.underlying9 Tryz.underlying35 (zero_dig wq) (p := t) (by unfold maxLen; omega)
    rw [dgV_look, hgz] at this
    exact ⟨(h.on hb).row.cell rfl, this⟩⟩
  obtain ⟨cza, hcza⟩ : ∃ cza, (bcells g).toArray = cza := ⟨_, rfl⟩
  have HS2 : Keep (cza.size = 32) := ⟨by rw [← hcza]; simp [bcells_length, hg]⟩
  have HO2 : Keep (cza.all (·.oneCell') = true) := ⟨by rw [← hcza]; exact oneC g⟩
  rw [hcza] at HCL
  obtain ⟨cz0, hcz0⟩ : ∃ cz0, (bcells (List.replicate 32 0)).toArray = cz0 := ⟨_, rfl⟩
  have HS0 : Keep (cz0.size = 32) := ⟨by rw [← hcz0]; simp [bcells_length]⟩
  rw [hcza]
  have HZ0 : Keep ((bcells (List.replicate 32 0)).toArray = cz0) := ⟨hcz0⟩
  clear h hl hgz hg hcza hcz0
  go_enter Tryz.func21, Tryz.ntmps21
  go_upto_region 1 with fail
  refine wp_world (R := fun wq => Below w.heap.size w wq ∧ Row wq w.heap.size 40 cz0) ⟨(Below.refl _ _).alloc (Nat.le_refl _) _, by rw [← HZ0.out]; exact Row.new w _ _⟩ ?_
  intro w1 H1
  obtain ⟨c1, hlk⟩ := HCL.out w1 H1.out.1
  go_upto_region 4 with (first | ((with_reducible refine arm_storeRow (Row.new w1 40 _) aggDig ?_ HS2.out HO2.out ?_ ?_ ?_); (focus rfl); (focus rfl); (focus rfl); simp only [Act.put, World.setRow_alloc_new]))
  refine wp_world (R := fun wq => Below w.heap.size w wq ∧ Row wq w.heap.size 40 cz0 ∧ Row wq w1.heap.size 40 cza) ⟨H1.out.1.alloc H1.out.1.size _, H1.out.2.old _, Row.new w1 _ _⟩ ?_
  intro w2 H2
  have HR1 := Keep.keep H2.out.2.1; have HR2 := Keep.keep H2.out.2.2
  clear c1 hlk HCL H1 HH
  go_wp2_with (first | ((with_reducible refine arm_loadRow HR2.out aggDig HS2.out ?_ ?_); (focus rfl); simp only [Act.put, List.setIfInBounds_toArray, List.set_cons_succ, List.set_cons_zero]) | ((with_reducible refine arm_storeRow HR1.out aggDig HS0.out HS2.out HO2.out ?_ ?_ ?_); (focus rfl); (focus rfl); simp only [Act.put]))
  have hch : Below w.heap.size w (w2.setRow w.heap.size cza) := ((Chg.of_below (M := NoM) H2.out.1).setRow (.inl (Nat.le_refl _)) _).below (fun _ _ h => h)
  exact bodyPost_ret (results_row2 (p := 4) (q := 5) (ty := 40) rfl (HR1.out.setRow _) aggDig HS2.out rfl rfl) rfl ⟨rfl, hch⟩
set_option maxHeartbeats 1000000 in
set_option maxRecDepth 100000 in
theorem logsize_any {w : World} {B : Nat} {O : Nat → Prop} {L mb D : Nat} {x : LogS} (h : LogIn w B O L mb D x) :
    Calls Tryz.prog 10 #[.pointer (some ⟨L, 0, none⟩)] w fun e w' => e = .returned (.int .i64 (x.d.size tagsN).1) ∧ Below w.heap.size w w' := by
  have c0 : w.cell? ⟨L, 0, none⟩ = some (.pointer (some ⟨D, 0, none⟩)) := h.row.cell rfl
  have c1 : w.cell? ⟨L, 1, none⟩ = some (.map (some mb)) := h.row.cell rfl
  have hmn : ∀ w, (Go.binOp .eql 35 (.map (some mb)) (.map none)).run Tryz.prog w = .ok (.bool false) w := fun w => by kernel_rfl
  have HC := Keep.keep (size_any may_ok h.dk tagsN (by decide))
  generalize x.d.size tagsN = r at *
  unfold tagsN at HC
  clear h
  go_enter Tryz.func10, Tryz.ntmps10
  go_wp2_with fail
  refine HC.out.mono ?_
  rintro e w2 ⟨rfl, hb⟩
  have HB := Keep.keep hb
  clear hb HC
  go_wp2_with fail
  go_ret
  exact ⟨rfl, HB.out⟩
def anC (w : World) (B : Nat) (O : Nat → Prop) (L mb D : Nat) (x : LogS) (b : Bool) (wx : World) : Prop := if b then LogTo w B O L mb D x wx else Below w.heap.size w wx
def anT (L mb D : Nat) : Nat → Value → World → Prop
  | 0, v, _ => v = .pointer (some ⟨L, 0, none⟩)
  | 1, v, _ => v = .pointer (some ⟨L, 0, none⟩)
  | 2, v, _ => v = .pointer (some ⟨L, 0, none⟩)
  | 3, v, _ => v = .pointer (some ⟨L, 0, none⟩)
  | 4, v, _ => v = .pointer (some ⟨D, 0, none⟩)
  | 5, v, _ => v = .pointer (some ⟨L, 0, none⟩)
  | 6, v, _ => v = .pointer (some ⟨L, 0, none⟩)
  | 7, v, _ => v = .pointer (some ⟨L, 1, none⟩)
  | 8, v, _ => v = .map (some mb)
  | 9, v, _ => v = .int .i64 0
  | _, _, _ => True
theorem anT_stays {L mb D : Nat} (i : Nat) (v : Value) (w w' : World) (h : anT L mb D i v w) (_ : True) : anT L mb D i v w' := by
  rcases (by omega : i = 0 ∨ i = 1 ∨ i = 2 ∨ i = 3 ∨ i = 4 ∨ i = 5 ∨ i = 6 ∨ i = 7 ∨ i = 8 ∨ i = 9 ∨ 10 ≤ i) with rfl | rfl | rfl | rfl | rfl | rfl | rfl | rfl | rfl | rfl | h8
  all_goals first | exact h | skip
  obtain ⟨k, rfl⟩ : ∃ k, i = k + 10 := ⟨i - 10, by omega⟩
  trivial
set_option maxHeartbeats 2000000 in
set_option maxRecDepth 100000 in
theorem loganew_any {w : World} {B : Nat} {O : Nat → Prop} {L mb D : Nat} {x : LogS} {q : Int} {l : List (List UInt8)} {n : Nat} (h : LogIn w B O L mb D x) (hk : LOk q x l n) (hb : LB x n) (hn : n ≤ 60) (hq0 : 30000 ≤ q) (hq : q ≤ 268435456) :
    Calls Tryz.prog 14 #[.pointer (some ⟨L, 0, none⟩)] w fun e w' => e = .returned (.int .i64 x.anew.1) ∧ LogTo w B O L mb D x.anew.2 w' ∧ LB x.anew.2 (n + 1) := by
  have hof := hk.off
  have HH := Keep.keep h
  have HAS : Keep (Calls Tryz.prog 44 #[.pointer (some ⟨L, 0, none⟩)] w fun e w' => e = .returned (.int .i64 0) ∧ w' = w) := ⟨asks_log h hof⟩
  have HCL : Keep (∀ wq, Below w.heap.size w wq → wq.cell? ⟨L, 1, none⟩ = some (.map (some mb)) ∧ wq.cell? ⟨L, 0, none⟩ = some (.pointer (some ⟨D, 0, none⟩))) := ⟨fun wq hb => ⟨(h.on hb).row.cell rfl, (h.on hb).row.cell rfl⟩⟩
  obtain ⟨d1, d2, d3, d4, d5, d6, hL, hx, hlb⟩ := hk.anewS hb hn hq0 hq
  have HLY : Keep (∀ wq, Below w.heap.size w wq → Calls Tryz.prog 46 #[.pointer (some ⟨D, 0, none⟩), .map (some mb)] wq fun e w' => e = .returned (.int .i64 0) ∧ LogTo w B O L mb D ⟨d6, x.m, false⟩ w') := ⟨fun wq hb => by
    have hq := h.on hb
    refine (lay_any hq.dk hq.map hq.tb hk.few (fun y hy => ⟨tag_len (hk.tg y hy).1, (hk.tg y hy).2⟩) hL).mono ?_
    rintro e w' ⟨rfl, ht⟩
    have := hq.disk ht
    rw [hof] at this
    exact ⟨rfl, LogTo.comp (Chg.of_below hb) (fun j o => .inl o) this⟩⟩
  have HTO : Keep (∀ w', LogTo w B O L mb D ⟨d6, x.m, false⟩ w' → Calls Tryz.prog 45 #[.pointer (some ⟨L, 0, none⟩), .int .i64 0] w' fun e w2 => e = .returned (.int .i64 0) ∧ LogTo w B O L mb D ⟨d6, x.m, false⟩ w2) := ⟨fun w' ht => by
    obtain ⟨O', g1, g2, g3⟩ := ht
    refine (told_log g1 rfl).mono ?_
    rintro e w2 ⟨rfl, h2⟩
    exact ⟨rfl, LogTo.comp g2 g3 h2⟩⟩
  rw [hx]
  have HLB := Keep.keep hlb
  clear h hk hb hn hq0 hq hof hL hx hlb
  go_enter Tryz.func14, Tryz.ntmps14
  go_wp2_with fail
  refine HAS.out.mono ?_
  rintro e w2 ⟨rfl, rfl⟩
  clear HAS
  go_upto_region 4 with fail
  refine wp_region_spcM 10 9 [9, 10, 11, 12, 13, 14, 15, 16, 17, 18] (anC w2 B O L mb D ⟨d6, x.m, false⟩) (anT L mb D) StT (by kernel_rfl) rfl (by decide) (by show ∀ d ∈ _, d < 20; decide) (by kernel_rfl) (by decide) (by decide) (by kernel_rfl) (by kernel_rfl) (by kernel_rfl) (Below.refl _ _).drew (fun i v w w' _ h _ => anT_stays i v w w' h trivial) ?_ ?_ ?_
  · intro i hi hi9 b a1' wx hw9 hFr hC hTk
    have t0 : a1'.eval (.tmp 0) = .pointer (some ⟨L, 0, none⟩) := (hFr.same 0 (by decide)).trans rfl
    have hrf : ∀ w : World, StT w w := fun _ => trivial
    rcases (by omega : i = 0 ∨ i = 1 ∨ i = 2 ∨ i = 3 ∨ i = 4 ∨ i = 5 ∨ i = 6 ∨ i = 7 ∨ i = 8) with rfl | rfl | rfl | rfl | rfl | rfl | rfl | rfl | rfl
    · exact spcM_read (d := 9) rfl (by simp [execOp, t0]) hC hrf rfl
    · exact spcM_read (d := 10) rfl (by simp [execOp, t0]) hC hrf rfl
    · have hx : a1'.eval (.tmp 10) = .pointer (some ⟨L, 0, none⟩) := hTk 1 (by decide) (by kernel_rfl)
      exact spcM_read (d := 11) rfl (by simp [execOp, hx]) hC hrf rfl
    · have hx : a1'.eval (.tmp 11) = .pointer (some ⟨L, 0, none⟩) := hTk 2 (by decide) (by kernel_rfl)
      exact spcM_read (d := 12) rfl (run_fieldAddr (m := 0) Tryz.underlying50 rfl (by kernel_rfl) hx) hC hrf rfl
    · have hx : a1'.eval (.tmp 12) = .pointer (some ⟨L, 0, none⟩) := hTk 3 (by decide) (by kernel_rfl)
      obtain rfl : b = false := by cases b with | false => rfl | true => exact absurd (hw9 rfl) (by rw [show Region.waitsFor .any _ 9 4 = true by kernel_rfl]; decide)
      obtain ⟨k1, k0⟩ := HCL.out wx hC
      exact spcM_read (d := 13) rfl (run_loadCell (run_isAgg_plain Tryz.underlying24 rfl) k0 hx) hC hrf rfl
    · exact spcM_read (d := 14) rfl (by simp [execOp, t0]) hC hrf rfl
    · have hx : a1'.eval (.tmp 14) = .pointer (some ⟨L, 0, none⟩) := hTk 5 (by decide) (by kernel_rfl)
      exact spcM_read (d := 15) rfl (by simp [execOp, hx]) hC hrf rfl
    · have hx : a1'.eval (.tmp 15) = .pointer (some ⟨L, 0, none⟩) := hTk 6 (by decide) (by kernel_rfl)
      exact spcM_read (d := 16) rfl (run_fieldAddr (m := 0) Tryz.underlying50 rfl (by kernel_rfl) hx) hC hrf rfl
    · have hx : a1'.eval (.tmp 16) = .pointer (some ⟨L, 1, none⟩) := hTk 7 (by decide) (by kernel_rfl)
      obtain rfl : b = false := by cases b with | false => rfl | true => exact absurd (hw9 rfl) (by rw [show Region.waitsFor .any _ 9 8 = true by kernel_rfl]; decide)
      obtain ⟨k1, k0⟩ := HCL.out wx hC
      exact spcM_read (d := 17) rfl (run_loadCell (run_isAgg_plain Tryz.underlying35 rfl) k1 hx) hC hrf rfl
  · intro a1' wx hFr hC hTk
    have t13 : a1'.eval (.tmp 13) = .pointer (some ⟨D, 0, none⟩) := hTk 4 (by decide) (by kernel_rfl)
    have t17 : a1'.eval (.tmp 17) = .map (some mb) := hTk 8 (by decide) (by kernel_rfl)
    refine spcS_call (C := anC w2 B O L mb D ⟨d6, x.m, false⟩ true) (T := anT L mb D) (St := StT) (d := 18) (vs := #[.pointer (some ⟨D, 0, none⟩), .map (some mb)]) rfl (wanted_none rfl) (enters_of Tryz.func46 (by kernel_rfl) rfl) (by simp only [List.map_toArray, List.map_cons, List.map_nil, t13, t17]) ((HLY.out wx hC).mono ?_)
    rintro e wy ⟨rfl, ht⟩
    exact ⟨_, rfl, ht, trivial, rfl⟩
  · intro a1' wy ha hC hTk
    have t9 : slot a1' 9 = .pointer (some ⟨L, 0, none⟩) := hTk 0 (by decide)
    have t18 : slot a1' 18 = .int .i64 0 := hTk 9 (by decide)
    have HT := Keep.keep (HTO.out wy hC)
    simp only [List.foldl_cons, List.foldl_nil, t9, t18] at ha
    clear hTk t9 t18 hC HLY HCL HTO
    generalize slot a1' 10 = x10 at *
    generalize slot a1' 11 = x11 at *
    generalize slot a1' 12 = x12 at *
    generalize slot a1' 13 = x13 at *
    generalize slot a1' 14 = x14 at *
    generalize slot a1' 15 = x15 at *
    generalize slot a1' 16 = x16 at *
    generalize slot a1' 17 = x17 at *
    subst ha
    simp only [Act.put, List.setIfInBounds_toArray, List.set_cons_succ, List.set_cons_zero]
    simp only [List.drop_succ_cons, List.drop_zero]
    go_wp2_with fail
    refine HT.out.mono ?_
    rintro e w5 ⟨rfl, h5⟩
    have HF := Keep.keep h5
    clear h5 HT
    go_wp2_with fail
    go_ret
    exact ⟨rfl, HF.out, HLB.out⟩
end Go.Proofs.YtmkofejijkabnaaGreatDoor
/- disk.New, as its callers see it; tags.Open on a new disk. -/
namespace Go.Proofs.YtmkofejijkabnaaGreatDoor
open Go.RowKit
theorem dkopen_any (q : Int) (h0 : 0 ≤ q) (h1 : q ≤ 268435456) (w : World) : Calls Tryz.prog 22 #[.int .i64 q] w fun e w' => ∃ D, e = .returned (.tuple #[.pointer (some ⟨D, 0, none⟩), .int .i64 0]) ∧ DkAt w' (fun j => w.heap.size ≤ j ∧ j < w'.heap.size) D (newDk q) ∧ Below w.heap.size w w' := by
  refine (dknew_any q h0 h1 w).mono ?_
  rintro e w' ⟨D, nb, sb, ow, loc, bv, rfl, hd, ho, hb⟩
  exact ⟨D, rfl, ⟨ow, nb, sb, loc, bv, _, [], hd, fun j hj => ⟨ho j hj, hd.lt j hj⟩, fun v hv => by simp at hv, fun j hj => hj.2⟩, hb⟩
theorem build_log (D b : Nat) (w : World) : (Instr.build 50 #[(0, .pointer (some ⟨D, 0, none⟩)), (1, .map (some b))]).run Tryz.prog w = .ok (.agg #[.pointer (some ⟨D, 0, none⟩), .map (some b), .bool false]) w := by kernel_rfl
theorem new_size (q : Int) : (newDk q).size tagsN = (0, 6) := rfl
set_option maxHeartbeats 1000000 in
set_option maxRecDepth 100000 in
theorem logopen_any {w : World} {B : Nat} {O : Nat → Prop} {D : Nat} {q : Int} {d6 : DkS} {d1 d2 d3 d4 d5 : DkS} (h : DkAt w O D (newDk q)) (hT : CrcT w) (hlo : ∀ j, O j → B ≤ j) (hB : 0 < B) (hBw : B ≤ w.heap.size) (hL : Lay6 (magicB ++ jrn (layB [])) (newDk q) d1 d2 d3 d4 d5 d6) :
    Calls Tryz.prog 17 #[.pointer (some ⟨D, 0, none⟩)] w fun e w' => ∃ L mb O', e = .returned (.tuple #[.pointer (some ⟨L, 0, none⟩), .int .i64 0]) ∧ LogIn w' B O' L mb D ⟨d6, [], false⟩ ∧ Below B w w' := by
  have HSZ : Keep (Calls Tryz.prog 39 #[.pointer (some ⟨D, 0, none⟩), .string ⟨tagsN.toArray⟩] w fun e w' => e = .returned (.tuple #[.int .i64 0, .int .i64 6]) ∧ Below w.heap.size w w') := ⟨by
    have := size_any may_ok h tagsN (by decide)
    rw [new_size] at this
    exact this⟩
  unfold tagsN at HSZ
  have hmk := mk_tags
  have hbd := build_log
  have HLY : Keep (∀ w1 w2 : World, Below w.heap.size w w1 → w2 = (w1.alloc (.map #[] 0)).alloc (.cells #[.pointer (some ⟨D, 0, none⟩), .map (some w1.heap.size), .bool false] 50) → w2.cell? ⟨w1.heap.size + 1, 1, none⟩ = some (.map (some w1.heap.size)) ∧ Calls Tryz.prog 46 #[.pointer (some ⟨D, 0, none⟩), .map (some w1.heap.size)] w2 fun e w' => e = .returned (.int .i64 0) ∧ ∃ O', LogIn w' B O' (w1.heap.size + 1) w1.heap.size D ⟨d6, [], false⟩ ∧ Below B w w') := ⟨by
    intro w1 w2 hb he
    obtain ⟨w1', hw1⟩ : ∃ x, x = w1.alloc (.map #[] 0) := ⟨_, rfl⟩
    rw [← hw1] at he
    have s1 : w1'.heap.size = w1.heap.size + 1 := by rw [hw1]; exact Array.size_push ..
    have b1 : Below w1.heap.size w1 w1' := by rw [hw1]; exact (Below.refl _ _).alloc (Nat.le_refl _) _
    have b2 : Below w1'.heap.size w1' w2 := by rw [he]; exact (Below.refl _ _).alloc (Nat.le_refl _) _
    have hm1 : MapS w1' 9 w1.heap.size (dgV []) := by rw [hw1]; exact MapS.made w1
    have hm2 : MapS w2 9 w1.heap.size (dgV []) := hm1.loc (b2.block _ (by omega))
    have hr : Row w2 (w1.heap.size + 1) 50 #[.pointer (some ⟨D, 0, none⟩), .map (some w1.heap.size), .bool false] := by rw [he, ← s1]; exact Row.new _ _ _
    have hbb : Below w.heap.size w w2 := hb.trans ((b1.trans (b2.mono (by omega))).mono hb.size)
    have hsz := hb.size
    have hd2 := h.on hbb
    have hnO : ∀ j, w.heap.size ≤ j → ¬ O j := fun j hj ho => by have := h.lt j ho; omega
    have hlog : LogIn w2 B O (w1.heap.size + 1) w1.heap.size D ⟨newDk q, [], false⟩ := ⟨hr, hm2, hd2, hnO _ (by omega), hnO _ (by omega), by omega, hlo, by omega, by omega, hT.on hbb, hB⟩
    refine ⟨hr.cell (i := 1) rfl, (lay_any hd2 hm2 (hT.on hbb) (by simp) (fun y hy => by simp at hy) hL).mono ?_⟩
    rintro e w' ⟨rfl, ht⟩
    have ht := hlog.disk ht
    have hbl := LogTo.below hlog ht
    obtain ⟨O', g1, g2, g3⟩ := ht
    exact ⟨rfl, O', g1, (hbb.mono hBw).trans hbl⟩⟩
  clear h hT hlo hB hBw hL
  go_enter Tryz.func17, Tryz.ntmps17
  go_wp2_with fail
  refine HSZ.out.mono ?_
  rintro e w1 ⟨rfl, hb⟩
  obtain ⟨k1, hl⟩ := HLY.out w1 _ hb rfl
  have HL := Keep.keep hl
  clear hl hb HLY HSZ
  go_wp2_with fail
  refine HL.out.mono ?_
  rintro e w3 ⟨rfl, h3⟩
  have H3 := Keep.keep h3
  clear h3 HL
  go_wp2_with fail
  go_ret2
  obtain ⟨O', g1, g2⟩ := H3.out
  exact ⟨_, _, O', rfl, g1, g2⟩
end Go.Proofs.YtmkofejijkabnaaGreatDoor
/- maps.Equal of two maps of digests. -/
namespace Go.Proofs.YtmkofejijkabnaaGreatDoor
open Go.RowKit
theorem srt_subT {L K : Tgs} (h : SM.Srt L) (k : SM.Srt K) (hs : ∀ p n, SM.look L p = some n → SM.look K p = some n) (hl : L.length = K.length) : L = K := by
  have e : K.filter (fun x => (SM.look L x.1).isSome) = L := by
    refine SM.Srt.ext (k.filter _) h (fun p => ?_)
    rw [k.look_filter (fun p => (SM.look L p).isSome)]
    cases hp : SM.look L p with
    | none => simp
    | some n => simp [hs p n hp]
  have e2 : K.filter (fun x => (SM.look L x.1).isSome) = K := by
    refine List.filter_eq_self.2 ?_
    refine List.length_filter_eq_length_iff.1 ?_
    rw [e, hl]
  rw [← e, e2]
set_option maxHeartbeats 4000000 in
set_option maxRecDepth 100000 in
theorem mequal_any (b1 b2 : Nat) (m1 m2 : Tgs) (w : World) (h1 : MapS w 9 b1 (dgV m1)) (h2 : MapS w 9 b2 (dgV m2)) (g1 : ∀ y ∈ m1, y.2.length = 32) (g2 : ∀ y ∈ m2, y.2.length = 32) (_hn1 : m1.length ≤ 1000000) (_hn2 : m2.length ≤ 1000000) :
    Calls Tryz.prog 12 #[.map (some b1), .map (some b2)] w fun e w' => e = .returned (.bool (decide (m1 = m2))) ∧ Below w.heap.size w w' := by
  have H1 : Keep (∀ wx, Below w.heap.size w wx → MapS wx 9 b1 (dgV m1)) := ⟨fun wx hb => h1.loc (hb.block _ h1.lt)⟩
  have H2 : Keep (∀ wx, Below w.heap.size w wx → MapS wx 9 b2 (dgV m2)) := ⟨fun wx hb => h2.loc (hb.block _ h2.lt)⟩
  have G1 := Keep.keep g1; have G2 := Keep.keep g2
  have hln1 : ∀ ty, (Builtin.len_ #[35] ty #[.map (some b1)]).run Tryz.prog w = .ok (.int .i64 (m1.length : Int)) w := fun ty => by
    have := h1.len Tryz.underlying35 ty
    rw [dgV_len] at this
    exact this
  have hln2 : ∀ ty, (Builtin.len_ #[35] ty #[.map (some b2)]).run Tryz.prog w = .ok (.int .i64 (m2.length : Int)) w := fun ty => by
    have := h2.len Tryz.underlying35 ty
    rw [dgV_len] at this
    exact this
  have HLE : Keep (m1.length ≠ m2.length → m1 ≠ m2) := ⟨fun h e => h (by rw [e])⟩
  have HSB : Keep (m1.length = m2.length → (∀ p n, SM.look m1 p = some n → SM.look m2 p = some n) → m1 = m2) := ⟨fun hl hs => srt_subT (dgV_srt.1 h1.s) (dgV_srt.1 h2.s) hs hl⟩
  have HNE : Keep (∀ p n, SM.look m1 p = some n → SM.look m2 p ≠ some n → m1 ≠ m2) := ⟨fun p n a b e => b (by rw [← e]; exact a)⟩
  have HKL : Keep (∀ p n, SM.look m1 p = some n → p.length ≤ maxLen) := ⟨fun p n hp => by
    have := h1.l (p, arrV n) (by unfold dgV; exact List.mem_map.2 ⟨_, SM.look_mem hp, rfl⟩)
    exact this⟩
  have hb1 := h1.lt; have hb2 := h2.lt
  have HDL : Keep ((dgV m1).length = m1.length) := ⟨dgV_len _⟩
  clear h1 h2 g1 g2
  by_cases hl : m1.length = m2.length
  · have HL := Keep.keep hl
    have HM := Keep.keep (H1.out w (Below.refl _ _))
    have hne : ((m1.length : Int) != (m2.length : Int)) = false := by simp [hl]
    generalize m1.length = n1 at *
    generalize m2.length = n2 at *
    clear hl
    go_enter Tryz.func12, Tryz.ntmps12
    go_wp2_with (first | (with_reducible refine arm_sRange ?_) | (with_reducible refine arm_sNext ?_) | (with_reducible refine arm_sDel ?_) | (with_reducible refine arm_sPut ?_) | (with_reducible refine arm_sIns ?_))
    refine StM.out ?_
    refine arm_rangeS Tryz.underlying9 Tryz.underlying35 HM.out rfl ?_
    intro w3 hrg hb3 hs3
    obtain ⟨r, hr⟩ : ∃ r, w.heap.size = r := ⟨_, rfl⟩
    have HB3 := Keep.keep hb3
    rw [HDL.out] at hrg
    have HRG : Keep (RgS w3 9 b1 r (dgV m1) (fun p => (SM.look (dgV m1) p).isSome) n1) := ⟨by rw [← hr]; exact hrg⟩
    rw [hr]
    have hwr : w.heap.size ≤ r := by omega
    clear hrg hb3 hs3 hr HM hln1 hln2 hne HLE
    simp only [Act.put, List.setIfInBounds_toArray, List.set_cons_succ, List.set_cons_zero]
    go_wp2_with fail
    go_loopg [4, 5, 6, 7, 8] n1 (fun g _ _ _ _ _ wx => ∃ (todo : Tx → Bool), RgS wx 9 b1 r (dgV m1) todo g ∧ (∀ p n, SM.look m1 p = some n → todo p = false → SM.look m2 p = some n) ∧ Below w.heap.size w wx)
    case atStart =>
      refine ⟨_, HRG.out, fun p n h1 h2 => ?_, HB3.out⟩
      rw [dgV_look, h1] at h2
      simp at h2
    case round =>
      obtain ⟨todo, hrg, hok, hb⟩ := hrel
      have HRG2 := Keep.keep hrg; have HOK := Keep.keep hok; have HB := Keep.keep hb
      clear hrg hok hb HRG HB3
      go_wp2_with (first | (with_reducible refine arm_sRange ?_) | (with_reducible refine arm_sNext ?_) | (with_reducible refine arm_sDel ?_) | (with_reducible refine arm_sPut ?_) | (with_reducible refine arm_sIns ?_))
      refine StM.out ?_
      refine arm_nextS Tryz.underlying9 HRG2.out rfl ?_ ?_
      · intro h0 hall
        have HF : Keep (decide (m1 = m2) = true) := ⟨decide_eq_true (HSB.out HL.out (fun p n h => HOK.out p n h (hall p)))⟩
        clear h0 hall
        simp only [Act.put, List.setIfInBounds_toArray, List.set_cons_succ, List.set_cons_zero]
        go_wp2_with fail
        go_ret
        exact ⟨by rw [HF.out]; rfl, HB.out⟩
      · intro p v w4 cnt' h1 h2 h3 h4 h5 h6 hen
        obtain ⟨n, hln, hve⟩ : ∃ n, SM.look m1 p = some n ∧ v = .agg (bcells n).toArray := by
          rw [dgV_look] at h2
          cases hl : SM.look m1 p with
          | none => rw [hl] at h2; cases h2
          | some n => rw [hl] at h2; injection h2 with h2; exact ⟨n, rfl, h2.symm⟩
        have HB4 : Keep (Below w.heap.size w w4) := ⟨HB.out.trans ((h5.lower HB.out.size).below (fun k hk e => by omega))⟩
        have hg : n.length = 32 := G1.out (p, n) (SM.look_mem hln)
        have hkl := HKL.out p n hln
        have HRG4 := Keep.keep h3
        have HLN := Keep.keep hln
        have HTD := Keep.keep h1
        obtain ⟨ca, hca⟩ : ∃ ca, (bcells n).toArray = ca := ⟨_, rfl⟩
        have HSA : Keep (ca.size = 32) := ⟨by rw [← hca]; simp [bcells_length, hg]⟩
        have HOA : Keep (ca.all (·.oneCell') = true) := ⟨by rw [← hca]; exact oneC n⟩
        have HCA := Keep.keep hca
        have HGA := Keep.keep hg
        rw [hca] at hve
        clear h1 h2 h3 h5 h6 HRG2 hca hg hln
        subst hve
        have hlt4 := HRG4.out.lt
        simp only [Act.put, List.setIfInBounds_toArray, List.set_cons_succ, List.set_cons_zero]
        go_upto_region 6 with (first | ((with_reducible refine arm_storeRow (Row.new w4 40 _) aggDig ?_ HSA.out HOA.out ?_ ?_ ?_); (focus rfl); (focus rfl); (focus rfl); simp only [Act.put, World.setRow_alloc_new]))
        refine wp_world (R := fun w5 => Below w.heap.size w w5 ∧ RgS w5 9 b1 r (dgV m1) (fun q => todo q && q != p) cnt' ∧ Row w5 w4.heap.size 40 ca) ⟨HB4.out.alloc HB4.out.size _, HRG4.out.loc (Below.heap_alloc _ _ _ hlt4.1) (Below.heap_alloc _ _ _ hlt4.2.1), Row.new _ _ _⟩ ?_
        intro w5 H5
        obtain ⟨b6, hb6⟩ : ∃ b6, w4.heap.size = b6 := ⟨_, rfl⟩
        rw [hb6] at H5 ⊢
        have hlk := (H2.out w5 H5.out.1).lookOk Tryz.underlying9 Tryz.underlying35 (zero_dig w5) hkl
        rw [dgV_look] at hlk
        have hb6lt := H5.out.2.2.lt
        clear hen HRG4 HB4
        cases hl2 : SM.look m2 p with
        | none =>
          have HF : Keep (decide (m1 = m2) = false) := ⟨decide_eq_false (HNE.out p n HLN.out (by rw [hl2]; simp))⟩
          rw [hl2] at hlk
          obtain ⟨cz, hcz⟩ : ∃ cz, (bcells (List.replicate 32 0)).toArray = cz := ⟨_, rfl⟩
          have HSZ : Keep (cz.size = 32) := ⟨by rw [← hcz]; simp [bcells_length]⟩
          have HOZ : Keep (cz.all (·.oneCell') = true) := ⟨by rw [← hcz]; exact oneC _⟩
          replace hlk : (Instr.lookup 35 (.map (some b2)) (.string ⟨p.toArray⟩) true).run Tryz.prog w5 = .ok (.tuple #[.agg cz, .bool false]) w5 := by rw [← hcz]; exact hlk
          clear hl2 hcz
          go_wp2_with (first | ((with_reducible refine arm_storeRow (Row.new w5 40 _) aggDig ?_ HSZ.out HOZ.out ?_ ?_ ?_); (focus rfl); (focus rfl); (focus rfl); simp only [Act.put, World.setRow_alloc_new]))
          go_ret
          exact ⟨by rw [HF.out]; rfl, H5.out.1.alloc H5.out.1.size _⟩
        | some m =>
          rw [hl2] at hlk
          have hgm : m.length = 32 := G2.out (p, m) (SM.look_mem hl2)
          have hcmp := fun w => run_neq_bytes (P := Tryz.prog) Tryz.underlying40 Tryz.underlying5 (by kernel_rfl) n m HGA.out hgm w
          rw [HCA.out] at hcmp
          obtain ⟨cb, hcb⟩ : ∃ cb, (bcells m).toArray = cb := ⟨_, rfl⟩
          have HSB2 : Keep (cb.size = 32) := ⟨by rw [← hcb]; simp [bcells_length, hgm]⟩
          have HOB : Keep (cb.all (·.oneCell') = true) := ⟨by rw [← hcb]; exact oneC m⟩
          replace hlk : (Instr.lookup 35 (.map (some b2)) (.string ⟨p.toArray⟩) true).run Tryz.prog w5 = .ok (.tuple #[.agg cb, .bool true]) w5 := by rw [← hcb]; exact hlk
          rw [hcb] at hcmp
          have HL2 := Keep.keep hl2
          clear hl2 hcb hgm
          go_upto_region 7 with (first | ((with_reducible refine arm_storeRow (Row.new w5 40 _) aggDig ?_ HSB2.out HOB.out ?_ ?_ ?_); (focus rfl); (focus rfl); (focus rfl); simp only [Act.put, World.setRow_alloc_new]))
          refine wp_world (R := fun w9 => Below w5.heap.size w5 w9 ∧ Row w9 w5.heap.size 40 cb) ⟨(Below.refl _ _).alloc (Nat.le_refl _) _, Row.new _ _ _⟩ ?_
          intro w9 H9
          obtain ⟨b7, hb7⟩ : ∃ b7, w5.heap.size = b7 := ⟨_, rfl⟩
          rw [hb7] at H9 ⊢
          have HR6 := Keep.keep (H5.out.2.2.below (hb7 ▸ H9.out.1) hb6lt)
          have HR7 := Keep.keep H9.out.2
          have HB9 := Keep.keep (H5.out.1.trans ((show Below w5.heap.size w5 w9 from hb7 ▸ H9.out.1).mono H5.out.1.size))
          have HRG9 : Keep (RgS w9 9 b1 r (dgV m1) (fun q => todo q && q != p) cnt') := ⟨by
            have hlt := H5.out.2.1.lt
            have hbb : Below w5.heap.size w5 w9 := hb7 ▸ H9.out.1
            exact H5.out.2.1.loc (hbb.block _ hlt.1) (hbb.block _ hlt.2.1)⟩
          by_cases hnm : n = m
          · have hbe : (n == m) = true := by simp [hnm]
            have HLM : Keep (SM.look m2 p = some n) := ⟨by rw [hnm]; exact HL2.out⟩
            rw [hbe] at hcmp
            clear hnm hbe hlk H9 HL2
            go_wp2_with (first | ((with_reducible refine arm_loadRowG ?_ HR6.out aggDig HSA.out ?_ ?_); (focus rfl); (focus rfl); simp only [Act.put, List.setIfInBounds_toArray, List.set_cons_succ, List.set_cons_zero]) | ((with_reducible refine arm_loadRowG ?_ HR7.out aggDig HSB2.out ?_ ?_); (focus rfl); (focus rfl); simp only [Act.put, List.setIfInBounds_toArray, List.set_cons_succ, List.set_cons_zero]))
            go_roundg cnt'
            case measure => exact h4
            case rel => exact ⟨_, HRG9.out, fun q k hq ht => by
              by_cases hqp : q = p
              · subst hqp
                rw [HLN.out] at hq
                injection hq with hq
                subst hq
                exact HLM.out
              · exact HOK.out q k hq (by simpa [hqp] using ht), HB9.out⟩
          · have hbe : (n == m) = false := by simp [hnm]
            have HF : Keep (decide (m1 = m2) = false) := ⟨decide_eq_false (HNE.out p n HLN.out (by rw [HL2.out]; intro e; injection e with e; exact hnm e.symm))⟩
            rw [hbe] at hcmp
            clear hnm hbe hlk H9 HL2
            go_wp2_with (first | ((with_reducible refine arm_loadRowG ?_ HR6.out aggDig HSA.out ?_ ?_); (focus rfl); (focus rfl); simp only [Act.put, List.setIfInBounds_toArray, List.set_cons_succ, List.set_cons_zero]) | ((with_reducible refine arm_loadRowG ?_ HR7.out aggDig HSB2.out ?_ ?_); (focus rfl); (focus rfl); simp only [Act.put, List.setIfInBounds_toArray, List.set_cons_succ, List.set_cons_zero]))
            go_ret
            exact ⟨by rw [HF.out]; rfl, HB9.out⟩
  · have HF : Keep (decide (m1 = m2) = false) := ⟨decide_eq_false (HLE.out hl)⟩
    have hne : ((m1.length : Int) != (m2.length : Int)) = true := by simp; omega
    generalize m1.length = n1 at *
    generalize m2.length = n2 at *
    clear hl
    go_enter Tryz.func12, Tryz.ntmps12
    go_wp2_with fail
    go_ret
    exact ⟨by rw [HF.out]; rfl, Below.refl _ _⟩
end Go.Proofs.YtmkofejijkabnaaGreatDoor
/- portolanlaw26.state: the tags of a log, as a map. -/
namespace Go.Proofs.YtmkofejijkabnaaGreatDoor
open Go.RowKit
set_option maxHeartbeats 4000000 in
set_option maxRecDepth 100000 in
theorem state_any {w : World} {B : Nat} {O : Nat → Prop} {L mb D : Nat} {x : LogS} (h : LogIn w B O L mb D x) (hml : x.m.length ≤ 64) (htg : ∀ y ∈ x.m, y.1.length ≤ 64 ∧ y.2.length = 32) (hs : SM.Srt x.m) :
    Calls Tryz.prog 13 #[.pointer (some ⟨L, 0, none⟩)] w fun e w' => ∃ b, w.heap.size ≤ b ∧ e = .returned (.map (some b)) ∧ MapS w' 9 b (dgV x.m) ∧ Below w.heap.size w w' := by
  have HON : Keep (∀ wx, Below w.heap.size w wx → LogIn wx B O L mb D x) := ⟨fun wx hb => h.on hb⟩
  have HTG := Keep.keep htg; have HS := Keep.keep hs; have HML := Keep.keep hml
  have hmk := mk_tags
  clear h htg hs
  go_enter Tryz.func13, Tryz.ntmps13
  go_upto_region 2 with fail
  refine wp_world (R := fun w1 => Below w.heap.size w w1 ∧ MapS w1 9 w.heap.size (dgV [])) ⟨(Below.refl _ _).alloc (Nat.le_refl _) _, MapS.made w⟩ ?_
  intro w1 H1
  have hlog1 := HON.out w1 H1.out.1
  go_wp2_with fail
  refine (loglist_any hlog1 HML.out).mono ?_
  rintro e w2 ⟨v, rfl, ho, hb2⟩
  obtain ⟨a8, n8, c8, hv8⟩ : ∃ a8 n8 c8, v = .slice a8 n8 c8 := by
    obtain ⟨a8, c8, hv8, -⟩ := (ownsV_reads ho).shape
    exact ⟨a8, _, c8, hv8⟩
  subst hv8
  have hrd := ownsV_reads ho
  obtain ⟨nN, hnN⟩ : ∃ nN, x.m.length = nN := ⟨_, rfl⟩
  have hn8 : nN = n8 := by
    obtain ⟨a9, c9, hv9, -⟩ := hrd.shape
    injection hv9 with h1 h2 h3
    omega
  rw [hn8] at hnN
  have HN := Keep.keep hnN
  have HRN : Keep (RdV w2 (fun j => w1.heap.size ≤ j ∧ j < w2.heap.size) 1 (.slice a8 n8 c8) n8 ((x.m.map (·.1)).map strV)) := ⟨by have h := hrd.mono (N' := fun j => w1.heap.size ≤ j ∧ j < w2.heap.size) (fun j hj => ⟨hj.1, hj.2.1⟩); rw [hnN] at h; exact h⟩
  have hsz1 := H1.out.1.size
  have hsz2 := hb2.size
  have hm1lt := H1.out.2.lt
  have HB2 : Keep (Below w.heap.size w w2) := ⟨H1.out.1.trans (hb2.mono hsz1)⟩
  have HM2 : Keep (MapS w2 9 w.heap.size (dgV (x.m.take 0))) := ⟨by rw [List.take_zero]; exact H1.out.2.loc (hb2.block _ hm1lt)⟩
  have hn64 : n8 ≤ 64 := by omega
  obtain ⟨b0, hb0⟩ : ∃ b0, w.heap.size = b0 := ⟨_, rfl⟩
  have HB0 := Keep.keep hb0
  rw [hb0] at HM2 ⊢
  clear hrd ho hb2 hlog1 hb0 hn8
  go_wp2_with fail
  go_loopg [10] n8 (fun g u10 wx => ∃ k : Nat, k + g = n8 ∧ u10 = .int .i64 (k : Int) ∧ Keep (Chg (fun j => j = b0) w2.heap.size w2 wx) ∧ Keep (MapS wx 9 b0 (dgV (x.m.take k))))
  case atStart => exact ⟨0, by omega, rfl, ⟨Chg.refl _ _ _⟩, HM2⟩
  case round =>
    obtain ⟨k, hkg, rfl, HCH, HMK⟩ := hrel
    have HBK : Keep (Below w.heap.size w wr) := ⟨HB2.out.trans ((HCH.out.lower HB2.out.size).below (fun j hj e => by have := HB0.out; omega))⟩
    cases gk with
    | zero =>
      obtain rfl : n8 = k := by omega
      have hall : x.m.take n8 = x.m := by rw [← HN.out, List.take_length]
      rw [hall] at HMK
      go_wp2_with fail
      go_ret
      exact ⟨b0, by have := HB0.out; omega, rfl, HMK.out, HBK.out⟩
    | succ g =>
      have hk : k < x.m.length := by have := HN.out; omega
      have hrN : RdV wr (fun j => w1.heap.size ≤ j ∧ j < w2.heap.size) 1 (.slice a8 n8 c8) n8 ((x.m.map (·.1)).map strV) := HRN.out.chg HCH.out (fun j hj => ⟨hj.2, fun e => by have := HB0.out; omega⟩)
      obtain ⟨bN, oN, hab⟩ : ∃ b off, a8 = some ⟨b, off, none⟩ := by
        obtain ⟨a8', c8', hv8, q1, q2, q3⟩ := hrN.shape
        injection hv8 with e1 e2 e3
        rcases q3 with q3 | ⟨b, off, q3, -⟩
        · omega
        · exact ⟨b, off, by rw [e1, q3]⟩
      subst hab
      have hcell : wr.cell? ⟨bN, oN + k, none⟩ = some (.string ⟨(x.m[k]).1.toArray⟩) := by
        have := hrN.cell bN oN _ _ rfl k (strV (x.m[k]).1) (by simp [hk])
        exact this
      have HTGk := Keep.keep (HTG.out x.m[k] (List.getElem_mem hk))
      have hlook : SM.look x.m (x.m[k]).1 = some (x.m[k]).2 := HS.out.look.2 (show ((x.m[k]).1, (x.m[k]).2) ∈ x.m from List.getElem_mem hk)
      have HPL : Keep (SM.put (x.m.take k) ((x.m[k]).1, (x.m[k]).2) = x.m.take (k + 1)) := ⟨by
        rw [List.take_succ_eq_append_getElem hk]
        refine put_last (fun y hy => ?_)
        obtain ⟨i, hi, rfl⟩ := List.getElem_of_mem hy
        rw [List.length_take] at hi
        rw [List.getElem_take]
        exact (List.pairwise_iff_getElem.1 HS.out) i k (by omega) hk (by omega)⟩
      have htl : (x.m.take k).length < maxLen := by rw [List.length_take]; unfold maxLen; omega
      generalize ht : (x.m[k]).1 = t at *
      generalize hg : (x.m[k]).2 = dg at *
      have HGT : Keep (Calls Tryz.prog 21 #[.pointer (some ⟨L, 0, none⟩), .string ⟨t.toArray⟩] wr fun e w' => e = .returned (.tuple #[.agg (bcells dg).toArray, .bool true]) ∧ Below wr.heap.size wr w') := ⟨logget_any (HON.out wr HBK.out) t (by have := HTGk.out.1; omega) HTGk.out.2 hlook⟩
      have HTL := Keep.keep htl
      have hkn : (k : Int) < (n8 : Int) := by omega
      obtain ⟨cd, hcd⟩ : ∃ cd, (bcells dg).toArray = cd := ⟨_, rfl⟩
      have HCD := Keep.keep hcd
      rw [hcd] at HGT
      clear hrN hlook ht hg htl hcd
      go_wp2_with fail
      refine HGT.out.mono ?_
      rintro e w4 ⟨rfl, hb4⟩
      have HB4 := Keep.keep hb4
      have HM4 : Keep (MapS w4 9 b0 (dgV (x.m.take k))) := ⟨HMK.out.loc (hb4.block _ HMK.out.lt)⟩
      clear hb4 HGT hcell
      go_wp2_with (first | (with_reducible refine arm_sRange ?_) | (with_reducible refine arm_sNext ?_) | (with_reducible refine arm_sDel ?_) | (with_reducible refine arm_sPut ?_) | (with_reducible refine arm_sIns ?_))
      refine StM.out ?_
      refine arm_putS Tryz.underlying9 Tryz.underlying35 HM4.out (p := t) (u := .agg cd) (by have := HTGk.out.1; unfold maxLen; omega) (by rw [dgV_len]; exact HTL.out) rfl rfl rfl ?_
      intro w5 h5 hc5
      have HM5 : Keep (MapS w5 9 b0 (dgV (x.m.take (k + 1)))) := ⟨by rw [← HPL.out, dgV_put]; unfold arrV; rw [HCD.out]; exact h5⟩
      have HC5 : Keep (Chg (fun j => j = b0) w2.heap.size w2 w5) := ⟨(HCH.out.trans ((Chg.of_below HB4.out).lower HCH.out.size)).trans (hc5.lower (Nat.le_trans HCH.out.size HB4.out.size))⟩
      clear h5 hc5
      simp only [Act.put]
      go_wp2_with fail
      go_roundg g
      case measure => omega
      case rel => exact ⟨k + 1, by omega, by simp, HC5, HM5⟩
end Go.Proofs.YtmkofejijkabnaaGreatDoor
