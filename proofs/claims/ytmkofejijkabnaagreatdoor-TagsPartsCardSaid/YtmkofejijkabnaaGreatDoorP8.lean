/- PARTS OF ONE PROOF, set in one file: DkD, DkE, LogP, TgGo, TgCl, TgLay. Each part tells its own conditions. -/
import Derived.Test.YtmkofejijkabnaaGreatDoorP7
/- A DISK, plainly: a new file renamed onto a settled name: DiskOnce. -/
namespace Go.Proofs.YtmkofejijkabnaaGreatDoor
/-- a deed that has to do with neither name, and makes neither file -/
def farB (m w : Tx) (f1 f2 : Nat) (y : DeedS) : Prop := farD m f1 y ∧ farD m f2 y ∧ farD w f1 y
def NF (f : Nat) (F : Fol) : Prop := ∀ x ∈ F, x.2 ≠ f
theorem NF.deed {m : Tx} {f : Nat} {F : Fol} (h : NF f F) {y : DeedS} (hy : farD m f y) : NF f (doD F y) := by
  intro x hx
  cases y with
  | create n k =>
    simp only [doD] at hx
    rcases SM.mem_put.1 hx with rfl | ⟨hx, -⟩
    · exact hy.2
    · exact h x hx
  | rename a b =>
    rcases ren_cases F a b with ⟨-, e⟩ | ⟨g, hl, e⟩
    · rw [e] at hx; exact h x hx
    · rw [e] at hx
      rcases SM.mem_put.1 hx with rfl | ⟨hx, -⟩
      · exact h (a, g) (SM.look_mem hl)
      · exact h x (mem_del.1 hx).1
  | remove a => simp only [doD] at hx; exact h x (mem_del.1 hx).1
  | becomes G => exact hy.elim
/-- the new file is there, the old one nowhere -/
structure G2 (m : Tx) (f1 f2 : Nat) (F : Fol) : Prop where
  o : OneF m f2 F
  n : NF f1 F
theorem G2.fold {m w : Tx} {f1 f2 : Nat} : ∀ (l : List DeedS) {F : Fol}, G2 m f1 f2 F → (∀ y ∈ l, farB m w f1 f2 y) → G2 m f1 f2 (l.foldl doD F)
  | [], _, h, _ => h
  | y :: l, _, h, hy => G2.fold l ⟨h.o.deed (hy y List.mem_cons_self).2.1, h.n.deed (hy y List.mem_cons_self).1⟩ (fun z hz => hy z (List.mem_cons_of_mem _ hz))
/-- settled is the old one; two deeds lead to the new one -/
structure OldA (m w : Tx) (f1 f2 : Nat) (d : DkS) : Prop where
  o : OneF m f1 d.settled
  hw : SM.look d.settled w = none
  n : NF f2 d.settled
  x : ∃ rest, d.deeds = .create w f2 :: .rename w m :: rest ∧ ∀ y ∈ rest, farB m w f1 f2 y
structure NewB (m w : Tx) (f1 f2 : Nat) (d : DkS) : Prop where
  g : G2 m f1 f2 d.settled
  x : ∀ y ∈ d.deeds, farB m w f1 f2 y
structure Once (b : Bool) (m w : Tx) (f1 f2 : Nat) (v1 v2 : FileS) (d : DkS) : Prop where
  ab : NewB m w f1 f2 d ∨ (b = false ∧ OldA m w f1 f2 d)
  n1 : f1 < d.many
  n2 : f2 < d.many
  e1 : d.files f1 = v1
  e2 : d.files f2 = v2
theorem renamed {m w : Tx} {f1 f2 : Nat} {S : Fol} (hmw : m ≠ w) (hf : f1 ≠ f2) (o : OneF m f1 S) (_hw : SM.look S w = none) (n : NF f2 S) : OneF m f1 (doD S (.create w f2)) ∧ G2 m f1 f2 (doD (doD S (.create w f2)) (.rename w m)) := by
  have e0 : doD S (.create w f2) = SM.put S (w, f2) := rfl
  have hs := o.s.put (w, f2)
  have hlw : SM.look (SM.put S (w, f2)) w = some f2 := by rw [o.s.look_put, if_pos rfl]
  have h1 : OneF m f1 (SM.put S (w, f2)) := ⟨hs, by rw [o.s.look_put, if_neg hmw, o.l], fun x hx he => by
    rcases SM.mem_put.1 hx with rfl | ⟨hx, -⟩
    · exact (hf he.symm).elim
    · exact o.u x hx he⟩
  have e1 : doD (SM.put S (w, f2)) (.rename w m) = SM.put (delF (SM.put S (w, f2)) w) (m, f2) := by
    rcases ren_cases (SM.put S (w, f2)) w m with ⟨e, -⟩ | ⟨g, hl, e⟩
    · rw [hlw] at e; cases e
    · rw [hlw] at hl; injection hl with hl; subst hl; exact e
  rw [e0]
  refine ⟨h1, ?_⟩
  rw [e1]
  have hd := srt_del hs w
  refine ⟨⟨hd.put _, by rw [hd.look_put, if_pos rfl], fun x hx he => ?_⟩, fun x hx he => ?_⟩
  · rcases SM.mem_put.1 hx with rfl | ⟨hx, -⟩
    · rfl
    · obtain ⟨hx, hne⟩ := mem_del.1 hx
      rcases SM.mem_put.1 hx with rfl | ⟨hx, -⟩
      · exact (hne rfl).elim
      · exact (n x hx he).elim
  · rcases SM.mem_put.1 hx with rfl | ⟨hx, hne⟩
    · exact hf he.symm
    · obtain ⟨hx, hnw⟩ := mem_del.1 hx
      rcases SM.mem_put.1 hx with rfl | ⟨hx, -⟩
      · exact hf he.symm
      · exact hne (o.u x hx he)
theorem Once.now {b : Bool} {m w : Tx} {f1 f2 : Nat} {v1 v2 : FileS} {d : DkS} (hmw : m ≠ w) (hf : f1 ≠ f2) (h : Once b m w f1 f2 v1 v2 d) : G2 m f1 f2 d.now := by
  rcases h.ab with h | ⟨-, h⟩
  · exact h.g.fold (w := w) _ h.x
  · obtain ⟨rest, e, hr⟩ := h.x
    unfold DkS.now
    rw [e]
    exact (renamed hmw hf h.o h.hw h.n).2.fold (w := w) rest hr
theorem Once.did {na : Tx → Prop} {b : Bool} {m w : Tx} {f1 f2 : Nat} {v1 v2 : FileS} {d d' : DkS} (hmw : m ≠ w) (hf : f1 ≠ f2) (h : Once b m w f1 f2 v1 v2 d) (hd : Did na d d') (hn : ∀ x, na x → x ≠ m ∧ x ≠ w) : Once b m w f1 f2 v1 v2 d' := by
  have hnow := h.now hmw hf
  have snoc : ∀ (y : DeedS) (d2 : DkS), d2.settled = d.settled → d2.deeds = d.deeds ++ [y] → farB m w f1 f2 y → NewB m w f1 f2 d2 ∨ (b = false ∧ OldA m w f1 f2 d2) := by
    intro y d2 g1 g2 hy
    rcases h.ab with h | ⟨hb, h⟩
    · refine .inl ⟨by rw [g1]; exact h.g, fun z hz => ?_⟩
      rw [g2] at hz
      rcases List.mem_append.1 hz with hz | hz
      · exact h.x z hz
      · obtain rfl := List.mem_singleton.1 hz; exact hy
    · obtain ⟨rest, e, hr⟩ := h.x
      refine .inr ⟨hb, by rw [g1]; exact h.o, by rw [g1]; exact h.hw, by rw [g1]; exact h.n, rest ++ [y], by rw [g2, e]; rfl, fun z hz => ?_⟩
      rcases List.mem_append.1 hz with hz | hz
      · exact hr z hz
      · obtain rfl := List.mem_singleton.1 hz; exact hy
  have same : ∀ d2 : DkS, d2.settled = d.settled → d2.deeds = d.deeds → NewB m w f1 f2 d2 ∨ (b = false ∧ OldA m w f1 f2 d2) := by
    intro d2 g1 g2
    rcases h.ab with h | ⟨hb, h⟩
    · exact .inl ⟨by rw [g1]; exact h.g, by rw [g2]; exact h.x⟩
    · exact .inr ⟨hb, by rw [g1]; exact h.o, by rw [g1]; exact h.hw, by rw [g1]; exact h.n, by rw [g2]; exact h.x⟩
  have other : ∀ (a : Tx) (k : Nat), na a → SM.look d.now a = some k → f1 ≠ k ∧ f2 ≠ k := fun a k ha hk =>
    ⟨fun e => hnow.n (a, k) (SM.look_mem hk) e.symm, fun e => (hn a ha).1 (hnow.o.u (a, k) (SM.look_mem hk) e.symm)⟩
  cases hd with
  | nothing => exact h
  | off _ => exact ⟨same _ rfl rfl, h.n1, h.n2, h.e1, h.e2⟩
  | create nm off fuse g1 _ =>
    obtain ⟨a1, a2⟩ := hn _ g1
    have k1 : d.many ≠ f1 := by have := h.n1; omega
    have k2 : d.many ≠ f2 := by have := h.n2; omega
    refine ⟨snoc _ _ rfl rfl ⟨⟨a1, k1⟩, ⟨a1, k2⟩, ⟨a2, k1⟩⟩, Nat.lt_succ_of_lt h.n1, Nat.lt_succ_of_lt h.n2, ?_, ?_⟩
    · show (if f1 = d.many then _ else d.files f1) = v1
      rw [if_neg k1.symm]; exact h.e1
    · show (if f2 = d.many then _ else d.files f2) = v2
      rw [if_neg k2.symm]; exact h.e2
  | rename a c off fuse g1 g2 _ =>
    obtain ⟨a1, a2⟩ := hn _ g1
    obtain ⟨b1, b2⟩ := hn _ g2
    exact ⟨snoc _ _ rfl rfl ⟨⟨a1, b1⟩, ⟨a1, b1⟩, ⟨a2, b2⟩⟩, h.n1, h.n2, h.e1, h.e2⟩
  | remove a off fuse g1 _ =>
    obtain ⟨a1, a2⟩ := hn _ g1
    exact ⟨snoc _ _ rfl rfl ⟨a1, a1, a2⟩, h.n1, h.n2, h.e1, h.e2⟩
  | append a k c off fuse g1 g2 g3 _ =>
    obtain ⟨k1, k2⟩ := other a k g1 g3
    refine ⟨same _ rfl rfl, h.n1, h.n2, ?_, ?_⟩
    · show (if f1 = k then _ else d.files f1) = v1
      rw [if_neg k1]; exact h.e1
    · show (if f2 = k then _ else d.files f2) = v2
      rw [if_neg k2]; exact h.e2
  | sync a k off fuse g1 g3 _ =>
    obtain ⟨k1, k2⟩ := other a k g1 g3
    refine ⟨same _ rfl rfl, h.n1, h.n2, ?_, ?_⟩
    · show (if f1 = k then _ else d.files f1) = v1
      rw [if_neg k1]; exact h.e1
    · show (if f2 = k then _ else d.files f2) = v2
      rw [if_neg k2]; exact h.e2
  | settle off fuse _ => exact ⟨.inl ⟨hnow, fun _ h => (List.not_mem_nil h).elim⟩, h.n1, h.n2, h.e1, h.e2⟩
theorem Once.does {b : Bool} {m w : Tx} {f1 f2 : Nat} {v1 v2 : FileS} {d : DkS} (hmw : m ≠ w) (hf : f1 ≠ f2) (h : Once b m w f1 f2 v1 v2 d) (c : CallS) (h1 : c.name ≠ m ∧ c.name ≠ w) (h2 : c.to ≠ m ∧ c.to ≠ w) : Once b m w f1 f2 v1 v2 (doesC d c).2 :=
  h.did hmw hf (does_did d c) (fun n hn => by rcases hn with rfl | rfl <;> assumption)
/-- behind the crash the name leads to the one or to the other, whole -/
theorem Once.crash {b : Bool} {m w : Tx} {f1 f2 : Nat} {v1 v2 : FileS} {d : DkS} (hmw : m ≠ w) (hf : f1 ≠ f2) (h : Once b m w f1 f2 v1 v2 d) (hm : nameP m = true) (s1 : v1.bytes.length ≤ v1.safe) (s2 : v2.bytes.length ≤ v2.safe) {ps : List Int} (hp : ps.any (fun p => decide (p < 0)) = false) :
    (d.crash ps).1 = 0 ∧ ∃ v, (v = v2 ∨ (b = false ∧ v = v1)) ∧ (d.crash ps).2.size m = (((v.bytes.length : Nat) : Int), 0) ∧ (d.crash ps).2.read m 0 (v.bytes.length : Nat) = (v.bytes, 0) := by
  have hd := (crash_loose (d := d) hp).1
  have key : ∃ (f : Nat) (v : FileS), (v = v2 ∨ (b = false ∧ v = v1)) ∧ d.files f = v ∧ v.bytes.length ≤ v.safe ∧ SM.look (d.after (pick ps d.deeds.length).1) m = some f := by
    generalize (pick ps d.deeds.length).1 = i
    rcases h.ab with hB | ⟨hb, hA⟩
    · exact ⟨f2, v2, .inl rfl, h.e2, s2, (G2.fold (w := w) (d.deeds.take i) hB.g (fun y hy => hB.x y (List.mem_of_mem_take hy))).o.l⟩
    · obtain ⟨rest, e, hr⟩ := hA.x
      obtain ⟨r1, r2⟩ := renamed hmw hf hA.o hA.hw hA.n
      unfold DkS.after
      rw [e]
      rcases i with _ | _ | i
      · exact ⟨f1, v1, .inr ⟨hb, rfl⟩, h.e1, s1, hA.o.l⟩
      · exact ⟨f1, v1, .inr ⟨hb, rfl⟩, h.e1, s1, r1.l⟩
      · exact ⟨f2, v2, .inl rfl, h.e2, s2, (G2.fold (w := w) (rest.take i) r2 (fun y hy => hr y (List.mem_of_mem_take hy))).o.l⟩
  obtain ⟨f, v, hv, hfv, hs, hl⟩ := key
  have h1 : (d.crash ps).1 = 0 ∧ (d.crash ps).2.off = false ∧ (d.crash ps).2.settled = d.after (pick ps d.deeds.length).1 ∧ (d.crash ps).2.files f = v := by
    unfold DkS.crash
    rw [if_neg (by rw [hp]; decide)]
    refine ⟨rfl, rfl, rfl, ?_⟩
    show (cutAll d.files (pick ps d.deeds.length).2 d.all).1 f = v
    rw [cutAll_safe _ _ _ f (by rw [hfv]; exact hs), hfv]
  obtain ⟨g1, g2, g3, g4⟩ := h1
  have hnw : SM.look (d.crash ps).2.now m = some f := by
    unfold DkS.now
    rw [hd, g3]
    exact hl
  have hff := find_of g2 hm hnw
  refine ⟨g1, v, hv, ?_, ?_⟩
  · unfold DkS.size
    rw [hff]
    show ((((d.crash ps).2.files f).bytes.length : Int), (0 : Int)) = _
    rw [g4]
  · unfold DkS.read
    rw [hff]
    show (if (0 : Int) < 0 ∨ ((v.bytes.length : Nat) : Int) < 0 ∨ ((((d.crash ps).2.files f).bytes.length : Nat) : Int) < ((v.bytes.length : Nat) : Int) then _ else ((((d.crash ps).2.files f).bytes.take ((v.bytes.length : Nat) : Int).toNat).drop (0 : Int).toNat, (0 : Int))) = _
    rw [g4, if_neg (by omega)]
    simp
end Go.Proofs.YtmkofejijkabnaaGreatDoor
/- A DISK, plainly: DiskOnce's beginning: two files, synced; the new one renamed onto the old one's name. -/
namespace Go.Proofs.YtmkofejijkabnaaGreatDoor
theorem append_on {d : DkS} {m : Tx} {k : Nat} {b : List UInt8} (ho : d.off = false) (hm : nameP m = true) (hf : d.fuse = -1) (hl : SM.look d.now m = some k) (hr : (d.used : Int) + (b.length : Int) ≤ d.quota) : d.append m b = (0, d.setFile k ⟨(d.files k).bytes ++ b, (d.files k).safe⟩) := by
  unfold DkS.append
  rw [find_of ho hm hl]
  show (if d.quota - (d.used : Int) < (b.length : Int) then _ else _) = _
  rw [if_neg (by omega), step_on hf]
theorem sync_on {d : DkS} {m : Tx} {k : Nat} (ho : d.off = false) (hm : nameP m = true) (hf : d.fuse = -1) (hl : SM.look d.now m = some k) : d.sync m = (0, d.setFile k ⟨(d.files k).bytes, (d.files k).bytes.length⟩) := by
  unfold DkS.sync
  rw [find_of ho hm hl]
  show d.step _ = _
  rw [step_on hf]
theorem create_on {d : DkS} {m : Tx} (ho : d.off = false) (hm : nameP m = true) (hf : d.fuse = -1) (hl : SM.look d.now m = none) (hn : d.now.length < 8192) : d.create m = (0, { d with deeds := d.deeds ++ [.create m d.many], many := d.many + 1, files := setF d.files d.many ⟨[], 0⟩ }) := by
  unfold DkS.create
  rw [find_none ho hm hl]
  show (if (6 : Int) ≠ 6 then _ else if 8192 ≤ d.now.length then _ else _) = _
  rw [if_neg (by decide), if_neg (by omega), step_on hf]
theorem settle_on {d : DkS} (ho : d.off = false) (hf : d.fuse = -1) : d.settle = (0, { d with settled := d.now, deeds := [] }) := by
  unfold DkS.settle
  rw [if_neg (by unfold DkS.asks; rw [ho]; simp), step_on hf]
theorem rename_on {d : DkS} {a b : Tx} {k : Nat} (ho : d.off = false) (ha : nameP a = true) (hb : nameP b = true) (hf : d.fuse = -1) (hl : SM.look d.now a = some k) : d.rename a b = (0, { d with deeds := d.deeds ++ [.rename a b] }) := by
  have h2 : d.asks [a, b] = 0 := by unfold DkS.asks; rw [ho]; simp [ha, hb]
  unfold DkS.rename
  rw [h2, if_neg (by decide), find_of ho ha hl]
  show d.deed _ = _
  unfold DkS.deed
  rw [step_on hf]
theorem once_made {m w : Tx} (hmw : m ≠ w) (hm : nameP m = true) (hw : nameP w = true) (s b : List UInt8) (hs : s.length ≤ 50) (hb : b.length ≤ 50) :
    ∃ d1 d2 d3 d4 d5 d6 d7 d8, (newDk 268435456).create m = (0, d1) ∧ d1.append m s = (0, d2) ∧ d2.sync m = (0, d3) ∧ d3.settle = (0, d4) ∧ d4.create w = (0, d5) ∧ d5.append w b = (0, d6) ∧ d6.sync w = (0, d7) ∧ d7.rename w m = (0, d8) ∧
      Once false m w 0 1 ⟨s, s.length⟩ ⟨b, b.length⟩ d8 ∧ ∃ d9, d8.settle = (0, d9) ∧ Once true m w 0 1 ⟨s, s.length⟩ ⟨b, b.length⟩ d9 := by
  have mk : ∀ (fs : Nat → FileS) (M : Nat) (S : Fol) (D : List DeedS), (⟨fs, M, S, D, 268435456, false, -1, false⟩ : DkS).off = false ∧ (⟨fs, M, S, D, 268435456, false, -1, false⟩ : DkS).fuse = -1 := fun _ _ _ _ => ⟨rfl, rfl⟩
  have l0 : SM.put ([] : Fol) (m, 0) = [(m, 0)] := rfl
  have lm : SM.look [(m, 0)] m = some 0 := by unfold SM.look; rw [List.find?_cons_of_pos (by simp)]; rfl
  have lw : SM.look [(m, 0)] w = none := by unfold SM.look; rw [List.find?_cons_of_neg (by simpa using hmw)]; rfl
  have h1 : (newDk 268435456).create m = (0, ⟨setF (fun _ => ⟨[], 0⟩) 0 ⟨[], 0⟩, 1, [], [.create m 0], 268435456, false, -1, false⟩) := create_on rfl hm rfl rfl (by decide)
  have u1 : ∀ (v : FileS) (D : List DeedS) (M : Nat), (⟨setF (fun _ => ⟨[], 0⟩) 0 v, M, [], [.create m 0], 268435456, false, -1, false⟩ : DkS).used = v.bytes.length := fun v D M => by
    show (([(m, 0)] : Fol).map fun x => (setF (fun _ => (⟨[], 0⟩ : FileS)) 0 v x.2).bytes.length).sum = _
    simp [setF]
  have h2 : (⟨setF (fun _ => ⟨[], 0⟩) 0 ⟨[], 0⟩, 1, [], [.create m 0], 268435456, false, -1, false⟩ : DkS).append m s = (0, ⟨setF (fun _ => ⟨[], 0⟩) 0 ⟨s, 0⟩, 1, [], [.create m 0], 268435456, false, -1, false⟩) := by
    rw [append_on (d := ⟨setF (fun _ => ⟨[], 0⟩) 0 ⟨[], 0⟩, 1, [], [.create m 0], 268435456, false, -1, false⟩) (k := 0) rfl hm rfl lm (by rw [u1 _ [] _]; simp; omega)]
    unfold DkS.setFile
    rw [setF_twice]
    rfl
  have h3 : (⟨setF (fun _ => ⟨[], 0⟩) 0 ⟨s, 0⟩, 1, [], [.create m 0], 268435456, false, -1, false⟩ : DkS).sync m = (0, ⟨setF (fun _ => ⟨[], 0⟩) 0 ⟨s, s.length⟩, 1, [], [.create m 0], 268435456, false, -1, false⟩) := by
    rw [sync_on (d := ⟨setF (fun _ => ⟨[], 0⟩) 0 ⟨s, 0⟩, 1, [], [.create m 0], 268435456, false, -1, false⟩) (k := 0) rfl hm rfl lm]
    unfold DkS.setFile
    rw [setF_twice]
    rfl
  have h4 : (⟨setF (fun _ => ⟨[], 0⟩) 0 ⟨s, s.length⟩, 1, [], [.create m 0], 268435456, false, -1, false⟩ : DkS).settle = (0, ⟨setF (fun _ => ⟨[], 0⟩) 0 ⟨s, s.length⟩, 1, [(m, 0)], [], 268435456, false, -1, false⟩) := settle_on rfl rfl
  generalize hfs : setF (fun _ => (⟨[], 0⟩ : FileS)) 0 ⟨s, s.length⟩ = fs at *
  have hf0 : fs 0 = ⟨s, s.length⟩ := by rw [← hfs]; rfl
  have h5 : (⟨fs, 1, [(m, 0)], [], 268435456, false, -1, false⟩ : DkS).create w = (0, ⟨setF fs 1 ⟨[], 0⟩, 2, [(m, 0)], [.create w 1], 268435456, false, -1, false⟩) := create_on rfl hw rfl lw (by show (1 : Nat) < 8192; decide)
  have o1 : OneF m 0 [(m, 0)] := ⟨List.pairwise_singleton _ _, lm, fun x hx _ => by obtain rfl := List.mem_singleton.1 hx; rfl⟩
  have hn : ∀ v, (⟨setF fs 1 v, 2, [(m, 0)], [.create w 1], 268435456, false, -1, false⟩ : DkS).now = SM.put [(m, 0)] (w, 1) := fun _ => rfl
  have lw1 : SM.look (SM.put [(m, 0)] (w, 1)) w = some 1 := by rw [o1.s.look_put, if_pos rfl]
  have u2 : ∀ v : FileS, (⟨setF fs 1 v, 2, [(m, 0)], [.create w 1], 268435456, false, -1, false⟩ : DkS).used ≤ 2 * (50 + v.bytes.length) := fun v => by
    have hlen : (SM.put [(m, 0)] (w, 1)).length ≤ 2 := by rw [o1.s.length_put]; split <;> simp
    have hall : ∀ (F : Fol), (∀ x ∈ F, x.2 = 0 ∨ x.2 = 1) → ((F.map fun x => (setF fs 1 v x.2).bytes.length).sum) ≤ F.length * (50 + v.bytes.length) := by
      intro F
      induction F with
      | nil => intro _; simp
      | cons x F ih =>
        intro hx
        rw [List.map_cons, List.sum_cons, List.length_cons, Nat.succ_mul]
        have h1 := ih (fun y hy => hx y (List.mem_cons_of_mem _ hy))
        have h2 : (setF fs 1 v x.2).bytes.length ≤ 50 + v.bytes.length := by
          rcases hx x List.mem_cons_self with e | e
          · rw [e]
            show (if (0 : Nat) = 1 then v else fs 0).bytes.length ≤ _
            rw [if_neg (by decide), hf0]
            show s.length ≤ _
            omega
          · rw [e, setF_same]; omega
        omega
    show (((SM.put [(m, 0)] (w, 1)).map fun x => (setF fs 1 v x.2).bytes.length).sum) ≤ _
    refine Nat.le_trans (hall _ (fun x hx => ?_)) (Nat.mul_le_mul_right _ hlen)
    rcases SM.mem_put.1 hx with rfl | ⟨hx, -⟩
    · exact .inr rfl
    · obtain rfl := List.mem_singleton.1 hx; exact .inl rfl
  have h6 : (⟨setF fs 1 ⟨[], 0⟩, 2, [(m, 0)], [.create w 1], 268435456, false, -1, false⟩ : DkS).append w b = (0, ⟨setF fs 1 ⟨b, 0⟩, 2, [(m, 0)], [.create w 1], 268435456, false, -1, false⟩) := by
    have hu := u2 ⟨[], 0⟩
    have hu : (⟨setF fs 1 ⟨[], 0⟩, 2, [(m, 0)], [.create w 1], 268435456, false, -1, false⟩ : DkS).used ≤ 2 * (50 + 0) := hu
    rw [append_on (d := ⟨setF fs 1 ⟨[], 0⟩, 2, [(m, 0)], [.create w 1], 268435456, false, -1, false⟩) (k := 1) rfl hw rfl lw1 (by
      show (((⟨setF fs 1 ⟨[], 0⟩, 2, [(m, 0)], [.create w 1], 268435456, false, -1, false⟩ : DkS).used : Nat) : Int) + (b.length : Int) ≤ 268435456
      omega)]
    unfold DkS.setFile
    rw [setF_twice]
    show ((0 : Int), (⟨setF fs 1 ⟨(setF fs 1 ⟨[], 0⟩ 1).bytes ++ b, (setF fs 1 ⟨[], 0⟩ 1).safe⟩, 2, [(m, 0)], [.create w 1], 268435456, false, -1, false⟩ : DkS)) = _
    rw [setF_same]
    rfl
  have h7 : (⟨setF fs 1 ⟨b, 0⟩, 2, [(m, 0)], [.create w 1], 268435456, false, -1, false⟩ : DkS).sync w = (0, ⟨setF fs 1 ⟨b, b.length⟩, 2, [(m, 0)], [.create w 1], 268435456, false, -1, false⟩) := by
    rw [sync_on (d := ⟨setF fs 1 ⟨b, 0⟩, 2, [(m, 0)], [.create w 1], 268435456, false, -1, false⟩) (k := 1) rfl hw rfl lw1]
    unfold DkS.setFile
    rw [setF_twice]
    show ((0 : Int), (⟨setF fs 1 ⟨(setF fs 1 ⟨b, 0⟩ 1).bytes, (setF fs 1 ⟨b, 0⟩ 1).bytes.length⟩, 2, [(m, 0)], [.create w 1], 268435456, false, -1, false⟩ : DkS)) = _
    rw [setF_same]
  have h8 : (⟨setF fs 1 ⟨b, b.length⟩, 2, [(m, 0)], [.create w 1], 268435456, false, -1, false⟩ : DkS).rename w m = (0, ⟨setF fs 1 ⟨b, b.length⟩, 2, [(m, 0)], [.create w 1, .rename w m], 268435456, false, -1, false⟩) := rename_on (k := 1) rfl hw hm rfl lw1
  have hO : Once false m w 0 1 ⟨s, s.length⟩ ⟨b, b.length⟩ ⟨setF fs 1 ⟨b, b.length⟩, 2, [(m, 0)], [.create w 1, .rename w m], 268435456, false, -1, false⟩ :=
    ⟨.inr ⟨rfl, o1, lw, fun x hx => by obtain rfl := List.mem_singleton.1 hx; exact (by decide : (0 : Nat) ≠ 1), [], rfl, fun _ h => (List.not_mem_nil h).elim⟩, (by decide : (0 : Nat) < 2), (by decide : (1 : Nat) < 2), hf0, setF_same fs 1 ⟨b, b.length⟩⟩
  refine ⟨_, _, _, _, _, _, _, _, h1, h2, h3, h4, h5, h6, h7, h8, hO, _, settle_on rfl rfl, ⟨.inl ⟨hO.now hmw (by decide), fun _ h => (List.not_mem_nil h).elim⟩, hO.n1, hO.n2, hO.e1, hO.e2⟩⟩
end Go.Proofs.YtmkofejijkabnaaGreatDoor
/- A LOG OF TAGS ON A DISK, plainly: what each call does; what stands behind calls while the power is on. -/
namespace Go.Proofs.YtmkofejijkabnaaGreatDoor
def tagsN : Tx := [116, 97, 103, 115]
def freshN : Tx := [116, 97, 103, 115, 46, 110, 101, 119]
/-- calls, until one tells an error -/
def goesD (d : DkS) : List (DkS → Int × DkS) → Int × DkS
  | [] => (0, d)
  | f :: r => if (f d).1 ≠ 0 then f d else goesD (f d).2 r
def clearD (d : DkS) : Int × DkS := if d.list.contains freshN then d.remove freshN else (0, d)
def layX (d : DkS) (b : List UInt8) : Int × DkS := goesD d [clearD, fun d => d.create freshN, fun d => d.append freshN b, fun d => d.sync freshN, fun d => d.rename freshN tagsN, fun d => d.settle]
def layB (m : Tgs) : List (List UInt8) := m.map fun x => setBd x.1 x.2
def layD (d : DkS) (m : Tgs) : Int × DkS := layX d (magicB ++ jrn (layB m))
theorem goesD_nil (d : DkS) : goesD d [] = (0, d) := rfl
theorem goesD_ok {d d' : DkS} {f : DkS → Int × DkS} {r : List (DkS → Int × DkS)} (h : f d = (0, d')) : goesD d (f :: r) = goesD d' r := by
  show (if (f d).1 ≠ 0 then f d else goesD (f d).2 r) = _
  rw [h, if_neg (by simp)]
theorem tags_may : nameP tagsN = true := by decide
theorem fresh_may : nameP freshN = true := by decide
theorem put_fresh (f M : Nat) : SM.put ([(tagsN, f)] : Fol) (freshN, M) = [(tagsN, f), (freshN, M)] := by
  unfold SM.put SM.lo SM.hi
  rw [List.filter_cons_of_pos (by show decide (tagsN < freshN) = true; decide), List.filter_cons_of_neg (by show ¬ decide (freshN < tagsN) = true; decide)]
  rfl
theorem ren_fresh (f M : Nat) : doD [(tagsN, f), (freshN, M)] (.rename freshN tagsN) = [(tagsN, M)] := by
  have h1 : SM.look ([(tagsN, f), (freshN, M)] : Fol) freshN = some M := by
    unfold SM.look
    rw [List.find?_cons_of_neg (by show ¬ (tagsN == freshN) = true; decide), List.find?_cons_of_pos (by show (freshN == freshN) = true; decide)]
    rfl
  have h2 : delF [(tagsN, f), (freshN, M)] freshN = [(tagsN, f)] := by
    unfold delF
    rw [List.filter_cons_of_pos (by show (tagsN != freshN) = true; decide), List.filter_cons_of_neg (by show ¬ (freshN != freshN) = true; decide)]
    rfl
  unfold doD
  simp only
  rw [h1]
  simp only
  rw [h2]
  show SM.put [(tagsN, f)] (tagsN, M) = _
  unfold SM.put SM.lo SM.hi
  rw [List.filter_cons_of_neg (by show ¬ decide (tagsN < tagsN) = true; decide), List.filter_cons_of_neg (by show ¬ decide (tagsN < tagsN) = true; decide)]
  rfl
theorem ren_first (M : Nat) : doD [(freshN, M)] (.rename freshN tagsN) = [(tagsN, M)] := by
  have h1 : SM.look ([(freshN, M)] : Fol) freshN = some M := by
    unfold SM.look
    rw [List.find?_cons_of_pos (by show (freshN == freshN) = true; decide)]
    rfl
  have h2 : delF [(freshN, M)] freshN = [] := by
    unfold delF
    rw [List.filter_cons_of_neg (by show ¬ (freshN != freshN) = true; decide)]
    rfl
  unfold doD
  simp only
  rw [h1]
  simp only
  rw [h2]
  rfl
/-- the steps of laying anew, the folder being S, and T with the fresh file -/
theorem lay_on {fs : Nat → FileS} {M : Nat} {S T : Fol} {q : Int} {dn : Bool} {b : List UInt8} (hS : (S.map (·.1)).contains freshN = false) (hl : SM.look S freshN = none) (hn : S.length < 8192) (hT : SM.put S (freshN, M) = T) (hlT : SM.look T freshN = some M) (hr : doD T (.rename freshN tagsN) = [(tagsN, M)])
    (hu : ((T.map fun x => (setF fs M ⟨[], 0⟩ x.2).bytes.length).sum : Int) + (b.length : Int) ≤ q) :
    layX ⟨fs, M, S, [], q, false, -1, dn⟩ b = (0, ⟨setF fs M ⟨b, b.length⟩, M + 1, [(tagsN, M)], [], q, false, -1, dn⟩) := by
  unfold layX
  have hc : clearD ⟨fs, M, S, [], q, false, -1, dn⟩ = (0, ⟨fs, M, S, [], q, false, -1, dn⟩) := by
    unfold clearD
    rw [if_neg (by show ¬ ((S.map (·.1)).contains freshN = true); rw [hS]; decide)]
  rw [goesD_ok hc]
  have h1 : (⟨fs, M, S, [], q, false, -1, dn⟩ : DkS).create freshN = (0, ⟨setF fs M ⟨[], 0⟩, M + 1, S, [.create freshN M], q, false, -1, dn⟩) := create_on rfl fresh_may rfl hl hn
  rw [goesD_ok h1]
  have hnow : ∀ (gs : Nat → FileS), (⟨gs, M + 1, S, [.create freshN M], q, false, -1, dn⟩ : DkS).now = T := fun gs => hT
  have h2 : (⟨setF fs M ⟨[], 0⟩, M + 1, S, [.create freshN M], q, false, -1, dn⟩ : DkS).append freshN b = (0, ⟨setF fs M ⟨b, 0⟩, M + 1, S, [.create freshN M], q, false, -1, dn⟩) := by
    rw [append_on (k := M) rfl fresh_may rfl (by rw [hnow]; exact hlT) (by
      show ((((⟨setF fs M ⟨[], 0⟩, M + 1, S, [.create freshN M], q, false, -1, dn⟩ : DkS).now.map fun x => (setF fs M ⟨[], 0⟩ x.2).bytes.length).sum : Nat) : Int) + _ ≤ q
      rw [hnow]; exact hu)]
    unfold DkS.setFile
    dsimp only
    rw [setF_twice, setF_same]
    rfl
  rw [goesD_ok h2]
  have h3 : (⟨setF fs M ⟨b, 0⟩, M + 1, S, [.create freshN M], q, false, -1, dn⟩ : DkS).sync freshN = (0, ⟨setF fs M ⟨b, b.length⟩, M + 1, S, [.create freshN M], q, false, -1, dn⟩) := by
    rw [sync_on (k := M) rfl fresh_may rfl (by rw [hnow]; exact hlT)]
    unfold DkS.setFile
    dsimp only
    rw [setF_twice, setF_same]
  rw [goesD_ok h3]
  have h4 : (⟨setF fs M ⟨b, b.length⟩, M + 1, S, [.create freshN M], q, false, -1, dn⟩ : DkS).rename freshN tagsN = (0, ⟨setF fs M ⟨b, b.length⟩, M + 1, S, [.create freshN M, .rename freshN tagsN], q, false, -1, dn⟩) := rename_on rfl fresh_may tags_may rfl (by rw [hnow]; exact hlT)
  rw [goesD_ok h4]
  have h5 : (⟨setF fs M ⟨b, b.length⟩, M + 1, S, [.create freshN M, .rename freshN tagsN], q, false, -1, dn⟩ : DkS).settle = (0, ⟨setF fs M ⟨b, b.length⟩, M + 1, [(tagsN, M)], [], q, false, -1, dn⟩) := by
    rw [settle_on rfl rfl]
    have : (⟨setF fs M ⟨b, b.length⟩, M + 1, S, [.create freshN M, .rename freshN tagsN], q, false, -1, dn⟩ : DkS).now = [(tagsN, M)] := by
      show doD (SM.put S (freshN, M)) (.rename freshN tagsN) = _
      rw [hT, hr]
    rw [this]
  rw [goesD_ok h5, goesD_nil]
theorem lay_first {fs : Nat → FileS} {M : Nat} {q : Int} {dn : Bool} {b : List UInt8} (hb : (b.length : Int) ≤ q) :
    layX ⟨fs, M, [], [], q, false, -1, dn⟩ b = (0, ⟨setF fs M ⟨b, b.length⟩, M + 1, [(tagsN, M)], [], q, false, -1, dn⟩) :=
  lay_on (T := [(freshN, M)]) rfl rfl (by simp) rfl (by
    unfold SM.look
    rw [List.find?_cons_of_pos (by show (freshN == freshN) = true; decide)]
    rfl) (ren_first M) (by simpa [setF] using hb)
theorem lay_again {fs : Nat → FileS} {f M : Nat} {q : Int} {dn : Bool} {b : List UInt8} (hf : f < M) (hb : ((fs f).bytes.length : Int) + (b.length : Int) ≤ q) :
    layX ⟨fs, M, [(tagsN, f)], [], q, false, -1, dn⟩ b = (0, ⟨setF fs M ⟨b, b.length⟩, M + 1, [(tagsN, M)], [], q, false, -1, dn⟩) :=
  lay_on (T := [(tagsN, f), (freshN, M)]) (show ([tagsN] : List Tx).contains freshN = false by decide) (by
    unfold SM.look
    rw [List.find?_cons_of_neg (by show ¬ (tagsN == freshN) = true; decide)]
    rfl) (by simp) (put_fresh f M) (by
    unfold SM.look
    rw [List.find?_cons_of_neg (by show ¬ (tagsN == freshN) = true; decide), List.find?_cons_of_pos (by show (freshN == freshN) = true; decide)]
    rfl) (ren_fresh f M) (by
    have h1 : f ≠ M := by omega
    simp only [List.map_cons, List.map_nil, List.sum_cons, List.sum_nil, setF, if_neg h1, if_true, List.length_nil, Nat.add_zero]
    exact hb)
/-- the log, its disk and its tags -/
structure LogS where
  d : DkS
  m : Tgs
  off : Bool
def LogS.app (x : LogS) (body : List UInt8) : Int × LogS :=
  ((goesD x.d [fun d => d.append tagsN (frameB body), fun d => d.sync tagsN]).1,
    ⟨(goesD x.d [fun d => d.append tagsN (frameB body), fun d => d.sync tagsN]).2, if (goesD x.d [fun d => d.append tagsN (frameB body), fun d => d.sync tagsN]).1 = 0 then (doesB x.m body).1 else x.m, x.off || (goesD x.d [fun d => d.append tagsN (frameB body), fun d => d.sync tagsN]).1 == 25⟩)
def LogS.set (x : LogS) (t : Tx) (g : Dg) : Int × LogS := if x.off then (25, x) else if !tagP t then (1, x) else if (SM.look x.m t).isNone && decide (64 ≤ x.m.length) then (42, x) else x.app (setBd t g)
def LogS.drop (x : LogS) (t : Tx) : Int × LogS := if x.off then (25, x) else if !tagP t then (1, x) else if (SM.look x.m t).isNone then (6, x) else x.app (dropBd t)
def LogS.anew (x : LogS) : Int × LogS := if x.off then (25, x) else ((layD x.d x.m).1, ⟨(layD x.d x.m).2, x.m, x.off || (layD x.d x.m).1 == 25⟩)
/-- behind n calls, the power on: the journal's bodies are l -/
structure LOk (q : Int) (x : LogS) (l : List (List UInt8)) (n : Nat) : Prop where
  d : ∃ fs M f dn, x.d = ⟨fs, M, [(tagsN, f)], [], q, false, -1, dn⟩ ∧ f < M ∧ (fs f).bytes = magicB ++ jrn l
  off : x.off = false
  all : AllB [] l
  run : runB [] l = x.m
  srt : SM.Srt x.m
  tg : ∀ y ∈ x.m, tagP y.1 = true ∧ y.2.length = 32
  few : x.m.length ≤ 64
  len : l.length ≤ 64 + n
  bd : ∀ b ∈ l, b.length ≤ 98
theorem tag_len {t : Tx} (h : tagP t = true) : t.length ≤ 64 := by
  unfold tagP at h
  simp only [Bool.and_eq_true, decide_eq_true_eq] at h
  exact h.1.1.2
theorem jrn_len : ∀ (l : List (List UInt8)), (∀ b ∈ l, b.length ≤ 98) → (jrn l).length ≤ l.length * 106
  | [], _ => by simp [jrn]
  | b :: l, h => by
    rw [jrn_cons, List.length_append, frame_len, List.length_cons]
    have h1 := h b (by simp)
    have h2 := jrn_len l (fun x hx => h x (by simp [hx]))
    omega
theorem runB_snoc (m : Tgs) (l : List (List UInt8)) (b : List UInt8) : runB m (l ++ [b]) = (doesB (runB m l) b).1 := by
  unfold runB
  rw [List.foldl_append]; rfl
theorem allB_snoc : ∀ (l : List (List UInt8)) (m : Tgs) (b : List UInt8), AllB m l → b.length < 65536 → (doesB (runB m l) b).2 = true → AllB m (l ++ [b])
  | [], _, _, _, h1, h2 => ⟨h1, h2, trivial⟩
  | _ :: l, _, b, h, h1, h2 => ⟨h.1, h.2.1, allB_snoc l _ b h.2.2 h1 h2⟩
theorem jrn_snoc (l : List (List UInt8)) (b : List UInt8) : jrn (l ++ [b]) = jrn l ++ frameB b := by simp [jrn]
/-- a body that says something is appended -/
theorem LOk.app {q : Int} {x : LogS} {l : List (List UInt8)} {n : Nat} (h : LOk q x l n) (hq : 30000 ≤ q) (hn : n ≤ 60) {b : List UInt8} (hb : b.length ≤ 98) (hd : (doesB x.m b).2 = true) (hs : SM.Srt (doesB x.m b).1) (ht : ∀ y ∈ (doesB x.m b).1, tagP y.1 = true ∧ y.2.length = 32) (hf : (doesB x.m b).1.length ≤ 64) :
    (x.app b).1 = 0 ∧ LOk q (x.app b).2 (l ++ [b]) (n + 1) ∧ (x.app b).2.m = (doesB x.m b).1 := by
  obtain ⟨fs, M, f, dn, hxd, hfM, hby⟩ := h.d
  have hjl := jrn_len l h.bd
  have hll := h.len
  have hlk : SM.look ([(tagsN, f)] : Fol) tagsN = some f := by
    unfold SM.look
    rw [List.find?_cons_of_pos (by show (tagsN == tagsN) = true; decide)]
    rfl
  have hlen : (fs f).bytes.length = 8 + (jrn l).length := by rw [hby, List.length_append, magic_len]
  have h1 : x.d.append tagsN (frameB b) = (0, ⟨setF fs f ⟨(fs f).bytes ++ frameB b, (fs f).safe⟩, M, [(tagsN, f)], [], q, false, -1, dn⟩) := by
    rw [hxd]
    rw [append_on (d := ⟨fs, M, [(tagsN, f)], [], q, false, -1, dn⟩) (b := frameB b) (k := f) rfl tags_may rfl hlk (by
      show (((([(tagsN, f)] : Fol).map fun x => (fs x.2).bytes.length).sum : Nat) : Int) + _ ≤ q
      simp only [List.map_cons, List.map_nil, List.sum_cons, List.sum_nil, Nat.add_zero, frame_len]
      rw [hlen]
      omega)]
    rfl
  have h2 : (⟨setF fs f ⟨(fs f).bytes ++ frameB b, (fs f).safe⟩, M, [(tagsN, f)], [], q, false, -1, dn⟩ : DkS).sync tagsN = (0, ⟨setF fs f ⟨(fs f).bytes ++ frameB b, ((fs f).bytes ++ frameB b).length⟩, M, [(tagsN, f)], [], q, false, -1, dn⟩) := by
    rw [sync_on (d := ⟨setF fs f ⟨(fs f).bytes ++ frameB b, (fs f).safe⟩, M, [(tagsN, f)], [], q, false, -1, dn⟩) (k := f) rfl tags_may rfl hlk]
    unfold DkS.setFile
    dsimp only
    rw [setF_twice, setF_same]
  have hg : goesD x.d [fun d => d.append tagsN (frameB b), fun d => d.sync tagsN] = (0, ⟨setF fs f ⟨(fs f).bytes ++ frameB b, ((fs f).bytes ++ frameB b).length⟩, M, [(tagsN, f)], [], q, false, -1, dn⟩) := by
    rw [goesD_ok (f := fun d => d.append tagsN (frameB b)) h1, goesD_ok (f := fun d => d.sync tagsN) h2, goesD_nil]
  unfold LogS.app
  rw [hg]
  refine ⟨rfl, ⟨⟨_, M, f, dn, rfl, hfM, ?_⟩, ?_, ?_, ?_, ?_, ?_, ?_, ?_, ?_⟩, by simp⟩
  · rw [setF_same, jrn_snoc, ← List.append_assoc, ← hby]
  · simp [h.off]
  · exact allB_snoc l [] b h.all (by omega) (by rw [h.run]; exact hd)
  · rw [runB_snoc, h.run]; simp
  · simpa using hs
  · simpa using ht
  · simpa using hf
  · rw [List.length_append]; simp; omega
  · intro c hc
    rcases List.mem_append.1 hc with hc | hc
    · exact h.bd c hc
    · obtain rfl : c = b := by simpa using hc
      exact hb
theorem len_byte {t : Tx} (h : t.length ≤ 64) : (UInt8.ofNat t.length).toNat = t.length := by
  rw [UInt8.toNat_ofNat']
  exact Nat.mod_eq_of_lt (by omega)
theorem set_does (m : Tgs) {t : Tx} {g : Dg} (ht : tagP t = true) (hg : g.length = 32) : doesB m (setBd t g) = (SM.put m (t, g), decide ((SM.put m (t, g)).length ≤ 64)) := by
  have hl := len_byte (tag_len ht)
  unfold setBd doesB
  simp only
  rw [hl, List.take_left' rfl, List.drop_left' rfl, if_neg (by rw [List.length_append]; omega), if_neg (by rw [ht]; decide), if_pos ⟨trivial, hg⟩]
theorem drop_does (m : Tgs) {t : Tx} (ht : tagP t = true) : doesB m (dropBd t) = (m.filter (fun x => x.1 != t), true) := by
  have hl := len_byte (tag_len ht)
  unfold dropBd doesB
  simp only
  rw [hl, List.take_length, List.drop_length, if_neg (by omega), if_neg (by rw [ht]; decide), if_neg (by simp), if_pos ⟨trivial, rfl⟩]
theorem look_put_len {m : Tgs} (h : SM.Srt m) (t : Tx) (g : Dg) : (SM.put m (t, g)).length = if (SM.look m t).isSome then m.length else m.length + 1 := h.length_put (t, g)
theorem LOk.set {q : Int} {x : LogS} {l : List (List UInt8)} {n : Nat} (h : LOk q x l n) (hq : 30000 ≤ q) (hn : n ≤ 60) (t : Tx) {g : Dg} (hg : g.length = 32) :
    ∃ l', LOk q (x.set t g).2 l' (n + 1) := by
  have hup : LOk q x l (n + 1) := { h with len := by have := h.len; omega }
  unfold LogS.set
  rw [h.off, if_neg (by decide)]
  cases ht : tagP t with
  | false => exact ⟨l, hup⟩
  | true =>
    rw [if_neg (by decide)]
    by_cases hfull : ((SM.look x.m t).isNone && decide (64 ≤ x.m.length)) = true
    · rw [if_pos hfull]; exact ⟨l, hup⟩
    · rw [if_neg hfull]
      have hd := set_does x.m ht hg
      have hlen : (SM.put x.m (t, g)).length ≤ 64 := by
        rw [look_put_len h.srt]
        have h64 := h.few
        cases hl : SM.look x.m t with
        | none =>
          rw [hl] at hfull
          have : ¬ 64 ≤ x.m.length := fun e => hfull (by simp [e])
          simp; omega
        | some v => simpa using h64
      refine ⟨_, (h.app hq hn (b := setBd t g) ?_ ?_ ?_ ?_ ?_).2.1⟩
      · have := tag_len ht
        simp only [setBd, List.length_cons, List.length_append]
        omega
      · rw [hd]; exact decide_eq_true hlen
      · rw [hd]; exact h.srt.put (t, g)
      · rw [hd]
        intro y hy
        rcases SM.mem_put.1 hy with rfl | ⟨hy, -⟩
        · exact ⟨ht, hg⟩
        · exact h.tg y hy
      · rw [hd]; exact hlen
theorem LOk.drop {q : Int} {x : LogS} {l : List (List UInt8)} {n : Nat} (h : LOk q x l n) (hq : 30000 ≤ q) (hn : n ≤ 60) (t : Tx) :
    ∃ l', LOk q (x.drop t).2 l' (n + 1) := by
  have hup : LOk q x l (n + 1) := { h with len := by have := h.len; omega }
  unfold LogS.drop
  rw [h.off, if_neg (by decide)]
  cases ht : tagP t with
  | false => exact ⟨l, hup⟩
  | true =>
    rw [if_neg (by decide)]
    by_cases hno : (SM.look x.m t).isNone = true
    · rw [if_pos hno]; exact ⟨l, hup⟩
    · rw [if_neg hno]
      have hd := drop_does x.m ht
      refine ⟨_, (h.app hq hn (b := dropBd t) ?_ ?_ ?_ ?_ ?_).2.1⟩
      · have := tag_len ht
        simp only [dropBd, List.length_cons]
        omega
      · rw [hd]
      · rw [hd]; exact h.srt.filter _
      · rw [hd]; exact fun y hy => h.tg y (List.mem_filter.1 hy).1
      · rw [hd]; exact Nat.le_trans (List.length_filter_le _ _) h.few
theorem put_last {a : Tgs} {y : Tx × Dg} (h : ∀ x ∈ a, x.1 < y.1) : SM.put a y = a ++ [y] := by
  unfold SM.put SM.lo SM.hi
  rw [List.filter_eq_self.2 (fun x hx => by simpa using h x hx), List.filter_eq_nil_iff.2 (fun x hx => by simpa using tx_asymm (h x hx))]
theorem runB_append (m : Tgs) (a b : List (List UInt8)) : runB m (a ++ b) = runB (runB m a) b := by unfold runB; rw [List.foldl_append]
theorem lay_run : ∀ (r a : Tgs), SM.Srt (a ++ r) → (∀ y ∈ r, tagP y.1 = true ∧ y.2.length = 32) → (a ++ r).length ≤ 64 → runB a (layB r) = a ++ r ∧ AllB a (layB r)
  | [], a, _, _, _ => ⟨by simp [layB, runB], trivial⟩
  | y :: r, a, hs, ht, hl => by
    have hty := ht y (by simp)
    have hd := set_does a hty.1 hty.2
    have hlt : ∀ x ∈ a, x.1 < y.1 := fun x hx => by
      unfold SM.Srt at hs
      rw [List.pairwise_append] at hs
      exact hs.2.2 x hx y (by simp)
    have hp : SM.put a (y.1, y.2) = a ++ [y] := put_last hlt
    have e : a ++ y :: r = (a ++ [y]) ++ r := by simp
    rw [e] at hs hl ⊢
    obtain ⟨h1, h2⟩ := lay_run r (a ++ [y]) hs (fun z hz => ht z (by simp [hz])) hl
    have hdo : doesB a (setBd y.1 y.2) = (a ++ [y], true) := by
      rw [hd, hp]
      congr 1
      refine decide_eq_true ?_
      rw [List.length_append] at hl
      omega
    refine ⟨?_, ?_, ?_, ?_⟩
    · show runB (doesB a (setBd y.1 y.2)).1 (layB r) = _
      rw [hdo]; exact h1
    · have := tag_len hty.1
      have := hty.2
      simp only [setBd, List.length_cons, List.length_append]
      omega
    · rw [hdo]
    · rw [hdo]; exact h2
theorem layB_len (m : Tgs) : (layB m).length = m.length := by simp [layB]
theorem LOk.anew {q : Int} {x : LogS} {l : List (List UInt8)} {n : Nat} (h : LOk q x l n) (hq : 30000 ≤ q) (hn : n ≤ 60) :
    x.anew.1 = 0 ∧ x.anew.2.m = x.m ∧ LOk q x.anew.2 (layB x.m) (n + 1) := by
  obtain ⟨fs, M, f, dn, hxd, hfM, hby⟩ := h.d
  have hjl := jrn_len l h.bd
  have hll := h.len
  have h64 := h.few
  have hbd : ∀ b ∈ layB x.m, b.length ≤ 98 := fun b hb => by
    obtain ⟨y, hy, rfl⟩ := List.mem_map.1 hb
    have h1 := h.tg y hy
    have := tag_len h1.1
    have := h1.2
    simp only [setBd, List.length_cons, List.length_append]
    omega
  have hj2 := jrn_len (layB x.m) hbd
  rw [layB_len] at hj2
  have hlen : (fs f).bytes.length = 8 + (jrn l).length := by rw [hby, List.length_append, magic_len]
  have hlay : layD x.d x.m = (0, ⟨setF fs M ⟨magicB ++ jrn (layB x.m), (magicB ++ jrn (layB x.m)).length⟩, M + 1, [(tagsN, M)], [], q, false, -1, dn⟩) := by
    unfold layD
    rw [hxd]
    refine lay_again hfM ?_
    rw [hlen, List.length_append, magic_len]
    omega
  obtain ⟨hr, ha⟩ := lay_run x.m [] h.srt h.tg (by simpa using h64)
  unfold LogS.anew
  rw [h.off, if_neg (by decide), hlay]
  refine ⟨rfl, rfl, ⟨_, M + 1, M, dn, rfl, Nat.lt_succ_self _, by rw [setF_same]⟩, by simp, ha, hr, h.srt, h.tg, h.few, by rw [layB_len]; omega, hbd⟩
/-- a log that was just opened on a new disk -/
theorem LOk.start {q : Int} (hq : 30000 ≤ q) : ∃ d, layD (newDk q) [] = (0, d) ∧ LOk q ⟨d, [], false⟩ [] 0 := by
  have hlay : layD (newDk q) [] = (0, ⟨setF (fun _ => ⟨[], 0⟩) 0 ⟨magicB, 8⟩, 1, [(tagsN, 0)], [], q, false, -1, false⟩) := lay_first (b := magicB) (by rw [magic_len]; omega)
  exact ⟨_, hlay, ⟨_, 1, 0, false, rfl, by decide, by rw [setF_same]; simp [jrn]⟩, rfl, trivial, rfl, SM.Srt.nil, fun y hy => by simp at hy, by simp, by simp, fun b hb => by simp at hb⟩
end Go.Proofs.YtmkofejijkabnaaGreatDoor
/- tags.goes, has, clear. -/
namespace Go.Proofs.YtmkofejijkabnaaGreatDoor
open Go.RowKit
set_option maxHeartbeats 2000000 in
set_option maxRecDepth 100000 in
theorem goes_any (v : Value) (fs : List Value) (w : World) (I : Nat → World → Prop) (E : Int → World → Prop) (hsh : ∃ a n c, v = .slice a n c ∧ n = fs.length) (hn9 : fs.length ≤ 1000) (h0 : I 0 w)
    (hrd : ∀ k w', I k w' → RdV w' (fun _ => True) 1 v fs.length fs) (hk : ∀ k, k < fs.length → ∃ g first caps, fs[k]? = some (.func (.func g) first caps) ∧ (first = #[] ∨ caps = #[]) ∧ (∀ args w, (callFunc g args).run Tryz.prog w = .ok (.enter g args) w) ∧
      ∀ w', I k w' → Calls Tryz.prog g (first ++ caps) w' fun e w2 => (e = .returned (.int .i64 0) ∧ I (k + 1) w2) ∨ ∃ er : Int, er ≠ 0 ∧ e = .returned (.int .i64 er) ∧ E er w2) :
    Calls Tryz.prog 84 #[v] w fun e w' => (e = .returned (.int .i64 0) ∧ I fs.length w') ∨ ∃ er : Int, er ≠ 0 ∧ e = .returned (.int .i64 er) ∧ E er w' := by
  obtain ⟨a, n, c, hv, hn⟩ := hsh
  have HR := Keep.keep hrd; have HK := Keep.keep hk; have HN := Keep.keep hn; have H0 := Keep.keep h0
  have hn8 : (n : Int) ≤ 1000 := by omega
  clear hrd hk hn h0
  subst hv
  go_enter Tryz.func84, Tryz.ntmps84
  go_wp2_with fail
  go_loopg [8] n (fun g u8 wx => ∃ k : Nat, k + g = n ∧ u8 = .int .i64 (k : Int) ∧ Keep (I k wx))
  case atStart => exact ⟨0, by omega, rfl, H0⟩
  case round =>
    obtain ⟨k, hkg, rfl, HI⟩ := hrel
    cases gk with
    | zero =>
      obtain rfl : n = k := by omega
      go_wp2_with fail
      go_ret
      exact .inl ⟨rfl, by rw [← HN.out]; exact HI.out⟩
    | succ g =>
      have hkl : k < fs.length := by have := HN.out; omega
      obtain ⟨gf, first, caps, hf, hfc, hent, hcall⟩ := HK.out k hkl
      have hrv := HR.out k wr HI.out
      obtain ⟨b, off, hab⟩ : ∃ b off, a = some ⟨b, off, none⟩ := by
        obtain ⟨a8, c8, hv8, q1, q2, q3⟩ := hrv.shape
        injection hv8 with e1 e2 e3
        rcases q3 with q3 | ⟨b, off, q3, -⟩
        · omega
        · exact ⟨b, off, by rw [e1, q3]⟩
      subst hab
      have hcell := hrv.cell b off _ _ rfl k _ hf
      have HC := Keep.keep (hcall wr HI.out)
      clear hf hrv hcall
      rcases hfc with rfl | rfl
      · rw [Array.empty_append] at HC
        go_wp2_with fail
        refine HC.out.mono ?_
        rintro e w2 (⟨rfl, hi⟩ | ⟨er, hne, rfl, he⟩)
        · have HI2 := Keep.keep hi
          clear hi HC hcell
          go_wp2_with fail
          go_roundg g
          case measure => omega
          case rel => exact ⟨k + 1, by omega, by simp, HI2⟩
        · have HE := Keep.keep he
          have hz1 : (er == 0) = false := by rw [beq_eq_false_iff_ne]; exact hne
          have hz2 : (er != 0) = true := by rw [bne, hz1]; rfl
          clear he HC hcell
          go_wp2_with fail
          go_ret
          exact .inr ⟨er, hne, rfl, HE.out⟩
      · rw [Array.append_empty] at HC
        go_wp2_with fail
        refine HC.out.mono ?_
        rintro e w2 (⟨rfl, hi⟩ | ⟨er, hne, rfl, he⟩)
        · have HI2 := Keep.keep hi
          clear hi HC hcell
          go_wp2_with fail
          go_roundg g
          case measure => omega
          case rel => exact ⟨k + 1, by omega, by simp, HI2⟩
        · have HE := Keep.keep he
          have hz1 : (er == 0) = false := by rw [beq_eq_false_iff_ne]; exact hne
          have hz2 : (er != 0) = true := by rw [bne, hz1]; rfl
          clear he HC hcell
          go_wp2_with fail
          go_ret
          exact .inr ⟨er, hne, rfl, HE.out⟩
def strA (l : Tx) : ByteArray := ⟨l.toArray⟩
theorem contains_strA (zs : List Tx) (p : Tx) : Lib.containsS (zs.map strA) (strA p) = zs.contains p := by
  rw [Bool.eq_iff_iff, Lib.containsS_iff, List.contains_iff_mem, List.mem_map]
  constructor
  · rintro ⟨x, hx, e⟩
    have : x = p := by
      have := congrArg (fun b : ByteArray => b.data.toList) e
      exact this
    rw [← this]; exact hx
  · intro h
    exact ⟨p, h, rfl⟩
set_option maxHeartbeats 1000000 in
set_option maxRecDepth 100000 in
theorem has_any {w : World} {O : Nat → Prop} {D : Nat} {d : DkS} (h : DkAt w O D d) (hnl : d.now.length ≤ 100000) (p : Tx) :
    Calls Tryz.prog 93 #[.pointer (some ⟨D, 0, none⟩), .string ⟨p.toArray⟩] w fun e w' => e = .returned (.bool (d.list.contains p)) ∧ Below w.heap.size w w' := by
  have HL := Keep.keep (list_any may_ok h hnl)
  have hln : d.list.length ≤ 100000 := by
    unfold DkS.list
    split
    · simp
    · rw [List.length_map]; exact hnl
  generalize d.list = zs at *
  obtain ⟨cb, hcb⟩ : ∃ cb, zs.contains p = cb := ⟨_, rfl⟩
  have HCB := Keep.keep hcb
  rw [hcb]
  clear h hnl hcb
  go_enter Tryz.func93, Tryz.ntmps93
  go_wp2_with fail
  refine HL.out.mono ?_
  rintro e w2 ⟨v, rfl, ho, hb⟩
  have HB := Keep.keep hb
  have HCN : Keep (Calls Tryz.prog 135 #[v, .string ⟨p.toArray⟩] w2 fun e w' => e = .returned (.bool cb) ∧ w' = w2) := ⟨by
    rw [← HCB.out]
    have hrd := ownsV_reads ho
    obtain ⟨a8, c8, hv8, q1, q2, q3⟩ := hrd.shape
    subst hv8
    rcases q3 with q3 | ⟨b, off, rfl, -⟩
    · have hz : zs = [] := List.eq_nil_of_length_eq_zero (by omega)
      subst hz
      exact Tryz.slices_Contains_string_empty a8 c8 ⟨p.toArray⟩ w2
    · have := Tryz.slices_Contains_string b off zs.length c8 (zs.map strA) ⟨p.toArray⟩ w2 (by simp) (by omega) (fun j hj => by
        have hj' : j < zs.length := by simpa using hj
        have := hrd.cell b off _ _ rfl j (strV zs[j]) (by simp [hj'])
        rw [this]
        simp [strV, strA, hj'])
      rw [show (zs.map strA).take zs.length = zs.map strA from List.take_of_length_le (by simp)] at this
      rw [show (⟨p.toArray⟩ : ByteArray) = strA p from rfl, contains_strA] at this
      exact this⟩
  obtain ⟨a9, n9, c9, hv9⟩ : ∃ a9 n9 c9, v = .slice a9 n9 c9 := by
    obtain ⟨a8, c8, hv8, -⟩ := (ownsV_reads ho).shape
    exact ⟨a8, _, c8, hv8⟩
  subst hv9
  clear ho hb HL
  go_wp2_with fail
  refine HCN.out.mono ?_
  rintro e w3 ⟨rfl, rfl⟩
  go_wp2_with fail
  go_ret
  exact ⟨rfl, HB.out⟩
set_option maxHeartbeats 1000000 in
set_option maxRecDepth 100000 in
theorem clear_any {w : World} {O : Nat → Prop} {D : Nat} {d : DkS} (h : DkAt w O D d) (hz : FuseOk d) (hdl : d.deeds.length ≤ 1000000) (hnl : d.now.length ≤ 100000) :
    Calls Tryz.prog 86 #[.pointer (some ⟨D, 0, none⟩)] w fun e w' => e = .returned (.int .i64 (clearD d).1) ∧ DkTo w O D (clearD d).2 w' := by
  have HAT := Keep.keep h
  have HH := Keep.keep (has_any h hnl freshN)
  have HRM : Keep (∀ wq, Below w.heap.size w wq → Calls Tryz.prog 132 #[.pointer (some ⟨D, 0, none⟩), .string ⟨freshN.toArray⟩] wq fun e w' => e = .returned (.int .i64 (d.remove freshN).1) ∧ DkTo w O D (d.remove freshN).2 w') := ⟨fun wq hb => (remove_any may_ok (h.on hb) hz hdl freshN (by decide)).mono (fun e w' hh => ⟨hh.1, DkTo.mono hb hh.2⟩)⟩
  have HCL : Keep (clearD d = if d.list.contains freshN then d.remove freshN else (0, d)) := ⟨rfl⟩
  unfold freshN at HH HRM
  generalize hls : d.list.contains freshN = bl at *
  clear h hz hdl hnl
  cases bl with
  | false =>
    go_enter Tryz.func86, Tryz.ntmps86
    go_wp2_with fail
    refine HH.out.mono ?_
    rintro e w2 ⟨rfl, hb⟩
    have HB := Keep.keep hb
    have hls' : (d.list.contains [116, 97, 103, 115, 46, 110, 101, 119]) = false := hls
    rw [hls']
    clear hb HRM
    go_wp2_with fail
    go_ret
    rw [HCL.out, if_neg (by decide)]
    exact ⟨rfl, DkTo.of HAT.out HB.out⟩
  | true =>
    go_enter Tryz.func86, Tryz.ntmps86
    go_wp2_with fail
    refine HH.out.mono ?_
    rintro e w2 ⟨rfl, hb⟩
    have HR2 := Keep.keep (HRM.out w2 hb)
    have hls' : (d.list.contains [116, 97, 103, 115, 46, 110, 101, 119]) = true := hls
    rw [hls']
    clear hb HRM
    go_wp2_with fail
    refine HR2.out.mono ?_
    rintro e w3 ⟨rfl, hr⟩
    have HR3 := Keep.keep hr
    clear hr
    go_wp2_with fail
    go_ret
    rw [HCL.out]
    simp only [if_true]
    exact ⟨rfl, HR3.out⟩
end Go.Proofs.YtmkofejijkabnaaGreatDoor
/- The closures of tags.lay and of the log's append. -/
namespace Go.Proofs.YtmkofejijkabnaaGreatDoor
open Go.RowKit
/-- bounds that the walks need -/
structure DkB (d : DkS) : Prop where
  fuse : d.fuse = -1
  deeds : d.deeds.length ≤ 1000
  many : d.many ≤ 1000000
  now : d.now.length ≤ 1000
  used : d.used ≤ 1000000000
  q0 : 0 ≤ d.quota
  q1 : d.quota ≤ 268435456
  files : ∀ k, k < d.many → (d.files k).bytes.length ≤ 1000000000
theorem DkB.ok {d : DkS} (h : DkB d) : FuseOk d := by unfold FuseOk; rw [h.fuse]; decide
theorem DkTo.comp {w w1 w2 : World} {O O' : Nat → Prop} {D : Nat} {d2 : DkS} (h2 : Chg O w.heap.size w w1) (h3 : ∀ j, O' j → O j ∨ w.heap.size ≤ j) (k : DkTo w1 O' D d2 w2) : DkTo w O D d2 w2 := by
  obtain ⟨O'', g1, g2, g3⟩ := k
  refine ⟨O'', g1, h2.trans ((g2.lower h2.size).at (fun j hj ho => (h3 j ho).resolve_right (by omega))), fun j hj => ?_⟩
  rcases g3 j hj with e | e
  · exact h3 j e
  · exact .inr (Nat.le_trans h2.size e)
theorem DkTo.cell {w w1 : World} {O : Nat → Prop} {D : Nat} {d : DkS} (h : DkTo w O D d w1) {j : Nat} {v : Value} (hj : ¬ O j) (hc : w.cell? ⟨j, 0, none⟩ = some v) : w1.cell? ⟨j, 0, none⟩ = some v := by
  obtain ⟨O', h1, h2, h3⟩ := h
  rw [h2.cell (p := ⟨j, 0, none⟩) (World.block_lt_of_cell? w _ hc) hj]; exact hc
theorem DkTo.chg {w w1 : World} {O : Nat → Prop} {D : Nat} {d : DkS} (h : DkTo w O D d w1) : Chg O w.heap.size w w1 := by
  obtain ⟨O', h1, h2, h3⟩ := h
  exact h2
theorem rdB_one (w : World) (bv : Value) (l : List UInt8) (hr : Reads w (· < w.heap.size) bv l) : RdB (w.alloc (.cells #[bv] 28)) (.slice (some ⟨w.heap.size, 0, none⟩) 1 1) [l] [bv] := by
  have hal : Below w.heap.size w (w.alloc (.cells #[bv] 28)) := (Below.refl _ _).alloc (Nat.le_refl _) _
  refine ⟨RdV.new 28 [bv] 1 1 _ rfl rfl (by decide) (by show _ < (Array.push _ _).size; rw [Array.size_push]; exact Nat.lt_succ_self _), fun k x p h1 h2 => ?_⟩
  cases k with
  | zero =>
    simp at h1 h2
    subst h1 h2
    exact (hr.below hal (fun b hb => hb)).mono (fun b hb => Nat.lt_of_lt_of_le hb hal.size)
  | succ k => simp at h1
/-- what a call of the disk does, in a closure -/
def StepTo (w : World) (O : Nat → Prop) (D : Nat) (d : DkS) (r : Int × DkS) (f : FuncId) (args : Array Value) : Prop := ∀ w', DkTo w O D d w' → Calls Tryz.prog f args w' fun e w2 => e = .returned (.int .i64 r.1) ∧ DkTo w O D r.2 w2
theorem fresh_lit : (⟨#[116, 97, 103, 115, 46, 110, 101, 119]⟩ : ByteArray) = ⟨freshN.toArray⟩ := rfl
theorem tags_lit : (⟨#[116, 97, 103, 115]⟩ : ByteArray) = ⟨tagsN.toArray⟩ := rfl
set_option maxHeartbeats 1000000 in
set_option maxRecDepth 100000 in
theorem lay1_any {w : World} {O : Nat → Prop} {D bD : Nat} {d : DkS} (hO : ¬ O bD) (hc : w.cell? ⟨bD, 0, none⟩ = some (.pointer (some ⟨D, 0, none⟩))) (hb : DkB d) : StepTo w O D d (clearD d) 85 #[.pointer (some ⟨bD, 0, none⟩)] := by
  intro w' ht
  have c0 := ht.cell hO hc
  obtain ⟨O', h1, h2, h3⟩ := ht
  have HC := Keep.keep ((clear_any h1 hb.ok (by have := hb.deeds; omega) (by have := hb.now; omega)).mono (fun e w2 hr => (⟨hr.1, DkTo.comp h2 h3 hr.2⟩ : e = .returned (.int .i64 (clearD d).1) ∧ DkTo w O D (clearD d).2 w2)))
  generalize clearD d = r at *
  clear h1 h2 h3 hc hb hO
  try unfold freshN at HC
  try unfold tagsN at HC
  go_enter Tryz.func85, Tryz.ntmps85
  go_wp2_with fail
  refine HC.out.mono ?_
  rintro e w2 ⟨rfl, hr⟩
  have HR := Keep.keep hr
  clear hr HC c0
  go_wp2_with fail
  go_ret
  exact ⟨rfl, HR.out⟩
set_option maxHeartbeats 1000000 in
set_option maxRecDepth 100000 in
theorem lay2_any {w : World} {O : Nat → Prop} {D bD : Nat} {d : DkS} (hO : ¬ O bD) (hc : w.cell? ⟨bD, 0, none⟩ = some (.pointer (some ⟨D, 0, none⟩))) (hb : DkB d) : StepTo w O D d (d.create freshN) 87 #[.pointer (some ⟨bD, 0, none⟩)] := by
  intro w' ht
  have c0 := ht.cell hO hc
  obtain ⟨O', h1, h2, h3⟩ := ht
  have HC := Keep.keep ((create_any may_ok h1 hb.ok (by have := hb.deeds; omega) (by have := hb.many; omega) (by have := hb.now; omega) freshN (by decide)).mono (fun e w2 hr => (⟨hr.1, DkTo.comp h2 h3 hr.2⟩ : e = .returned (.int .i64 (d.create freshN).1) ∧ DkTo w O D (d.create freshN).2 w2)))
  generalize d.create freshN = r at *
  clear h1 h2 h3 hc hb hO
  try unfold freshN at HC
  try unfold tagsN at HC
  go_enter Tryz.func87, Tryz.ntmps87
  go_wp2_with fail
  refine HC.out.mono ?_
  rintro e w2 ⟨rfl, hr⟩
  have HR := Keep.keep hr
  clear hr HC c0
  go_wp2_with fail
  go_ret
  exact ⟨rfl, HR.out⟩
set_option maxHeartbeats 1000000 in
set_option maxRecDepth 100000 in
theorem lay4_any {w : World} {O : Nat → Prop} {D bD : Nat} {d : DkS} (hO : ¬ O bD) (hc : w.cell? ⟨bD, 0, none⟩ = some (.pointer (some ⟨D, 0, none⟩))) (hb : DkB d) : StepTo w O D d (d.sync freshN) 89 #[.pointer (some ⟨bD, 0, none⟩)] := by
  intro w' ht
  have c0 := ht.cell hO hc
  obtain ⟨O', h1, h2, h3⟩ := ht
  have HC := Keep.keep ((sync_any may_ok h1 hb.ok freshN (by decide)).mono (fun e w2 hr => (⟨hr.1, DkTo.comp h2 h3 hr.2⟩ : e = .returned (.int .i64 (d.sync freshN).1) ∧ DkTo w O D (d.sync freshN).2 w2)))
  generalize d.sync freshN = r at *
  clear h1 h2 h3 hc hb hO
  try unfold freshN at HC
  try unfold tagsN at HC
  go_enter Tryz.func89, Tryz.ntmps89
  go_wp2_with fail
  refine HC.out.mono ?_
  rintro e w2 ⟨rfl, hr⟩
  have HR := Keep.keep hr
  clear hr HC c0
  go_wp2_with fail
  go_ret
  exact ⟨rfl, HR.out⟩
set_option maxHeartbeats 1000000 in
set_option maxRecDepth 100000 in
theorem lay5_any {w : World} {O : Nat → Prop} {D bD : Nat} {d : DkS} (hO : ¬ O bD) (hc : w.cell? ⟨bD, 0, none⟩ = some (.pointer (some ⟨D, 0, none⟩))) (hb : DkB d) : StepTo w O D d (d.rename freshN tagsN) 91 #[.pointer (some ⟨bD, 0, none⟩)] := by
  intro w' ht
  have c0 := ht.cell hO hc
  obtain ⟨O', h1, h2, h3⟩ := ht
  have HC := Keep.keep ((rename_any may_ok h1 hb.ok (by have := hb.deeds; omega) (by have := hb.now; omega) freshN tagsN (by decide) (by decide)).mono (fun e w2 hr => (⟨hr.1, DkTo.comp h2 h3 hr.2⟩ : e = .returned (.int .i64 (d.rename freshN tagsN).1) ∧ DkTo w O D (d.rename freshN tagsN).2 w2)))
  generalize d.rename freshN tagsN = r at *
  clear h1 h2 h3 hc hb hO
  try unfold freshN at HC
  try unfold tagsN at HC
  go_enter Tryz.func91, Tryz.ntmps91
  go_wp2_with fail
  refine HC.out.mono ?_
  rintro e w2 ⟨rfl, hr⟩
  have HR := Keep.keep hr
  clear hr HC c0
  go_wp2_with fail
  go_ret
  exact ⟨rfl, HR.out⟩
set_option maxHeartbeats 1000000 in
set_option maxRecDepth 100000 in
theorem lay3_any {w : World} {O : Nat → Prop} {D bD bB : Nat} {d : DkS} (hO : ¬ O bD) (hO2 : ¬ O bB) (hc : w.cell? ⟨bD, 0, none⟩ = some (.pointer (some ⟨D, 0, none⟩))) (bv : Value) (l : List UInt8) (hc2 : w.cell? ⟨bB, 0, none⟩ = some bv) (hr : Reads w (fun j => j < w.heap.size ∧ ¬ O j) bv l) (hl : l.length ≤ 1000000000) (hb : DkB d) : StepTo w O D d (d.append freshN l) 88 #[.pointer (some ⟨bD, 0, none⟩), .pointer (some ⟨bB, 0, none⟩)] := by
  intro w' ht
  have c0 := ht.cell hO hc
  have c1 := ht.cell hO2 hc2
  obtain ⟨O', h1, h2, h3⟩ := ht
  have hrd : Reads w' (· < w'.heap.size) bv l := (hr.chg h2 (fun j hj => hj)).mono (fun j hj => Nat.lt_of_lt_of_le hj.1 h2.size)
  have HC : Keep (∀ wq v, Below w'.heap.size w' wq → RdB wq v [l] [bv] → Calls Tryz.prog 73 #[.pointer (some ⟨D, 0, none⟩), .string ⟨freshN.toArray⟩, v] wq fun e w2 => e = .returned (.int .i64 (d.append freshN l).1) ∧ DkTo w O D (d.append freshN l).2 w2) := ⟨fun wq v hbl hrb => by
    have hfl : ([l] : List (List UInt8)).flatten = l := by simp
    have := append_any may_ok (h1.on hbl) hb.ok hb.used hb.q0 hb.q1 hb.files freshN (by decide) v [l] [bv] hrb (by rw [hfl]; exact hl)
    rw [hfl] at this
    refine this.mono (fun e w2 hr => ⟨hr.1, DkTo.comp h2 h3 (DkTo.mono hbl hr.2)⟩)⟩
  obtain ⟨av, nv, cv, hbv⟩ : ∃ av nv cv, bv = .slice av nv cv := by
    obtain ⟨a8, c8, hv8, -⟩ := hrd.shape
    exact ⟨a8, _, c8, hv8⟩
  have HRD := Keep.keep hrd
  generalize d.append freshN l = r at *
  clear h1 h2 h3 hc hc2 hr hb hO hO2 hrd
  unfold freshN at HC
  subst hbv
  go_enter Tryz.func88, Tryz.ntmps88
  go_wp2_with fail
  refine calls_at (R := fun wq => Below w'.heap.size w' wq ∧ RdB wq (.slice (some ⟨w'.heap.size, 0, none⟩) 1 1) [l] [.slice av nv cv]) ⟨(Below.refl _ _).alloc (Nat.le_refl _) _, rdB_one w' _ l HRD.out⟩ ?_
  intro wq HQ
  refine (HC.out wq _ HQ.out.1 HQ.out.2).mono ?_
  rintro e w2 ⟨rfl, hr⟩
  have HR := Keep.keep hr
  clear hr HC HQ c0 c1
  go_wp2_with fail
  go_ret
  exact ⟨rfl, HR.out⟩
theorem settleC_any {w : World} {O : Nat → Prop} {D : Nat} {d : DkS} (hb : DkB d) : StepTo w O D d d.settle 28 #[.pointer (some ⟨D, 0, none⟩)] := by
  intro w' ht
  obtain ⟨O', h1, h2, h3⟩ := ht
  exact (settle_any may_ok h1 hb.ok).mono (fun e w2 hr => ⟨hr.1, DkTo.comp h2 h3 hr.2⟩)
end Go.Proofs.YtmkofejijkabnaaGreatDoor
/- tags.lay. -/
namespace Go.Proofs.YtmkofejijkabnaaGreatDoor
open Go.RowKit
/-- a buffer: one's own, or a full one that is read -/
def BufAt (lo : Nat) (w : World) (base : Nat) (bv : Value) (l : List UInt8) : Prop := Owns w base 5 bv l ∨ ∃ b n, lo ≤ b ∧ bv = .slice (some ⟨b, 0, none⟩) n n ∧ Reads w (fun j => j = b) bv l
theorem run_appBuf {lo : Nat} {ρ : Operand → Value} {w : World} {tp : TypeId} {d : Option Tmp} {s x : Operand} {pos : String} {af : Array Edge} {g : Option (Nat × Bool)} {base : Nat} {v xv : Value} {l m : List UInt8} {N : Nat → Prop}
    (h : BufAt lo w base v l) (hrd : Reads w N xv m) (hbd : l.length + m.length ≤ 140737488355328) (hbase : base ≤ w.heap.size) (hm : 0 < m.length) (hs : ρ s = v) (hx : ρ x = xv) :
    ∃ v' w', (execOp ρ (⟨d, .call ⟨.builtin .append, #[s, x], #[28, 28]⟩, tp, pos, af, g⟩ : Oper)).run Tryz.prog w = .ok (.value v') w' ∧ Owns w' base 5 v' (l ++ m) ∧ Below base w w' := by
  rcases h with h | ⟨b, n, -, rfl, h⟩
  · obtain ⟨v', w', h1, h2, h3, h4⟩ := run_appB (P := Tryz.prog) (d := d) (tp := tp) (pos := pos) (af := af) (g := g) slBy h hrd hbd hbase hs hx
    exact ⟨v', w', h1, h2, (Chg.grown (M := NoM) (.refl _ _ _) h3 hbase (fun k e => .inl (World.ownsRow.lt h k e).1)).below (fun _ _ h => h)⟩
  · have hn := h.len.1
    obtain ⟨v', w', h1, h2, h3, h4⟩ := run_appRead (P := Tryz.prog) (d := d) (tp := tp) (pos := pos) (af := af) (g := g) (slTy_slK slBy) (vs := bcells l) (by have := RdV.bytes h; rw [← hn] at this; exact this) (RdV.bytes hrd) (bcells_one m) (by unfold maxLen; omega) (by omega) hs hx
    rcases h3 with h3 | h3
    · omega
    · refine ⟨v', w', h1, ?_, h4.mono hbase⟩
      have : Owns w' w.heap.size 5 v' (l ++ m) := by unfold Owns; rw [List.length_append, bcells_append, ← hn]; exact h3
      exact this.mono hbase
theorem magic_cells : #[Value.int .u8 80, .int .u8 84, .int .u8 65, .int .u8 71, .int .u8 83, .int .u8 0, .int .u8 0, .int .u8 1] = (bcells magicB).toArray := rfl
theorem BufAt.on {lo : Nat} {w w' : World} {base : Nat} {bv : Value} {l : List UInt8} (h : BufAt lo w base bv l) (hb : Below w.heap.size w w') : BufAt lo w' base bv l := by
  rcases h with h | ⟨b, n, hlo, e, h⟩
  · exact .inl (ownsRow_loc _ _ (fun j ej => hb.block j (h.lt j ej).2) h)
  · by_cases hn : l.length = 0
    · refine .inr ⟨b, n, hlo, e, ?_⟩
      obtain rfl := List.eq_nil_of_length_eq_zero hn
      obtain ⟨hl, hc⟩ := h
      exact ⟨hl, fun b off m c he j hj => by cases hj⟩
    · have hlt : b < w.heap.size := by
        rw [e] at h
        exact World.block_lt_of_cell? w _ (h.cell b 0 n n rfl 0 (by omega))
      exact .inr ⟨b, n, hlo, e, h.below hb (fun j hj => by rw [hj]; exact hlt)⟩
theorem arm_appBuf {lo : Nat} {ops : Array Oper} {rest : List Oper} {a : Act} {w : World} {Q : Exit → Act → World → Prop} {tp : TypeId} {dst : Option Tmp} {s x : Operand} {pos : String} {after : Array Edge} {base : Nat} {v xv : Value} {l m : List UInt8} {N : Nat → Prop}
    (h : BufAt lo w base v l) (hrd : Reads w N xv m) (hbd : l.length + m.length ≤ 140737488355328) (hbase : base ≤ w.heap.size) (hm : 0 < m.length) (hs : a.eval s = v) (hx : a.eval x = xv)
    (k : ∀ v' w', Owns w' base 5 v' (l ++ m) → Below base w w' → wpList Tryz.prog ops Q rest (a.put dst v') w') :
    wpList Tryz.prog ops Q (⟨dst, .call ⟨.builtin .append, #[s, x], #[28, 28]⟩, tp, pos, after, none⟩ :: rest) a w := by
  obtain ⟨v', w', h1, h2, h3⟩ := run_appBuf (d := dst) (tp := tp) (pos := pos) (af := after) (g := none) h hrd hbd hbase hm hs hx
  exact wpList_run rfl h1 (k v' w' h2 h3)
theorem lay_len {m : Tgs} (htg : ∀ y ∈ m, y.1.length ≤ 64 ∧ y.2.length = 32) (hl : m.length ≤ 64) (k : Nat) : (magicB ++ jrn (layB (m.take k))).length ≤ 100000 := by
  have h := jrn_len (layB (m.take k)) (fun b hb => by
    obtain ⟨y, hy, rfl⟩ := List.mem_map.1 hb
    have := htg y (List.mem_of_mem_take hy)
    simp [setBd]; omega)
  rw [layB_len, List.length_take] at h
  rw [List.length_append, magic_len]
  omega
def lyT (mb : Nat) (bv : Value) (t : Tx) (g : Dg) : Nat → Value → World → Prop
  | 0, v, _ => v = bv
  | 1, v, _ => v = .string ⟨t.toArray⟩
  | 2, v, _ => v = .map (some mb)
  | 3, v, _ => v = .string ⟨t.toArray⟩
  | 4, v, _ => v = arrV g
  | 5, v, w => Reads w (· < w.heap.size) v (setBd t g)
  | 6, v, w => Reads w (· < w.heap.size) v (frameB (setBd t g))
  | _, _, _ => True
theorem lyT_stays {mb : Nat} {bv : Value} {t : Tx} {g : Dg} (i : Nat) (v : Value) (w w' : World) (h : lyT mb bv t g i v w) (hs : Below w.heap.size w w') : lyT mb bv t g i v w' := by
  rcases (by omega : i = 0 ∨ i = 1 ∨ i = 2 ∨ i = 3 ∨ i = 4 ∨ i = 5 ∨ i = 6 ∨ 7 ≤ i) with rfl | rfl | rfl | rfl | rfl | rfl | rfl | h8
  · exact h
  · exact h
  · exact h
  · exact h
  · exact h
  · have h : Reads w (· < w.heap.size) v (setBd t g) := h
    exact (h.below hs (fun b hb => hb)).mono (fun b hb => Nat.lt_of_lt_of_le hb hs.size)
  · have h : Reads w (· < w.heap.size) v (frameB (setBd t g)) := h
    exact (h.below hs (fun b hb => hb)).mono (fun b hb => Nat.lt_of_lt_of_le hb hs.size)
  · obtain ⟨k, rfl⟩ : ∃ k, i = k + 7 := ⟨i - 7, by omega⟩
    trivial
theorem lay_laid (w : World) (D : Nat) : Below w.heap.size w (((w.alloc (.cells #[.pointer (some ⟨D, 0, none⟩)] 24)).alloc (.cells #[Value.int .u8 80, .int .u8 84, .int .u8 65, .int .u8 71, .int .u8 83, .int .u8 0, .int .u8 0, .int .u8 1] 5 (8, 9))).alloc (.cells #[.slice (some ⟨w.heap.size + 1, 0, none⟩) 8 8] 28)) ∧
    (((w.alloc (.cells #[.pointer (some ⟨D, 0, none⟩)] 24)).alloc (.cells #[Value.int .u8 80, .int .u8 84, .int .u8 65, .int .u8 71, .int .u8 83, .int .u8 0, .int .u8 0, .int .u8 1] 5 (8, 9))).alloc (.cells #[.slice (some ⟨w.heap.size + 1, 0, none⟩) 8 8] 28)).heap.size = w.heap.size + 1 + 1 + 1 ∧
    (((w.alloc (.cells #[.pointer (some ⟨D, 0, none⟩)] 24)).alloc (.cells #[Value.int .u8 80, .int .u8 84, .int .u8 65, .int .u8 71, .int .u8 83, .int .u8 0, .int .u8 0, .int .u8 1] 5 (8, 9))).alloc (.cells #[.slice (some ⟨w.heap.size + 1, 0, none⟩) 8 8] 28)).cell? ⟨w.heap.size, 0, none⟩ = some (.pointer (some ⟨D, 0, none⟩)) ∧
    (((w.alloc (.cells #[.pointer (some ⟨D, 0, none⟩)] 24)).alloc (.cells #[Value.int .u8 80, .int .u8 84, .int .u8 65, .int .u8 71, .int .u8 83, .int .u8 0, .int .u8 0, .int .u8 1] 5 (8, 9))).alloc (.cells #[.slice (some ⟨w.heap.size + 1, 0, none⟩) 8 8] 28)).heap[w.heap.size + 1 + 1]? = some (.cells #[.slice (some ⟨w.heap.size + 1, 0, none⟩) 8 8] 28 (0, 0)) ∧
    Reads (((w.alloc (.cells #[.pointer (some ⟨D, 0, none⟩)] 24)).alloc (.cells #[Value.int .u8 80, .int .u8 84, .int .u8 65, .int .u8 71, .int .u8 83, .int .u8 0, .int .u8 0, .int .u8 1] 5 (8, 9))).alloc (.cells #[.slice (some ⟨w.heap.size + 1, 0, none⟩) 8 8] 28)) (fun j => j = w.heap.size + 1) (.slice (some ⟨w.heap.size + 1, 0, none⟩) 8 8) magicB := by
  have c1 := cell_new w (.pointer (some ⟨D, 0, none⟩)) 24
  have z1 : (w.alloc (.cells #[.pointer (some ⟨D, 0, none⟩)] 24)).heap.size = w.heap.size + 1 := Array.size_push ..
  have b1 : Below w.heap.size w (w.alloc (.cells #[.pointer (some ⟨D, 0, none⟩)] 24)) := (Below.refl _ _).alloc (Nat.le_refl _) _
  generalize w.alloc (.cells #[.pointer (some ⟨D, 0, none⟩)] 24) = W1 at *
  have r2 := Reads.lit (w := W1) 5 _ magicB (8, 9) W1.heap.size 8 rfl magic_cells rfl (by decide)
  have z2 : (W1.alloc (.cells #[Value.int .u8 80, .int .u8 84, .int .u8 65, .int .u8 71, .int .u8 83, .int .u8 0, .int .u8 0, .int .u8 1] 5 (8, 9))).heap.size = w.heap.size + 1 + 1 := by rw [← z1]; exact Array.size_push ..
  have b2 : Below W1.heap.size W1 (W1.alloc (.cells #[Value.int .u8 80, .int .u8 84, .int .u8 65, .int .u8 71, .int .u8 83, .int .u8 0, .int .u8 0, .int .u8 1] 5 (8, 9))) := (Below.refl _ _).alloc (Nat.le_refl _) _
  generalize W1.alloc (.cells #[Value.int .u8 80, .int .u8 84, .int .u8 65, .int .u8 71, .int .u8 83, .int .u8 0, .int .u8 0, .int .u8 1] 5 (8, 9)) = W2 at *
  have c3 : Row (W2.alloc (.cells #[.slice (some ⟨w.heap.size + 1, 0, none⟩) 8 8] 28)) W2.heap.size 28 #[.slice (some ⟨w.heap.size + 1, 0, none⟩) 8 8] := Row.new _ _ _
  have z3 : (W2.alloc (.cells #[.slice (some ⟨w.heap.size + 1, 0, none⟩) 8 8] 28)).heap.size = w.heap.size + 1 + 1 + 1 := by rw [← z2]; exact Array.size_push ..
  have b3 : Below W2.heap.size W2 (W2.alloc (.cells #[.slice (some ⟨w.heap.size + 1, 0, none⟩) 8 8] 28)) := (Below.refl _ _).alloc (Nat.le_refl _) _
  have b23 := b2.trans (b3.mono b2.size)
  rw [z2] at c3
  rw [z1] at r2
  exact ⟨b1.trans (b23.mono b1.size), z3, later_cell b23 c1, c3, r2.below b3 (fun j hj => by subst hj; omega)⟩
theorem zero_dig (w : World) : (zeroValue 40).run Tryz.prog w = .ok (arrV (List.replicate 32 0)) w := by kernel_rfl
theorem dgV_look (m : Tgs) (t : Tx) : SM.look (dgV m) t = (SM.look m t).map arrV := by
  unfold SM.look dgV
  rw [List.find?_map]
  cases hf : m.find? ((fun x : Tx × Value => x.1 == t) ∘ fun y : Tx × Dg => (y.1, arrV y.2)) with
  | none =>
    have : m.find? (fun x => x.1 == t) = none := hf
    rw [this]; rfl
  | some y =>
    have : m.find? (fun x => x.1 == t) = some y := hf
    rw [this]; rfl
theorem dgV_srt {m : Tgs} : SM.Srt (dgV m) ↔ SM.Srt m := by
  unfold SM.Srt dgV
  rw [List.pairwise_map]
theorem layB_snoc (m : Tgs) (k : Nat) (hk : k < m.length) : jrn (layB (m.take (k + 1))) = jrn (layB (m.take k)) ++ frameB (setBd m[k].1 m[k].2) := by
  have e : m.take (k + 1) = m.take k ++ [m[k]] := by rw [List.take_add_one, List.getElem?_eq_getElem hk]; rfl
  rw [e]
  unfold layB jrn
  rw [List.map_append, List.map_append, List.flatten_append]
  simp only [List.map_cons, List.map_nil, List.flatten_cons, List.flatten_nil, List.append_nil]
/-- the steps of laying anew, one by one -/
structure Lay6 (b : List UInt8) (d0 d1 d2 d3 d4 d5 d6 : DkS) : Prop where
  e1 : clearD d0 = (0, d1)
  e2 : d1.create freshN = (0, d2)
  e3 : d2.append freshN b = (0, d3)
  e4 : d3.sync freshN = (0, d4)
  e5 : d4.rename freshN tagsN = (0, d5)
  e6 : d5.settle = (0, d6)
  b0 : DkB d0
  b1 : DkB d1
  b2 : DkB d2
  b3 : DkB d3
  b4 : DkB d4
  b5 : DkB d5
def fs6 (bD bB D : Nat) : List Value := [.func (.func 85) #[] #[.pointer (some ⟨bD, 0, none⟩)], .func (.func 87) #[] #[.pointer (some ⟨bD, 0, none⟩)], .func (.func 88) #[] #[.pointer (some ⟨bD, 0, none⟩), .pointer (some ⟨bB, 0, none⟩)], .func (.func 89) #[] #[.pointer (some ⟨bD, 0, none⟩)], .func (.func 91) #[] #[.pointer (some ⟨bD, 0, none⟩)], .func (.func 28) #[.pointer (some ⟨D, 0, none⟩)] #[]]
set_option maxHeartbeats 4000000 in
set_option maxRecDepth 100000 in
theorem lay_any {w : World} {O : Nat → Prop} {D mb : Nat} {d0 d1 d2 d3 d4 d5 d6 : DkS} {m : Tgs} (h : DkAt w O D d0) (hm : MapS w 9 mb (dgV m)) (hT : CrcT w) (hml : m.length ≤ 64) (htg : ∀ y ∈ m, y.1.length ≤ 64 ∧ y.2.length = 32) (hL : Lay6 (magicB ++ jrn (layB m)) d0 d1 d2 d3 d4 d5 d6) :
    Calls Tryz.prog 46 #[.pointer (some ⟨D, 0, none⟩), .map (some mb)] w fun e w' => e = .returned (.int .i64 0) ∧ DkTo w O D d6 w' := by
  have HH := Keep.keep h; have HM := Keep.keep hm; have HT := Keep.keep hT; have HTG := Keep.keep htg; have HLY := Keep.keep hL; have HML := Keep.keep hml
  have kc := convB
  clear h hm hT htg hL
  go_enter Tryz.func46, Tryz.ntmps46
  go_upto_region 2 with fail
  refine wp_world (R := fun w1 => Below w.heap.size w w1 ∧ w1.heap.size = w.heap.size + 1 + 1 + 1 ∧ w1.cell? ⟨w.heap.size, 0, none⟩ = some (.pointer (some ⟨D, 0, none⟩)) ∧ Row w1 (w.heap.size + 1 + 1) 28 #[.slice (some ⟨w.heap.size + 1, 0, none⟩) 8 8] ∧ Reads w1 (fun j => j = w.heap.size + 1) (.slice (some ⟨w.heap.size + 1, 0, none⟩) 8 8) magicB) ?_ ?_
  · exact lay_laid w D
  intro w1 H1
  obtain ⟨hb1, hz1, c1, c2, hr1⟩ := H1.out
  have HB1 := Keep.keep hb1; have HZ1 := Keep.keep hz1; have C1 := Keep.keep c1; have C2 := Keep.keep c2; have HR1 := Keep.keep hr1
  have HM1 : Keep (MapS w1 9 mb (dgV m)) := ⟨HM.out.loc (hb1.block mb HM.out.lt)⟩
  have HSO := Keep.keep (sortedT_any HM1.out (by rw [dgV_len]; have := HML.out; omega))
  obtain ⟨bD, hbD⟩ : ∃ bD, w.heap.size = bD := ⟨_, rfl⟩
  obtain ⟨bB, hbB⟩ : ∃ bB, w.heap.size + 1 + 1 = bB := ⟨_, rfl⟩
  obtain ⟨bm, hbm⟩ : ∃ bm, w.heap.size + 1 = bm := ⟨_, rfl⟩
  have HBD := Keep.keep hbD; have HBB := Keep.keep hbB; have HBM := Keep.keep hbm
  rw [hbB, hbm, hbD]
  rw [hbD] at C1
  rw [hbB, hbm] at C2
  rw [hbm] at HR1
  clear hb1 hz1 c1 c2 hr1 H1 hbD hbB hbm kc
  go_wp2_with fail
  refine (keysT_any mb w1).mono ?_
  rintro e w2 ⟨rfl, rfl⟩
  go_wp2_with fail
  refine HSO.out.mono ?_
  rintro e w3 ⟨vN, rfl, hoN, hb3⟩
  rw [dgV_len] at hoN
  have hnm : (dgV m).map (·.1) = m.map (·.1) := by unfold dgV; rw [List.map_map]; rfl
  rw [hnm] at hoN
  have HB3 := Keep.keep (HB1.out.trans (hb3.mono HB1.out.size))
  have HB13 := Keep.keep hb3
  have hrN := ownsV_reads hoN
  obtain ⟨aN, nN, cN, hvN, hnN⟩ : ∃ aN nN cN, vN = .slice aN nN cN ∧ nN = m.length := by
    obtain ⟨a8, c8, hv8, -⟩ := hrN.shape
    exact ⟨a8, _, c8, hv8, rfl⟩
  have HRN : Keep (RdV w3 (fun j => w1.heap.size ≤ j ∧ j < w3.heap.size) 1 vN nN ((m.map (·.1)).map strV)) := ⟨by rw [hnN]; exact hrN.mono (fun j hj => ⟨hj.1, hj.2.1⟩)⟩
  have HNN := Keep.keep hnN
  have C13 := Keep.keep (later_cell hb3 C1.out)
  have C23 := Keep.keep (C2.out.below hb3 C2.out.lt)
  have HBf3 : Keep (BufAt w.heap.size w3 w3.heap.size (.slice (some ⟨bm, 0, none⟩) 8 8) (magicB ++ jrn (layB (m.take 0)))) := ⟨.inr ⟨bm, 8, by have := HBM.out; omega, rfl, by
    have : magicB ++ jrn (layB (m.take 0)) = magicB := by simp [layB, jrn]
    rw [this]
    exact HR1.out.below hb3 (fun j hj => by subst hj; rw [HZ1.out, ← HBM.out]; omega)⟩⟩
  have hn64 : nN ≤ 64 := by rw [hnN]; exact HML.out
  clear hoN hb3 hrN hnN HSO hnm
  subst hvN
  go_wp2_with fail
  go_loopg [14] nN (fun g u14 wx => ∃ k : Nat, k + g = nN ∧ u14 = .int .i64 (k : Int) ∧ Keep (Chg (fun j => j = bB) w3.heap.size w3 wx) ∧ ∃ bv, Keep (Row wx bB 28 #[bv]) ∧ Keep (BufAt w.heap.size wx w3.heap.size bv (magicB ++ jrn (layB (m.take k)))))
  case atStart => exact ⟨0, by omega, rfl, ⟨Chg.refl _ _ _⟩, _, C23, HBf3⟩
  case round =>
    obtain ⟨k, hkg, rfl, HCH, bv, HBV, HBF⟩ := hrel
    have hmb : mb ≠ bB := fun e => by have := HM.out.lt; have := HBB.out; omega
    have HMr : Keep (MapS wr 9 mb (dgV m)) := ⟨(HM1.out.loc (HB13.out.block mb HM1.out.lt)).loc (HCH.out.block mb (Nat.lt_of_lt_of_le HM.out.lt HB3.out.size) hmb)⟩
    cases gk with
    | zero =>
      obtain rfl : nN = k := by omega
      have hall : m.take nN = m := by rw [HNN.out, List.take_length]
      rw [hall] at HBF
      have hbDB : bD ≠ bB := fun e => by have := HBD.out; have := HBB.out; omega
      have kD : wr.cell? ⟨bD, 0, none⟩ = some (.pointer (some ⟨D, 0, none⟩)) := by
        rw [HCH.out.cell (p := ⟨bD, 0, none⟩) (World.block_lt_of_cell? w3 _ C13.out) hbDB]; exact C13.out
      have hbwr : Below w.heap.size w wr := HB3.out.trans ((HCH.out.lower HB3.out.size).below (fun j hj e => by have := HBB.out; omega))
      have HBW := Keep.keep hbwr
      have HAr : Keep (DkAt wr O D d0) := ⟨(HH.out.on HB3.out).chg HCH.out (fun j hj ho => by have := HH.out.lt j ho; have := HBB.out; omega)⟩
      have HGO : Keep (∀ wq v, Below wr.heap.size wr wq → v = .slice (some ⟨wr.heap.size, 0, none⟩) 6 6 → RdV wq (fun j => j = wr.heap.size) 1 v 6 (fs6 bD bB D) →
          wr.heap.size < wq.heap.size → Calls Tryz.prog 84 #[v] wq fun e w' => e = .returned (.int .i64 0) ∧ DkTo w O D d6 w') := ⟨by
        intro wq v hbq hv hrv hlq
        have hAq := HAr.out.on hbq
        have hcD := later_cell hbq kD
        have hOD : ¬ O bD := fun ho => by have := HH.out.lt bD ho; have := HBD.out; omega
        have hOB : ¬ O bB := fun ho => by have := HH.out.lt bB ho; have := HBB.out; omega
        have hcB : wq.cell? ⟨bB, 0, none⟩ = some bv := (HBV.out.below hbq HBV.out.lt).cell (i := 0) rfl
        have hOr : ¬ O wr.heap.size := fun ho => by have := HH.out.lt _ ho; have := hbwr.size; omega
        have hrb : Reads wq (fun j => j < wq.heap.size ∧ ¬ O j) bv (magicB ++ jrn (layB m)) := by
          rcases (HBF.out.on hbq) with ho | ⟨b, n, hlo, e, hr⟩
          · exact ho.reads.mono (fun j hj => ⟨hj.2.1, fun o => by have := HH.out.lt j o; have := HB3.out.size; omega⟩)
          · have hblt : b < wq.heap.size := by
              rw [e] at hr
              have hl0 : 0 < (magicB ++ jrn (layB m)).length := by rw [List.length_append, magic_len]; omega
              exact World.block_lt_of_cell? wq _ (hr.cell b 0 n n rfl 0 hl0)
            exact hr.mono (fun j hj => by subst hj; exact ⟨hblt, fun o => by have := HH.out.lt j o; omega⟩)
        have hll : (magicB ++ jrn (layB m)).length ≤ 1000000000 := by
          have := lay_len (m := m) (fun y hy => HTG.out y hy) HML.out nN
          rw [hall] at this; omega
        have L := HLY.out
        refine (goes_any v (fs6 bD bB D) wq (fun k w' => DkTo wq O D (([d0, d1, d2, d3, d4, d5, d6] : List DkS).getD k d6) w') (fun _ _ => False) ⟨_, _, _, hv, rfl⟩ (by show 6 ≤ 1000; decide) (DkTo.of hAq (Below.refl _ _)) (fun k w' ht => ?_) (fun k hk => ?_)).mono ?_
        · exact ((hrv.chg ht.chg (fun j hj => by subst hj; exact ⟨hlq, hOr⟩))).mono (fun _ _ => trivial)
        · have st : ∀ {d d' : DkS} {r : Int × DkS} {f : FuncId} {args : Array Value}, StepTo wq O D d r f args → r = (0, d') → ∀ w', DkTo wq O D d w' → Calls Tryz.prog f args w' fun e w2 => (e = .returned (.int .i64 0) ∧ DkTo wq O D d' w2) ∨ ∃ er : Int, er ≠ 0 ∧ e = .returned (.int .i64 er) ∧ False := fun {d d' r f args} hs hr w' ht => (hs w' ht).mono (fun e w2 h => by rw [hr] at h; exact .inl h)
          have hk : k < 6 := hk
          rcases (by omega : k = 0 ∨ k = 1 ∨ k = 2 ∨ k = 3 ∨ k = 4 ∨ k = 5) with rfl | rfl | rfl | rfl | rfl | rfl
          · exact ⟨85, #[], _, rfl, .inl rfl, enters_of Tryz.func85 (by kernel_rfl) rfl, st (lay1_any hOD hcD L.b0) L.e1⟩
          · exact ⟨87, #[], _, rfl, .inl rfl, enters_of Tryz.func87 (by kernel_rfl) rfl, st (lay2_any hOD hcD L.b1) L.e2⟩
          · exact ⟨88, #[], _, rfl, .inl rfl, enters_of Tryz.func88 (by kernel_rfl) rfl, st (lay3_any hOD hOB hcD bv _ hcB hrb hll L.b2) L.e3⟩
          · exact ⟨89, #[], _, rfl, .inl rfl, enters_of Tryz.func89 (by kernel_rfl) rfl, st (lay4_any hOD hcD L.b3) L.e4⟩
          · exact ⟨91, #[], _, rfl, .inl rfl, enters_of Tryz.func91 (by kernel_rfl) rfl, st (lay5_any hOD hcD L.b4) L.e5⟩
          · exact ⟨28, _, #[], rfl, .inr rfl, enters_of Tryz.func28 (by kernel_rfl) rfl, st (settleC_any L.b5) L.e6⟩
        · rintro e w' (⟨rfl, ht⟩ | ⟨er, -, -, hf⟩)
          · exact ⟨rfl, DkTo.mono (hbwr.trans (hbq.mono hbwr.size)) ht⟩
          · exact hf.elim⟩
      clear hall
      go_wp2_with fail
      refine (HGO.out _ _ ((Below.refl _ _).alloc (Nat.le_refl _) _) rfl (RdV.new 42 (fs6 bD bB D) 1 6 _ rfl rfl (by decide) rfl) (by show _ < (Array.push _ _).size; rw [Array.size_push]; exact Nat.lt_succ_self _)).mono ?_
      rintro e w' ⟨rfl, ht⟩
      have HTT := Keep.keep ht
      clear ht HGO kD
      go_wp2_with fail
      go_ret
      exact ⟨rfl, HTT.out⟩
    | succ g =>
      have hk : k < m.length := by have := HNN.out; omega
      have hrN : RdV wr (fun j => w1.heap.size ≤ j ∧ j < w3.heap.size) 1 (.slice aN nN cN) nN ((m.map (·.1)).map strV) := HRN.out.chg HCH.out (fun j hj => ⟨hj.2, fun e => by have := HZ1.out; have := HBB.out; omega⟩)
      obtain ⟨bN, oN, hab⟩ : ∃ b off, aN = some ⟨b, off, none⟩ := by
        obtain ⟨a8, c8, hv8, q1, q2, q3⟩ := hrN.shape
        injection hv8 with e1 e2 e3
        rcases q3 with q3 | ⟨b, off, q3, -⟩
        · omega
        · exact ⟨b, off, by rw [e1, q3]⟩
      subst hab
      have hcell : wr.cell? ⟨bN, oN + k, none⟩ = some (.string ⟨m[k].1.toArray⟩) := by
        have := hrN.cell bN oN _ _ rfl k (strV m[k].1) (by simp [hk])
        exact this
      have HTGk := Keep.keep (HTG.out m[k] (List.getElem_mem hk))
      have hlook : SM.look (dgV m) m[k].1 = some (arrV m[k].2) := by
        have := (dgV_srt.1 HM.out.s).look.2 (show (m[k].1, m[k].2) ∈ m from List.getElem_mem hk)
        rw [dgV_look, this]; rfl
      have HSN := Keep.keep (layB_snoc m k hk)
      have HTr : Keep (CrcT wr) := ⟨⟨fun i hi => by
        rw [HCH.out.cell (p := ⟨0, i, none⟩) (Nat.lt_of_lt_of_le HT.out.l HB3.out.size) (fun e => by have e : 0 = bB := e; have := HT.out.l; have := HBB.out; omega)]
        exact (HT.out.on HB3.out).c i hi, Nat.lt_of_lt_of_le (Nat.lt_of_lt_of_le HT.out.l HB3.out.size) HCH.out.size⟩⟩
      generalize ht : m[k].1 = t at *
      generalize hg : m[k].2 = dg at *
      have HLK : Keep (∀ wx, Below wr.heap.size wr wx → (Instr.lookup 35 (.map (some mb)) (.string ⟨t.toArray⟩) false).run Tryz.prog wx = .ok (arrV dg) wx) := ⟨fun wx hb => by
        have := (HMr.out.loc (hb.block mb HMr.out.lt)).look1 Tryz.underlying9 Tryz.underlying35 (zero_dig wx) (p := t) (by have := HTGk.out.1; unfold maxLen; omega)
        rw [hlook] at this
        exact this⟩
      have HRB : Keep (∀ wx, Below wr.heap.size wr wx → wx.cell? ⟨bB, 0, none⟩ = some bv) := ⟨fun wx hb => (HBV.out.below hb HBV.out.lt).cell (i := 0) rfl⟩
      clear hrN hlook ht hg
      go_upto_region 5 with fail
      refine wp_region_spcT 7 [18, 19, 20, 21, 22, 23, 24] (fun wx => Below wr.heap.size wr wx) (lyT mb bv t dg) (fun w w' => Below w.heap.size w w') (by kernel_rfl) rfl (by decide) (by show ∀ d ∈ _, d < 36; decide) (by kernel_rfl) (by decide) (by kernel_rfl) (by kernel_rfl) (by kernel_rfl) (Below.refl _ _).drew (fun i v w w' h _ hb => lyT_stays i v w w' h hb) ?_ ?_
      · intro i hi a1' wx hFr hC hTk
        have t1 : a1'.eval (.tmp 1) = .map (some mb) := (hFr.same 1 (by decide)).trans rfl
        have t5 : a1'.eval (.tmp 5) = .pointer (some ⟨bB, 0, none⟩) := (hFr.same 5 (by decide)).trans rfl
        have t7 : a1'.eval (.tmp 7) = .string ⟨t.toArray⟩ := (hFr.same 7 (by decide)).trans rfl
        have hrf : Below wx.heap.size wx wx := Below.refl _ _
        rcases (by omega : i = 0 ∨ i = 1 ∨ i = 2 ∨ i = 3 ∨ i = 4 ∨ i = 5 ∨ i = 6) with rfl | rfl | rfl | rfl | rfl | rfl | rfl
        · exact spcS_val (d := 18) rfl (wanted_none rfl) (run_loadCell (run_isAgg_plain Tryz.underlying28 rfl) (HRB.out wx hC) t5) hC hrf rfl
        · exact spcS_val (d := 19) rfl (wanted_none rfl) run_move hC hrf t7
        · exact spcS_val (d := 20) rfl (wanted_none rfl) run_move hC hrf t1
        · exact spcS_val (d := 21) rfl (wanted_none rfl) run_move hC hrf t7
        · have hx : a1'.eval (.tmp 20) = .map (some mb) := hTk 2 (by decide) (by kernel_rfl)
          have hy : a1'.eval (.tmp 21) = .string ⟨t.toArray⟩ := hTk 3 (by decide) (by kernel_rfl)
          exact spcS_val (d := 22) rfl (wanted_none rfl) (by simp [execOp, hx, hy, HLK.out wx hC]) hC hrf rfl
        · have hx : a1'.eval (.tmp 19) = .string ⟨t.toArray⟩ := hTk 1 (by decide) (by kernel_rfl)
          have hy : a1'.eval (.tmp 22) = arrV dg := hTk 4 (by decide) (by kernel_rfl)
          refine spcS_call (d := 23) (vs := #[.string ⟨t.toArray⟩, arrV dg]) rfl (wanted_none rfl) (enters_of Tryz.func51 (by kernel_rfl) rfl) (by simp only [List.map_toArray, List.map_cons, List.map_nil, hx, hy]) ((set_any t dg wx HTGk.out.1 HTGk.out.2).mono ?_)
          rintro e wy ⟨v, rfl, ho, hb⟩
          exact ⟨v, rfl, hC.trans (hb.mono hC.size), hb, ho.reads.mono (fun j hj => hj.2.1)⟩
        · have hrd : Reads wx (· < wx.heap.size) (a1'.eval (.tmp 23)) (setBd t dg) := hTk 5 (by decide) (by kernel_rfl)
          refine spcS_call (d := 24) (vs := #[a1'.eval (.tmp 23)]) rfl (wanted_none rfl) (enters_of Tryz.func42 (by kernel_rfl) rfl) (by simp only [List.map_toArray, List.map_cons, List.map_nil]) ((frame_any _ (setBd t dg) wx (HTr.out.on hC) hrd (by have := HTGk.out; simp [setBd]; omega)).mono ?_)
          rintro e wy ⟨v, rfl, ho, hb⟩
          exact ⟨v, rfl, hC.trans (hb.mono hC.size), hb, ho.reads.mono (fun j hj => hj.2.1)⟩
      · intro a1' wy ha hC hTk
        have t18 : slot a1' 18 = bv := hTk 0 (by decide)
        have hrd : Reads wy (· < wy.heap.size) (slot a1' 24) (frameB (setBd t dg)) := hTk 6 (by decide)
        have hCy : Below wr.heap.size wr wy := hC
        have HCy := Keep.keep hCy
        have HRD := Keep.keep hrd
        have HCHy : Keep (Chg (fun j => j = bB) w3.heap.size w3 wy) := ⟨HCH.out.trans ((Chg.of_below hCy).lower HCH.out.size)⟩
        have HBy : Keep (Row wy bB 28 #[bv]) := ⟨HBV.out.below hCy HBV.out.lt⟩
        have HBFy : Keep (BufAt w.heap.size wy w3.heap.size bv (magicB ++ jrn (layB (m.take k)))) := ⟨HBF.out.on hCy⟩
        have HFR := Keep.keep (frame_len (setBd t dg))
        have HJL : Keep ((magicB ++ jrn (layB (m.take k))).length ≤ 100000) := ⟨lay_len (fun y hy => HTG.out y hy) HML.out k⟩
        have HSB : Keep ((setBd t dg).length ≤ 98) := ⟨by have := HTGk.out; simp [setBd]; omega⟩
        simp only [List.foldl_cons, List.foldl_nil, t18] at ha
        clear hTk t18 hC hCy hrd
        generalize slot a1' 19 = x19 at *
        generalize slot a1' 20 = x20 at *
        generalize slot a1' 21 = x21 at *
        generalize slot a1' 22 = x22 at *
        generalize slot a1' 23 = x23 at *
        generalize slot a1' 24 = x24 at *
        subst ha
        simp only [Act.put, List.setIfInBounds_toArray, List.set_cons_succ, List.set_cons_zero]
        simp only [List.drop_succ_cons, List.drop_zero]
        refine arm_appBuf HBFy.out HRD.out (by rw [HFR.out]; have := HJL.out; have := HSB.out; omega) HCHy.out.size (by rw [HFR.out]; omega) rfl rfl ?_
        intro v8 w8 ho8 hb8
        have HO8 : Keep (BufAt w.heap.size w8 w3.heap.size v8 (magicB ++ jrn (layB (m.take (k + 1))))) := ⟨.inl (by rw [HSN.out, ← List.append_assoc]; exact ho8)⟩
        have hbl : bB < w3.heap.size := C23.out.lt
        have hrow8 : Row w8 bB 28 #[bv] := HBy.out.below hb8 hbl
        have k8 := hrow8.cell (i := 0) rfl
        have f8 := hrow8.frozen 0
        have HCH8 : Keep (Chg (fun j => j = bB) w3.heap.size w3 w8) := ⟨HCHy.out.trans (Chg.of_below hb8)⟩
        have hcs : ∀ v, Chg (fun j => j = bB) w8.heap.size w8 (w8.setCell ⟨bB, 0, none⟩ v) := fun v => (Chg.refl (fun j => j = bB) w8.heap.size w8).setCell (p := ⟨bB, 0, none⟩) (.inr rfl) v
        have HCS := Keep.keep hcs
        have HO8' : Keep (∀ v, BufAt w.heap.size (w8.setCell ⟨bB, 0, none⟩ v) w3.heap.size v8 (magicB ++ jrn (layB (m.take (k + 1))))) := ⟨fun v => .inl (by rw [HSN.out, ← List.append_assoc]; exact ownsRow_loc _ _ (fun j e => (hcs v).block j (ho8.lt j e).2 (fun e2 => by have := (ho8.lt j e).1; omega)) ho8)⟩
        have HROW8 := Keep.keep hrow8
        obtain ⟨a8, n8, c8, hv8⟩ : ∃ a8 n8 c8, v8 = .slice a8 n8 c8 := by
          obtain ⟨a8, c8, hv8, -⟩ := (ownsV_reads ho8).shape
          exact ⟨a8, _, c8, hv8⟩
        clear ho8 hb8 hcs hrow8 hbl HO8
        subst hv8
        simp only [Act.put, List.setIfInBounds_toArray, List.set_cons_succ, List.set_cons_zero]
        go_wp2_with fail
        go_roundg g
        case measure => omega
        case rel => exact ⟨k + 1, by omega, by simp, ⟨HCH8.out.trans ((HCS.out _).lower HCH8.out.size)⟩, _, ⟨HROW8.out.set' 0 _ rfl⟩, ⟨HO8'.out _⟩⟩
end Go.Proofs.YtmkofejijkabnaaGreatDoor
