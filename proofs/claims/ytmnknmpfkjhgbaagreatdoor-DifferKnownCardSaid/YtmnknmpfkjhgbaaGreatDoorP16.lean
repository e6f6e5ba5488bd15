/- PARTS OF ONE PROOF, set in one file: DfTold, DifEdge, TreeTls, DifZ, ConvS, LawD20, LawD20T. Each part tells its own conditions. -/
import Derived.Test.YtmnknmpfkjhgbaaGreatDoorP5
import Derived.Test.YtmnknmpfkjhgbaaGreatDoorP9
import Derived.Test.YtmnknmpfkjhgbaaGreatDoorP11
import Derived.Test.YtmnknmpfkjhgbaaGreatDoorP13
import Derived.Test.YtmnknmpfkjhgbaaGreatDoorP15
/- differ.told, all, Of, Cost. -/
namespace Go.Proofs.YtmnknmpfkjhgbaaGreatDoor
open Go.RowKit
theorem kid_facts {A B : List Mb} (hA : WellL A) (hB : WellL B) {n : Nat} {dir c : Tx} (hf : ∀ x, x ∈ A ∨ x ∈ B → x.1.length < n + dir.length) (hp : ∀ x, x ∈ A ∨ x ∈ B → x.1.length ≤ 400000) (hc : c ∈ ksT A B dir) : c.length ≤ 400000 ∧ dir.length + 1 ≤ c.length ∧ c.length < n + dir.length := by
  have hk := ksT_kids hA hB
  obtain ⟨h1, h2, h3⟩ := hk.path hA hB hc
  have hlt := parent_lt h2
  rw [h3] at hlt
  rcases ((hk.mem dir c).1 hc).2 with h4 | h4
  · obtain ⟨v, hv⟩ := Option.isSome_iff_exists.1 h4
    have hm : (c, v) ∈ A ∨ (c, v) ∈ B := .inl (SM.look_mem hv)
    exact ⟨hp _ hm, by omega, hf _ hm⟩
  · obtain ⟨v, hv⟩ := Option.isSome_iff_exists.1 h4
    have hm : (c, v) ∈ A ∨ (c, v) ∈ B := .inr (SM.look_mem hv)
    exact ⟨hp _ hm, by omega, hf _ hm⟩
theorem bel_any (d : TD) (T : Nat) (hA : WellL d.A) (hB : WellL d.B) (hLA : d.A.length ≤ 100000) (hLB : d.B.length ≤ 100000) (hp : ∀ x, x ∈ d.A ∨ x ∈ d.B → x.1.length ≤ 400000) :
    ∀ (n : Nat) (dir : Tx) (w : World), Tabs T w → TIn w d → dir.length ≤ 400000 → (dir = [] ∨ dirB d.B dir = true) → (∀ x, x ∈ d.A ∨ x ∈ d.B → x.1.length < n + dir.length) →
    Calls Tryz.prog 120 #[.string ⟨dir.toArray⟩, .pointer (some ⟨d.ba, 0, none⟩), .pointer (some ⟨d.bb, 0, none⟩), .pointer (some ⟨d.bo, 0, none⟩)] w (BelAns d (belF d.A d.B (ksT d.A d.B) n dir) w) := by
  intro n
  induction n with
  | zero =>
    intro dir w hT h hdl hdir hf
    rw [bel_step hA hB (ksT_kids hA hB) 0 dir hf]
    exact below_any d _ dir T w hT hA hB hLA hLB hdl hdir (fun c => by
      have := bel_len d.A d.B (ksT d.A d.B) (0 - 1) c
      have h2 := List.countP_le_length (p := fun q : Mb => underP c q.1) (l := d.B)
      omega) h (fun c hc wx hb => by
      have := kid_facts hA hB hf hp hc
      omega)
  | succ n ih =>
    intro dir w hT h hdl hdir hf
    rw [bel_step hA hB (ksT_kids hA hB) (n + 1) dir hf]
    have hlen : ∀ c, (belF d.A d.B (ksT d.A d.B) n c).length ≤ 1 + d.B.length := fun c => by
      have := bel_len d.A d.B (ksT d.A d.B) n c
      have h2 := List.countP_le_length (p := fun q : Mb => underP c q.1) (l := d.B)
      omega
    refine below_any d _ dir T w hT hA hB hLA hLB hdl hdir hlen h (fun c hc wx hb => ?_)
    obtain ⟨f1, f2, f3⟩ := kid_facts hA hB hf hp hc
    refine one_any d c _ T wx (hT.on (hb.mono hT.b)) f1 hLB (Nat.le_trans (hlen c) (by omega)) (h.below hb) (fun ⟨y, hy, hk⟩ wy hb2 => ?_)
    refine ih c wy ((hT.on (hb.mono hT.b)).on (hb2.mono (hT.on (hb.mono hT.b)).b)) ((h.below hb).below hb2) f1 (.inr (dirB_iff.2 ⟨y, hy, hk⟩)) (fun x hx => ?_)
    have := hf x hx
    omega
theorem RowM.widen {B B' : Nat} {K : Nat → Prop} {w : World} {v : Value} {l : List Mv} (h : RowM B K w v l) (hB : B' ≤ B) (hK : ∀ b, K b → B' ≤ b) : RowM B' NoM w v l :=
  ⟨ownsRow_base h.own hB, fun x hx => (h.nd x hx).mono (fun b e => ⟨.inr (e.1.elim (hK b) (Nat.le_trans hB)), e.2⟩)⟩
theorem run_storeF {ρ : Operand → Value} {d : Option Tmp} {x y : Operand} {t : TypeId} {pos : String} {af : Array Edge} {g : Option (Nat × Bool)} {w : World} {b off : Nat} {F : FuncId} {fi cs : Array Value} {v : Value} (hc : w.cell? ⟨b, off, none⟩ = some v) (hf : w.frozen? ⟨b, off, none⟩ = false) (hx : ρ x = .pointer (some ⟨b, off, none⟩)) (hy : ρ y = .func (.func F) fi cs) :
    (execOp ρ (⟨d, .store 44 x y, t, pos, af, g⟩ : Oper)).run Tryz.prog w = .ok .skip (w.setCell ⟨b, off, none⟩ (.func (.func F) fi cs)) := by
  have hz : (sizeOf 44).run Tryz.prog w = .ok 1 w := by kernel_rfl
  have hs : ∀ m, (store ⟨b, off, none⟩ (.func (.func F) fi cs) m).run Tryz.prog w = .ok () (w.setCell ⟨b, off, none⟩ (.func (.func F) fi cs)) := fun m => by
    rw [run_store Tryz.prog w _ _ m rfl, hc]
    simp [hf]
  simp [go_sem, execOp, hx, hy, hz, Instr.storeAt, storeCells, hs]
def toldL (A B : List Mb) : List Mb := belF A B (ksT A B) 500000 []
set_option maxHeartbeats 4000000 in
set_option maxRecDepth 100000 in
theorem told_any (na ma ya Ta nb mb yb Tb tb : Nat) (Na Nb Bk : Nat → Prop) (f : Tx → Value × Value) (A B : List Mb) (T : Nat) (w : World) (hT : Tabs T w) (hA : WellL A) (hB : WellL B) (hLA : A.length ≤ 100000) (hLB : B.length ≤ 100000) (hp : ∀ x, x ∈ A ∨ x ∈ B → x.1.length ≤ 400000)
    (sa : SideIn w Na na ma ya A) (sb : SideIn w Nb nb mb yb B) (tr : TreeIn w Tb tb Bk f B) (lt : ∀ b, Na b ∨ Nb b ∨ Bk b → b < w.heap.size) :
    Calls Tryz.prog 79 #[.agg #[.map (some na), .map (some ma), .map (some ya), .func (.func 18) #[.pointer (some ⟨Ta, 0, none⟩)] #[]], .agg #[.map (some nb), .map (some mb), .map (some yb), .func (.func 18) #[.pointer (some ⟨Tb, 0, none⟩)] #[]]] w fun e w' => ∃ v l, e = .returned v ∧ l.map (·.1) = toldL A B ∧ RowM w.heap.size Nb w' v l ∧ Below w.heap.size w w' := by
  have HBEL : Keep (∀ b0 b6 wx, Below w.heap.size w wx → TIn wx ⟨b0, b0 + 1, b0 + 1 + 1, b6, na, ma, ya, Ta, nb, mb, yb, Tb, tb, Na, Nb, Bk, f, A, B⟩ → Calls Tryz.prog 120 #[.string ⟨#[]⟩, .pointer (some ⟨b0, 0, none⟩), .pointer (some ⟨b0 + 1, 0, none⟩), .pointer (some ⟨b6, 0, none⟩)] wx (fun e w' => ∃ v l, e = .returned v ∧ l.map (·.1) = toldL A B ∧ RowM wx.heap.size Nb w' v l ∧ Below wx.heap.size wx w')) := ⟨fun b0 b6 wx hb h => bel_any ⟨b0, b0 + 1, b0 + 1 + 1, b6, na, ma, ya, Ta, nb, mb, yb, Tb, tb, Na, Nb, Bk, f, A, B⟩ T hA hB hLA hLB hp 500000 [] wx (hT.on (hb.mono hT.b)) h (by simp) (.inl rfl) (fun x hx => by have := hp x hx; simp; omega)⟩
  have HSA := Keep.keep sa; have HSB := Keep.keep sb; have HTR := Keep.keep tr; have HLT := Keep.keep lt
  have hent2 := ent_below
  clear hT hA hB sa sb tr lt
  go_enter Tryz.func79, Tryz.ntmps79
  go_upto_region 2 with fail
  refine wp_world (R := fun w1 => Hp NoM w w1 [rowA w.heap.size 110 #[.map (some na), .map (some ma), .map (some ya), .func (.func 18) #[.pointer (some ⟨Ta, 0, none⟩)] #[]], rowA (w.heap.size + 1) 110 #[.map (some nb), .map (some mb), .map (some yb), .func (.func 18) #[.pointer (some ⟨Tb, 0, none⟩)] #[]], rowA (w.heap.size + 1 + 1) 44 #[.nilFunc]]) ?_ ?_
  · have := (((Hp.begin NoM w).newRow 110 #[.map (some na), .map (some ma), .map (some ya), .func (.func 18) #[.pointer (some ⟨Ta, 0, none⟩)] #[]]).newRow 110 #[.map (some nb), .map (some mb), .map (some yb), .func (.func 18) #[.pointer (some ⟨Tb, 0, none⟩)] #[]]).newRow 44 #[.nilFunc]
    simpa using this
  intro w1 H1
  obtain ⟨b0, hb0⟩ : ∃ b, w.heap.size = b := ⟨_, rfl⟩
  have HB0 := Keep.keep hb0
  have hw1 : w1.heap.size = w1.heap.size := rfl
  rw [hb0] at H1 ⊢
  clear hb0 hw1
  go_wp2_with (with_reducible refine arm_sSt ?_)
  refine StM.out ?_
  refine wpList_world (R := fun w2 => Hp NoM w w2 [rowA b0 110 #[.map (some na), .map (some ma), .map (some ya), .func (.func 18) #[.pointer (some ⟨Ta, 0, none⟩)] #[]], rowA (b0 + 1) 110 #[.map (some nb), .map (some mb), .map (some yb), .func (.func 18) #[.pointer (some ⟨Tb, 0, none⟩)] #[]], rowA (b0 + 1 + 1) 44 #[.nilFunc], rowA w1.heap.size 44 #[.nilFunc]]) (H1.out.newRow _ _) ?_
  intro w2 H2
  obtain ⟨b6, hb6⟩ : ∃ b, w1.heap.size = b := ⟨_, rfl⟩
  rw [hb6] at H2 ⊢
  clear hb6 H1
  refine wpList_skip rfl (run_storeF ((H2.out.row 3 rfl).cell (i := 0) rfl) ((H2.out.row 3 rfl).frozen 0) rfl rfl) ?_
  refine wpList_world (R := fun w3 => Hp NoM w w3 [rowA b0 110 #[.map (some na), .map (some ma), .map (some ya), .func (.func 18) #[.pointer (some ⟨Ta, 0, none⟩)] #[]], rowA (b0 + 1) 110 #[.map (some nb), .map (some mb), .map (some yb), .func (.func 18) #[.pointer (some ⟨Tb, 0, none⟩)] #[]], rowA (b0 + 1 + 1) 44 #[.nilFunc], rowA b6 44 #[.func (.func 119) #[] #[.pointer (some ⟨b0, 0, none⟩), .pointer (some ⟨b0 + 1, 0, none⟩), .pointer (some ⟨b0 + 1 + 1, 0, none⟩)]]]) (H2.out.setCell 3 rfl 0 _ rfl) ?_
  intro w3 H3
  clear H2
  simp only [Act.put]
  go_wp2_with (with_reducible refine arm_sSt ?_)
  refine StM.out ?_
  refine wpList_skip rfl (run_storeF ((H3.out.row 2 rfl).cell (i := 0) rfl) ((H3.out.row 2 rfl).frozen 0) rfl rfl) ?_
  refine wpList_world (R := fun w4 => Hp NoM w w4 [rowA b0 110 #[.map (some na), .map (some ma), .map (some ya), .func (.func 18) #[.pointer (some ⟨Ta, 0, none⟩)] #[]], rowA (b0 + 1) 110 #[.map (some nb), .map (some mb), .map (some yb), .func (.func 18) #[.pointer (some ⟨Tb, 0, none⟩)] #[]], rowA (b0 + 1 + 1) 44 #[.func (.func 120) #[] #[.pointer (some ⟨b0, 0, none⟩), .pointer (some ⟨b0 + 1, 0, none⟩), .pointer (some ⟨b6, 0, none⟩)]], rowA b6 44 #[.func (.func 119) #[] #[.pointer (some ⟨b0, 0, none⟩), .pointer (some ⟨b0 + 1, 0, none⟩), .pointer (some ⟨b0 + 1 + 1, 0, none⟩)]]]) (H3.out.setCell 2 rfl 0 _ rfl) ?_
  intro w4 H4
  clear H3
  simp only [Act.put]
  have hb4 := H4.out.below
  have hsw := HB0.out
  have HTIN : Keep (TIn w4 ⟨b0, b0 + 1, b0 + 1 + 1, b6, na, ma, ya, Ta, nb, mb, yb, Tb, tb, Na, Nb, Bk, f, A, B⟩) := ⟨⟨H4.out.row 0 rfl, H4.out.row 1 rfl, H4.out.row 2 rfl, H4.out.row 3 rfl, HSA.out.loc (fun b hb => hb4.block b (by
      have := HSA.out.lt
      rcases hb with rfl | rfl | rfl | h
      · omega
      · omega
      · omega
      · exact HLT.out b (.inl h))), HSB.out.loc (fun b hb => hb4.block b (by
      have := HSB.out.lt
      rcases hb with rfl | rfl | rfl | h
      · omega
      · omega
      · omega
      · exact HLT.out b (.inr (.inl h)))), HTR.out.loc (fun b hb => hb4.block b (by
      rcases hb with rfl | rfl | h
      · exact HTR.out.row.lt
      · exact HTR.out.map.lt
      · exact HLT.out b (.inr (.inr h)))), fun b hb => Nat.lt_of_lt_of_le (HLT.out b hb) hb4.size⟩⟩
  have cw := (H4.out.row 2 rfl).cell (i := 0) rfl
  have HB4 := Keep.keep hb4
  clear hb4 hsw H4
  go_wp2_with fail
  refine (HBEL.out b0 b6 w4 HB4.out HTIN.out).mono ?_
  rintro e w5 ⟨v5, l5, rfl, hl5, hr5, hb5⟩
  have HL5 := Keep.keep hl5
  have HR5 := Keep.keep (hr5.lower HB4.out.size (fun b hb => hb))
  have HB5 := Keep.keep (HB4.out.trans (hb5.mono HB4.out.size))
  obtain ⟨a5, c5, hv5, -⟩ := (ownsV_reads hr5.own).shape
  generalize l5.length = n5 at hv5
  clear hl5 hr5 hb5 cw
  subst hv5
  go_wp2_with fail
  go_ret
  exact ⟨_, l5, rfl, HL5.out, by first | exact HR5.out | (rw [← HB0.out]; exact HR5.out), by first | exact HB5.out | (rw [← HB0.out]; exact HB5.out)⟩
def srtM (l : List Mv) : Prop := l.Pairwise (fun x y => x.1.1 ≤ y.1.1)
set_option maxHeartbeats 4000000 in
set_option maxRecDepth 100000 in
theorem all_any (Ta ta : Nat) (Ba : Nat → Prop) (fa : Tx → Value × Value) (A : List Mb) (Tb tb : Nat) (Bb : Nat → Prop) (fb : Tx → Value × Value) (B : List Mb) (T : Nat) (w : World) (hT : Tabs T w) (hA : WellL A) (hB : WellL B) (hLA : A.length ≤ 100000) (hLB : B.length ≤ 100000)
    (ha : TreeIn w Ta ta Ba fa A) (hBa : ∀ b, Ba b → b < w.heap.size) (hb : TreeIn w Tb tb Bb fb B) (hBb : ∀ b, Bb b → b < w.heap.size) :
    Calls Tryz.prog 39 #[.pointer (some ⟨Ta, 0, none⟩), .pointer (some ⟨Tb, 0, none⟩)] w fun e w' => ∃ v l, e = .returned (.tuple #[v, .int .i64 0]) ∧ (l.map (·.1)).Perm (toldL A B) ∧ srtM l ∧ RowM w.heap.size NoM w' v l ∧ Below w.heap.size w w' := by
  have HAO : Keep (∀ wx, Below w.heap.size w wx → TreeIn wx Ta ta Ba fa A) := ⟨fun wx hx => ha.loc (fun b hb' => hx.block b (by
    rcases hb' with rfl | rfl | h
    · exact ha.row.lt
    · exact ha.map.lt
    · exact hBa b h))⟩
  have HBO : Keep (∀ wx, Below w.heap.size w wx → TreeIn wx Tb tb Bb fb B) := ⟨fun wx hx => hb.loc (fun b hb' => hx.block b (by
    rcases hb' with rfl | rfl | h
    · exact hb.row.lt
    · exact hb.map.lt
    · exact hBb b h))⟩
  have HBa := Keep.keep hBa; have HBb := Keep.keep hBb; have HT := Keep.keep hT
  have HWA := Keep.keep hA; have HWB := Keep.keep hB
  have HP : Keep (∀ x, x ∈ A ∨ x ∈ B → x.1.length ≤ 400000) := ⟨fun x hx => by
    rcases hx with h | h
    · exact (ha.sm x h).p
    · exact (hb.sm x h).p⟩
  clear hBa hBb hT hA hB ha hb
  go_enter Tryz.func39, Tryz.ntmps39
  go_wp2_with fail
  refine (dnone_any Ta ta Ba fa A w (HAO.out w (Below.refl _ _)) HBa.out).mono ?_
  rintro e w1 ⟨rfl, hb1⟩
  have HW1 := Keep.keep hb1
  clear hb1
  go_wp2_with fail
  refine (dnone_any Tb tb Bb fb B w1 (HBO.out w1 HW1.out) (fun b hb => Nat.lt_of_lt_of_le (HBb.out b hb) HW1.out.size)).mono ?_
  rintro e w2 ⟨rfl, hb2⟩
  have HW2 := Keep.keep (HW1.out.trans (hb2.mono HW1.out.size))
  clear hb2
  go_wp2_with fail
  refine (dof_any Ta ta Ba fa A w2 hLA (HAO.out w2 HW2.out) (fun b hb => Nat.lt_of_lt_of_le (HBa.out b hb) HW2.out.size)).mono ?_
  rintro e w3 ⟨na, ma, ya, rfl, hsa, hga, hb3⟩
  have HSA := Keep.keep hsa
  have HW3 := Keep.keep (HW2.out.trans (hb3.mono HW2.out.size))
  clear hsa hga hb3
  go_wp2_with fail
  refine (dof_any Tb tb Bb fb B w3 hLB (HBO.out w3 HW3.out) (fun b hb => Nat.lt_of_lt_of_le (HBb.out b hb) HW3.out.size)).mono ?_
  rintro e w4 ⟨nb, mb, yb, rfl, hsb, hgb, hb4⟩
  have hsa4 : SideIn w4 (Fresh w2.heap.size w3) na ma ya A := HSA.out.loc (fun b hb => hb4.block b (by
    have := HSA.out.lt
    rcases hb with rfl | rfl | rfl | h
    · omega
    · omega
    · omega
    · exact h.2))
  have HW4 := Keep.keep (HW3.out.trans (hb4.mono HW3.out.size))
  have hs4 := hb4.size
  have HTO := Keep.keep (told_any na ma ya Ta nb mb yb Tb tb (Fresh w2.heap.size w3) (Fresh w3.heap.size w4) Bb fb A B T w4 (HT.out.on (HW4.out.mono HT.out.b)) HWA.out HWB.out hLA hLB HP.out hsa4 hsb (HBO.out w4 HW4.out) (fun b hb => by
    rcases hb with h | h | h
    · have := h.2; omega
    · exact h.2
    · exact Nat.lt_of_lt_of_le (HBb.out b h) HW4.out.size))
  clear hsb hgb hb4 hsa4 HSA
  go_wp2_with fail
  refine HTO.out.mono ?_
  rintro e w5 ⟨v5, l5, rfl, hl5, hr5, hb5⟩
  have HL5 := Keep.keep hl5
  have HW5 := Keep.keep (HW4.out.trans (hb5.mono HW4.out.size))
  have HR5 : Keep (RowM w.heap.size NoM w5 v5 l5) := ⟨hr5.widen HW4.out.size (fun b hb => Nat.le_trans HW3.out.size hb.1)⟩
  have hn5 : l5.length ≤ 100001 := by
    rw [← List.length_map (f := fun x : Mv => x.1), hl5]
    have := bel_len A B (ksT A B) 500000 []
    have h2 := List.countP_le_length (p := fun q : Mb => underP [] q.1) (l := B)
    unfold toldL
    omega
  have HSO := Keep.keep (sort_mb w.heap.size NoM v5 l5 w5 HW5.out.size HR5.out (by omega))
  obtain ⟨a5, c5, hv5, -⟩ := (ownsV_reads hr5.own).shape
  generalize l5.length = n5 at hv5
  clear hl5 hr5 hb5 HTO hs4
  subst hv5
  go_wp2_with fail
  refine HSO.out.mono ?_
  rintro e w6 ⟨rfl, ⟨l6, hr6, hp6, hs6⟩, hb6⟩
  have HR6 := Keep.keep hr6; have HP6 := Keep.keep hp6; have HS6 := Keep.keep hs6
  have HW6 : Keep (Below w.heap.size w w6) := ⟨HW5.out.trans hb6⟩
  clear hr6 hp6 hs6 hb6 HSO
  go_wp2_with fail
  go_ret2
  exact ⟨_, l6, rfl, by rw [← HL5.out]; exact HP6.out.map _, HS6.out, HR6.out, HW6.out⟩
set_option maxHeartbeats 1000000 in
set_option maxRecDepth 100000 in
theorem Of_any (Ta ta : Nat) (Ba : Nat → Prop) (fa : Tx → Value × Value) (A : List Mb) (Tb tb : Nat) (Bb : Nat → Prop) (fb : Tx → Value × Value) (B : List Mb) (T : Nat) (w : World) (hT : Tabs T w) (hA : WellL A) (hB : WellL B) (hLA : A.length ≤ 100000) (hLB : B.length ≤ 4095)
    (ha : TreeIn w Ta ta Ba fa A) (hBa : ∀ b, Ba b → b < w.heap.size) (hb : TreeIn w Tb tb Bb fb B) (hBb : ∀ b, Bb b → b < w.heap.size) :
    Calls Tryz.prog 9 #[.pointer (some ⟨Ta, 0, none⟩), .pointer (some ⟨Tb, 0, none⟩)] w fun e w' => ∃ v l, e = .returned (.tuple #[v, .int .i64 0]) ∧ (l.map (·.1)).Perm (toldL A B) ∧ srtM l ∧ RowM w.heap.size NoM w' v l ∧ Below w.heap.size w w' := by
  have HAL := Keep.keep (all_any Ta ta Ba fa A Tb tb Bb fb B T w hT hA hB hLA (by omega) ha hBa hb hBb)
  clear hT hA hB ha hb hBa hBb
  go_enter Tryz.func9, Tryz.ntmps9
  go_wp2_with fail
  refine HAL.out.mono ?_
  rintro e w1 ⟨v, l, rfl, hp, hs, hr, hb⟩
  have HP := Keep.keep hp; have HS := Keep.keep hs; have HR := Keep.keep hr; have HB := Keep.keep hb
  obtain ⟨a1, c1, hv1, -⟩ := (ownsV_reads hr.own).shape
  have hn : l.length ≤ 4096 := by
    have h1 := hp.length_eq
    rw [List.length_map] at h1
    have := bel_len A B (ksT A B) 500000 []
    have h2 := List.countP_le_length (p := fun q : Mb => underP [] q.1) (l := B)
    unfold toldL at h1
    omega
  generalize l.length = n at hv1 hn
  have hd : decide (4096 < (n : Int)) = false := decide_eq_false (by omega)
  have hd2 : decide (4096 < n) = false := decide_eq_false (by omega)
  clear hp hs hr hb HAL
  subst hv1
  go_wp2_with fail
  go_ret2
  exact ⟨_, l, rfl, HP.out, HS.out, HR.out, HB.out⟩
end Go.Proofs.YtmnknmpfkjhgbaaGreatDoor
/- CHANGESETS, plainly: from a tree to itself, from nothing, to nothing. -/
namespace Go.Proofs.YtmnknmpfkjhgbaaGreatDoor
theorem may_nil' : mayP [] = true := by decide
theorem good_all {A B : List Mb} {ks : Tx → List Tx} (hA : WellL A) (hB : WellL B) (hk : KidsOf A B ks) (n : Nat) (hf : ∀ x, x ∈ A ∨ x ∈ B → x.1.length < n) : Good A B (belF A B ks n []) (underP []) (fun m => underP [] m.1 = true) := good_below hA hB hk n [] may_nil' (fun x hx => by have := hf x hx; simpa using this)
end Go.Proofs.YtmnknmpfkjhgbaaGreatDoor
/- portolanlaw18.tells: the chapter's rows. -/
namespace Go.Proofs.YtmnknmpfkjhgbaaGreatDoor
open Go.RowKit
def dirN : Nd := ⟨1, 0, 0, 0, 0, [], [], []⟩
end Go.Proofs.YtmnknmpfkjhgbaaGreatDoor
/- CHANGESETS, plainly: what differ.Of tells, sorted: it may be, it leads there; the chapter's rows. -/
namespace Go.Proofs.YtmnknmpfkjhgbaaGreatDoor
/-- the paths of either tree, each once -/
def ksU (A B : List Mb) (d : Tx) : List Tx := (kids d A).map (·.1) ++ ((kids d B).map (·.1)).filter (fun p => !(SM.look A p).isSome)
theorem kids_look {L : List Mb} (h : WellL L) {d p : Tx} : p ∈ (kids d L).map (·.1) ↔ parentP p = d ∧ (SM.look L p).isSome = true := by
  rw [List.mem_map]
  constructor
  · rintro ⟨a, ha, rfl⟩
    obtain ⟨h1, h2⟩ := mem_kids.1 ha
    have : SM.look L a.1 = some a.2 := h.s.look.2 h1
    exact ⟨h2, by rw [this]; rfl⟩
  · rintro ⟨h1, h2⟩
    obtain ⟨v, hv⟩ := Option.isSome_iff_exists.1 h2
    exact ⟨(p, v), mem_kids.2 ⟨SM.look_mem hv, h1⟩, rfl⟩
theorem kids_nodup {L : List Mb} (h : WellL L) (d : Tx) : ((kids d L).map (·.1)).Nodup := by
  unfold kids
  exact srt_nodup (h.s.filter _)
theorem ksU_kids {A B : List Mb} (hA : WellL A) (hB : WellL B) : KidsOf A B (ksU A B) := by
  refine ⟨fun d => ?_, fun d p => ?_⟩
  · unfold ksU
    refine List.nodup_append.2 ⟨kids_nodup hA d, (kids_nodup hB d).filter _, fun a ha b hb e => ?_⟩
    subst e
    have h1 := (kids_look hA).1 ha
    have h2 := (List.mem_filter.1 hb).2
    rw [h1.2] at h2
    cases h2
  · unfold ksU
    rw [List.mem_append, kids_look hA, List.mem_filter, kids_look hB]
    constructor
    · rintro (⟨a, b⟩ | ⟨⟨a, b⟩, _⟩)
      · exact ⟨a, .inl b⟩
      · exact ⟨a, .inr b⟩
    · rintro ⟨a, b⟩
      by_cases hx : (SM.look A p).isSome = true
      · exact .inl ⟨a, hx⟩
      · exact .inr ⟨⟨a, b.resolve_left hx⟩, by simpa using hx⟩
theorem white_len (p : Tx) : (whiteoutP p).length ≤ 2 * p.length + 10 := by
  unfold whiteoutP
  split
  · simp
  · have h1 := joinP_two_len (parentP p) (whiteB ++ baseP p)
    have h2 : (parentP p).length ≤ p.length := by unfold parentP; simp; omega
    have h3 : (baseP p).length ≤ p.length := by unfold baseP; simp
    have h4 : (whiteB ++ baseP p).length ≤ p.length + 4 := by simp [whiteB]; omega
    omega
theorem opaque_len (p : Tx) : (opaqueP p).length ≤ p.length + 20 := by
  unfold opaqueP
  split
  · simp
  · have h1 := joinP_two_len p markB
    have h2 : markB.length = 12 := rfl
    omega
theorem bare_sm {p : Tx} (hp : p.length ≤ 400000) : Sm (p, bareN) := ⟨hp, by simp [bareN], by simp [bareN], by simp [bareN], fun x hx => by simp [bareN] at hx, by simp [bareN]⟩
/-- what is told is no longer than it may be -/
theorem good_sm {A B l : List Mb} {R : Tx → Bool} {Q : Mb → Prop} (h : Good A B l R Q) (hB : ∀ x ∈ B, Sm x) : ∀ x ∈ l, Sm x := fun x hx => by
  rcases h.cl x hx with ⟨_, h1⟩ | ⟨h1, h2⟩
  · exact hB x h1
  · have hsh : x = (x.1, bareN) := by rw [← h1]
    rw [hsh]
    refine bare_sm ?_
    have hcl : (classP x.1).1 = 2 ∨ (classP x.1).1 = 3 := h2
    rcases told x.1 with ⟨hc, _⟩ | ⟨hc, _, _⟩ | ⟨t, hc, hw, hm, _⟩ | ⟨t, hc, ho, hm, hl⟩ | ⟨hc, _, _⟩
    · rw [hc] at hcl; omega
    · rw [hc] at hcl; omega
    · rw [hc] at hcl
      have hmt : t = [] ∨ mayP t = true := by
        unfold whiteoutP at hw
        by_cases e : (t.isEmpty || !mayP t) = true
        · rw [if_pos e] at hw
          rw [← hw] at hc
          have h4 := kn_c4
          rw [hc] at h4
          cases h4
        · right
          have : ¬ t = [] ∧ mayP t = true := by simpa using e
          exact this.2
      have hl : t.length ≤ 4080 := by
        rcases hmt with e | e
        · subst e; simp
        · unfold mayP at e
          simp only [Bool.and_eq_true, decide_eq_true_eq] at e
          exact e.1.1
      rw [← hw]
      have := white_len t
      omega
    · rw [hc] at hcl
      have hmt : mayP t = true := by
        unfold opaqueP at ho
        by_cases e : (!mayP t) = true
        · rw [if_pos e] at ho
          rw [← ho] at hc
          have h4 := kn_c4
          rw [hc] at h4
          cases h4
        · simpa using e
      have hl : t.length ≤ 4080 := by
        unfold mayP at hmt
        simp only [Bool.and_eq_true, decide_eq_true_eq] at hmt
        exact hmt.1.1
      rw [← ho]
      have := opaque_len t
      omega
    · rw [hc] at hcl; omega
/-- WHAT differ.Of TELLS -/
structure OfL (A B K : List Mb) : Prop where
  srt : SM.Srt K
  may : mayC K = 0
  app : applyC A K = (0, some B)
  len : K.length = (toldL A B).length
  sm : ∀ x ∈ K, Sm x
  le : K.length ≤ 1 + B.length
theorem of_leads {A B K : List Mb} (hA : WellL A) (hB : WellL B) (hlB : B.length ≤ 4095) (hsA : ∀ x ∈ A, Sm x) (hsB : ∀ x ∈ B, Sm x) (hp : K.Perm (toldL A B)) (hs : K.Pairwise (fun x y => x.1 ≤ y.1)) : OfL A B K := by
  have hg := good_all hA hB (ksT_kids hA hB) 500000 (fun x hx => by
    rcases hx with h | h
    · have := (hsA x h).p; omega
    · have := (hsB x h).p; omega)
  obtain ⟨S', h1, h2, h3⟩ := srt_of hg.nd
  have hK := h3 K hp hs
  have hsrt : SM.Srt K := by rw [hK]; exact h1
  have hln := bel_len A B (ksT A B) 500000 []
  have hcp := List.countP_le_length (p := fun q : Mb => underP [] q.1) (l := B)
  have hpl := hp.length_eq
  have hle : K.length ≤ 1 + B.length := by unfold toldL at hpl; omega
  exact ⟨hsrt, may_good hB hg hp hsrt (by omega), leads_there hA hB hg hp hsrt (by omega) (by omega), hpl, fun x hx => good_sm hg hsB x (hp.mem_iff.1 hx), hle⟩
theorem told_least {A B S : List Mb} (hA : WellL A) (hB : WellL B) (h : applyC A S = (0, some B)) : (toldL A B).length ≤ S.length := least hA hB (ksT_kids hA hB) h 500000
end Go.Proofs.YtmnknmpfkjhgbaaGreatDoor
/- []byte(s) OF ANY TEXT: the capacity that is drawn stays hidden. -/
namespace Go.Proofs.YtmnknmpfkjhgbaaGreatDoor
open Go.RowKit
theorem convS (l : List UInt8) (n : Nat) (hn : l.length = n) (hl : l.length ≤ maxLen) : ∃ cf : World → Nat, ∃ rf : World → Array Value, ∃ mf : World → Nat × Nat,
    (∀ w, (convert 9 37 (.string ⟨l.toArray⟩)).run Tryz.prog w = .ok (.slice (some ⟨w.heap.size, 0, none⟩) n (cf w)) (w.drew.alloc (.cells (rf w) 5 (mf w)))) ∧
    (∀ w, Reads (w.drew.alloc (.cells (rf w) 5 (mf w))) (fun b => b = w.heap.size) (.slice (some ⟨w.heap.size, 0, none⟩) n (cf w)) l) := by
  subst hn
  have hsz : (⟨l.toArray⟩ : ByteArray).size = l.length := by simp [ByteArray.size]
  refine ⟨fun w => grownCap w l.length 0 5, fun w => bytesRow ⟨l.toArray⟩ (grownCap w l.length 0 5), fun w => ((bytesRow ⟨l.toArray⟩ (grownCap w l.length 0 5)).size, (bytesRow ⟨l.toArray⟩ (grownCap w l.length 0 5)).size + 1), fun w => ?_, fun w => ?_⟩
  · have := run_bytes_of_string (P := Tryz.prog) w 9 37 5 ⟨l.toArray⟩ Tryz.underlying9 Tryz.underlying37 Tryz.underlying5
    rw [hsz] at this
    exact this
  · refine ⟨⟨_, _, rfl, grownCap_ge _ _ _ _, grownCap_le_maxLen _ _ _ _ hl, .inr ⟨_, _, rfl, rfl⟩⟩, fun b off m cap he j hj => ?_⟩
    injection he with e1 _ _; injection e1 with e1; injection e1 with e1 e2 _; subst e1 e2
    rw [show w.heap.size = w.drew.heap.size from rfl, World.cell?_alloc_mark, Nat.zero_add]
    have h2 : j < (bytesRow ⟨l.toArray⟩ (grownCap w l.length 0 5)).size := by simp [bytesRow]; omega
    simp [bytesRow, Array.getElem?_append, hj]
end Go.Proofs.YtmnknmpfkjhgbaaGreatDoor
/- portolanlaw20: small, paths, tells. -/
namespace Go.Proofs.YtmnknmpfkjhgbaaGreatDoor
open Go.RowKit
theorem growT_sub : ∀ (n : Nat) (P : List Mb), P.length = n → ∀ x, x ∈ growT P → x ∈ P := by
  intro n
  induction n with
  | zero =>
    intro P h x hx
    obtain rfl := List.eq_nil_of_length_eq_zero h
    exact hx
  | succ n ih =>
    intro P h x hx
    obtain ⟨Q, m, rfl⟩ : ∃ Q m, P = Q ++ [m] := ⟨P.dropLast, P.getLast (by intro e; rw [e] at h; cases h), (List.dropLast_concat_getLast _).symm⟩
    rw [growT_snoc, SM.mem_put] at hx
    rcases hx with rfl | ⟨hx, _⟩
    · simp
    · exact List.mem_append_left _ (ih Q (by simpa using h) x hx)
theorem newT_well {P t : List Mb} (h : newT P = (0, some t)) : WellL t := by
  unfold newT at h
  split at h
  · cases h
  · rename_i h1
    split at h
    · cases h
    · split at h
      · cases h
      · rename_i h3
        split at h
        · cases h
        · injection h with _ h; injection h with h; subst h
          refine ⟨growT_srt P, fun x hx => ?_, fun x hx => ?_⟩
          · have hm := growT_sub _ P rfl x hx
            cases hq : mayM x with
            | true => rfl
            | false => exact (h1 (List.any_eq_true.2 ⟨x, hm, by rw [hq]; rfl⟩)).elim
          · have hm := growT_sub _ P rfl x hx
            cases hq : dirT (growT P) (parentP x.1) with
            | true => rfl
            | false => exact (h3 (List.any_eq_true.2 ⟨x, hm, by rw [hq]; rfl⟩)).elim
set_option maxHeartbeats 1000000 in
set_option maxRecDepth 100000 in
theorem small_any (v : Value) (l : List Mv) (B : Nat) (w : World) (hT : Tabs B w) (hr : Mbs w (· < w.heap.size) (· < w.heap.size) v l) (hs : ∀ x ∈ l, Sm x.1) (hl : l.length ≤ 1000000) {t : List Mb} (ht : newT (l.map (·.1)) = (0, some t)) :
    Calls Tryz.prog 20 #[v] w fun e w' => ∃ T mb Bk f, e = .returned (.pointer (some ⟨T, 0, none⟩)) ∧ TreeIn w' T mb Bk f t ∧ (w.heap.size ≤ T ∧ w.heap.size ≤ mb ∧ ∀ b, Bk b → Fresh w.heap.size w' b) ∧ Below w.heap.size w w' := by
  have HN := Keep.keep (new_tree v l B w hT hr hs hl)
  rw [ht] at HN
  obtain ⟨a, cap, hv, -⟩ := hr.rd.shape
  clear hT hr hs ht
  subst hv
  go_enter Tryz.func20, Tryz.ntmps20
  go_wp2_with fail
  refine HN.out.mono ?_
  rintro e w1 ⟨⟨pv, rfl, hnew⟩, hb⟩
  obtain ⟨T, mb, Bk, f, rfl, hti, h1, h2, h3⟩ := hnew
  have HR := Keep.keep (And.intro hti (And.intro (And.intro h1 (And.intro h2 h3)) hb))
  clear hti h1 h2 h3 hb HN
  go_wp2_with fail
  go_ret
  exact ⟨T, mb, Bk, f, rfl, HR.out.1, HR.out.2.1, HR.out.2.2⟩
def pathsS (l : List Mb) : Tx := l.flatMap fun m => m.1 ++ [32]
set_option maxHeartbeats 1000000 in
set_option maxRecDepth 100000 in
theorem paths_any (v : Value) (l : List Mv) (w : World) (hr : Mbs w (· < w.heap.size) (· < w.heap.size) v l) (hs : ∀ x ∈ l, x.1.1.length ≤ 400000) (hl : l.length ≤ 1000) :
    Calls Tryz.prog 24 #[v] w fun e w' => e = .returned (.string ⟨(pathsS (l.map (·.1))).toArray⟩) ∧ Below w.heap.size w w' := by
  obtain ⟨a, cap, hv, hcap, hmx, h3⟩ := hr.rd.shape
  have HR := Keep.keep hr; have H3 := Keep.keep h3; have HS := Keep.keep hs
  unfold maxLen at hmx
  clear hr h3 hs
  subst hv
  obtain ⟨S, hS⟩ : ∃ S, l.map (·.1) = S := ⟨_, rfl⟩
  have HSS := Keep.keep hS
  rw [hS]
  have HSL : Keep (S.length = l.length) := ⟨by rw [← hS, List.length_map]⟩
  obtain ⟨out, hout⟩ : ∃ out, pathsS S = out := ⟨_, rfl⟩
  have HOUT := Keep.keep hout
  rw [hout]
  clear hS hout
  go_enter Tryz.func24, Tryz.ntmps24
  go_wp2_with fail
  go_loopg [3, 8] l.length (fun g u3 u8 wx => ∃ (k : Nat) (acc : Tx), k + g = l.length ∧ u8 = .int .i64 (k : Int) ∧ u3 = .string ⟨acc.toArray⟩ ∧ pathsS (S.take k) = acc ∧ acc.length ≤ k * 400001 ∧ Below w.heap.size w wx)
  case atStart => exact ⟨0, [], by omega, rfl, rfl, rfl, Nat.le_refl _, Below.refl _ _⟩
  case round =>
    obtain ⟨k, acc, hkg, rfl, rfl, hac, hal, hb⟩ := hrel
    have HAC := Keep.keep hac; have HB := Keep.keep hb
    clear hac hb
    cases gk with
    | zero =>
      obtain rfl : k = l.length := by omega
      have HX : Keep (acc = out) := ⟨by rw [← HAC.out, ← HOUT.out, ← HSL.out, List.take_length]⟩
      go_wp2_with fail
      go_ret
      exact ⟨by rw [HX.out]; rfl, HB.out⟩
    | succ g =>
      have hk : k < l.length := by omega
      obtain ⟨b, off, rfl, hbl⟩ : ∃ b off, a = some ⟨b, off, none⟩ ∧ b < w.heap.size := by
        rcases H3.out with h | ⟨b, off, h, hb⟩
        · omega
        · exact ⟨b, off, h, hb⟩
      have hld := (HR.out.below HB.out (fun b hb => hb) (fun b hb => hb)).load hk
      have hkS : k < S.length := by rw [HSL.out]; exact hk
      have hSk : S[k] = l[k].1 := by simp [← HSS.out]
      have HTK : Keep (pathsS (S.take (k + 1)) = pathsS (S.take k) ++ (l[k].1.1 ++ [32])) := ⟨by
        unfold pathsS
        rw [List.take_succ_eq_append_getElem hkS, List.flatMap_append, hSk]
        simp⟩
      have hxp := HS.out l[k] (List.getElem_mem hk)
      have HND := Keep.keep (HR.out.nd l[k] (List.getElem_mem hk))
      clear hkS hSk
      generalize l[k] = x at *
      obtain ⟨⟨xp, ⟨kind, mode, uid, gid, time, attrs, data, link⟩⟩, av, dv⟩ := x
      obtain ⟨aa, la, ca, ad, ld, cd, e1, e2⟩ := HND.out.shape
      dsimp only at e1 e2 hxp HTK
      subst e1 e2
      have HMC : Keep (mcell ((xp, ⟨kind, mode, uid, gid, time, attrs, data, link⟩), .slice aa la ca, .slice ad ld cd) = #[.string ⟨xp.toArray⟩, .int .i64 kind, .int .u32 mode, .int .u32 uid, .int .u32 gid, .int .i64 time, .slice aa la ca, .slice ad ld cd, .string ⟨link.toArray⟩]) := ⟨rfl⟩
      rw [HMC.out] at hld
      have hkb : k * 400001 ≤ 1000 * 400001 := Nat.mul_le_mul_right _ (by omega)
      have hc1 := run_cat (P := Tryz.prog) xp [32] (by simp; omega)
      obtain ⟨xq, hxq⟩ : ∃ y, xp ++ [32] = y := ⟨_, rfl⟩
      have hxl : xq.length ≤ 400001 := by rw [← hxq]; simp; omega
      rw [hxq] at hc1 HTK
      have hc2 := run_cat (P := Tryz.prog) acc xq (by omega)
      obtain ⟨ac2, hac2⟩ : ∃ y, acc ++ xq = y := ⟨_, rfl⟩
      have hal2 : ac2.length ≤ (k + 1) * 400001 := by rw [← hac2, List.length_append]; omega
      have HA2 : Keep (pathsS (S.take (k + 1)) = ac2) := ⟨by rw [HTK.out, HAC.out, hac2]⟩
      rw [hac2] at hc2
      have HAL2 := Keep.keep hal2
      clear hxq hac2 hal hkb hxl hal2
      go_upto_region 5 with ((with_reducible refine arm_loadM hld ?_ ?_); (focus rfl); simp only [Act.put, List.setIfInBounds_toArray, List.set_cons_succ, List.set_cons_zero])
      obtain ⟨b5, hb5⟩ : ∃ b, wr.heap.size = b := ⟨_, rfl⟩
      refine wp_world (R := fun w2 => Hp NoM wr w2 [rowA b5 41 #[.string ⟨xp.toArray⟩, .int .i64 kind, .int .u32 mode, .int .u32 uid, .int .u32 gid, .int .i64 time, .slice aa la ca, .slice ad ld cd, .string ⟨link.toArray⟩]]) (by have := (Hp.begin NoM wr).newRow 41 #[.string ⟨xp.toArray⟩, .int .i64 kind, .int .u32 mode, .int .u32 uid, .int .u32 gid, .int .i64 time, .slice aa la ca, .slice ad ld cd, .string ⟨link.toArray⟩]; rw [hb5] at this; exact this) ?_
      intro w2 H2
      rw [hb5]
      have c0 := (H2.out.row 0 rfl).cell (i := 0) rfl
      have HB2 := Keep.keep (HB.out.trans (H2.out.below.mono HB.out.size))
      clear hld hb5
      go_wp2_with fail
      go_roundg g
      case measure => omega
      case rel => exact ⟨k + 1, ac2, by omega, by simp, rfl, HA2.out, HAL2.out, HB2.out⟩
/-- a File with bytes -/
def fileD (data : Tx) : Nd := ⟨2, 0, 0, 0, 0, [], data, []⟩
set_option maxHeartbeats 1000000 in
set_option maxRecDepth 100000 in
theorem tl1_any (p : Tx) (w : World) : Calls Tryz.prog 58 #[.string ⟨p.toArray⟩] w fun e w' => e = .returned (.agg (mbC (p, dirN) nilV nilV)) ∧ Below w.heap.size w w' := by
  have hb1 : ∀ w, (Instr.build 39 #[(0, .int .i64 1)]).run Tryz.prog w = .ok (.agg #[.int .i64 1, .int .u32 0, .int .u32 0, .int .u32 0, .int .i64 0, .slice none 0 0, .slice none 0 0, .string ⟨#[]⟩]) w := fun w => by kernel_rfl
  have hb3 : ∀ w, (Instr.build 41 #[(0, .string ⟨p.toArray⟩), (1, .agg #[.int .i64 1, .int .u32 0, .int .u32 0, .int .u32 0, .int .i64 0, .slice none 0 0, .slice none 0 0, .string ⟨#[]⟩])]).run Tryz.prog w = .ok (.agg #[.string ⟨p.toArray⟩, .int .i64 1, .int .u32 0, .int .u32 0, .int .u32 0, .int .i64 0, .slice none 0 0, .slice none 0 0, .string ⟨#[]⟩]) w := fun w => buildM (p, dirN) nilV nilV w
  have HX : Keep (mbC (p, dirN) nilV nilV = #[.string ⟨p.toArray⟩, .int .i64 1, .int .u32 0, .int .u32 0, .int .u32 0, .int .i64 0, .slice none 0 0, .slice none 0 0, .string ⟨#[]⟩]) := ⟨rfl⟩
  have HZ : Keep ((#[.string ⟨#[]⟩, .int .i64 0, .int .u32 0, .int .u32 0, .int .u32 0, .int .i64 0, .slice none 0 0, .slice none 0 0, .string ⟨#[]⟩] : Array Value).size = 9) := ⟨rfl⟩
  have HSZ : Keep ((#[.string ⟨p.toArray⟩, .int .i64 1, .int .u32 0, .int .u32 0, .int .u32 0, .int .i64 0, .slice none 0 0, .slice none 0 0, .string ⟨#[]⟩] : Array Value).size = 9) := ⟨rfl⟩
  have HON : Keep ((#[.string ⟨p.toArray⟩, .int .i64 1, .int .u32 0, .int .u32 0, .int .u32 0, .int .i64 0, .slice none 0 0, .slice none 0 0, .string ⟨#[]⟩] : Array Value).all (·.oneCell') = true) := ⟨by simp [Value.oneCell']⟩
  rw [HX.out]
  go_enter Tryz.func58, Tryz.ntmps58
  go_upto_region 1 with fail
  refine wp_world (R := fun w1 => Hp NoM w w1 [rowA w.heap.size 41 #[.string ⟨#[]⟩, .int .i64 0, .int .u32 0, .int .u32 0, .int .u32 0, .int .i64 0, .slice none 0 0, .slice none 0 0, .string ⟨#[]⟩]]) ((Hp.begin NoM w).newRow _ _) ?_
  intro w1 H1
  have HRW := Keep.keep (H1.out.row 0 rfl)
  have HB := Keep.keep ((Chg.of_below (M := NoM) H1.out.below))
  go_wp2_with ((with_reducible refine arm_storeRow HRW.out aggM HZ.out HSZ.out HON.out ?_ ?_ ?_); (focus rfl); (focus rfl); simp only [Act.put])
  exact bodyPost_ret (results_row (p := 2) (ty := 41) rfl (HRW.out.setRow _) aggM HSZ.out rfl) rfl ⟨rfl, (HB.out.setRow (.inl (Nat.le_refl _)) _).below (fun _ _ h => h)⟩
set_option maxHeartbeats 1000000 in
set_option maxRecDepth 100000 in
theorem tl2_any (p data : Tx) (hd : data.length ≤ 1000) (w : World) : Calls Tryz.prog 59 #[.string ⟨p.toArray⟩, .string ⟨data.toArray⟩] w fun e w' => ∃ dv, e = .returned (.agg (mbC (p, fileD data) nilV dv)) ∧ NdR w' (Fresh w.heap.size w') (fileD data) nilV dv ∧ Below w.heap.size w w' := by
  obtain ⟨n, hn⟩ : ∃ n, data.length = n := ⟨_, rfl⟩
  obtain ⟨cf, rf, mf, hcv, hcr⟩ := convS data n hn (by unfold maxLen; omega)
  have HCR := Keep.keep hcr
  have hb1 : ∀ a n c w, (Instr.build 39 #[(0, .int .i64 2), (6, .slice a n c)]).run Tryz.prog w = .ok (.agg #[.int .i64 2, .int .u32 0, .int .u32 0, .int .u32 0, .int .i64 0, .slice none 0 0, .slice a n c, .string ⟨#[]⟩]) w := fun a n c w => by kernel_rfl
  have hb3 : ∀ a n c w, (Instr.build 41 #[(0, .string ⟨p.toArray⟩), (1, .agg #[.int .i64 2, .int .u32 0, .int .u32 0, .int .u32 0, .int .i64 0, .slice none 0 0, .slice a n c, .string ⟨#[]⟩])]).run Tryz.prog w = .ok (.agg #[.string ⟨p.toArray⟩, .int .i64 2, .int .u32 0, .int .u32 0, .int .u32 0, .int .i64 0, .slice none 0 0, .slice a n c, .string ⟨#[]⟩]) w := fun a n c w => buildM (p, fileD data) nilV (.slice a n c) w
  have HZ : Keep ((#[.string ⟨#[]⟩, .int .i64 0, .int .u32 0, .int .u32 0, .int .u32 0, .int .i64 0, .slice none 0 0, .slice none 0 0, .string ⟨#[]⟩] : Array Value).size = 9) := ⟨rfl⟩
  have HX : Keep (∀ a n c, mbC (p, fileD data) nilV (.slice a n c) = #[.string ⟨p.toArray⟩, .int .i64 2, .int .u32 0, .int .u32 0, .int .u32 0, .int .i64 0, .slice none 0 0, .slice a n c, .string ⟨#[]⟩]) := ⟨fun _ _ _ => rfl⟩
  clear hcr hn hd
  go_enter Tryz.func59, Tryz.ntmps59
  go_upto_region 1 with fail
  refine wp_world (R := fun w1 => Hp NoM w w1 [rowA w.heap.size 41 #[.string ⟨#[]⟩, .int .i64 0, .int .u32 0, .int .u32 0, .int .u32 0, .int .i64 0, .slice none 0 0, .slice none 0 0, .string ⟨#[]⟩]]) ((Hp.begin NoM w).newRow _ _) ?_
  intro w1 H1
  obtain ⟨b0, hb0⟩ : ∃ b, w.heap.size = b := ⟨_, rfl⟩
  have HB0 := Keep.keep hb0
  rw [hb0] at H1 ⊢
  clear hb0
  go_wp2_with (with_reducible refine arm_sSt ?_)
  refine StM.out ?_
  refine wpList_world (R := fun w2 => Hp NoM w w2 [rowA b0 41 #[.string ⟨#[]⟩, .int .i64 0, .int .u32 0, .int .u32 0, .int .u32 0, .int .i64 0, .slice none 0 0, .slice none 0 0, .string ⟨#[]⟩]] ∧ Reads w2 (fun b => b = w1.heap.size) (.slice (some ⟨w1.heap.size, 0, none⟩) n (cf w1)) data ∧ w1.heap.size < w2.heap.size) ⟨H1.out.call (((Below.refl w1.heap.size w1).drew).alloc (Nat.le_refl _) _), HCR.out w1, Nat.lt_of_lt_of_le (Nat.lt_succ_self w1.heap.size) (Nat.le_of_eq (World.size_alloc w1 _).symm)⟩ ?_
  intro w2 H2
  obtain ⟨b7, hb7⟩ : ∃ b, w1.heap.size = b := ⟨_, rfl⟩
  have hs1 := (H1.out.row 0 rfl).lt
  have hsw := H1.out.size
  have HHB := Keep.keep HB0.out
  rw [hb7] at H2 hs1 hsw ⊢
  generalize cf w1 = c7 at *
  clear hb7 hcv H1 hb1 hb3
  have HRW := Keep.keep (H2.out.1.row 0 rfl)
  have HSZ : Keep ((#[.string ⟨p.toArray⟩, .int .i64 2, .int .u32 0, .int .u32 0, .int .u32 0, .int .i64 0, .slice none 0 0, .slice (some ⟨b7, 0, none⟩) n c7, .string ⟨#[]⟩] : Array Value).size = 9) := ⟨rfl⟩
  have HON : Keep ((#[.string ⟨p.toArray⟩, .int .i64 2, .int .u32 0, .int .u32 0, .int .u32 0, .int .i64 0, .slice none 0 0, .slice (some ⟨b7, 0, none⟩) n c7, .string ⟨#[]⟩] : Array Value).all (·.oneCell') = true) := ⟨by simp [Value.oneCell']⟩
  refine arm_storeRow HRW.out aggM HZ.out HSZ.out HON.out rfl rfl ?_
  simp only [Act.put]
  go_wp2_with fail
  have hch : Chg (fun k => k = b0) w2.heap.size w2 (w2.setRow b0 #[.string ⟨p.toArray⟩, .int .i64 2, .int .u32 0, .int .u32 0, .int .u32 0, .int .i64 0, .slice none 0 0, .slice (some ⟨b7, 0, none⟩) n c7, .string ⟨#[]⟩]) := Chg.setRow (M := fun k => k = b0) (.refl _ _ _) (.inr rfl) _
  refine bodyPost_ret (results_row (p := 4) (ty := 41) rfl (HRW.out.setRow _) aggM HSZ.out rfl) rfl ⟨.slice (some ⟨b7, 0, none⟩) n c7, rfl, ⟨RdV.ofNil, ?_⟩, ?_⟩
  · exact (H2.out.2.1.chg hch (fun b e => by subst e; exact ⟨H2.out.2.2, by omega⟩)).mono (fun b e => by subst e; exact ⟨by have := HB0.out; omega, by have := hch.size; have := H2.out.2.2; omega⟩)
  · exact ((Chg.of_below (M := NoM) H2.out.1.below).setRow (.inl (by have := HB0.out; omega)) _).below (fun _ _ h => h)
end Go.Proofs.YtmnknmpfkjhgbaaGreatDoor
/- portolanlaw20.tells: the chapter's rows. -/
namespace Go.Proofs.YtmnknmpfkjhgbaaGreatDoor
open Go.RowKit
/-- a tree at hand -/
def TrL (w : World) (T : Nat) (t : List Mb) : Prop := ∃ mb Bk f, TreeIn w T mb Bk f t ∧ ∀ b, Bk b → b < w.heap.size
theorem TrL.on {w w' : World} {T : Nat} {t : List Mb} (h : TrL w T t) (hb : Below w.heap.size w w') : TrL w' T t := by
  obtain ⟨mb, Bk, f, h1, h2⟩ := h
  exact ⟨mb, Bk, f, h1.loc (fun b hb' => hb.block b (by
    rcases hb' with rfl | rfl | h
    · exact h1.row.lt
    · exact h1.map.lt
    · exact h2 b h)), fun b hb' => Nat.lt_of_lt_of_le (h2 b hb') hb.size⟩
def NdL (w : World) (n : Nd) (av dv : Value) : Prop := NdR w (· < w.heap.size) n av dv
theorem NdL.on {w w' : World} {n : Nd} {av dv : Value} (h : NdL w n av dv) (hb : Below w.heap.size w w') : NdL w' n av dv := (h.below hb (fun _ hb => hb)).mono (fun _ hb' => Nat.lt_of_lt_of_le hb' hb.size)
theorem Of_tr {w : World} {Ta Tb : Nat} {A B : List Mb} (T : Nat) (hT : Tabs T w) (hA : WellL A) (hB : WellL B) (hLA : A.length ≤ 4095) (hLB : B.length ≤ 4095) (h1 : TrL w Ta A) (h2 : TrL w Tb B) :
    Calls Tryz.prog 9 #[.pointer (some ⟨Ta, 0, none⟩), .pointer (some ⟨Tb, 0, none⟩)] w fun e w' => ∃ v l, e = .returned (.tuple #[v, .int .i64 0]) ∧ OfL A B (l.map (·.1)) ∧ (l.map (·.1)).Perm (toldL A B) ∧ RowM w.heap.size NoM w' v l ∧ Below w.heap.size w w' := by
  obtain ⟨ta, Ba, fa, ha, hBa⟩ := h1
  obtain ⟨tb, Bb, fb, hb, hBb⟩ := h2
  refine (Of_any Ta ta Ba fa A Tb tb Bb fb B T w hT hA hB (by omega) hLB ha hBa hb hBb).mono ?_
  rintro e w' ⟨v, l, he, hp, hs, hr, hbb⟩
  exact ⟨v, l, he, of_leads hA hB hLB ha.sm hb.sm hp (by rw [List.pairwise_map]; exact hs), hp, hr, hbb⟩
theorem small_tr {w : World} {v : Value} {l : List Mv} (B : Nat) (hT : Tabs B w) (hr : Mbs w (· < w.heap.size) (· < w.heap.size) v l) (hs : ∀ x ∈ l, Sm x.1) (hl : l.length ≤ 1000000) {t : List Mb} (ht : newT (l.map (·.1)) = (0, some t)) :
    Calls Tryz.prog 20 #[v] w fun e w' => ∃ T, e = .returned (.pointer (some ⟨T, 0, none⟩)) ∧ TrL w' T t ∧ Below w.heap.size w w' := by
  refine (small_any v l B w hT hr hs hl ht).mono ?_
  rintro e w' ⟨T, mb, Bk, f, he, h1, h2, h3⟩
  exact ⟨T, he, ⟨mb, Bk, f, h1, fun b hb => (h2.2.2 b hb).2⟩, h3⟩
theorem told_is {A B L K1 K : List Mb} (hA : WellL A) (hB : WellL B) (hT : belF A B (ksU A B) 500000 [] = L) (hL : L.Perm K1) (hS : SM.Srt K1) (hp : K.Perm (toldL A B)) (hs : SM.Srt K) : K = K1 := by
  have h1 : (toldL A B).Perm L := by rw [← hT]; exact bel_perm (ksT_kids hA hB) (ksU_kids hA hB) 500000 []
  exact srt_mem hs hS (fun x => ((hp.trans h1).trans hL).mem_iff)
def tA1 : List Mb := [([100], dirN), ([100, 47, 97], fileD []), ([100, 47, 98], fileD []), ([100, 47, 99], fileD [])]
def tB1 : List Mb := [([100], dirN), ([100, 47, 97], fileD [120])]
def tA2 : List Mb := [([97], fileD [])]
def tB2 : List Mb := [([97], dirN), ([97, 47, 120], fileD [])]
def tA3 : List Mb := [([120], fileD []), ([121], fileD [])]
def tB3 : List Mb := [([120], fileD [])]
def tK1 : List Mb := [([100], dirN), ([100, 47, 46, 119, 104, 46, 46, 119, 104, 46, 46, 111, 112, 113], bareN), ([100, 47, 97], fileD [120])]
def tK2 : List Mb := [([97], dirN), ([97, 47, 120], fileD [])]
def tK3 : List Mb := [([46, 119, 104, 46, 121], bareN)]
set_option maxRecDepth 100000 in
theorem tn1 : newT tA1 = (0, some tA1) := by kernel_rfl
set_option maxRecDepth 100000 in
theorem tn2 : newT tB1 = (0, some tB1) := by kernel_rfl
set_option maxRecDepth 100000 in
theorem tn3 : newT tA2 = (0, some tA2) := by kernel_rfl
set_option maxRecDepth 100000 in
theorem tn4 : newT tB2 = (0, some tB2) := by kernel_rfl
set_option maxRecDepth 100000 in
theorem tn5 : newT tA3 = (0, some tA3) := by kernel_rfl
set_option maxRecDepth 100000 in
theorem tn6 : newT tB3 = (0, some tB3) := by kernel_rfl
set_option maxRecDepth 100000 in
theorem tt1 : belF tA1 tB1 (ksU tA1 tB1) 500000 [] = [([100, 47, 97], fileD [120]), ([100, 47, 46, 119, 104, 46, 46, 119, 104, 46, 46, 111, 112, 113], bareN), ([100], dirN)] := by kernel_rfl
set_option maxRecDepth 100000 in
theorem tt2 : belF tA2 tB2 (ksU tA2 tB2) 500000 [] = tK2 := by kernel_rfl
set_option maxRecDepth 100000 in
theorem tt3 : belF tA3 tB3 (ksU tA3 tB3) 500000 [] = tK3 := by kernel_rfl
theorem ts1 : SM.Srt tK1 := by unfold SM.Srt; decide
theorem ts2 : SM.Srt tK2 := by unfold SM.Srt; decide
theorem ts3 : SM.Srt tK3 := by unfold SM.Srt; decide
theorem tp1 : pathsS tK1 = [100, 32, 100, 47, 46, 119, 104, 46, 46, 119, 104, 46, 46, 111, 112, 113, 32, 100, 47, 97, 32] := by kernel_rfl
theorem tp2 : pathsS tK2 = [97, 32, 97, 47, 120, 32] := by kernel_rfl
theorem tp3 : pathsS tK3 = [46, 119, 104, 46, 121, 32] := by kernel_rfl
def MbL (w : World) (v : Value) (l : List Mv) : Prop := Mbs w (· < w.heap.size) (· < w.heap.size) v l
theorem MbL.on {w w' : World} {v : Value} {l : List Mv} (h : MbL w v l) (hb : Below w.heap.size w w') : MbL w' v l := (Mbs.below h hb (fun _ hb => hb) (fun _ hb => hb)).mono (fun _ hb' => Nat.lt_of_lt_of_le hb' hb.size) (fun _ hb' => Nat.lt_of_lt_of_le hb' hb.size)
theorem tl1_lit (p : Tx) (w : World) : Calls Tryz.prog 58 #[.string ⟨p.toArray⟩] w fun e w' => e = .returned (.agg #[.string ⟨p.toArray⟩, .int .i64 1, .int .u32 0, .int .u32 0, .int .u32 0, .int .i64 0, .slice none 0 0, .slice none 0 0, .string ⟨#[]⟩]) ∧ Below w.heap.size w w' := tl1_any p w
theorem tl2_lit (p data : Tx) (n : Nat) (hn : data.length = n) (hd : n ≤ 1000) (w : World) : Calls Tryz.prog 59 #[.string ⟨p.toArray⟩, .string ⟨data.toArray⟩] w fun e w' => ∃ a c, e = .returned (.agg #[.string ⟨p.toArray⟩, .int .i64 2, .int .u32 0, .int .u32 0, .int .u32 0, .int .i64 0, .slice none 0 0, .slice a n c, .string ⟨#[]⟩]) ∧ NdL w' (fileD data) nilV (.slice a n c) ∧ Below w.heap.size w w' := by
  refine (tl2_any p data (by omega) w).mono ?_
  rintro e w' ⟨dv, rfl, hn', hb⟩
  obtain ⟨a, c, he, -⟩ := hn'.dt.shape
  have he : dv = .slice a n c := by rw [he, ← hn]; rfl
  subst he
  exact ⟨a, c, rfl, hn'.mono (fun _ h => h.2), hb⟩
theorem dirL (w : World) : NdL w dirN nilV nilV := ndR_nil rfl rfl
theorem sm_dirN (p : Tx) (hp : p.length ≤ 1000) : Sm (p, dirN) := ⟨by simp; omega, by simp [dirN], by simp [dirN], by simp [dirN], fun x hx => by simp [dirN] at hx, by simp [dirN]⟩
theorem sm_fileD (p d : Tx) (hp : p.length ≤ 1000) (hd : d.length ≤ 1000) : Sm (p, fileD d) := ⟨by simp; omega, by simp [fileD], by simp [fileD]; omega, by simp [fileD], fun x hx => by simp [fileD] at hx, by simp [fileD]⟩
theorem MbL.ofRow {w : World} {v : Value} {l : List Mv} {B : Nat} (h : RowM B NoM w v l) : MbL w v l := h.mbs.mono (fun _ hb => hb.2) (fun _ hb => hb.2.1)
set_option maxHeartbeats 8000000 in
set_option maxRecDepth 100000 in
theorem dtells_any (B : Nat) (w : World) (hT : Tabs B w) : Calls Tryz.prog 19 #[] w fun e w' => e = .returned (.bool true) ∧ Below w.heap.size w w' := by
  have HT := Keep.keep hT
  have HW0 : Keep (Below w.heap.size w w) := ⟨Below.refl _ _⟩
  have hent1 : ∀ args w, (callFunc 58 args).run Tryz.prog w = .ok (.enter 58 args) w := enters_of Tryz.func58 (by kernel_rfl) rfl
  have hent2 : ∀ args w, (callFunc 59 args).run Tryz.prog w = .ok (.enter 59 args) w := enters_of Tryz.func59 (by kernel_rfl) rfl
  clear hT
  go_enter Tryz.func19, Tryz.ntmps19
  go_wp2_with fail
  refine (tl1_lit [100] _).mono ?_
  rintro e w1 ⟨rfl, hb⟩
  have HW1 := Keep.keep (HW0.out.trans (hb.mono HW0.out.size))
  clear hb
  go_wp2_with fail
  refine (tl2_lit [100, 47, 97] [] 0 rfl (by decide) _).mono ?_
  rintro e w2 ⟨a0, c0, rfl, hn, hb⟩
  have HW2 := Keep.keep (HW1.out.trans (hb.mono HW1.out.size))
  have HN0 := Keep.keep hn
  clear hn hb
  go_wp2_with fail
  refine (tl2_lit [100, 47, 98] [] 0 rfl (by decide) _).mono ?_
  rintro e w3 ⟨a1, c1, rfl, hn, hb⟩
  have HW3 := Keep.keep (HW2.out.trans (hb.mono HW2.out.size))
  have HN0' := Keep.keep (HN0.out.on hb)
  clear HN0
  have HN0 := HN0'
  clear HN0'
  have HN1 := Keep.keep hn
  clear hn hb
  go_wp2_with fail
  refine (tl2_lit [100, 47, 99] [] 0 rfl (by decide) _).mono ?_
  rintro e w4 ⟨a2, c2, rfl, hn, hb⟩
  have HW4 := Keep.keep (HW3.out.trans (hb.mono HW3.out.size))
  have HN0' := Keep.keep (HN0.out.on hb)
  clear HN0
  have HN0 := HN0'
  clear HN0'
  have HN1' := Keep.keep (HN1.out.on hb)
  clear HN1
  have HN1 := HN1'
  clear HN1'
  have HN2 := Keep.keep hn
  clear hn hb
  go_wp2_with fail
  refine calls_at (R := fun wq => Below w4.heap.size w4 wq ∧ RdV wq (· < wq.heap.size) 9 (.slice (some ⟨w4.heap.size, 0, none⟩) 4 4) 4 (mcells ([(([100], dirN), nilV, nilV), (([100, 47, 97], fileD []), nilV, .slice a0 0 c0), (([100, 47, 98], fileD []), nilV, .slice a1 0 c1), (([100, 47, 99], fileD []), nilV, .slice a2 0 c2)] : List Mv))) ⟨(Below.refl _ _).alloc (Nat.le_refl _) _, RdV.new 41 (mcells ([(([100], dirN), nilV, nilV), (([100, 47, 97], fileD []), nilV, .slice a0 0 c0), (([100, 47, 98], fileD []), nilV, .slice a1 0 c1), (([100, 47, 99], fileD []), nilV, .slice a2 0 c2)] : List Mv)) 9 4 _ rfl rfl (by unfold maxLen; omega) (by simp)⟩ ?_
  intro w5 Hq
  have hbq := Hq.out.1
  have HW5 := Keep.keep (HW4.out.trans (hbq.mono HW4.out.size))
  have HN0' := Keep.keep (HN0.out.on hbq)
  clear HN0
  have HN0 := HN0'
  clear HN0'
  have HN1' := Keep.keep (HN1.out.on hbq)
  clear HN1
  have HN1 := HN1'
  clear HN1'
  have HN2' := Keep.keep (HN2.out.on hbq)
  clear HN2
  have HN2 := HN2'
  clear HN2'
  refine (small_tr (v := .slice (some ⟨_, 0, none⟩) 4 4) (l := [(([100], dirN), nilV, nilV), (([100, 47, 97], fileD []), nilV, .slice a0 0 c0), (([100, 47, 98], fileD []), nilV, .slice a1 0 c1), (([100, 47, 99], fileD []), nilV, .slice a2 0 c2)]) B (HT.out.on (HW5.out.mono HT.out.b)) ⟨Hq.out.2, fun x hx => ?_⟩ (fun x hx => ?_) (by simp) tn1).mono ?_
  · simp only [List.mem_cons, List.not_mem_nil, or_false] at hx
    rcases hx with rfl | rfl | rfl | rfl
    · exact dirL _
    · exact HN0.out
    · exact HN1.out
    · exact HN2.out
  · simp only [List.mem_cons, List.not_mem_nil, or_false] at hx
    rcases hx with rfl | rfl | rfl | rfl
    · exact sm_dirN _ (by decide)
    · exact sm_fileD _ _ (by decide) (by decide)
    · exact sm_fileD _ _ (by decide) (by decide)
    · exact sm_fileD _ _ (by decide) (by decide)
  rintro e w6 ⟨T1, rfl, ht, hb⟩
  have HW6 := Keep.keep (HW5.out.trans (hb.mono HW5.out.size))
  have HN0' := Keep.keep (HN0.out.on hb)
  clear HN0
  have HN0 := HN0'
  clear HN0'
  have HN1' := Keep.keep (HN1.out.on hb)
  clear HN1
  have HN1 := HN1'
  clear HN1'
  have HN2' := Keep.keep (HN2.out.on hb)
  clear HN2
  have HN2 := HN2'
  clear HN2'
  have HT1 := Keep.keep ht
  clear ht hb hbq Hq
  clear HN0
  clear HN1
  clear HN2
  go_wp2_with fail
  refine (tl1_lit [100] _).mono ?_
  rintro e w7 ⟨rfl, hb⟩
  have HW7 := Keep.keep (HW6.out.trans (hb.mono HW6.out.size))
  have HT1' := Keep.keep (HT1.out.on hb)
  clear HT1
  have HT1 := HT1'
  clear HT1'
  clear hb
  go_wp2_with fail
  refine (tl2_lit [100, 47, 97] [120] 1 rfl (by decide) _).mono ?_
  rintro e w8 ⟨a3, c3, rfl, hn, hb⟩
  have HW8 := Keep.keep (HW7.out.trans (hb.mono HW7.out.size))
  have HT1' := Keep.keep (HT1.out.on hb)
  clear HT1
  have HT1 := HT1'
  clear HT1'
  have HN3 := Keep.keep hn
  clear hn hb
  go_wp2_with fail
  refine calls_at (R := fun wq => Below w8.heap.size w8 wq ∧ RdV wq (· < wq.heap.size) 9 (.slice (some ⟨w8.heap.size, 0, none⟩) 2 2) 2 (mcells ([(([100], dirN), nilV, nilV), (([100, 47, 97], fileD [120]), nilV, .slice a3 1 c3)] : List Mv))) ⟨(Below.refl _ _).alloc (Nat.le_refl _) _, RdV.new 41 (mcells ([(([100], dirN), nilV, nilV), (([100, 47, 97], fileD [120]), nilV, .slice a3 1 c3)] : List Mv)) 9 2 _ rfl rfl (by unfold maxLen; omega) (by simp)⟩ ?_
  intro w9 Hq
  have hbq := Hq.out.1
  have HW9 := Keep.keep (HW8.out.trans (hbq.mono HW8.out.size))
  have HT1' := Keep.keep (HT1.out.on hbq)
  clear HT1
  have HT1 := HT1'
  clear HT1'
  have HN3' := Keep.keep (HN3.out.on hbq)
  clear HN3
  have HN3 := HN3'
  clear HN3'
  refine (small_tr (v := .slice (some ⟨_, 0, none⟩) 2 2) (l := [(([100], dirN), nilV, nilV), (([100, 47, 97], fileD [120]), nilV, .slice a3 1 c3)]) B (HT.out.on (HW9.out.mono HT.out.b)) ⟨Hq.out.2, fun x hx => ?_⟩ (fun x hx => ?_) (by simp) tn2).mono ?_
  · simp only [List.mem_cons, List.not_mem_nil, or_false] at hx
    rcases hx with rfl | rfl
    · exact dirL _
    · exact HN3.out
  · simp only [List.mem_cons, List.not_mem_nil, or_false] at hx
    rcases hx with rfl | rfl
    · exact sm_dirN _ (by decide)
    · exact sm_fileD _ _ (by decide) (by decide)
  rintro e w10 ⟨T2, rfl, ht, hb⟩
  have HW10 := Keep.keep (HW9.out.trans (hb.mono HW9.out.size))
  have HT1' := Keep.keep (HT1.out.on hb)
  clear HT1
  have HT1 := HT1'
  clear HT1'
  have HN3' := Keep.keep (HN3.out.on hb)
  clear HN3
  have HN3 := HN3'
  clear HN3'
  have HT2 := Keep.keep ht
  clear ht hb hbq Hq
  clear HN3
  go_wp2_with fail
  refine (Of_tr B (HT.out.on (HW10.out.mono HT.out.b)) (newT_well tn1) (newT_well tn2) (by decide) (by decide) HT1.out HT2.out).mono ?_
  rintro e w11 ⟨v1, l1, rfl, ho, hp, hr, hb⟩
  have HW11 := Keep.keep (HW10.out.trans (hb.mono HW10.out.size))
  have HT1' := Keep.keep (HT1.out.on hb)
  clear HT1
  have HT1 := HT1'
  clear HT1'
  have HT2' := Keep.keep (HT2.out.on hb)
  clear HT2
  have HT2 := HT2'
  clear HT2'
  have HK1 : Keep (l1.map (·.1) = tK1) := ⟨told_is (newT_well tn1) (newT_well tn2) tt1 (List.isPerm_iff.1 (by kernel_rfl)) ts1 hp ho.srt⟩
  have HM1 : Keep (MbL w11 v1 l1) := ⟨MbL.ofRow hr⟩
  have HS1 : Keep (∀ x ∈ l1, x.1.1.length ≤ 400000) := ⟨fun x hx => (ho.sm x.1 (List.mem_map.2 ⟨x, hx, rfl⟩)).p⟩
  obtain ⟨ao1, co1, hv1, -⟩ := (ownsV_reads hr.own).shape
  have hln1 : l1.length = tK1.length := by rw [← HK1.out, List.length_map]
  rw [hln1] at hv1
  have HL1 := Keep.keep hln1
  clear ho hp hr hb hln1 HT1 HT2
  subst hv1
  go_wp2_with fail
  refine (tl2_lit [97] [] 0 rfl (by decide) _).mono ?_
  rintro e w12 ⟨a4, c4, rfl, hn, hb⟩
  have HW12 := Keep.keep (HW11.out.trans (hb.mono HW11.out.size))
  have HM1' := Keep.keep (HM1.out.on hb)
  clear HM1
  have HM1 := HM1'
  clear HM1'
  have HN4 := Keep.keep hn
  clear hn hb
  go_wp2_with fail
  refine calls_at (R := fun wq => Below w12.heap.size w12 wq ∧ RdV wq (· < wq.heap.size) 9 (.slice (some ⟨w12.heap.size, 0, none⟩) 1 1) 1 (mcells ([(([97], fileD []), nilV, .slice a4 0 c4)] : List Mv))) ⟨(Below.refl _ _).alloc (Nat.le_refl _) _, RdV.new 41 (mcells ([(([97], fileD []), nilV, .slice a4 0 c4)] : List Mv)) 9 1 _ rfl rfl (by unfold maxLen; omega) (by simp)⟩ ?_
  intro w13 Hq
  have hbq := Hq.out.1
  have HW13 := Keep.keep (HW12.out.trans (hbq.mono HW12.out.size))
  have HM1' := Keep.keep (HM1.out.on hbq)
  clear HM1
  have HM1 := HM1'
  clear HM1'
  have HN4' := Keep.keep (HN4.out.on hbq)
  clear HN4
  have HN4 := HN4'
  clear HN4'
  refine (small_tr (v := .slice (some ⟨_, 0, none⟩) 1 1) (l := [(([97], fileD []), nilV, .slice a4 0 c4)]) B (HT.out.on (HW13.out.mono HT.out.b)) ⟨Hq.out.2, fun x hx => ?_⟩ (fun x hx => ?_) (by simp) tn3).mono ?_
  · simp only [List.mem_cons, List.not_mem_nil, or_false] at hx
    rcases hx with rfl
    · exact HN4.out
  · simp only [List.mem_cons, List.not_mem_nil, or_false] at hx
    rcases hx with rfl
    · exact sm_fileD _ _ (by decide) (by decide)
  rintro e w14 ⟨T3, rfl, ht, hb⟩
  have HW14 := Keep.keep (HW13.out.trans (hb.mono HW13.out.size))
  have HM1' := Keep.keep (HM1.out.on hb)
  clear HM1
  have HM1 := HM1'
  clear HM1'
  have HN4' := Keep.keep (HN4.out.on hb)
  clear HN4
  have HN4 := HN4'
  clear HN4'
  have HT3 := Keep.keep ht
  clear ht hb hbq Hq
  clear HN4
  go_wp2_with fail
  refine (tl1_lit [97] _).mono ?_
  rintro e w15 ⟨rfl, hb⟩
  have HW15 := Keep.keep (HW14.out.trans (hb.mono HW14.out.size))
  have HM1' := Keep.keep (HM1.out.on hb)
  clear HM1
  have HM1 := HM1'
  clear HM1'
  have HT3' := Keep.keep (HT3.out.on hb)
  clear HT3
  have HT3 := HT3'
  clear HT3'
  clear hb
  go_wp2_with fail
  refine (tl2_lit [97, 47, 120] [] 0 rfl (by decide) _).mono ?_
  rintro e w16 ⟨a5, c5, rfl, hn, hb⟩
  have HW16 := Keep.keep (HW15.out.trans (hb.mono HW15.out.size))
  have HM1' := Keep.keep (HM1.out.on hb)
  clear HM1
  have HM1 := HM1'
  clear HM1'
  have HT3' := Keep.keep (HT3.out.on hb)
  clear HT3
  have HT3 := HT3'
  clear HT3'
  have HN5 := Keep.keep hn
  clear hn hb
  go_wp2_with fail
  refine calls_at (R := fun wq => Below w16.heap.size w16 wq ∧ RdV wq (· < wq.heap.size) 9 (.slice (some ⟨w16.heap.size, 0, none⟩) 2 2) 2 (mcells ([(([97], dirN), nilV, nilV), (([97, 47, 120], fileD []), nilV, .slice a5 0 c5)] : List Mv))) ⟨(Below.refl _ _).alloc (Nat.le_refl _) _, RdV.new 41 (mcells ([(([97], dirN), nilV, nilV), (([97, 47, 120], fileD []), nilV, .slice a5 0 c5)] : List Mv)) 9 2 _ rfl rfl (by unfold maxLen; omega) (by simp)⟩ ?_
  intro w17 Hq
  have hbq := Hq.out.1
  have HW17 := Keep.keep (HW16.out.trans (hbq.mono HW16.out.size))
  have HM1' := Keep.keep (HM1.out.on hbq)
  clear HM1
  have HM1 := HM1'
  clear HM1'
  have HT3' := Keep.keep (HT3.out.on hbq)
  clear HT3
  have HT3 := HT3'
  clear HT3'
  have HN5' := Keep.keep (HN5.out.on hbq)
  clear HN5
  have HN5 := HN5'
  clear HN5'
  refine (small_tr (v := .slice (some ⟨_, 0, none⟩) 2 2) (l := [(([97], dirN), nilV, nilV), (([97, 47, 120], fileD []), nilV, .slice a5 0 c5)]) B (HT.out.on (HW17.out.mono HT.out.b)) ⟨Hq.out.2, fun x hx => ?_⟩ (fun x hx => ?_) (by simp) tn4).mono ?_
  · simp only [List.mem_cons, List.not_mem_nil, or_false] at hx
    rcases hx with rfl | rfl
    · exact dirL _
    · exact HN5.out
  · simp only [List.mem_cons, List.not_mem_nil, or_false] at hx
    rcases hx with rfl | rfl
    · exact sm_dirN _ (by decide)
    · exact sm_fileD _ _ (by decide) (by decide)
  rintro e w18 ⟨T4, rfl, ht, hb⟩
  have HW18 := Keep.keep (HW17.out.trans (hb.mono HW17.out.size))
  have HM1' := Keep.keep (HM1.out.on hb)
  clear HM1
  have HM1 := HM1'
  clear HM1'
  have HT3' := Keep.keep (HT3.out.on hb)
  clear HT3
  have HT3 := HT3'
  clear HT3'
  have HN5' := Keep.keep (HN5.out.on hb)
  clear HN5
  have HN5 := HN5'
  clear HN5'
  have HT4 := Keep.keep ht
  clear ht hb hbq Hq
  clear HN5
  go_wp2_with fail
  refine (Of_tr B (HT.out.on (HW18.out.mono HT.out.b)) (newT_well tn3) (newT_well tn4) (by decide) (by decide) HT3.out HT4.out).mono ?_
  rintro e w19 ⟨v2, l2, rfl, ho, hp, hr, hb⟩
  have HW19 := Keep.keep (HW18.out.trans (hb.mono HW18.out.size))
  have HM1' := Keep.keep (HM1.out.on hb)
  clear HM1
  have HM1 := HM1'
  clear HM1'
  have HT3' := Keep.keep (HT3.out.on hb)
  clear HT3
  have HT3 := HT3'
  clear HT3'
  have HT4' := Keep.keep (HT4.out.on hb)
  clear HT4
  have HT4 := HT4'
  clear HT4'
  have HK2 : Keep (l2.map (·.1) = tK2) := ⟨told_is (newT_well tn3) (newT_well tn4) tt2 (List.Perm.refl _) ts2 hp ho.srt⟩
  have HM2 : Keep (MbL w19 v2 l2) := ⟨MbL.ofRow hr⟩
  have HS2 : Keep (∀ x ∈ l2, x.1.1.length ≤ 400000) := ⟨fun x hx => (ho.sm x.1 (List.mem_map.2 ⟨x, hx, rfl⟩)).p⟩
  obtain ⟨ao2, co2, hv2, -⟩ := (ownsV_reads hr.own).shape
  have hln2 : l2.length = tK2.length := by rw [← HK2.out, List.length_map]
  rw [hln2] at hv2
  have HL2 := Keep.keep hln2
  clear ho hp hr hb hln2 HT3 HT4
  subst hv2
  go_wp2_with fail
  refine (tl2_lit [120] [] 0 rfl (by decide) _).mono ?_
  rintro e w20 ⟨a6, c6, rfl, hn, hb⟩
  have HW20 := Keep.keep (HW19.out.trans (hb.mono HW19.out.size))
  have HM1' := Keep.keep (HM1.out.on hb)
  clear HM1
  have HM1 := HM1'
  clear HM1'
  have HM2' := Keep.keep (HM2.out.on hb)
  clear HM2
  have HM2 := HM2'
  clear HM2'
  have HN6 := Keep.keep hn
  clear hn hb
  go_wp2_with fail
  refine (tl2_lit [121] [] 0 rfl (by decide) _).mono ?_
  rintro e w21 ⟨a7, c7, rfl, hn, hb⟩
  have HW21 := Keep.keep (HW20.out.trans (hb.mono HW20.out.size))
  have HM1' := Keep.keep (HM1.out.on hb)
  clear HM1
  have HM1 := HM1'
  clear HM1'
  have HM2' := Keep.keep (HM2.out.on hb)
  clear HM2
  have HM2 := HM2'
  clear HM2'
  have HN6' := Keep.keep (HN6.out.on hb)
  clear HN6
  have HN6 := HN6'
  clear HN6'
  have HN7 := Keep.keep hn
  clear hn hb
  go_wp2_with fail
  refine calls_at (R := fun wq => Below w21.heap.size w21 wq ∧ RdV wq (· < wq.heap.size) 9 (.slice (some ⟨w21.heap.size, 0, none⟩) 2 2) 2 (mcells ([(([120], fileD []), nilV, .slice a6 0 c6), (([121], fileD []), nilV, .slice a7 0 c7)] : List Mv))) ⟨(Below.refl _ _).alloc (Nat.le_refl _) _, RdV.new 41 (mcells ([(([120], fileD []), nilV, .slice a6 0 c6), (([121], fileD []), nilV, .slice a7 0 c7)] : List Mv)) 9 2 _ rfl rfl (by unfold maxLen; omega) (by simp)⟩ ?_
  intro w22 Hq
  have hbq := Hq.out.1
  have HW22 := Keep.keep (HW21.out.trans (hbq.mono HW21.out.size))
  have HM1' := Keep.keep (HM1.out.on hbq)
  clear HM1
  have HM1 := HM1'
  clear HM1'
  have HM2' := Keep.keep (HM2.out.on hbq)
  clear HM2
  have HM2 := HM2'
  clear HM2'
  have HN6' := Keep.keep (HN6.out.on hbq)
  clear HN6
  have HN6 := HN6'
  clear HN6'
  have HN7' := Keep.keep (HN7.out.on hbq)
  clear HN7
  have HN7 := HN7'
  clear HN7'
  refine (small_tr (v := .slice (some ⟨_, 0, none⟩) 2 2) (l := [(([120], fileD []), nilV, .slice a6 0 c6), (([121], fileD []), nilV, .slice a7 0 c7)]) B (HT.out.on (HW22.out.mono HT.out.b)) ⟨Hq.out.2, fun x hx => ?_⟩ (fun x hx => ?_) (by simp) tn5).mono ?_
  · simp only [List.mem_cons, List.not_mem_nil, or_false] at hx
    rcases hx with rfl | rfl
    · exact HN6.out
    · exact HN7.out
  · simp only [List.mem_cons, List.not_mem_nil, or_false] at hx
    rcases hx with rfl | rfl
    · exact sm_fileD _ _ (by decide) (by decide)
    · exact sm_fileD _ _ (by decide) (by decide)
  rintro e w23 ⟨T5, rfl, ht, hb⟩
  have HW23 := Keep.keep (HW22.out.trans (hb.mono HW22.out.size))
  have HM1' := Keep.keep (HM1.out.on hb)
  clear HM1
  have HM1 := HM1'
  clear HM1'
  have HM2' := Keep.keep (HM2.out.on hb)
  clear HM2
  have HM2 := HM2'
  clear HM2'
  have HN6' := Keep.keep (HN6.out.on hb)
  clear HN6
  have HN6 := HN6'
  clear HN6'
  have HN7' := Keep.keep (HN7.out.on hb)
  clear HN7
  have HN7 := HN7'
  clear HN7'
  have HT5 := Keep.keep ht
  clear ht hb hbq Hq
  clear HN6
  clear HN7
  go_wp2_with fail
  refine (tl2_lit [120] [] 0 rfl (by decide) _).mono ?_
  rintro e w24 ⟨a8, c8, rfl, hn, hb⟩
  have HW24 := Keep.keep (HW23.out.trans (hb.mono HW23.out.size))
  have HM1' := Keep.keep (HM1.out.on hb)
  clear HM1
  have HM1 := HM1'
  clear HM1'
  have HM2' := Keep.keep (HM2.out.on hb)
  clear HM2
  have HM2 := HM2'
  clear HM2'
  have HT5' := Keep.keep (HT5.out.on hb)
  clear HT5
  have HT5 := HT5'
  clear HT5'
  have HN8 := Keep.keep hn
  clear hn hb
  go_wp2_with fail
  refine calls_at (R := fun wq => Below w24.heap.size w24 wq ∧ RdV wq (· < wq.heap.size) 9 (.slice (some ⟨w24.heap.size, 0, none⟩) 1 1) 1 (mcells ([(([120], fileD []), nilV, .slice a8 0 c8)] : List Mv))) ⟨(Below.refl _ _).alloc (Nat.le_refl _) _, RdV.new 41 (mcells ([(([120], fileD []), nilV, .slice a8 0 c8)] : List Mv)) 9 1 _ rfl rfl (by unfold maxLen; omega) (by simp)⟩ ?_
  intro w25 Hq
  have hbq := Hq.out.1
  have HW25 := Keep.keep (HW24.out.trans (hbq.mono HW24.out.size))
  have HM1' := Keep.keep (HM1.out.on hbq)
  clear HM1
  have HM1 := HM1'
  clear HM1'
  have HM2' := Keep.keep (HM2.out.on hbq)
  clear HM2
  have HM2 := HM2'
  clear HM2'
  have HT5' := Keep.keep (HT5.out.on hbq)
  clear HT5
  have HT5 := HT5'
  clear HT5'
  have HN8' := Keep.keep (HN8.out.on hbq)
  clear HN8
  have HN8 := HN8'
  clear HN8'
  refine (small_tr (v := .slice (some ⟨_, 0, none⟩) 1 1) (l := [(([120], fileD []), nilV, .slice a8 0 c8)]) B (HT.out.on (HW25.out.mono HT.out.b)) ⟨Hq.out.2, fun x hx => ?_⟩ (fun x hx => ?_) (by simp) tn6).mono ?_
  · simp only [List.mem_cons, List.not_mem_nil, or_false] at hx
    rcases hx with rfl
    · exact HN8.out
  · simp only [List.mem_cons, List.not_mem_nil, or_false] at hx
    rcases hx with rfl
    · exact sm_fileD _ _ (by decide) (by decide)
  rintro e w26 ⟨T6, rfl, ht, hb⟩
  have HW26 := Keep.keep (HW25.out.trans (hb.mono HW25.out.size))
  have HM1' := Keep.keep (HM1.out.on hb)
  clear HM1
  have HM1 := HM1'
  clear HM1'
  have HM2' := Keep.keep (HM2.out.on hb)
  clear HM2
  have HM2 := HM2'
  clear HM2'
  have HT5' := Keep.keep (HT5.out.on hb)
  clear HT5
  have HT5 := HT5'
  clear HT5'
  have HN8' := Keep.keep (HN8.out.on hb)
  clear HN8
  have HN8 := HN8'
  clear HN8'
  have HT6 := Keep.keep ht
  clear ht hb hbq Hq
  clear HN8
  go_wp2_with fail
  refine (Of_tr B (HT.out.on (HW26.out.mono HT.out.b)) (newT_well tn5) (newT_well tn6) (by decide) (by decide) HT5.out HT6.out).mono ?_
  rintro e w27 ⟨v3, l3, rfl, ho, hp, hr, hb⟩
  have HW27 := Keep.keep (HW26.out.trans (hb.mono HW26.out.size))
  have HM1' := Keep.keep (HM1.out.on hb)
  clear HM1
  have HM1 := HM1'
  clear HM1'
  have HM2' := Keep.keep (HM2.out.on hb)
  clear HM2
  have HM2 := HM2'
  clear HM2'
  have HT5' := Keep.keep (HT5.out.on hb)
  clear HT5
  have HT5 := HT5'
  clear HT5'
  have HT6' := Keep.keep (HT6.out.on hb)
  clear HT6
  have HT6 := HT6'
  clear HT6'
  have HK3 : Keep (l3.map (·.1) = tK3) := ⟨told_is (newT_well tn5) (newT_well tn6) tt3 (List.Perm.refl _) ts3 hp ho.srt⟩
  have HM3 : Keep (MbL w27 v3 l3) := ⟨MbL.ofRow hr⟩
  have HS3 : Keep (∀ x ∈ l3, x.1.1.length ≤ 400000) := ⟨fun x hx => (ho.sm x.1 (List.mem_map.2 ⟨x, hx, rfl⟩)).p⟩
  obtain ⟨ao3, co3, hv3, -⟩ := (ownsV_reads hr.own).shape
  have hln3 : l3.length = tK3.length := by rw [← HK3.out, List.length_map]
  rw [hln3] at hv3
  have HL3 := Keep.keep hln3
  clear ho hp hr hb hln3 HT5 HT6
  subst hv3
  go_wp2_with fail
  refine (paths_any _ l1 _ HM1.out HS1.out (by rw [HL1.out]; decide)).mono ?_
  rw [HK1.out, tp1]
  rintro e w28 ⟨rfl, hb⟩
  have HW28 := Keep.keep (HW27.out.trans (hb.mono HW27.out.size))
  have HM2' := Keep.keep (HM2.out.on hb)
  clear HM2
  have HM2 := HM2'
  clear HM2'
  have HM3' := Keep.keep (HM3.out.on hb)
  clear HM3
  have HM3 := HM3'
  clear HM3'
  clear hb
  go_wp2_with fail
  refine (paths_any _ l2 _ HM2.out HS2.out (by rw [HL2.out]; decide)).mono ?_
  rw [HK2.out, tp2]
  rintro e w29 ⟨rfl, hb⟩
  have HW29 := Keep.keep (HW28.out.trans (hb.mono HW28.out.size))
  have HM3' := Keep.keep (HM3.out.on hb)
  clear HM3
  have HM3 := HM3'
  clear HM3'
  clear hb
  go_wp2_with fail
  refine (paths_any _ l3 _ HM3.out HS3.out (by rw [HL3.out]; decide)).mono ?_
  rw [HK3.out, tp3]
  rintro e w30 ⟨rfl, hb⟩
  have HW30 := Keep.keep (HW29.out.trans (hb.mono HW29.out.size))
  clear hb
  go_wp2_with fail
  go_ret
  exact ⟨rfl, HW30.out⟩
end Go.Proofs.YtmnknmpfkjhgbaaGreatDoor

