/- PARTS OF ONE PROOF, set in one file: TreeUnder, RTreeC, TreeAll, TreeSort, TreeList. Each part tells its own conditions. -/
import Derived.Sort.OwnSorted
import Derived.Test.YtphgmkhbhboklaaGreatDoorP4
import Derived.Test.YtphgmkhbhboklaaGreatDoorP6
import Derived.Test.YtphgmkhbhboklaaGreatDoorP10
/- tree.Under. -/
namespace Go.Proofs.YtphgmkhbhboklaaGreatDoor
open Go.RowKit Go.Shelf
attribute [local go_sem] Oper.semAt_some
theorem slMb : SlK Tryz.prog 33 32 (.agg (mbC ([], nd0) nilV nilV)) 9 112 := SlK.mk' Tryz.underlying33 (by kernel_rfl) rfl (by decide)
theorem RdV.kept {N : Nat → Prop} {w w' : World} {row : Option Nat} {k n : Nat} {v : Value} {vs : List Value} (h : RdV w N k v n vs) (hg : w.grownBy w' row) (hr : ∀ r, row = some r → ∃ o : Obj, w.heap[r]? = some o ∧ o.isCells = false) : RdV w' N k v n vs :=
  ⟨h.len, h.shape, fun b off m cap e j u hj => cell_kept (h.cell b off m cap e j u hj) hg hr⟩
theorem Reads.kept {N : Nat → Prop} {w w' : World} {row : Option Nat} {v : Value} {l : List UInt8} (h : Reads w N v l) (hg : w.grownBy w' row) (hr : ∀ r, row = some r → ∃ o : Obj, w.heap[r]? = some o ∧ o.isCells = false) : Reads w' N v l :=
  ⟨h.shape, fun b off n cap e j hj => cell_kept (h.cell b off n cap e j hj) hg hr⟩
theorem NdR.kept {N : Nat → Prop} {w w' : World} {row : Option Nat} {n : Nd} {av dv : Value} (h : NdR w N n av dv) (hg : w.grownBy w' row) (hr : ∀ r, row = some r → ∃ o : Obj, w.heap[r]? = some o ∧ o.isCells = false) : NdR w' N n av dv := ⟨h.at_.kept hg hr, h.dt.kept hg hr⟩
theorem owns_kept {w w' : World} {row : Option Nat} {base k n : Nat} {e : TypeId} {v : Value} {vs : List Value} (h : w.ownsRow base e k v n vs) (hg : w.grownBy w' row) (hr : ∀ r, row = some r → ∃ o : Obj, w.heap[r]? = some o ∧ o.isCells = false) : w'.ownsRow base e k v n vs := by
  obtain ⟨h0, ho⟩ := h
  refine ⟨h0, ho.imp id ?_⟩
  rintro ⟨g, cap, cur, rfl, hbb, hh, rest⟩
  exact ⟨g, cap, cur, rfl, hbb, (grownBy_keeps_cells hg hr hh rfl).trans hh, rest⟩
theorem NdO.kept {N : Nat → Prop} {w w' : World} {row : Option Nat} {n : Nd} {av dv : Value} (h : NdO w N n av dv) (hg : w.grownBy w' row) (hr : ∀ r, row = some r → ∃ o : Obj, w.heap[r]? = some o ∧ o.isCells = false) : NdO w' N n av dv :=
  ⟨h.r.kept hg hr, fun b off m cap e => by
    obtain ⟨h1, c, h2⟩ := h.ta b off m cap e
    exact ⟨h1, c, (grownBy_keeps_cells hg hr h2 rfl).trans h2⟩, fun b off m cap e => by
    obtain ⟨h1, c, h2⟩ := h.td b off m cap e
    exact ⟨h1, c, (grownBy_keeps_cells hg hr h2 rfl).trans h2⟩⟩
theorem NdO.loc {w w' : World} {N : Nat → Prop} {n : Nd} {av dv : Value} (h : NdO w N n av dv) (hb : ∀ b, N b → w'.heap[b]? = w.heap[b]?) : NdO w' N n av dv :=
  ⟨h.r.loc hb, fun b off m cap e => by
    obtain ⟨h1, c, h2⟩ := h.ta b off m cap e
    exact ⟨h1, c, (hb b h1).trans h2⟩, fun b off m cap e => by
    obtain ⟨h1, c, h2⟩ := h.td b off m cap e
    exact ⟨h1, c, (hb b h1).trans h2⟩⟩
def hitU (p : Tx) (x : Mb) : Bool := x.1 == p || underP p x.1
def underL (p : Tx) (L : List Mb) : List Mb := L.filter (hitU p)
/-- what the loop keeps: the box of l -/
theorem ownsRow_base {w : World} {base base' k n : Nat} {e : TypeId} {v : Value} {vs : List Value} (h : w.ownsRow base e k v n vs) (hb : base' ≤ base) : w.ownsRow base' e k v n vs := by
  obtain ⟨hl, h⟩ := h
  refine ⟨hl, ?_⟩
  rcases h with h | ⟨g, cap, cur, h1, h2, h3⟩
  · exact .inl h
  · exact .inr ⟨g, cap, cur, h1, Nat.le_trans hb h2, h3⟩
/-- a row of Members that is the call's own: its nodes lie elsewhere -/
structure OwnMbs (B : Nat) (w : World) (v : Value) (l : List Mv) : Prop where
  own : w.ownsRow B 32 9 v l.length (mcells l)
  nd : ∀ x ∈ l, NdO w (fun b => B ≤ b ∧ b < w.heap.size ∧ v.ownBlock ≠ some b) x.1.2 x.2.1 x.2.2
theorem OwnMbs.mbs {B : Nat} {w : World} {v : Value} {l : List Mv} (h : OwnMbs B w v l) : Mbs w (Fresh B w) (Fresh B w) v l :=
  ⟨(ownsV_reads h.own).mono (fun _ hb => ⟨hb.1, hb.2.1⟩), fun x hx => (h.nd x hx).r.mono (fun _ hb => ⟨hb.1, hb.2.1⟩)⟩
structure UI (p : Tx) (b0 : Nat) (w : World) (pre : List Mb) (W : World) (v : Value) (l : List Mv) : Prop where
  box : Boxed W (b0 + 1) 33 v
  own : W.ownsRow (b0 + 3) 32 9 v l.length (mcells l)
  nd : ∀ x ∈ l, NdO W (fun b => b0 + 3 ≤ b ∧ b < W.heap.size ∧ v.ownBlock ≠ some b) x.1.2 x.2.1 x.2.2
  is : l.map (·.1) = underL p pre
  pb : Boxed W b0 9 (.string ⟨p.toArray⟩)
  bel : Below b0 w W
  sz : b0 + 3 ≤ W.heap.size
theorem UI.own_ (p : Tx) (b0 B : Nat) (w : World) (hw : b0 ≤ w.heap.size) (hB : b0 ≤ B) : OwnFrom B (fun pre W => ∃ v l, UI p b0 w pre W v l) := by
  rintro pre W W' row ⟨v, l, h⟩ hg hr
  have hr' : ∀ r, row = some r → ∃ o : Obj, W.heap[r]? = some o ∧ o.isCells = false := fun r e => (hr r e).2
  exact ⟨v, l, (Own.from (boxed_own (b0 + 1) 33 (fun _ : Unit => v)) B) () W W' row h.box hg hr, owns_kept h.own hg hr', fun x hx => ((h.nd x hx).kept hg hr').mono (fun b hb => ⟨hb.1, Nat.lt_of_lt_of_le hb.2.1 hg.size, hb.2.2⟩), h.is,
    (Own.from (boxed_own b0 9 (fun _ : Unit => .string ⟨p.toArray⟩)) B) () W W' row h.pb hg hr, (ownFrom_below (β := Unit) hw hB) () W W' row h.bel hg hr, Nat.le_trans h.sz hg.size⟩
theorem UI.ownL (p : Tx) (b0 B : Nat) (w : World) (hw : b0 ≤ w.heap.size) (hB : b0 ≤ B) (L : List Mb) : OwnFrom B (fun (pre : List {x : Mb // x ∈ L}) W => ∃ v l, UI p b0 w (pre.map (·.1)) W v l) :=
  fun pre W W' row h hg hr => UI.own_ p b0 B w hw hB (pre.map (·.1)) W W' row h hg hr
theorem run_buildMb {ρ : Operand → Value} {d : Option Tmp} {x y : Operand} {t : TypeId} {pos : String} {af : Array Edge} {g : Option (Nat × Bool)} {w : World} {m : Mb} {av dv : Value} (h1 : ρ x = .string ⟨m.1.toArray⟩) (h2 : ρ y = .agg (ndC m.2 av dv)) :
    (execOp ρ (⟨d, .build 32 #[(0, x), (1, y)], t, pos, af, g⟩ : Oper)).run Tryz.prog w = .ok (.value (.agg (mbC m av dv))) w := by
  simp [execOp, h1, h2, buildM]
/-- what is said of the operations of `l = append(l, Member{..})` -/
def unT (x : Mb) (s Bx : Nat) (v av dv : Value) : Nat → Value → World → Prop
  | 0, u, _ => u = v
  | 1, u, _ => u = .pointer (some ⟨Bx, 0, none⟩)
  | 2, u, _ => u = .string ⟨x.1.toArray⟩
  | 3, u, _ => u = .pointer (some ⟨Bx, 1, none⟩)
  | 4, u, _ => u = .agg (ndC x.2 av dv)
  | 5, u, w => ∃ a d, u = .agg (ndC x.2 a d) ∧ NdO w (Fresh s w) x.2 a d
  | 6, u, w => ∃ a d, u = .agg (mbC x a d) ∧ NdO w (Fresh s w) x.2 a d
  | 7, u, w => ∃ a d bl, u = .slice (some ⟨bl, 0, none⟩) 1 1 ∧ RdV w (fun b => b = bl) 9 u 1 (mbC x a d).toList ∧ NdO w (Fresh s w) x.2 a d ∧ bl < w.heap.size
  | _, _, _ => True
theorem unT_stays {x : Mb} {s Bx : Nat} {v av dv : Value} (k : Nat) (u : Value) (w w' : World) (h : unT x s Bx v av dv k u w) (hb : Below w.heap.size w w') : unT x s Bx v av dv k u w' := by
  have hN : ∀ a d, NdO w (Fresh s w) x.2 a d → NdO w' (Fresh s w') x.2 a d := fun a d h => (h.below hb (fun b hb' => hb'.2)).mono (Fresh.mono (Nat.le_refl _) hb.size)
  match k with
  | 0 => exact h
  | 1 => exact h
  | 2 => exact h
  | 3 => exact h
  | 4 => exact h
  | 5 => obtain ⟨a, d, e, h⟩ := h; exact ⟨a, d, e, hN _ _ h⟩
  | 6 => obtain ⟨a, d, e, h⟩ := h; exact ⟨a, d, e, hN _ _ h⟩
  | 7 => obtain ⟨a, d, bl, e, h1, h2, h3⟩ := h; exact ⟨a, d, bl, e, h1.below hb (fun b e => e ▸ h3), hN _ _ h2, Nat.lt_of_lt_of_le h3 hb.size⟩
  | _ + 8 => trivial
theorem under_step {p : Tx} {b0 B : Nat} {w W w2 w3 : World} {pre pre' : List Mb} {v : Value} {l : List Mv} {x : Mb} {av dv : Value} {g cap : Nat} (hU : UI p b0 w pre W v l) (hC : Below W.heap.size W w2)
    (ho : w3.ownsRow (b0 + 3) 32 9 (.slice (some ⟨g, 0, none⟩) (l.length + 1) cap) (l.length + 1) (mcells l ++ (mbC x av dv).toList)) (hg : w2.grownBy w3 v.ownBlock)
    (hov : (Value.slice (some ⟨g, 0, none⟩) (l.length + 1) cap).ownBlock = v.ownBlock ∨ (Value.slice (some ⟨g, 0, none⟩) (l.length + 1) cap).ownBlock = some w2.heap.size) (hn : NdO w2 (Fresh W.heap.size w2) x.2 av dv) (hH : underL p pre' = underL p pre ++ [x]) :
    KeepsFrom B W (w3.setCell ⟨b0 + 1, 0, none⟩ (.slice (some ⟨g, 0, none⟩) (l.length + 1) cap)) ∧ KE (fun b => b = b0 + 1) (b0 + 3) W (w3.setCell ⟨b0 + 1, 0, none⟩ (.slice (some ⟨g, 0, none⟩) (l.length + 1) cap)) ∧ ∃ v' l', UI p b0 w pre' (w3.setCell ⟨b0 + 1, 0, none⟩ (.slice (some ⟨g, 0, none⟩) (l.length + 1) cap)) v' l' := by
  have hob := World.ownsRow.lt hU.own
  have hob3 := World.ownsRow.lt ho
  have hgo : (Value.slice (some ⟨g, 0, none⟩) (l.length + 1) cap).ownBlock = some g := rfl
  rw [hgo] at hov
  have hg3 := (hob3 g rfl).1
  have hsz := hU.sz
  have hs2 := hC.size
  have hs3 := hg.size
  have hcell : ∀ j, v.ownBlock = some j → ∃ cur, W.heap[j]? = some (.cells cur 32 (0, 0)) := by
    rcases hU.own.2 with ⟨rfl, _⟩ | ⟨g, cap, cur, rfl, _, hh, _⟩
    · intro j e; cases e
    · intro j e; injection e with e; subst e; exact ⟨cur, hh⟩
  have h3 : ∀ b, b < w2.heap.size → v.ownBlock ≠ some b → w3.heap[b]? = w2.heap[b]? := fun b h1 h2 => hg.block b h1 (fun e => h2 e.symm)
  generalize hv' : Value.slice (some ⟨g, 0, none⟩) (l.length + 1) cap = v' at *
  have h4 : ∀ b, b < w3.heap.size → b ≠ b0 + 1 → (w3.setCell ⟨b0 + 1, 0, none⟩ v').heap[b]? = w3.heap[b]? := fun b h1 h2 => (grownBy_setCell' w3 (b0 + 1) v').block b h1 (fun e => h2 (by injection e))
  have hs4 := (grownBy_setCell' w3 (b0 + 1) v').size
  have hall : ∀ b, b < W.heap.size → v.ownBlock ≠ some b → b ≠ b0 + 1 → (w3.setCell ⟨b0 + 1, 0, none⟩ v').heap[b]? = W.heap[b]? := fun b h1 h2 h5 => by
    rw [h4 b (by omega) h5, h3 b (by omega) h2, hC.block b h1]
  have hKE : Chg (fun b => b = b0 + 1) (b0 + 3) W (w3.setCell ⟨b0 + 1, 0, none⟩ v') :=
    Chg.setCell (M := fun b => b = b0 + 1) (((Chg.of_below (hC.mono hsz)).trans (Chg.grown (.refl _ _ _) hg (by omega) (fun k e => .inl (hob k e).1)))) (p := ⟨b0 + 1, 0, none⟩) (.inr rfl) _
  have hbox3 : Boxed w3 (b0 + 1) 33 v := by
    unfold Boxed
    rw [h3 _ (by omega) (fun e => by have := (hob _ e).1; omega), hC.block _ hU.box.lt]
    exact hU.box
  refine ⟨?_, ⟨hKE, fun b c hb => ?_⟩, v', l ++ [(x, av, dv)], hbox3.set _, ?_, ?_, ?_, ?_, ?_, by omega⟩
  · have k1 : KeepsOthers W w2 := ⟨hs2, fun k o hk _ => (hC.block k (Array.getElem?_eq_some_iff.1 hk).1).trans hk⟩
    have k2 : KeepsOthers w2 w3 := KeepsOthers.of_grownBy hg (fun j o e ho' => by
      obtain ⟨cur, hc⟩ := hcell j e
      rw [hC.block j (hob j e).2, hc] at ho'
      injection ho' with ho'
      subst ho'; rfl)
    exact ((k1.trans k2).trans (KeepsOthers.setCell _ _ _)).from _
  · have hlt := (Array.getElem?_eq_some_iff.1 hb).1
    refine (hall b hlt (fun e => ?_) (fun e => ?_)).trans hb
    · obtain ⟨cur, hc⟩ := hcell b e
      rw [hc] at hb
      injection hb with hb
      injection hb with _ hb
      cases hb
    · subst e
      have := hU.box
      unfold Boxed at this
      rw [this] at hb
      injection hb with hb
      injection hb with _ hb
      cases hb
  · rw [List.length_append, mcells_append]
    have : mcells [(x, av, dv)] = (mbC x av dv).toList := by rw [mcells_cons]; exact List.append_nil _
    rw [this]
    exact ownsRow_loc _ _ (fun b hb => h4 b (hob3 b hb).2 (by have := (hob3 b hb).1; omega)) ho
  · intro y hy
    have hv2 : v'.ownBlock = some g := by rw [← hv']; rfl
    rcases List.mem_append.1 hy with hy | hy
    · refine ((hU.nd y hy).loc (fun b hb => hall b hb.2.1 hb.2.2 (by omega))).mono (fun b hb => ⟨hb.1, by omega, ?_⟩)
      rw [hv2]
      rcases hov with h | h
      · rw [h]; exact hb.2.2
      · injection h with h; intro e; injection e with e; omega
    · obtain rfl : y = (x, av, dv) := by simpa using hy
      refine (hn.loc (fun b hb => ?_)).mono (fun b hb => ⟨by have := hb.1; omega, by have := hb.2; omega, ?_⟩)
      · have h1 := hb.1
        have h2 := hb.2
        rw [h4 b (by omega) (by omega), h3 b h2 (fun e => by have := (hob _ e).2; omega)]
      · have h1 := hb.1
        have h2 := hb.2
        rw [hv2]
        rcases hov with h | h
        · rw [h]; intro e; have := (hob _ e).2; omega
        · injection h with h; intro e; injection e with e; omega
  · rw [List.map_append, hU.is, hH]; rfl
  · have := hU.pb
    unfold Boxed at this ⊢
    rw [hall b0 (by omega) (fun e => by have := (hob _ e).1; omega) (by omega)]
    exact this
  · exact hU.bel.trans ((hKE.lower (by omega)).below (fun k hk e => by omega))
/-- the frame of the body -/
def uFr (T b0 Bx : Nat) (p : Tx) (x : Mb) (av dv : Value) : Act := { tmps := #[.pointer (some ⟨T, 0, none⟩), .string ⟨p.toArray⟩, undef, .pointer (some ⟨b0, 0, none⟩), .slice none 0 0, .pointer (some ⟨b0 + 1, 0, none⟩), .pointer (some ⟨Bx, 0, none⟩), .pointer (some ⟨T, 0, none⟩), .func (.func 56) #[] #[.pointer (some ⟨b0 + 1 + 1, 0, none⟩)], .agg (mbC x av dv), undef, undef, undef, undef, undef, undef, undef, undef, undef, undef, undef, undef, undef, undef, undef, undef, undef, undef, undef, undef], defers := [] }
set_option maxHeartbeats 4000000 in
set_option maxRecDepth 100000 in
theorem under_own_in (n : Nat) (hn : 12 ≤ n) (T mb : Nat) (Bk : Nat → Prop) (f : Tx → Value × Value) (L : List Mb) (p : Tx) (w : World) (hL : L.length ≤ 100000) (hp : p.length ≤ 400000) (hT : TreeIn w T mb Bk f L) (hlt : T < w.heap.size ∧ mb < w.heap.size ∧ ∀ b, Bk b → b < w.heap.size) :
    CallsIn Fence.wide n Tryz.prog 14 #[.pointer (some ⟨T, 0, none⟩), .string ⟨p.toArray⟩] w fun e w' => ∃ v l, e = .returned v ∧ l.map (·.1) = underL p L ∧ OwnMbs w.heap.size w' v l ∧ Below w.heap.size w w' := by
  have hn1 : 1 ≤ n := by omega
  have hn2 : 1 ≤ n - 1 := by omega
  have hn3 : 1 ≤ n - 1 - 1 := by omega
  have hro : Fence.wide.round = none := rfl
  have hf0 : Fence.wide.fn 14 := trivial
  have hf1 : Fence.wide.fn 28 := trivial
  have hf2 : Fence.wide.fn 38 := trivial
  have hf3 : Fence.wide.fn 31 := trivial
  refine callsIn_of_wp_marks Tryz.func14 rfl hf0 ?_ hro
  simp only [Tryz.ntmps14, List.size_toArray, List.length_cons, List.length_nil, Nat.reduceAdd, Nat.reduceSub, Array.replicate_succ, Array.replicate_zero, List.push_toArray, List.append_toArray, List.nil_append, List.cons_append]
  gi_wp2_with (gi_at_call 28; refine (callsIn_wide.2 (each_any _ _)).mono ?_; rintro e w' ⟨rfl, rfl⟩)
  obtain ⟨b0, hb0⟩ : ∃ b0, w.heap.size = b0 := ⟨_, rfl⟩
  have bP := ((Boxed.new w 9 (.string ⟨p.toArray⟩)).alloc (.cells #[.slice none 0 0] 33)).alloc (.cells #[.pointer (some ⟨T, 0, none⟩)] 24)
  have bL := (Boxed.new (w.alloc (.cells #[.string ⟨p.toArray⟩] 9)) 33 (.slice none 0 0)).alloc (.cells #[.pointer (some ⟨T, 0, none⟩)] 24)
  have bT := Boxed.new ((w.alloc (.cells #[.string ⟨p.toArray⟩] 9)).alloc (.cells #[.slice none 0 0] 33)) 24 (.pointer (some ⟨T, 0, none⟩))
  simp only [World.size_alloc] at bL bT
  have hB0 : Below w.heap.size w (((w.alloc (.cells #[.string ⟨p.toArray⟩] 9)).alloc (.cells #[.slice none 0 0] 33)).alloc (.cells #[.pointer (some ⟨T, 0, none⟩)] 24)) :=
    (((Below.refl _ w).alloc (Nat.le_refl _) _).alloc (by simp) _).alloc (by simp; omega) _
  have hsz : (((w.alloc (.cells #[.string ⟨p.toArray⟩] 9)).alloc (.cells #[.slice none 0 0] 33)).alloc (.cells #[.pointer (some ⟨T, 0, none⟩)] 24)).heap.size = w.heap.size + 3 := by simp
  obtain ⟨W0, hW0⟩ : ∃ W0, (((w.alloc (.cells #[.string ⟨p.toArray⟩] 9)).alloc (.cells #[.slice none 0 0] 33)).alloc (.cells #[.pointer (some ⟨T, 0, none⟩)] 24)) = W0 := ⟨_, rfl⟩
  rw [hW0] at bP bL bT hB0 hsz ⊢
  clear hW0
  have hwb : b0 ≤ w.heap.size := by omega
  rw [hb0] at bP bL bT hB0 hsz hlt ⊢
  have hlt0 := hlt
  have hT0 : TreeIn W0 T mb Bk f L := hT.loc (fun b hb => hB0.block b (by rcases hb with rfl | rfl | h; exact hlt.1; exact hlt.2.1; exact hlt.2.2 _ h))
  have UI0 : ∃ v l, UI p b0 w [] W0 v l := ⟨.slice none 0 0, [], bL, World.ownsRow_nil _ _ _ _, fun x hx => by simp at hx, rfl, bP, hB0, by omega⟩
  refine wpIn_rangeFunc_ownH hro hn1 (gf := 56) (lb := #[.pointer (some ⟨b0 + 1 + 1, 0, none⟩)]) rfl trivial (enters_of Tryz.func56 (by kernel_rfl) rfl)
    (each_stops (fun b => b = b0 + 1) (n - 1) (by omega) (b0 + 1 + 1) (b0 + 3) T mb Bk f L (by omega) W0 bT.cell (by omega) hT0 ⟨by omega, by omega, fun b hb => by have := hlt.2.2 b hb; omega⟩ ⟨by omega, by omega, fun b hb => by have := hlt.2.2 b hb; omega⟩ (by omega)) KE.trans (KE.b (by omega)) (Below.refl _ _) (fun _ => rfl)
    (fun pre W => ∃ v l, UI p b0 w (pre.map (·.1)) W v l) (fun _ _ _ => False) (UI.ownL p b0 _ w hwb (by omega) L) (fun _ => ownFrom_pure _ (fun _ => False)) UI0
    (fun x a' W => ∃ Bx, (Row W Bx 32 (mbC x.1 (f x.1.1).1 (f x.1.1).2) ∧ b0 + 3 ≤ Bx) ∧ a' = uFr T b0 Bx p x.1 (f x.1.1).1 (f x.1.1).2)
    (fun x a' _ X Y row hs hg hr => by obtain ⟨Bx, ⟨e2, e3⟩, e4⟩ := hs; exact ⟨Bx, ⟨(grownBy_keeps_cells hg (fun r e => (hr r e).2) e2 rfl).trans e2, e3⟩, e4⟩)
    ?assign ?body ?done ?stop
  case assign =>
    rintro lo pre ⟨x, hxL⟩ W K hI hK
    obtain ⟨aa, la, ca, ad, ld, cd, hav, hdv⟩ := (hT.nd x hxL).shape
    simp only [hav, hdv, uFr] at hK ⊢
    unfold encM mbC strV
    simp only [hav, hdv]
    obtain ⟨xp, ⟨kind, mode, uid, gid, time, attrs, data, link⟩⟩ := x
    gi_wp2
    have hb3 : b0 + 3 ≤ W.heap.size := by obtain ⟨v, l, h⟩ := hI; exact h.sz
    exact hK _ _ ((KeepsOthers.alloc _ _).from _) (KE.of_below ((Below.refl _ _).alloc (Nat.le_refl _) _) hb3) ((UI.ownL p b0 b0 w hwb (Nat.le_refl _) L).alloc _ hI) ⟨W.heap.size, ⟨Row.new W 32 _, hb3⟩, rfl⟩
  case body =>
    rintro lo pre ⟨x, hxL⟩ a' W hl0 ⟨r, hr1⟩ ⟨v, l, hU⟩ ⟨Bx, ⟨hx, hx3⟩, rfl⟩ hlt
    have hnd := hT.nd x hxL
    have hsm := hT.sm x hxL
    obtain ⟨aa, la, ca, ad, ld, cd, hav, hdv⟩ := hnd.shape
    dsimp only at hx ⊢
    rw [hav, hdv] at hx hnd ⊢
    have HU := Keep.keep hU; have HX := Keep.keep hx; have HN := Keep.keep hnd; have HS := Keep.keep hsm
    have cX : W.cell? ⟨Bx, 0, none⟩ = some (.string ⟨x.1.toArray⟩) := hx.cell (i := 0) rfl
    have cP := hU.pb.cell
    clear hnd hsm hU hx
    unfold uFr
    have HI : Keep (∀ b, ((x.1 == p) || underP p x.1) = b → underL p ((pre ++ [(⟨x, hxL⟩ : {x : Mb // x ∈ L})]).map (fun y => y.1)) = underL p (pre.map (fun y => y.1)) ++ if b then [x] else []) := ⟨fun b hb => by
      rw [List.map_append]
      unfold underL
      rw [List.filter_append, List.map_cons, List.map_nil, List.filter_cons]
      show _ ++ (if ((x.1 == p) || underP p x.1) = true then _ else _) = _
      rw [hb]
      cases b <;> rfl⟩
    have HUN := fun wx => under_any p x.1 (by omega) wx
    have hlen : l.length < L.length := by
      have h1 := congrArg List.length HU.out.is
      have h2 : (underL p (pre.map (fun y => y.1))).length ≤ pre.length := by have := List.length_filter_le (hitU p) (pre.map (fun y => y.1)); simpa [underL] using this
      rw [List.length_map] at h1
      omega
    cases he : (x.1 == p)
    cases hu : underP p x.1
    · rw [he, hu] at HI
      simp only [hu] at HUN
      gi_wp2_with (gi_at_call 38; refine (CallsIn.inRound lo (callsIn_wide.2 (HUN _))).mono ?_; rintro e w' ⟨rfl, rfl⟩)
      refine ⟨KeepsFrom.refl _ _, KE.refl _ _ _, v, l, HU.out.box, HU.out.own, HU.out.nd, ?_, HU.out.pb, HU.out.bel, HU.out.sz⟩
      rw [HI.out false rfl, HU.out.is]
      simp
    focus
      rw [he, hu] at HI
      simp only [hu] at HUN
      gi_wp2_with (gi_at_call 38; refine (CallsIn.inRound lo (callsIn_wide.2 (HUN _))).mono ?_; rintro e w' ⟨rfl, rfl⟩)
      have HH := Keep.keep (HI.out true rfl)
      clear HI HUN hu he
    rotate_left
    focus
      rw [he, Bool.true_or] at HI
      gi_wp2_with fail
      have HH := Keep.keep (HI.out true rfl)
      clear HI HUN he
    all_goals
      refine wpIn_region_wide (by kernel_rfl) (by kernel_rfl) ?_ ?_
      · rintro ⟨a, w, h⟩
        exact h
      refine any_spcT 8 [20, 21, 22, 23, 24, 25, 26, 27] (Below W.heap.size W) (unT x W.heap.size Bx v (.slice aa la ca) (.slice ad ld cd)) (fun w w' => Below w.heap.size w w') rfl (by decide) (by show ∀ d ∈ _, d < 30; decide) (by kernel_rfl) (by decide) (by kernel_rfl) (by kernel_rfl) (by kernel_rfl) (Below.refl _ _).drew (fun i v w w' h _ hb => unT_stays i v w w' h hb) ?_ ?_
      · intro k hk a1 w2 hF hC hT
        have b5 : a1.eval (.tmp 5) = .pointer (some ⟨b0 + 1, 0, none⟩) := (hF.same 5 (by decide)).trans rfl
        have b6 : a1.eval (.tmp 6) = .pointer (some ⟨Bx, 0, none⟩) := (hF.same 6 (by decide)).trans rfl
        have hkr : Below w2.heap.size w2 w2 := Below.refl _ _
        have hBx : Bx < W.heap.size := HX.out.lt
        have RX : Row w2 Bx 32 (mbC x (.slice aa la ca) (.slice ad ld cd)) := by unfold Row; rw [hC.block Bx hBx]; exact HX.out
        rcases (by omega : k = 0 ∨ k = 1 ∨ k = 2 ∨ k = 3 ∨ k = 4 ∨ k = 5 ∨ k = 6 ∨ k = 7) with rfl | rfl | rfl | rfl | rfl | rfl | rfl | rfl
        · have hc : w2.cell? ⟨b0 + 1, 0, none⟩ = some v := (hC.cell (p := ⟨b0 + 1, 0, none⟩) HU.out.box.lt).trans HU.out.box.cell
          exact spcS_val (d := 20) rfl (wanted_none rfl) (run_loadCell (run_isAgg_plain Tryz.underlying33 rfl) hc b5) hC hkr rfl
        · exact spcS_val (d := 21) rfl (wanted_none rfl) (run_fieldAddr (m := 0) Tryz.underlying32 rfl (by kernel_rfl) b6) hC hkr rfl
        · have hx : a1.eval (.tmp 21) = .pointer (some ⟨Bx, 0, none⟩) := hT 1 (by decide) (by kernel_rfl)
          exact spcS_val (d := 22) rfl (wanted_none rfl) (run_loadCell (run_isAgg_plain Tryz.underlying9 rfl) (RX.cell (i := 0) rfl) hx) hC hkr rfl
        · exact spcS_val (d := 23) rfl (wanted_none rfl) (run_fieldAddr (m := 7) Tryz.underlying32 rfl (by kernel_rfl) b6) hC hkr rfl
        · have hx : a1.eval (.tmp 23) = .pointer (some ⟨Bx, 1, none⟩) := hT 3 (by decide) (by kernel_rfl)
          exact spcS_val (d := 24) rfl (wanted_none rfl) (run_loadNd RX hx) hC hkr rfl
        · have hx : a1.eval (.tmp 24) = .agg (ndC x.2 (.slice aa la ca) (.slice ad ld cd)) := hT 4 (by decide) (by kernel_rfl)
          refine spcS_call (d := 25) (vs := #[.agg (ndC x.2 (.slice aa la ca) (.slice ad ld cd))]) rfl (wanted_none rfl) (Go.Proofs.enters_of Tryz.func31 (by kernel_rfl) rfl) (by simp [hx]) ?_
          have hlw : w.heap.size ≤ w2.heap.size := by have := HU.out.sz; have := hC.size; omega
          have hNw : NdR w2 (· < w2.heap.size) x.2 (.slice aa la ca) (.slice ad ld cd) := ((HN.out.below (hb0 ▸ HU.out.bel) (fun b hb => hlt0.2.2 b hb)).below hC (fun b hb => by have := hlt0.2.2 b hb; have := HU.out.sz; omega)).mono (fun b hb => by have := hlt0.2.2 b hb; omega)
          refine (clone_own x.2 _ _ w2 hNw HS.out.a (by have := HS.out.d; omega)).mono ?_
          rintro e wz ⟨av', dv', rfl, hv', hb⟩
          exact ⟨_, rfl, hC.trans (hb.mono hC.size), hb, av', dv', rfl, hv'.mono (fun b hb' => hb'.mono hC.size (Nat.le_refl _))⟩
        · have hx : a1.eval (.tmp 22) = .string ⟨x.1.toArray⟩ := hT 2 (by decide) (by kernel_rfl)
          obtain ⟨av', dv', h5, hv'⟩ := hT 5 (by decide) (by kernel_rfl)
          exact spcS_val (d := 26) rfl (wanted_none rfl) (run_buildMb hx h5) hC hkr ⟨av', dv', rfl, hv'⟩
        · obtain ⟨av', dv', h6, hv'⟩ := hT 6 (by decide) (by kernel_rfl)
          have h6' : a1.eval (.tmp 26) = .agg (mbC x av' dv') := h6
          have hal : Below w2.heap.size w2 (w2.alloc (.cells (a1.eval (.tmp 26)).cells 32)) := (Below.refl _ _).alloc (Nat.le_refl _) _
          refine spcS_val (d := 27) rfl (wanted_none rfl) (run_build1 slMb (by decide) (by rw [h6']; rfl)) (hC.trans (hal.mono hC.size)) hal ?_
          rw [h6']
          refine ⟨av', dv', w2.heap.size, rfl, ?_, ?_, by simp⟩
          · exact RdV.new 32 (mbC x av' dv').toList 9 1 w2.heap.size rfl rfl (by unfold maxLen; omega) rfl
          · exact (hv'.below ((Below.refl _ w2).alloc (Nat.le_refl _) _) (fun b hb => hb.2)).mono (Fresh.mono (Nat.le_refl _) (by simp))
      · intro a1 w2 ha hC hT
        have t0 : slot a1 20 = v := hT 0 (by decide)
        obtain ⟨av', dv', bl, t7, hrd, hndx, hbl⟩ : ∃ a d bl, slot a1 27 = .slice (some ⟨bl, 0, none⟩) 1 1 ∧ RdV w2 (fun b => b = bl) 9 (slot a1 27) 1 (mbC x a d).toList ∧ NdO w2 (Fresh W.heap.size w2) x.2 a d ∧ bl < w2.heap.size := hT 7 (by decide)
        rw [t7] at hrd
        simp only [List.foldl_cons, List.foldl_nil, t0, t7] at ha
        generalize slot a1 21 = x1 at *
        generalize slot a1 22 = x2 at *
        generalize slot a1 23 = x3 at *
        generalize slot a1 24 = x4 at *
        generalize slot a1 25 = x5 at *
        generalize slot a1 26 = x6 at *
        clear hT t0 t7
        subst ha
        simp only [List.drop_succ_cons, List.drop_zero]
        simp only [Act.put, List.setIfInBounds_toArray, List.set_cons_succ, List.set_cons_zero]
        have hUo := HU.out
        have hob := World.ownsRow.lt hUo.own
        have hown2 : w2.ownsRow (b0 + 3) 32 9 v l.length (mcells l) := ownsRow_loc _ _ (fun b hb => hC.block b (hob b hb).2) hUo.own
        have hone : ∀ u ∈ (mbC x av' dv').toList, u.oneCell' = true := by
          obtain ⟨aa', la', ca', ad', ld', cd', rfl, rfl⟩ := hndx.shape
          simp [mbC, strV, Value.oneCell']
        refine arm_appendV slMb hown2 hrd hone (by unfold maxLen; omega) (by omega) (by have := hUo.sz; have := hC.size; omega) rfl rfl ?_
        intro v' w3 ho hg hov _
        obtain ⟨g, cap, hv'⟩ : ∃ g cap, v' = .slice (some ⟨g, 0, none⟩) (l.length + 1) cap := by
          rcases ho.2 with ⟨_, h⟩ | ⟨g, cap, cur, h, _⟩
          · omega
          · exact ⟨g, cap, h⟩
        subst hv'
        have hsame : ∀ b, b < w2.heap.size → v.ownBlock ≠ some b → w3.heap[b]? = w2.heap[b]? := fun b h1 h2 => hg.block b h1 (fun e => h2 e.symm)
        have hb1 : b0 + 1 < w2.heap.size := by have := hUo.sz; have := hC.size; omega
        have hbox3 : Boxed w3 (b0 + 1) 33 v := by
          unfold Boxed
          rw [hsame _ hb1 (fun e => by have := (hob _ e).1; omega), hC.block _ hUo.box.lt]
          exact hUo.box
        have cB := hbox3.cell
        have fB := hbox3.frozen
        have HO := Keep.keep ho; have HG := Keep.keep hg; have HOV := Keep.keep hov; have HNX := Keep.keep hndx; have HOB := Keep.keep hob; have HSM := Keep.keep hsame
        clear ho hg hov hndx hob hsame hUo hown2 hone hrd
        go_wp2_with fail
        exact under_step HU.out hC HO.out HG.out HOV.out HNX.out HH.out
  case done =>
    rintro D ys W hD hys ⟨v, l, hU⟩ hK
    have cB := hU.box.cell
    have fB := hU.box.frozen
    obtain ⟨av, cap, hv⟩ : ∃ av cap, v = .slice av l.length cap := by
      rcases hU.own.2 with ⟨h, h0⟩ | ⟨g, cap, cur, h, _⟩
      · exact ⟨none, 0, by rw [h, h0]⟩
      · exact ⟨_, cap, h⟩
    have HU := Keep.keep hU
    clear hU
    subst hv
    gi_wp2
    refine ⟨by simp, .inl ⟨_, _, rfl, run_takeDeferred hK, ?_⟩⟩
    have hg := grownBy_putObj' W D (.deferred none)
    have hr : ∀ r, some D = some r → ∃ o : Obj, W.heap[r]? = some o ∧ o.isCells = false := fun r e => by cases e; exact ⟨_, hK, rfl⟩
    have hsw := hg.size
    refine ⟨.slice av l.length cap, ?_, _, l, rfl, ?_, ⟨?_, ?_⟩, ?_⟩
    · simp [results, Tryz.f14, go_sem]
    · rw [HU.out.is, hys]
    · exact ownsRow_base (owns_kept HU.out.own hg hr) (by omega)
    · exact fun x hx => ((HU.out.nd x hx).kept hg hr).mono (fun b hb => ⟨by have := hb.1; omega, by have := hb.2.1; omega, hb.2.2⟩)
    · rw [hb0]
      exact HU.out.bel.trans (belowK_b (w := w) (by omega) W D _ _ (by omega) hK rfl rfl)
  case stop =>
    rintro D c pre W hD hpre hF hK
    exact hF.elim
theorem under_in (n : Nat) (hn : 12 ≤ n) (T mb : Nat) (Bk : Nat → Prop) (f : Tx → Value × Value) (L : List Mb) (p : Tx) (w : World) (hL : L.length ≤ 100000) (hp : p.length ≤ 400000) (hT : TreeIn w T mb Bk f L) (hlt : T < w.heap.size ∧ mb < w.heap.size ∧ ∀ b, Bk b → b < w.heap.size) :
    CallsIn Fence.wide n Tryz.prog 14 #[.pointer (some ⟨T, 0, none⟩), .string ⟨p.toArray⟩] w fun e w' => ∃ v l, e = .returned v ∧ l.map (·.1) = underL p L ∧ Mbs w' (Fresh w.heap.size w') (Fresh w.heap.size w') v l ∧ Below w.heap.size w w' :=
  (under_own_in n hn T mb Bk f L p w hL hp hT hlt).mono (fun _ _ ⟨v, l, he, hl, ho, hb⟩ => ⟨v, l, he, hl, ho.mbs, hb⟩)
/-- tree.Under, and the row is the call's own -/
theorem under_own (T mb : Nat) (Bk : Nat → Prop) (f : Tx → Value × Value) (L : List Mb) (p : Tx) (w : World) (hL : L.length ≤ 100000) (hp : p.length ≤ 400000) (hT : TreeIn w T mb Bk f L) (hlt : T < w.heap.size ∧ mb < w.heap.size ∧ ∀ b, Bk b → b < w.heap.size) :
    Calls Tryz.prog 14 #[.pointer (some ⟨T, 0, none⟩), .string ⟨p.toArray⟩] w fun e w' => ∃ v l, e = .returned v ∧ l.map (·.1) = underL p L ∧ OwnMbs w.heap.size w' v l ∧ Below w.heap.size w w' :=
  callsIn_wide.1 (under_own_in 12 (Nat.le_refl _) T mb Bk f L p w hL hp hT hlt)
/-- tree.Under -/
theorem under_tree (T mb : Nat) (Bk : Nat → Prop) (f : Tx → Value × Value) (L : List Mb) (p : Tx) (w : World) (hL : L.length ≤ 100000) (hp : p.length ≤ 400000) (hT : TreeIn w T mb Bk f L) (hlt : T < w.heap.size ∧ mb < w.heap.size ∧ ∀ b, Bk b → b < w.heap.size) :
    Calls Tryz.prog 14 #[.pointer (some ⟨T, 0, none⟩), .string ⟨p.toArray⟩] w fun e w' => ∃ v l, e = .returned v ∧ l.map (·.1) = underL p L ∧ Mbs w' (Fresh w.heap.size w') (Fresh w.heap.size w') v l ∧ Below w.heap.size w w' :=
  callsIn_wide.1 (under_in 12 (Nat.le_refl _) T mb Bk f L p w hL hp hT hlt)
end Go.Proofs.YtphgmkhbhboklaaGreatDoor
/- portolanref18's tree: New, Get, Under. -/
namespace Go.Proofs.YtphgmkhbhboklaaGreatDoor
open Go.RowKit
/-- what portolanref18.New answers: no tree, or one of its own, its Members' slices shared with those that it was handed -/
def RNewIs (w w' : World) (N : Nat → Prop) (pv : Value) : Option (List Mb) → Prop
  | none => pv = .pointer none
  | some L => ∃ R N' v l, pv = .pointer (some ⟨R, 0, none⟩) ∧ RefIn w' R N' v l ∧ l.map (·.1) = L ∧ w.heap.size ≤ R ∧ R < w'.heap.size ∧ ∀ b, N' b → N b ∨ Fresh w.heap.size w' b
theorem buildR (w : World) : (Instr.build 80 #[]).run Tryz.prog w = .ok (.agg #[.slice none 0 0]) w := by kernel_rfl
set_option maxHeartbeats 4000000 in
set_option maxRecDepth 100000 in
theorem rnew_any (N : Nat → Prop) (v : Value) (l : List Mv) (w : World) (hN : ∀ b, N b → b < w.heap.size) (hr : Mbs w N N v l) (hs : ∀ x ∈ l, Sm x.1) (hl : l.length ≤ 100000) :
    Calls Tryz.prog 21 #[v] w fun e w' => (∃ pv, e = .returned (.tuple #[pv, .int .i64 (newT (l.map (·.1))).1]) ∧ RNewIs w w' N pv (newT (l.map (·.1))).2) ∧ Below w.heap.size w w' := by
  have HON : Keep (∀ wx, Below w.heap.size w wx → Mbs wx N N v l) := ⟨fun wx hb => hr.below hb hN hN⟩
  have HS := Keep.keep hs; have HNN := Keep.keep hN
  have HMY : Keep (∀ wx, Below w.heap.size w wx → ∀ x ∈ l, Calls Tryz.prog 22 #[.agg (mcell x)] wx fun e w' => e = .returned (.bool (mayM x.1)) ∧ Below wx.heap.size wx w') := ⟨fun wx hb x hx => by
    have := rmay18_any x.1 x.2.1 x.2.2 (hs x hx) wx (((hr.nd x hx).below hb hN).mono (fun b hb' => Nat.lt_of_lt_of_le (hN b hb') hb.size))
    simpa [mcell] using this⟩
  have HNT : Keep (newT (l.map (·.1)) = if (l.any fun x => !mayM x.1) then (1, none) else if (growT (l.map (·.1))).length < l.length then (9, none) else if (l.any fun x => !dirT (growT (l.map (·.1))) (parentP x.1.1)) then (33, none) else if 4096 < l.length then (42, none) else (0, some (growT (l.map (·.1))))) := ⟨by
    unfold newT; rw [List.any_map, List.length_map, List.any_map]; rfl⟩
  generalize newT (l.map (·.1)) = res at *
  obtain ⟨a, cap, hv, hcap, hmx, hsh⟩ := hr.rd.shape
  have HSH := Keep.keep hsh
  have HSHP := Keep.keep (fun x hx => (hr.nd x hx).shape)
  clear hr hs hsh hN
  unfold maxLen at hmx
  subst hv
  obtain ⟨n, hn⟩ : ∃ n, l.length = n := ⟨_, rfl⟩
  have HN := Keep.keep hn
  rw [hn] at hl hcap HNT HON ⊢
  clear hn
  have hbr := buildR
  go_enter Tryz.func21, Tryz.ntmps21
  go_upto_region 2 with fail
  refine wp_world (R := fun w1 => Hp NoM w w1 [rowA w.heap.size 80 #[.slice none 0 0]]) ((Hp.begin NoM w).newRow _ _) ?_
  intro w1 H1
  obtain ⟨R, hR⟩ : ∃ R, w.heap.size = R := ⟨_, rfl⟩
  have HR := Keep.keep hR
  rw [hR] at H1 ⊢
  have hRlt := (H1.out.row 0 rfl).lt
  clear hR
  go_wp2_with fail
  go_loopg [5] n (fun g u5 wx => ∃ k : Nat, k + g = n ∧ u5 = .int .i64 (k : Int) ∧ (∀ j, (hj : j < k) → (hl : j < l.length) → mayM l[j].1 = true) ∧ Below w1.heap.size w1 wx)
  case atStart => exact ⟨0, by omega, rfl, fun j hj => by omega, Below.refl _ _⟩
  case round =>
    obtain ⟨k, hkg, rfl, hok, hb⟩ := hrel
    have HOK := Keep.keep hok; have HB := Keep.keep hb
    have HBW := Keep.keep (H1.out.call hb).below
    have hs1 := hb.size
    clear hok hb
    by_cases hk : k < n
    · have hd : decide ((k : Int) < (n : Int)) = true := decide_eq_true (by omega)
      have hkl : k < l.length := by rw [HN.out]; exact hk
      obtain ⟨b, off, rfl, hbl⟩ : ∃ b off, a = some ⟨b, off, none⟩ ∧ N b := by
        rcases HSH.out with h | ⟨b, off, h, hb⟩
        · omega
        · exact ⟨b, off, h, hb⟩
      obtain ⟨gn, hgn⟩ : ∃ gn, gk = gn + 1 := ⟨gk - 1, by omega⟩
      subst hgn
      have hld := (HON.out wr HBW.out).load hkl
      have HMX := Keep.keep (HMY.out wr HBW.out _ (List.getElem_mem hkl))
      have HSTEP : Keep (mayM l[k].1 = true → ∀ j, (hj : j < k + 1) → (hl : j < l.length) → mayM l[j].1 = true) := ⟨fun he j hj hl => by
        rcases Nat.lt_succ_iff_lt_or_eq.1 hj with h | rfl
        · exact HOK.out j h hl
        · exact he⟩
      have HBAD : Keep (mayM l[k].1 = false → (l.any fun x => !mayM x.1) = true) := ⟨fun h => List.any_eq_true.2 ⟨_, List.getElem_mem hkl, by simp [h]⟩⟩
      generalize mayM l[k].1 = my at *
      generalize mcell l[k] = x at *
      go_wp2_with ((with_reducible refine arm_loadM hld ?_ ?_); (focus rfl); simp only [Act.put, List.setIfInBounds_toArray, List.set_cons_succ, List.set_cons_zero])
      refine HMX.out.mono ?_
      rintro e w2 ⟨rfl, hb2⟩
      have HB2 := Keep.keep (HB.out.trans (hb2.mono hs1))
      have HBW2 := Keep.keep (H1.out.call HB2.out).below
      clear hb2
      cases my with
      | false =>
        have HRE : Keep (res = (1, none)) := ⟨by rw [HNT.out, HBAD.out rfl]; rfl⟩
        go_wp2_with fail
        go_ret2
        rw [HRE.out]
        exact ⟨⟨_, rfl, rfl⟩, HBW2.out⟩
      | true =>
        have HST := Keep.keep (HSTEP.out rfl)
        go_wp2_with fail
        go_roundg gn
        case measure => omega
        case rel => exact ⟨k + 1, by omega, by simp, HST.out, HB2.out⟩
    · obtain rfl : k = n := by omega
      have hd : decide ((k : Int) < (k : Int)) = false := decide_eq_false (by omega)
      have HNT2 : Keep (res = if (growT (l.map (·.1))).length < k then (9, none) else if (l.any fun x => !dirT (growT (l.map (·.1))) (parentP x.1.1)) then (33, none) else if 4096 < k then (42, none) else (0, some (growT (l.map (·.1))))) := ⟨by
        have : (l.any fun x => !mayM x.1) = false := List.any_eq_false.2 (fun x hx => by
          obtain ⟨j, hj, rfl⟩ := List.mem_iff_getElem.1 hx
          have := HOK.out j (by have := HN.out; omega) hj
          simp [this])
        rw [HNT.out, this]; rfl⟩
      have HBASE : Keep (RefTo w1 wr R N ([] : List Mb)) := ⟨⟨.slice none 0 0, [], ⟨(H1.out.row 0 rfl).below HB.out hRlt, ⟨RdV.ofNil, fun x hx => (List.not_mem_nil hx).elim⟩, SM.Srt.nil, fun x hx => (List.not_mem_nil hx).elim, fun e => by
        rcases e with e | e
        · have h1 := HNN.out R e; have := HR.out; omega
        · have := e.1; omega⟩, rfl⟩⟩
      have HNR : Keep (¬ N R) := ⟨fun e => by have h1 := HNN.out R e; have := HR.out; omega⟩
      clear HNT hkg HMY HOK
      obtain ⟨n, hkn⟩ : ∃ n, k = n := ⟨_, rfl⟩
      subst hkn
      go_wp2_with fail
      go_loopg [6] k (fun g u6 wx => ∃ i : Nat, i + g = k ∧ u6 = .int .i64 (i : Int) ∧ RefTo w1 wx R N (growT ((l.take i).map (·.1))) ∧ Chg (fun j => j = R) w1.heap.size w1 wx)
      case atStart => exact ⟨0, by omega, rfl, HBASE.out, .of_below HB.out⟩
      case round =>
        obtain ⟨i, hig, rfl, hto, hch⟩ := hrel
        have HTO := Keep.keep hto; have HCH := Keep.keep hch
        have hs2 := hch.size
        have HBX : Keep (Below w.heap.size w wr) := ⟨H1.out.below.trans ((hch.lower H1.out.size).below (fun j hj e => by have := HR.out; omega))⟩
        clear hto hch HBASE HB HBW hs1
        by_cases hi : i < k
        · have hd : decide ((i : Int) < (k : Int)) = true := decide_eq_true (by omega)
          have hil : i < l.length := by rw [HN.out]; exact hi
          obtain ⟨b, off, rfl, hbl⟩ : ∃ b off, a = some ⟨b, off, none⟩ ∧ N b := by
            rcases HSH.out with h | ⟨b, off, h, hb⟩
            · omega
            · exact ⟨b, off, h, hb⟩
          obtain ⟨gn, hgn⟩ : ∃ gn, gk = gn + 1 := ⟨gk - 1, by omega⟩
          subst hgn
          have hld := (HON.out wr HBX.out).load hil
          have hnd := (HON.out wr HBX.out).nd _ (List.getElem_mem hil)
          have hsx := HS.out _ (List.getElem_mem hil)
          obtain ⟨v', l', hr', he'⟩ := HTO.out
          have hll : l'.length ≤ 100000 := by
            have h1 := congrArg List.length he'
            have h2 := growT_len ((l.take i).map (·.1))
            rw [List.length_map, List.length_take] at h2
            rw [List.length_map] at h1
            omega
          have HSX := Keep.keep (rset_any R (fun b => N b ∨ Fresh w1.heap.size wr b) v' l' wr hr' (by omega) (fun b hb => by
            rcases hb with hb | hb
            · have := HNN.out b hb; have := H1.out.size; omega
            · exact hb.2) l[i].1 l[i].2.1 l[i].2.2 hsx (hnd.mono (fun b hb => .inl hb)) hll)
          have HGS : Keep (SM.put (l'.map (·.1)) l[i].1 = growT ((l.take (i + 1)).map (·.1))) := ⟨by
            rw [he', List.take_succ_eq_append_getElem hil, List.map_append, List.map_cons, List.map_nil, growT_snoc]⟩
          have HMC : Keep (mcell l[i] = mbC l[i].1 l[i].2.1 l[i].2.2) := ⟨rfl⟩
          rw [← HMC.out] at HSX
          generalize mcell l[i] = x at *
          clear hnd hsx hr' he' hll
          go_wp2_with ((with_reducible refine arm_loadM hld ?_ ?_); (focus rfl); simp only [Act.put, List.setIfInBounds_toArray, List.set_cons_succ, List.set_cons_zero])
          refine HSX.out.mono ?_
          rintro e w3 ⟨rfl, hto, hch⟩
          have HT3 : Keep (RefTo w1 w3 R N (growT ((l.take (i + 1)).map (·.1)))) := ⟨by
            rw [← HGS.out]
            obtain ⟨v3, l3, h3, e3⟩ := hto
            refine ⟨v3, l3, h3.mono (fun b hb => ?_) (fun e => ?_), e3⟩
            · have := hch.size
              rcases hb with (hb | hb) | hb
              · exact .inl hb
              · exact .inr ⟨hb.1, by have := hb.2; omega⟩
              · exact .inr ⟨by have := hb.1; omega, hb.2⟩
            · rcases e with e | e
              · exact HNR.out e
              · have := e.1; omega⟩
          have HC3 : Keep (Chg (fun j => j = R) w1.heap.size w1 w3) := ⟨HCH.out.trans (hch.lower hs2)⟩
          clear hto hch hld HSX HGS
          go_wp2_with fail
          go_roundg gn
          case measure => omega
          case rel => exact ⟨i + 1, by omega, by simp, HT3.out, HC3.out⟩
        · obtain rfl : i = k := by omega
          have hd : decide ((i : Int) < (i : Int)) = false := decide_eq_false (by omega)
          obtain ⟨v', l', hr', he'⟩ := HTO.out
          have htk : l.take i = l := List.take_of_length_le (by rw [HN.out]; omega)
          rw [htk] at he'
          have HLL : Keep (l'.length = (growT (l.map (·.1))).length) := ⟨by rw [← he', List.length_map]⟩
          have HE := Keep.keep he'
          obtain ⟨N2, hN2⟩ : ∃ N2 : Nat → Prop, (fun b => N b ∨ Fresh w1.heap.size wr b) = N2 := ⟨_, rfl⟩
          have HN2B : Keep (∀ b, N2 b → b < wr.heap.size ∧ (N b ∨ w1.heap.size ≤ b)) := ⟨fun b hb => by
            rw [← hN2] at hb
            rcases hb with hb | hb
            · have := HNN.out b hb; have := H1.out.size; exact ⟨by omega, .inl hb⟩
            · exact ⟨hb.2, .inr hb.1⟩⟩
          rw [hN2] at hr'
          have HRI := Keep.keep hr'
          have c0 := hr'.row.cell (i := 0) rfl
          obtain ⟨a2, cap2, hv2, hcap2, hmx2, -⟩ := hr'.mbs.rd.shape
          rw [hv2] at c0
          unfold maxLen at hmx2
          have hglen := growT_len (l.map (·.1))
          rw [List.length_map, HN.out] at hglen
          clear hr' he' htk hN2 HTO HCH
          obtain ⟨gl, hgl⟩ : ∃ gl, l'.length = gl := ⟨_, rfl⟩
          have HGL := Keep.keep hgl
          rw [hgl] at c0 hcap2
          rw [← HLL.out, hgl] at hglen HNT2
          clear hgl
          by_cases hlt : gl < i
          · have hd2 : decide ((gl : Int) < (i : Int)) = true := decide_eq_true (by omega)
            have HRE : Keep (res = (9, none)) := ⟨by rw [HNT2.out, if_pos hlt]⟩
            go_wp2_with fail
            go_ret2
            rw [HRE.out]
            exact ⟨⟨_, rfl, rfl⟩, HBX.out⟩
          · have hd2 : decide ((gl : Int) < (i : Int)) = false := decide_eq_false (by omega)
            have HNT3 : Keep (res = if (l.any fun x => !dirT (growT (l.map (·.1))) (parentP x.1.1)) then (33, none) else if 4096 < i then (42, none) else (0, some (growT (l.map (·.1))))) := ⟨by rw [HNT2.out, if_neg hlt]⟩
            have HDR : Keep (∀ wx, Below wr.heap.size wr wx → ∀ p, Calls Tryz.prog 45 #[.pointer (some ⟨R, 0, none⟩), .string ⟨p.toArray⟩] wx fun e w' => e = .returned (.bool (dirT (growT (l.map (·.1))) p)) ∧ Below wx.heap.size wx w') := ⟨fun wx hb p => by
              have := rdir_any R N2 v' l' wx (HRI.out.below hb (by omega) (fun b hb' => (HN2B.out b hb').1)) (by have := hb.size; omega) (fun b hb' => Nat.lt_of_lt_of_le (HN2B.out b hb').1 hb.size) p
              rw [HE.out] at this
              exact this⟩
            clear HNT2
            go_wp2_with fail
            clear c0 hlt
            go_loopg [7] i (fun g u7 wx => ∃ q : Nat, q + g = i ∧ u7 = .int .i64 (q : Int) ∧ (∀ j, (hj : j < q) → (hl : j < l.length) → dirT (growT (l.map (·.1))) (parentP l[j].1.1) = true) ∧ Below wr.heap.size wr wx)
            case atStart => exact ⟨0, by omega, rfl, fun j hj => by omega, Below.refl _ _⟩
            case round =>
              rename_i wq _
              obtain ⟨q, hqg, rfl, hok, hbq⟩ := hrel
              have HOK := Keep.keep hok; have HBQ := Keep.keep hbq
              have HBWQ := Keep.keep (HBX.out.trans (hbq.mono HBX.out.size))
              have hsq := hbq.size
              clear hok hbq
              by_cases hq : q < i
              · have hd : decide ((q : Int) < (i : Int)) = true := decide_eq_true (by omega)
                have hql : q < l.length := by rw [HN.out]; exact hq
                obtain ⟨b, off, rfl, hbl⟩ : ∃ b off, a = some ⟨b, off, none⟩ ∧ N b := by
                  rcases HSH.out with h | ⟨b, off, h, hb⟩
                  · omega
                  · exact ⟨b, off, h, hb⟩
                obtain ⟨gn, hgn⟩ : ∃ gn, gk = gn + 1 := ⟨gk - 1, by omega⟩
                subst hgn
                have hc := (HON.out _ HBWQ.out).cell hql 0 (by omega) (u := strV l[q].1.1) rfl
                have HPA := Keep.keep (fun wx => rparent_any l[q].1.1 (by have := (HS.out _ (List.getElem_mem hql)).p; omega) wx)
                have HDX := Keep.keep (HDR.out _ HBQ.out (parentP l[q].1.1))
                have HSTEP : Keep (dirT (growT (l.map (·.1))) (parentP l[q].1.1) = true → ∀ j, (hj : j < q + 1) → (hl : j < l.length) → dirT (growT (l.map (·.1))) (parentP l[j].1.1) = true) := ⟨fun he j hj hl => by
                  rcases Nat.lt_succ_iff_lt_or_eq.1 hj with h | rfl
                  · exact HOK.out j h hl
                  · exact he⟩
                have HBAD : Keep (dirT (growT (l.map (·.1))) (parentP l[q].1.1) = false → (l.any fun x => !dirT (growT (l.map (·.1))) (parentP x.1.1)) = true) := ⟨fun h => List.any_eq_true.2 ⟨_, List.getElem_mem hql, by simp [h]⟩⟩
                generalize dirT (growT (l.map (·.1))) (parentP l[q].1.1) = dr at *
                generalize parentP l[q].1.1 = pp at *
                generalize l[q].1.1 = xp at *
                unfold strV at hc
                rw [Nat.add_zero] at hc
                go_wp2_with fail
                refine (HPA.out _).mono ?_
                rintro e w3 ⟨rfl, rfl⟩
                go_wp2_with fail
                refine HDX.out.mono ?_
                rintro e w3 ⟨rfl, hb3⟩
                have HB3 := Keep.keep (HBQ.out.trans (hb3.mono hsq))
                have HBW3 := Keep.keep (HBX.out.trans (HB3.out.mono HBX.out.size))
                clear hb3 hc
                cases dr with
                | false =>
                  have HRE : Keep (res = (33, none)) := ⟨by rw [HNT3.out, HBAD.out rfl]; rfl⟩
                  go_wp2_with fail
                  go_ret2
                  rw [HRE.out]
                  exact ⟨⟨_, rfl, rfl⟩, HBW3.out⟩
                | true =>
                  have HST := Keep.keep (HSTEP.out rfl)
                  go_wp2_with fail
                  go_roundg gn
                  case measure => omega
                  case rel => exact ⟨q + 1, by omega, by simp, HST.out, HB3.out⟩
              · obtain rfl : q = i := by omega
                have hd : decide ((q : Int) < (q : Int)) = false := decide_eq_false (by omega)
                have HNT4 : Keep (res = if 4096 < q then (42, none) else (0, some (growT (l.map (·.1))))) := ⟨by
                  have : (l.any fun x => !dirT (growT (l.map (·.1))) (parentP x.1.1)) = false := List.any_eq_false.2 (fun x hx => by
                    obtain ⟨j, hj, rfl⟩ := List.mem_iff_getElem.1 hx
                    have := HOK.out j (by have := HN.out; omega) hj
                    simp [this])
                  rw [HNT3.out, this]; rfl⟩
                clear HNT3
                by_cases h4 : 4096 < q
                · have hd4 : decide ((4096 : Int) < (q : Int)) = true := decide_eq_true (by omega)
                  have HRE : Keep (res = (42, none)) := ⟨by rw [HNT4.out, if_pos h4]⟩
                  go_wp2_with fail
                  go_ret2
                  rw [HRE.out]
                  exact ⟨⟨_, rfl, rfl⟩, HBWQ.out⟩
                · have hd4 : decide ((4096 : Int) < (q : Int)) = false := decide_eq_false (by omega)
                  have HRE : Keep (res = (0, some (growT (l.map (·.1))))) := ⟨by rw [HNT4.out, if_neg h4]⟩
                  have HRF := Keep.keep (HRI.out.below HBQ.out (by omega) (fun b hb' => (HN2B.out b hb').1))
                  go_wp2_with fail
                  go_ret2
                  rw [HRE.out]
                  refine ⟨⟨_, rfl, R, N2, v', l', rfl, HRF.out, HE.out, by have := HR.out; omega, by omega, fun b hb => ?_⟩, HBWQ.out⟩
                  obtain ⟨h1, h2⟩ := HN2B.out b hb
                  rcases h2 with h2 | h2
                  · exact .inl h2
                  · exact .inr ⟨by have := H1.out.size; omega, by omega⟩
set_option maxHeartbeats 1000000 in
set_option maxRecDepth 100000 in
theorem rget_any (R : Nat) (N : Nat → Prop) (v : Value) (l : List Mv) (w : World) (h : RefIn w R N v l) (hR : R < w.heap.size) (hN : ∀ b, N b → b < w.heap.size) (p : Tx) :
    Calls Tryz.prog 51 #[.pointer (some ⟨R, 0, none⟩), .string ⟨p.toArray⟩] w fun e w' => ∃ av dv, e = .returned (.tuple #[.agg (ndC (getT (l.map (·.1)) p).1 av dv), .bool (getT (l.map (·.1)) p).2]) ∧ NdR w' N (getT (l.map (·.1)) p).1 av dv ∧ Below w.heap.size w w' := by
  have HZ : Keep ((ndC nd0 nilV nilV).size = 8) := ⟨rfl⟩
  by_cases e : p = []
  · have he : p.isEmpty = true := by rw [e]; rfl
    have HG : Keep (getT (l.map (·.1)) p = (ndDir, true)) := ⟨by unfold getT; rw [if_pos e]⟩
    rw [HG.out]
    have hbd := buildN0
    have HON : Keep ((ndC ndDir nilV nilV).all (·.oneCell') = true) := ⟨by simp [ndC, nilV, strV, Value.oneCell']⟩
    have HSD : Keep ((ndC ndDir nilV nilV).size = 8) := ⟨rfl⟩
    clear e h hN HG
    go_enter Tryz.func51, Tryz.ntmps51
    go_upto_region 1 with fail
    refine wp_world (R := fun w1 => Hp NoM w w1 [rowA w.heap.size 30 (ndC nd0 nilV nilV)]) ((Hp.begin NoM w).newRow _ _) ?_
    intro w1 H1
    have HRW := Keep.keep (H1.out.row 0 rfl)
    go_wp2_with (first | ((with_reducible refine arm_storeRow HRW.out aggN HZ.out HSD.out HON.out ?_ ?_ ?_); (focus rfl); (focus rfl); simp only [Act.put]))
    have hch : Below w.heap.size w (w1.setRow w.heap.size (ndC ndDir nilV nilV)) := ((Chg.of_below (M := NoM) H1.out.below).setRow (.inl (Nat.le_refl _)) _).below (fun _ _ h => h)
    exact bodyPost_ret (results_row2 (p := 4) (q := 5) (ty := 30) rfl (HRW.out.setRow _) aggN HSD.out rfl rfl) rfl ⟨nilV, nilV, rfl, ndR_nil rfl rfl, hch⟩
  · have he : p.isEmpty = false := by simpa using e
    have HON : Keep (∀ wx, Below w.heap.size w wx → RefIn wx R N v l) := ⟨fun wx hb => h.below hb hR hN⟩
    have HPL : Keep (∀ wx, Below w.heap.size w wx → Calls Tryz.prog 49 #[.pointer (some ⟨R, 0, none⟩), .string ⟨p.toArray⟩] wx fun e w' => e = .returned (.tuple #[.int .i64 (SM.plc (l.map (·.1)) p : Int), .bool (SM.look (l.map (·.1)) p).isSome]) ∧ Below wx.heap.size wx w') := ⟨fun wx hb => place_any R N v l wx (h.below hb hR hN) p⟩
    have HAT : Keep (∀ n, SM.look (l.map (·.1)) p = some n → ∃ hk : SM.plc (l.map (·.1)) p < l.length, (l[SM.plc (l.map (·.1)) p]'hk).1 = (p, n)) := ⟨fun n hl => by
      have := h.srt.at_some hl
      obtain ⟨hk, e⟩ := List.getElem?_eq_some_iff.1 this
      rw [List.length_map] at hk
      exact ⟨hk, by rw [List.getElem_map] at e; exact e⟩⟩
    have HGT : Keep (getT (l.map (·.1)) p = match SM.look (l.map (·.1)) p with | some n => (n, true) | none => (nd0, false)) := ⟨by unfold getT; (rw [if_neg e]) <;> rfl⟩
    obtain ⟨a, cap, rfl, hcap, hmx, h3⟩ := h.mbs.rd.shape
    have H3 := Keep.keep h3
    unfold maxLen at hmx
    have hbn := buildN
    clear h h3 e
    generalize SM.plc (l.map (·.1)) p = pl at *
    cases hl : SM.look (l.map (·.1)) p with
    | none =>
      rw [hl] at HGT HPL
      have HG : Keep (getT (l.map (·.1)) p = (nd0, false)) := ⟨HGT.out⟩
      rw [HG.out]
      have HO0 : Keep ((ndC nd0 nilV nilV).all (·.oneCell') = true) := ⟨by simp [ndC, nilV, strV, Value.oneCell']⟩
      clear hl HAT HGT
      go_enter Tryz.func51, Tryz.ntmps51
      go_wp2_with fail
      refine calls_at (R := fun w1 => Hp NoM w w1 [rowA w.heap.size 30 (ndC nd0 nilV nilV)]) ((Hp.begin NoM w).newRow _ _) ?_
      intro w1 H1
      refine (HPL.out w1 H1.out.below).mono ?_
      rintro e w2 ⟨rfl, hb2⟩
      have H2 := Keep.keep (H1.out.call hb2)
      have HRW := Keep.keep (H2.out.row 0 rfl)
      clear hb2
      go_wp2_with (first | ((with_reducible refine arm_storeRow HRW.out aggN HZ.out HZ.out HO0.out ?_ ?_ ?_); (focus rfl); (focus rfl); simp only [Act.put]))
      have hch : Below w.heap.size w (w2.setRow w.heap.size (ndC nd0 nilV nilV)) := ((Chg.of_below (M := NoM) H2.out.below).setRow (.inl (Nat.le_refl _)) _).below (fun _ _ h => h)
      exact bodyPost_ret (results_row2 (p := 4) (q := 5) (ty := 30) rfl (HRW.out.setRow _) aggN HZ.out rfl rfl) rfl ⟨nilV, nilV, rfl, ndR_nil rfl rfl, hch⟩
    | some n =>
      obtain ⟨hk, hat⟩ := HAT.out n hl
      rw [hl] at HGT HPL
      have HG : Keep (getT (l.map (·.1)) p = (n, true)) := ⟨HGT.out⟩
      rw [HG.out]
      obtain ⟨b, off, rfl, hbl⟩ : ∃ b off, a = some ⟨b, off, none⟩ ∧ N b := by
        rcases H3.out with h | ⟨b, off, h, hb⟩
        · omega
        · exact ⟨b, off, h, hb⟩
      have hnd := (HON.out w (Below.refl _ _)).mbs.nd _ (List.getElem_mem hk)
      have HCL : Keep (∀ wx, Below w.heap.size w wx → wx.cell? ⟨R, 0, none⟩ = some (.slice (some ⟨b, off, none⟩) l.length cap) ∧ (Instr.loadAt 30 (.pointer (some ⟨b, off + pl * 9 + 1, none⟩))).run Tryz.prog wx = .ok (.agg (ndC n (l[pl]'hk).2.1 (l[pl]'hk).2.2)) wx) := ⟨fun wx hb => by
        have hx := HON.out wx hb
        refine ⟨hx.row.cell (i := 0) rfl, ?_⟩
        have := run_loadAt_mid (P := Tryz.prog) wx b (off + pl * 9 + 1) 30 (ndC n (l[pl]'hk).2.1 (l[pl]'hk).2.2).toList _ (fun j z hj => by
          have hlt := (List.getElem?_eq_some_iff.1 hj).1
          have hlt8 : j < 8 := hlt
          rw [Nat.add_assoc _ 1 j]
          refine hx.mbs.cell hk (1 + j) (by omega) ?_
          unfold mcell
          rw [hat]
          match j, hj with
          | 0, hj => exact hj
          | 1, hj => exact hj
          | 2, hj => exact hj
          | 3, hj => exact hj
          | 4, hj => exact hj
          | 5, hj => exact hj
          | 6, hj => exact hj
          | 7, hj => exact hj
          | (j + 8), hj => omega) Tryz.underlying30 rfl (by rw [show (ndC n (l[pl]'hk).2.1 (l[pl]'hk).2.2).toList.length = 8 from rfl]; exact aggN.i)
        simpa using this⟩
      have hshape := hnd.shape
      rw [show (l[pl]'hk).1.2 = n by rw [hat]] at hnd
      generalize (l[pl]'hk).2.1 = av at *
      generalize (l[pl]'hk).2.2 = dv at *
      obtain ⟨aa, la, ca, ad, ld, cd, rfl, rfl⟩ := hshape
      have HO : Keep ((ndC n (.slice aa la ca) (.slice ad ld cd)).all (·.oneCell') = true) := ⟨by simp [ndC, strV, Value.oneCell']⟩
      have HNS : Keep ((ndC n (.slice aa la ca) (.slice ad ld cd)).size = 8) := ⟨rfl⟩
      have HND := Keep.keep hnd; have HNN := Keep.keep hN
      generalize hcc : ndC n (.slice aa la ca) (.slice ad ld cd) = cc at *
      clear hl hat HAT HON HGT hnd hN H3
      go_enter Tryz.func51, Tryz.ntmps51
      go_wp2_with fail
      refine calls_at (R := fun w1 => Hp NoM w w1 [rowA w.heap.size 30 (ndC nd0 nilV nilV)]) ((Hp.begin NoM w).newRow _ _) ?_
      intro w1 H1
      refine (HPL.out w1 H1.out.below).mono ?_
      rintro e w2 ⟨rfl, hb2⟩
      have H2 := Keep.keep (H1.out.call hb2)
      have HRW := Keep.keep (H2.out.row 0 rfl)
      obtain ⟨c0, hld⟩ := HCL.out w2 H2.out.below
      clear hb2
      go_wp2_with (first | ((with_reducible refine arm_loadM hld ?_ ?_); (focus rfl); simp only [Act.put, List.setIfInBounds_toArray, List.set_cons_succ, List.set_cons_zero]) | ((with_reducible refine arm_storeRow HRW.out aggN HZ.out HNS.out HO.out ?_ ?_ ?_); (focus rfl); (focus rfl); simp only [Act.put]))
      have hch : Below w.heap.size w (w2.setRow w.heap.size cc) := ((Chg.of_below (M := NoM) H2.out.below).setRow (.inl (Nat.le_refl _)) _).below (fun _ _ h => h)
      refine bodyPost_ret (results_row2 (p := 4) (q := 5) (ty := 30) rfl (HRW.out.setRow _) aggN HNS.out rfl rfl) rfl ⟨.slice aa la ca, .slice ad ld cd, by (rw [hcc]) <;> rfl, HND.out.below hch HNN.out, hch⟩
abbrev huk (p : Tx) (l : List Mv) : List Mv := l.filter (fun x => hitU p x.1)
theorem huk_map (p : Tx) (l : List Mv) : (huk p l).map (·.1) = underL p (l.map (·.1)) := by
  unfold underL
  rw [List.filter_map]; rfl
theorem huk_take {p : Tx} {l : List Mv} {k : Nat} (hk : k < l.length) : huk p (l.take (k + 1)) = if hitU p l[k].1 then huk p (l.take k) ++ [l[k]] else huk p (l.take k) := by
  rw [List.take_succ_eq_append_getElem hk, huk, List.filter_append]
  cases h : hitU p l[k].1 with
  | false => rw [List.filter_cons_of_neg (by simp [h])]; simp
  | true => rw [List.filter_cons_of_pos (by simp [h])]; simp
set_option maxHeartbeats 2000000 in
set_option maxRecDepth 100000 in
theorem runderT_any (R : Nat) (N : Nat → Prop) (v : Value) (l : List Mv) (w : World) (h : RefIn w R N v l) (hR : R < w.heap.size) (hN : ∀ b, N b → b < w.heap.size) (p : Tx) (hp : p.length ≤ 1000000) (hl : l.length ≤ 100000) :
    Calls Tryz.prog 53 #[.pointer (some ⟨R, 0, none⟩), .string ⟨p.toArray⟩] w fun e w' => ∃ v' l', e = .returned v' ∧ l'.map (·.1) = underL p (l.map (·.1)) ∧ Mbs w' (· < w'.heap.size) (· < w'.heap.size) v' l' ∧ Below w.heap.size w w' := by
  have HON : Keep (∀ wx, Below w.heap.size w wx → RefIn wx R N v l) := ⟨fun wx hb => h.below hb hR hN⟩
  obtain ⟨a, cap, rfl, hcap, hmx, h3⟩ := h.mbs.rd.shape
  have H3 := Keep.keep h3; have HNN := Keep.keep hN
  unfold maxLen at hmx
  clear h h3 hN
  go_enter Tryz.func53, Tryz.ntmps53
  go_wp2_with fail
  go_loopg [5, 6] l.length (fun g u5 u6 wx => ∃ k : Nat, k + g = l.length ∧ u6 = .int .i64 (k : Int) ∧ Hp NoM w wx [slA w.heap.size 32 9 u5 (huk p (l.take k)).length (mcells (huk p (l.take k)))])
  case atStart => exact ⟨0, by omega, rfl, (Hp.begin NoM w).nilS _ _ _⟩
  case round =>
    obtain ⟨k, hkg, rfl, HP⟩ := hrel
    have HH := Keep.keep HP
    obtain ⟨a3, c3, rfl, -⟩ := (ownsV_reads (HP.sl 0 rfl)).shape
    have hR2 := HON.out wr HP.below
    have c0 := hR2.row.cell (i := 0) rfl
    clear HP
    cases gk with
    | zero =>
      obtain rfl : k = l.length := by omega
      have hd : decide ((l.length : Int) < (l.length : Int)) = false := decide_eq_false (by omega)
      clear hR2
      go_wp2_with fail
      go_ret
      have hh := HH.out
      rw [List.take_length] at hh
      refine ⟨_, huk p l, by rw [List.take_length], huk_map p l, ?_, hh.below⟩
      exact Mbs.ofOwn (hh.sl 0 rfl) (fun x hx => (((HON.out wr hh.below).mbs.nd x (List.mem_filter.1 hx).1)).mono (fun b hb => Nat.lt_of_lt_of_le (HNN.out b hb) hh.size)) (fun b _ h => h)
    | succ g =>
      have hk : k < l.length := by omega
      have hd : decide ((k : Int) < (l.length : Int)) = true := decide_eq_true (by omega)
      obtain ⟨b, off, rfl, hbl⟩ : ∃ b off, a = some ⟨b, off, none⟩ ∧ N b := by
        rcases H3.out with h | ⟨b, off, h, hb⟩
        · omega
        · exact ⟨b, off, h, hb⟩
      have hld := hR2.mbs.load hk
      have hc := hR2.mbs.cell hk 0 (by omega) (u := strV l[k].1.1) rfl
      have HU := Keep.keep (fun wx => runder_any p l[k].1.1 hp wx)
      have HTK := Keep.keep (huk_take (p := p) hk)
      have HHT : Keep (hitU p l[k].1 = ((l[k].1.1 == p) || underP p l[k].1.1)) := ⟨rfl⟩
      have hshape := (hR2.mbs.nd _ (List.getElem_mem hk)).shape
      have hle : (huk p (l.take k)).length ≤ k := by
        have := List.length_filter_le (fun x : Mv => hitU p x.1) (l.take k)
        rw [List.length_take] at this
        simp only [huk]; omega
      generalize l[k] = x at *
      unfold strV at hc
      rw [Nat.add_zero] at hc
      clear hR2
      obtain ⟨aa, la, ca, ad, ld, cd, e1, e2⟩ := hshape
      obtain ⟨⟨xp, xn⟩, xv, xd⟩ := x
      dsimp only at e1 e2 hc HU HTK HHT
      subst e1 e2
      obtain ⟨ht, hht⟩ : ∃ b, hitU p (xp, xn) = b := ⟨_, rfl⟩
      obtain ⟨un, hun⟩ : ∃ b, underP p xp = b := ⟨_, rfl⟩
      obtain ⟨eq, heq⟩ : ∃ b, (xp == p) = b := ⟨_, rfl⟩
      simp only [hun] at HU
      rw [hht] at HTK
      rw [hht, hun, heq] at HHT
      clear hun hht
      have HMC : Keep (mcell ((xp, xn), .slice aa la ca, .slice ad ld cd) = #[.string ⟨xp.toArray⟩, .int .i64 xn.kind, .int .u32 xn.mode, .int .u32 xn.uid, .int .u32 xn.gid, .int .i64 xn.time, .slice aa la ca, .slice ad ld cd, .string ⟨xn.link.toArray⟩]) := ⟨rfl⟩
      rw [HMC.out] at hld
      have HY : Keep (ht = true → huk p (l.take (k + 1)) = huk p (l.take k) ++ [((xp, xn), .slice aa la ca, .slice ad ld cd)]) := ⟨fun e => by rw [HTK.out, e]; rfl⟩
      have HN2 : Keep (ht = false → huk p (l.take (k + 1)) = huk p (l.take k)) := ⟨fun e => by rw [HTK.out, e]; rfl⟩
      clear HTK
      -- the two ways to a hit
      by_cases hnone : eq = false ∧ un = false
      · obtain ⟨rfl, rfl⟩ := hnone
        have HT2 := Keep.keep (HN2.out HHT.out)
        go_wp2_with fail
        refine (HU.out _).mono ?_
        rintro e w2 ⟨rfl, rfl⟩
        go_wp2_with fail
        go_roundg g
        case measure => omega
        case rel => exact ⟨k + 1, by omega, by simp, by rw [HT2.out]; exact HH.out⟩
      · have HT2 := Keep.keep (HY.out (by rw [HHT.out]; cases eq <;> cases un <;> simp_all))
        generalize hak : huk p (l.take k) = acc at *
        clear hak HY HN2
        cases eq with
        | true =>
          go_wp2_with (first
            | ((with_reducible refine arm_loadM hld ?_ ?_); (focus rfl); simp only [Act.put, List.setIfInBounds_toArray, List.set_cons_succ, List.set_cons_zero])
            | (with_reducible refine arm_stop ?_))
          refine Stopped.out ?_
          refine arm_appendV slMbF ((HH.out.alloc _).sl 0 rfl) (RdV.new (N := fun _ => True) 32 (mcells [((xp, xn), .slice aa la ca, .slice ad ld cd)]) 9 1 _ rfl rfl (by unfold maxLen; omega) trivial) (by simp [mcells, mcell, mbC, strV, Value.oneCell']) (by unfold maxLen; omega) (by omega) (HH.out.alloc _).size rfl rfl ?_
          intro v3 w3 ho hg hov _
          rw [← mcells_append] at ho
          have HG := Keep.keep ((HH.out.alloc _).grow 0 rfl hg ho hov)
          obtain ⟨a4, c4, rfl, -⟩ := (ownsV_reads ho).shape
          clear ho hg hov hld hc c0
          simp only [Act.put, List.setIfInBounds_toArray, List.set_cons_succ, List.set_cons_zero]
          go_wp2_with fail
          go_roundg g
          case measure => omega
          case rel => exact ⟨k + 1, by omega, by simp, by rw [HT2.out, List.length_append]; exact HG.out⟩
        | false =>
          have hun : un = true := by cases un <;> simp_all
          subst hun
          go_wp2_with fail
          refine (HU.out _).mono ?_
          rintro e w2 ⟨rfl, rfl⟩
          go_wp2_with (first
            | ((with_reducible refine arm_loadM hld ?_ ?_); (focus rfl); simp only [Act.put, List.setIfInBounds_toArray, List.set_cons_succ, List.set_cons_zero])
            | (with_reducible refine arm_stop ?_))
          refine Stopped.out ?_
          refine arm_appendV slMbF ((HH.out.alloc _).sl 0 rfl) (RdV.new (N := fun _ => True) 32 (mcells [((xp, xn), .slice aa la ca, .slice ad ld cd)]) 9 1 _ rfl rfl (by unfold maxLen; omega) trivial) (by simp [mcells, mcell, mbC, strV, Value.oneCell']) (by unfold maxLen; omega) (by omega) (HH.out.alloc _).size rfl rfl ?_
          intro v3 w3 ho hg hov _
          rw [← mcells_append] at ho
          have HG := Keep.keep ((HH.out.alloc _).grow 0 rfl hg ho hov)
          obtain ⟨a4, c4, rfl, -⟩ := (ownsV_reads ho).shape
          clear ho hg hov hld hc c0
          simp only [Act.put, List.setIfInBounds_toArray, List.set_cons_succ, List.set_cons_zero]
          go_wp2_with fail
          go_roundg g
          case measure => omega
          case rel => exact ⟨k + 1, by omega, by simp, by rw [HT2.out, List.length_append]; exact HG.out⟩
end Go.Proofs.YtphgmkhbhboklaaGreatDoor
/- tree.All. -/
namespace Go.Proofs.YtphgmkhbhboklaaGreatDoor
open Go.RowKit
theorem classP_ne : underP [] = fun x => !x.isEmpty := by funext x; simp [underP]
theorem underL_all (L : List Mb) : underL [] L = L := by
  unfold underL
  refine List.filter_eq_self.2 (fun x _ => ?_)
  unfold hitU underP
  cases x.1 <;> simp
set_option maxHeartbeats 1000000 in
set_option maxRecDepth 100000 in
/-- tree.All, and the row is the call's own -/
theorem all_own (T mb : Nat) (Bk : Nat → Prop) (f : Tx → Value × Value) (L : List Mb) (w : World) (hL : L.length ≤ 100000) (hT : TreeIn w T mb Bk f L) (hlt : T < w.heap.size ∧ mb < w.heap.size ∧ ∀ b, Bk b → b < w.heap.size) :
    Calls Tryz.prog 16 #[.pointer (some ⟨T, 0, none⟩)] w fun e w' => ∃ v l, e = .returned v ∧ l.map (·.1) = L ∧ OwnMbs w.heap.size w' v l ∧ Below w.heap.size w w' := by
  have HU := Keep.keep (under_own T mb Bk f L [] w hL (by simp) hT hlt)
  rw [underL_all] at HU
  clear hT hlt
  go_enter Tryz.func16, Tryz.ntmps16
  go_wp2_with fail
  refine HU.out.mono ?_
  rintro e w1 ⟨v, l, rfl, hl, hm, hb⟩
  have HL := Keep.keep hl; have HM := Keep.keep hm; have HB := Keep.keep hb
  obtain ⟨a, cap, hv, -⟩ := hm.mbs.rd.shape
  clear hl hm hb
  subst hv
  go_wp2_with fail
  go_ret
  exact ⟨_, l, rfl, HL.out, HM.out, HB.out⟩
/-- tree.All -/
theorem all_tree (T mb : Nat) (Bk : Nat → Prop) (f : Tx → Value × Value) (L : List Mb) (w : World) (hL : L.length ≤ 100000) (hT : TreeIn w T mb Bk f L) (hlt : T < w.heap.size ∧ mb < w.heap.size ∧ ∀ b, Bk b → b < w.heap.size) :
    Calls Tryz.prog 16 #[.pointer (some ⟨T, 0, none⟩)] w fun e w' => ∃ v l, e = .returned v ∧ l.map (·.1) = L ∧ Mbs w' (Fresh w.heap.size w') (Fresh w.heap.size w') v l ∧ Below w.heap.size w w' :=
  (all_own T mb Bk f L w hL hT hlt).mono (fun _ _ ⟨v, l, he, hl, ho, hb⟩ => ⟨v, l, he, hl, ho.mbs, hb⟩)
end Go.Proofs.YtphgmkhbhboklaaGreatDoor
/- slices.Sort of a row of texts of one's own. -/
namespace Go.Proofs.YtphgmkhbhboklaaGreatDoor
open Go.RowKit Go.Shelf
theorem sort_own (base : Nat) (v : Value) (ss : List Tx) (w : World) (hl : ss.length ≤ 1000000) (h : w.ownsRow base 9 1 v ss.length (ss.map encStr)) :
    Calls Tryz.prog 55 #[v] w fun e w' => e = .returned (.tuple #[]) ∧ w'.ownsRow base 9 1 v ss.length ((ss.mergeSort fun x y => decide (x ≤ y)).map encStr) ∧ w.grownBy w' v.ownBlock := by
  have h0 := h
  rcases h.2 with ⟨rfl, hz⟩ | ⟨g, cap, cur, rfl, hb, hh, hn, hm, hs, ht⟩
  · have : ss = [] := List.eq_nil_of_length_eq_zero hz
    subst this
    refine (Tryz.slices_Sort_string_none none 0 w).mono ?_
    rintro e w' ⟨rfl, rfl⟩
    exact ⟨rfl, by rw [List.mergeSort_nil]; exact h0, ⟨rfl, rfl, rfl, Nat.le_refl _, fun _ _ _ => rfl⟩⟩
  · have hlt : g < w.heap.size := (Array.getElem?_eq_some_iff.1 hh).1
    rw [Nat.mul_one] at ht
    refine (Tryz.slices_Sort_string g 0 cap ss w (holds_of_block hh ht) hlt (by omega)).mono ?_
    rintro e w' ⟨rfl, n, os, rfl⟩
    refine ⟨rfl, ?_, grownBy_sorted _⟩
    exact ownsRow_sorted (by simp) hb hh hn hm hs
end Go.Proofs.YtphgmkhbhboklaaGreatDoor
/- tree.List. -/
namespace Go.Proofs.YtphgmkhbhboklaaGreatDoor
open Go.RowKit Go.Shelf
theorem slStr : SlK Tryz.prog 54 9 (.string ⟨#[]⟩) 1 16 := SlK.mk' Tryz.underlying54 (by kernel_rfl) rfl (by decide)
/-- the names of what stands in dir, in the order of the paths -/
def namesT (dir : Tx) (L : List Mb) : List Tx := (L.filter (fun x => parentP x.1 == dir)).map (fun x => baseP x.1)
def listT (L : List Mb) (dir : Tx) : List Tx × Int := if (getT L dir).2 = false then ([], 6) else if (getT L dir).1.kind ≠ 1 then ([], 31) else ((namesT dir L).mergeSort (fun x y => decide (x ≤ y)), 0)
def nmE (dir : Tx) (M : List (Tx × Value)) : List Tx := (M.filter (fun x => parentP x.1 == dir)).map (fun x => baseP x.1)
theorem nmE_entries (dir : Tx) (f : Tx → Value × Value) (L : List Mb) : nmE dir (entries f L) = namesT dir L := by
  unfold nmE namesT entries
  rw [List.filter_map, List.map_map]
  rfl
theorem nmE_step {M : List (Tx × Value)} (hs : SM.Srt M) {todo : Tx → Bool} {p : Tx} {v : Value} (hp : todo p = true) (hl : SM.look M p = some v) {dir : Tx} {acc : List Tx} (h : acc.Perm (nmE dir (M.filter (fun x => !todo x.1)))) :
    (acc ++ (if parentP p == dir then [baseP p] else [])).Perm (nmE dir (M.filter (fun x => !(todo x.1 && x.1 != p)))) := by
  have h1 := ((came_step hs hp hl).filter (fun x => parentP x.1 == dir)).map (fun x => baseP x.1)
  refine List.Perm.trans ?_ h1.symm
  rw [List.filter_append, List.map_append]
  refine List.Perm.append h ?_
  simp only [List.filter_cons, List.filter_nil]
  cases parentP p == dir <;> exact List.Perm.refl _
set_option maxHeartbeats 4000000 in
set_option maxRecDepth 100000 in
/-- tree.List -/
theorem list_tree (T mb : Nat) (Bk : Nat → Prop) (f : Tx → Value × Value) (L : List Mb) (w : World) (hT : TreeIn w T mb Bk f L) (hBk : ∀ b, Bk b → b < w.heap.size) (dir : Tx) (hd : dir.length ≤ 1000000) (hL : L.length ≤ 100000) :
    Calls Tryz.prog 27 #[.pointer (some ⟨T, 0, none⟩), .string ⟨dir.toArray⟩] w fun e w' => (∃ v, e = .returned (.tuple #[v, .int .i64 (listT L dir).2]) ∧ w'.ownsRow w.heap.size 9 1 v (listT L dir).1.length ((listT L dir).1.map encStr)) ∧ Below w.heap.size w w' := by
  have HG := Keep.keep (get_tree T mb Bk f L w hT hBk dir hd)
  have HLT : Keep (listT L dir = if (getT L dir).2 = false then ([], 6) else if (getT L dir).1.kind ≠ 1 then ([], 31) else ((nmE dir (entries f L)).mergeSort (fun x y => decide (x ≤ y)), 0)) := ⟨by rw [nmE_entries]; rfl⟩
  generalize listT L dir = res at *
  generalize getT L dir = gt at *
  obtain ⟨⟨kind, mode, uid, gid, time, attrs, data, link⟩, is⟩ := gt
  simp only at HG HLT
  have HTN : Keep (∀ wx, Below w.heap.size w wx → TreeIn wx T mb Bk f L) := ⟨fun wx hb => hT.loc (fun b hb' => hb.block b (by rcases hb' with rfl | rfl | h; exact hT.row.lt; exact hT.map.lt; exact hBk b h))⟩
  have HSM : Keep (∀ p v, SM.look (entries f L) p = some v → p.length ≤ 400000) := ⟨fun p v h => by
    rw [look_entries] at h
    cases hl : SM.look L p with
    | none => rw [hl] at h; cases h
    | some n => exact (hT.look hl).2.p⟩
  have HML : Keep ((entries f L).length = L.length) := ⟨by simp [entries]⟩
  have HSR : Keep (SM.Srt (entries f L)) := ⟨hT.map.s⟩
  have hTlt := hT.row.lt
  have hTlt2 := hT.map.lt
  clear hT
  go_enter Tryz.func27, Tryz.ntmps27
  go_upto_region 1 with fail
  go_wp2_with fail
  refine HG.out.mono ?_
  rintro e w1 ⟨av, dv, rfl, hnd, hb1⟩
  obtain ⟨aa, la, ca, ad, ld, cd, rfl, rfl⟩ := hnd.shape
  unfold ndC strV
  dsimp only
  have HB1 := Keep.keep hb1
  have hle : w.heap.size ≤ w1.heap.size := hb1.size
  clear hnd hb1 HG
  go_upto_region 2 with fail
  refine wp_world (R := fun w2 => Below w.heap.size w w2 ∧ Row w2 w1.heap.size 30 #[.int .i64 kind, .int .u32 mode, .int .u32 uid, .int .u32 gid, .int .i64 time, .slice aa la ca, .slice ad ld cd, .string ⟨link.toArray⟩]) ⟨HB1.out.alloc hle _, Row.new _ _ _⟩ ?_
  intro w2 H2
  obtain ⟨b6, hb6⟩ : ∃ b6, w1.heap.size = b6 := ⟨_, rfl⟩
  rw [hb6] at H2 ⊢
  clear hb6 hle
  have c0 := H2.out.2.cell (i := 0) rfl
  have HNO := Keep.keep (none_ok T mb w2 (HTN.out w2 H2.out.1).row)
  go_wp2_with fail
  refine HNO.out.mono ?_
  rintro e w3 ⟨rfl, rfl⟩
  clear HNO
  cases is with
  | false =>
    have HRE : Keep (res = ([], 6)) := ⟨HLT.out⟩
    go_wp2_with fail
    go_ret2
    rw [HRE.out]
    exact ⟨⟨_, rfl, World.ownsRow_nil _ _ _ _⟩, H2.out.1⟩
  | true =>
    by_cases hk : kind = 1
    · subst hk
      have HRE : Keep (res = ((nmE dir (entries f L)).mergeSort (fun x y => decide (x ≤ y)), 0)) := ⟨HLT.out⟩
      have cT := (HTN.out w2 H2.out.1).row.cell (i := 0) rfl
      have HM := Keep.keep (HTN.out w2 H2.out.1).map
      have HB2 := Keep.keep H2.out.1
      clear HLT H2
      go_wp2_with (first | (with_reducible refine arm_sRange ?_) | (with_reducible refine arm_sNext ?_) | (with_reducible refine arm_sDel ?_) | (with_reducible refine arm_sPut ?_) | (with_reducible refine arm_sIns ?_))
      refine StM.out ?_
      refine arm_rangeS Tryz.underlying9 Tryz.underlying63 HM.out rfl ?_
      intro w3 hrg hb3 hs3
      obtain ⟨r, hr⟩ : ∃ r, w2.heap.size = r := ⟨_, rfl⟩
      have HR : Keep (w.heap.size ≤ r ∧ w3.heap.size = r + 1 ∧ mb < w.heap.size) := ⟨by have := HB2.out.size; omega, by omega, hTlt2⟩
      have HB3 := Keep.keep (HB2.out.trans (hb3.mono HB2.out.size))
      rw [hr] at hrg ⊢
      have HRG := Keep.keep hrg
      clear hrg hb3 hs3 hr cT HM HB2 c0
      simp only [Act.put, List.setIfInBounds_toArray, List.set_cons_succ, List.set_cons_zero]
      go_wp2_with fail
      go_loopg [8, 9] L.length (fun g u8 _ wx => ∃ (todo : Tx → Bool) (acc : List Tx), RgS wx 9 mb r (entries f L) todo g ∧ acc.Perm (nmE dir ((entries f L).filter (fun x => !todo x.1))) ∧ wx.ownsRow (r + 1) 9 1 u8 acc.length (acc.map encStr) ∧ Below w.heap.size w wx)
      case atStart =>
        refine ⟨_, [], by rw [← HML.out]; exact HRG.out, ?_, World.ownsRow_nil _ _ _ _, HB3.out⟩
        rw [came_start]
        exact List.Perm.refl _
      case round =>
        obtain ⟨todo, acc, hrg, hpm, how, hb⟩ := hrel
        have hal : acc.length ≤ L.length := by
          have h1 := hpm.length_eq
          unfold nmE at h1
          rw [List.length_map] at h1
          have h2 := List.length_filter_le (fun x : Tx × Value => parentP x.1 == dir) ((entries f L).filter (fun x => !todo x.1))
          have h3 := List.length_filter_le (fun x : Tx × Value => !todo x.1) (entries f L)
          have := HML.out
          omega
        have hob := World.ownsRow.lt how
        obtain ⟨a8, c8, rfl, -⟩ := (ownsV_reads how).shape
        have HRG2 := Keep.keep hrg; have HPM := Keep.keep hpm; have HOW := Keep.keep how; have HB4 := Keep.keep hb
        have HOB := Keep.keep hob
        clear hrg hpm how hb HRG HB3 hob
        go_wp2_with (first | (with_reducible refine arm_sRange ?_) | (with_reducible refine arm_sNext ?_) | (with_reducible refine arm_sDel ?_) | (with_reducible refine arm_sPut ?_) | (with_reducible refine arm_sIns ?_))
        refine StM.out ?_
        refine arm_nextS Tryz.underlying9 HRG2.out rfl ?_ ?_
        · intro h0 hall
          have hpf : (acc.mergeSort fun x y => decide (x ≤ y)) = (nmE dir (entries f L)).mergeSort fun x y => decide (x ≤ y) := by
            have h := HPM.out
            rw [came_all _ hall] at h
            exact mergeSort_of_perm h
          have HPF := Keep.keep hpf
          clear h0 hall hpf
          simp only [Act.put, List.setIfInBounds_toArray, List.set_cons_succ, List.set_cons_zero]
          go_wp2_with fail
          refine (sort_own (r + 1) _ acc wr (by omega) HOW.out).mono ?_
          rintro e w5 ⟨rfl, ho5, hg5⟩
          have HO5 := Keep.keep ho5; have HG5 := Keep.keep hg5
          clear ho5 hg5
          go_wp2_with fail
          go_ret2
          rw [HRE.out]
          refine ⟨⟨_, rfl, ?_⟩, ?_⟩
          · have h := HO5.out
            rw [HPF.out] at h
            have hl : ((nmE dir (entries f L)).mergeSort fun x y => decide (x ≤ y)).length = acc.length := by rw [← HPF.out]; simp
            show w5.ownsRow _ _ _ _ ((nmE dir (entries f L)).mergeSort fun x y => decide (x ≤ y)).length _
            rw [hl]
            refine ⟨h.1, h.2.imp id ?_⟩
            rintro ⟨g, cap, cur, e1, h2, h3⟩
            exact ⟨g, cap, cur, e1, by have := HR.out.1; omega, h3⟩
          · exact HB4.out.trans ((Chg.grown (M := fun _ => False) (.refl _ _ _) HG5.out HB4.out.size (fun k e => .inl (by have := (HOB.out k e).1; have := HR.out.1; omega))).below (fun _ _ h => h))
        · intro p v w4 cnt' h1 h2 h3 h4 h5 h6 hen
          have hpl := HSM.out p v h2
          have HST := Keep.keep (nmE_step HSR.out h1 h2 HPM.out)
          have HRG4 := Keep.keep h3
          have HB5 : Keep (Below w.heap.size w w4) := ⟨HB4.out.trans ((h5.lower HB4.out.size).below (fun k hk e => by have := HR.out.1; omega))⟩
          have HOW4 : Keep (w4.ownsRow (r + 1) 9 1 (.slice a8 acc.length c8) acc.length (acc.map encStr)) := ⟨ownsRow_loc _ _ (fun b hb => h5.block b (HOB.out b hb).2 (fun e => by have := (HOB.out b hb).1; omega)) HOW.out⟩
          have hw4 : r + 1 ≤ w4.heap.size := by have := HRG4.out.lt.2.1; omega
          clear h1 h2 h3 h5 h6 HRG2 HPM HB4 HOW HOB
          simp only [Act.put, List.setIfInBounds_toArray, List.set_cons_succ, List.set_cons_zero]
          go_wp2_with fail
          refine (parent_any p (by omega) w4).mono ?_
          rintro e w5 ⟨rfl, rfl⟩
          cases hpd : (parentP p == dir) with
          | false =>
            rw [hpd] at HST
            go_wp2_with fail
            go_roundg cnt'
            case measure => omega
            case rel => exact ⟨_, acc, HRG4.out, by have h := HST.out; rw [if_neg (by decide), List.append_nil] at h; exact h, HOW4.out, HB5.out⟩
          | true =>
            rw [hpd] at HST
            go_wp2_with fail
            refine (base_any p (by omega) w4).mono ?_
            rintro e w5 ⟨rfl, rfl⟩
            go_wp2_with (with_reducible refine arm_stop ?_)
            refine Stopped.out ?_
            refine arm_appendV slStr (base := r + 1) (ownsRow_loc _ _ (fun b hb => Below.heap_alloc w4 _ b (World.ownsRow.lt HOW4.out b hb).2) HOW4.out) (RdV.new (N := fun _ => True) 9 [encStr (baseP p)] 1 1 _ rfl rfl (by unfold maxLen; omega) trivial) (by simp [encStr, Value.oneCell']) (by unfold maxLen; omega) (by omega) (by simp; omega) rfl rfl ?_
            intro v' w' ho hg hov _
            have HO : Keep (w'.ownsRow (r + 1) 9 1 v' (acc ++ [baseP p]).length ((acc ++ [baseP p]).map encStr)) := ⟨by rw [List.map_append, List.length_append]; exact ho⟩
            have hob := World.ownsRow.lt HOW4.out
            have HB6 : Keep (Below w.heap.size w w') := ⟨HB5.out.trans ((Chg.grown (M := fun _ => False) ((Chg.refl _ _ _).alloc HB5.out.size _) hg (by have := HB5.out.size; simp; omega) (fun k e => .inl (by have := (hob k e).1; have := HR.out.1; omega))).below (fun _ _ h => h))⟩
            have hne : ∀ b, b < w4.heap.size → b ≤ r → w'.heap[b]? = w4.heap[b]? := fun b h1 h2 => by
              rw [hg.block b (by simp; omega) (fun e => by have := (hob b e.symm).1; omega)]
              exact Below.heap_alloc w4 _ b h1
            have HRG6 : Keep (RgS w' 9 mb r (entries f L) (fun q => todo q && q != p) cnt') := ⟨HRG4.out.loc (hne mb HRG4.out.lt.1 (by have := HR.out; omega)) (hne r HRG4.out.lt.2.1 (Nat.le_refl _))⟩
            obtain ⟨a9, c9, rfl, -⟩ := (ownsV_reads ho).shape
            clear ho hg hov hob hne HRG4 HB5 HOW4
            simp only [Act.put, List.setIfInBounds_toArray, List.set_cons_succ, List.set_cons_zero]
            go_wp2_with fail
            go_roundg cnt'
            case measure => omega
            case rel => exact ⟨_, acc ++ [baseP p], HRG6.out, by have h := HST.out; rw [if_pos trivial] at h; exact h, HO.out, HB6.out⟩
    · have HRE : Keep (res = ([], 31)) := ⟨by rw [HLT.out]; simp [hk]⟩
      have hbne : (kind != 1) = true := by simpa using hk
      go_wp2_with fail
      go_ret2
      rw [HRE.out]
      exact ⟨⟨_, rfl, World.ownsRow_nil _ _ _ _⟩, H2.out.1⟩
end Go.Proofs.YtphgmkhbhboklaaGreatDoor
