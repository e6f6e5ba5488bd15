/- PARTS OF ONE PROOF, set in one file: NodeOpen, TreeLaid. Each part tells its own conditions. -/
import Derived.Deep.SlicePairs
import Derived.Lib.LaidU8
import Derived.LaidHandle
import Derived.LaidSub
import Derived.PinnedBridge
import Derived.Deep.DeepWitnessRowRef
import Derived.Test.YtphgmkhbhboklaaGreatDoorP2
import Derived.Test.YtphgmkhbhboklaaGreatDoorP3
import Derived.Test.YtphgmkhbhboklaaGreatDoorP4
import Derived.Test.YtphgmkhbhboklaaGreatDoorP6
import Derived.Test.YtphgmkhbhboklaaGreatDoorP7
import Derived.Test.YtphgmkhbhboklaaGreatDoorP8
import Derived.Test.YtphgmkhbhboklaaGreatDoorP12
/- ARGUMENTS THAT ARE SLICES OF MEMBERS, OR OF ACTS, OPENED. -/
namespace Go.Proofs.YtphgmkhbhboklaaGreatDoor
open Go.ChangeShapes Go.WideShapes Go.ChangeAt Go.RowKit
section
variable {H : Type} {enc : TypeId × Value → H} {W : World} {fuel : Nat} {x : DataW H × List MemPlace}
theorem str_of_trod {v : Value} (h : DataW.trod enc Tryz.prog W 0 (fun _ => true) true fuel 9 [v] = some x) : ∃ l : Tx, v = strV l ∧ l.length ≤ maxLen := by
  obtain ⟨⟨⟨l⟩⟩, e, _, hm⟩ := DataW.trod_string Tryz.underlying9 h
  injection e with e _
  exact ⟨l, e, hm⟩
theorem attrs_of_trod {v : Value} (hf : DataW.trod enc Tryz.prog W 0 (fun _ => true) true fuel 28 [v] = some x) : ∃ l : List R2, RdV W (· < W.heap.size) 2 v l.length (rcells l) := by
  rcases Deep.open_slice_pairs Tryz.underlying28 Tryz.underlying85 (by kernel_rfl) rfl rfl (by kernel_rfl) (by kernel_rfl) hf with ⟨hcs, _⟩ | ⟨⟨b, off, sp⟩, len, cap, m, n, V0, V1, D0, D1, P0, P1, hcs, _, hl, hm, hmm, _, hx⟩
  · injection hcs with hcs _
    subst hcs
    exact ⟨[], RdV.ofNil⟩
  · injection hcs with hcs _
    subst hcs
    simp only [if_true] at hmm
    have hsp : cap = 0 ∨ (sp = none ∧ b < W.heap.size) := by
      rcases Nat.eq_zero_or_pos cap with h | h
      · exact .inl h
      · exact .inr (cell_spot (hx 0 (by omega)).1)
    have key : ∀ i, i < m → ∃ q : R2, V0 i = strV q.1 ∧ V1 i = strV q.2 := fun i hi => by
      obtain ⟨_, _, t0, t1⟩ := hx i hi
      obtain ⟨l0, e0, _⟩ := str_of_trod t0
      obtain ⟨l1, e1, _⟩ := str_of_trod t1
      exact ⟨(l0, l1), e0, e1⟩
    obtain ⟨q, hq⟩ := Deep.choose_lt (α := R2) key
    have hll : ((List.range len).map q).length = len := by simp
    refine ⟨(List.range len).map q, rcells_length _, ⟨_, cap, by rw [hll], by omega, hm, ?_⟩, ?_⟩
    · rcases hsp with h | ⟨rfl, h⟩
      · exact .inl h
      · exact .inr ⟨b, off, rfl, h⟩
    · intro b' off' m' c' he j u hu
      injection he with e1 _ _; injection e1 with e1; injection e1 with e1 e2 e3; subst e1 e2 e3
      have hj := (List.getElem?_eq_some_iff.1 hu).1
      rw [rcells_length, hll] at hj
      obtain ⟨i, hi⟩ : ∃ i, i = j / 2 := ⟨_, rfl⟩
      have hil : i < len := by omega
      have hrg := rcells_get ((List.range len).map q) i (by rw [hll]; exact hil)
      have hqi : ((List.range len).map q)[i]'(by rw [hll]; exact hil) = q i := by simp
      rw [hqi] at hrg
      obtain ⟨k0, k1, _, _⟩ := hx i (by omega)
      obtain ⟨s0, s1⟩ := hq i (by omega)
      rw [Addr.add_mid] at k0 k1
      rcases (by omega : j = i * 2 ∨ j = i * 2 + 1) with rfl | rfl
      · rw [hrg.1] at hu; injection hu with hu
        rw [k0, s0, hu]
      · rw [hrg.2] at hu; injection hu with hu
        rw [← Nat.add_assoc, ← hu, ← s1]
        rw [← Nat.add_assoc] at k1
        exact k1
theorem cOne : Tryz.prog.cellsOf 3 = 1 ∧ Tryz.prog.cellsOf 27 = 1 ∧ Tryz.prog.cellsOf 2 = 1 ∧ Tryz.prog.cellsOf 28 = 1 ∧ Tryz.prog.cellsOf 23 = 1 ∧ Tryz.prog.cellsOf 9 = 1 ∧ Tryz.prog.cellsOf 4 = 1 ∧ Tryz.prog.cellsOf 30 = 8 ∧ Tryz.prog.cellsOf 32 = 9 ∧ Tryz.prog.cellsOf 36 = 10 := ⟨by kernel_rfl, by kernel_rfl, by kernel_rfl, by kernel_rfl, by kernel_rfl, by kernel_rfl, by kernel_rfl, by kernel_rfl, by kernel_rfl, by kernel_rfl⟩
set_option maxRecDepth 100000 in
theorem node_of_trod {cs : List Value} (hf : DataW.trod enc Tryz.prog W 0 (fun _ => true) true fuel 30 cs = some x) :
    ∃ n av dv, cs = (ndC n av dv).toList ∧ NdR W (· < W.heap.size) n av dv ∧ -9223372036854775808 ≤ n.kind ∧ n.kind ≤ 9223372036854775807 := by
  obtain ⟨xs, k, -, -, hlen, hxs, hg⟩ := DataW.trod_struct Tryz.underlying30 hf
  obtain ⟨c1, c2, c3, c4, c5, c6, c7, c8, -, -⟩ := cOne
  rw [c8] at hlen
  obtain ⟨v0, v1, v2, v3, v4, v5, v6, v7, rfl⟩ : ∃ v0 v1 v2 v3 v4 v5 v6 v7, cs = [v0, v1, v2, v3, v4, v5, v6, v7] := by
    match cs, hlen with
    | [v0, v1, v2, v3, v4, v5, v6, v7], _ => exact ⟨v0, v1, v2, v3, v4, v5, v6, v7, rfl⟩
  obtain ⟨y0, y1, y2, y3, y4, y5, y6, y7, rfl⟩ : ∃ y0 y1 y2 y3 y4 y5 y6 y7, xs = [y0, y1, y2, y3, y4, y5, y6, y7] := by
    match xs, hxs with
    | [v0, v1, v2, v3, v4, v5, v6, v7], _ => exact ⟨v0, v1, v2, v3, v4, v5, v6, v7, rfl⟩
  have g0 := hg 0 _ rfl
  have g1 := hg 1 _ rfl
  have g2 := hg 2 _ rfl
  have g3 := hg 3 _ rfl
  have g4 := hg 4 _ rfl
  have g5 := hg 5 _ rfl
  have g6 := hg 6 _ rfl
  have g7 := hg 7 _ rfl
  simp only [List.getElem?_cons_zero, List.getElem?_cons_succ] at g0 g1 g2 g3 g4 g5 g6 g7
  obtain ⟨n0, h0, _, w0⟩ := DataW.trod_int Tryz.underlying3 g0
  obtain ⟨n1, h1, _, _⟩ := DataW.trod_int Tryz.underlying27 g1
  obtain ⟨n2, h2, _, _⟩ := DataW.trod_int Tryz.underlying27 g2
  obtain ⟨n3, h3, _, _⟩ := DataW.trod_int Tryz.underlying27 g3
  obtain ⟨n4, h4, _, _⟩ := DataW.trod_int Tryz.underlying2 g4
  obtain ⟨l5, h5⟩ := attrs_of_trod g5
  obtain ⟨l6, h6⟩ := reads_of_trod Tryz.underlying23 Tryz.underlying5 (by kernel_rfl) g6
  obtain ⟨l7, h7, _⟩ := str_of_trod g7
  injection h0 with h0 _; injection h1 with h1 _; injection h2 with h2 _; injection h3 with h3 _; injection h4 with h4 _
  subst h0 h1 h2 h3 h4 h7
  have hm1 : IntKind.i64.min = -9223372036854775808 := rfl
  have hm2 : IntKind.i64.max = 9223372036854775807 := rfl
  simp only [Lit.wf, Bool.and_eq_true, decide_eq_true_eq, hm1, hm2] at w0
  exact ⟨⟨n0, n1, n2, n3, n4, l5, l6, l7⟩, v5, v6, rfl, ⟨h5, h6⟩, by exact w0⟩
set_option maxRecDepth 100000 in
theorem mb_of_trod {cs : List Value} (hf : DataW.trod enc Tryz.prog W 0 (fun _ => true) true fuel 32 cs = some x) :
    ∃ y : Mv, cs = (mcell y).toList ∧ NdR W (· < W.heap.size) y.1.2 y.2.1 y.2.2 ∧ Kb y.1 := by
  obtain ⟨xs, k, -, -, hlen, hxs, hg⟩ := DataW.trod_struct Tryz.underlying32 hf
  obtain ⟨c1, c2, c3, c4, c5, c6, c7, c8, c9, -⟩ := cOne
  rw [c9] at hlen
  obtain ⟨v0, v1, v2, v3, v4, v5, v6, v7, v8, rfl⟩ : ∃ v0 v1 v2 v3 v4 v5 v6 v7 v8, cs = [v0, v1, v2, v3, v4, v5, v6, v7, v8] := by
    match cs, hlen with
    | [v0, v1, v2, v3, v4, v5, v6, v7, v8], _ => exact ⟨v0, v1, v2, v3, v4, v5, v6, v7, v8, rfl⟩
  obtain ⟨y0, y1, rfl⟩ : ∃ y0 y1, xs = [y0, y1] := by
    match xs, hxs with
    | [v0, v1], _ => exact ⟨v0, v1, rfl⟩
  have g0 := hg 0 _ rfl
  have g1 := hg 1 _ rfl
  simp only [List.getElem_toArray, List.getElem_cons_succ, List.getElem_cons_zero, c6, c8, List.drop_succ_cons, List.drop_zero, List.take_succ_cons, List.take_zero, List.getElem?_cons_zero, List.getElem?_cons_succ] at g0 g1
  obtain ⟨l0, h0, _⟩ := str_of_trod g0
  obtain ⟨n, av, dv, h1, h2, h3⟩ := node_of_trod g1
  subst h0
  refine ⟨((l0, n), av, dv), ?_, h2, h3⟩
  rw [h1]; rfl
set_option maxRecDepth 100000 in
theorem act_of_trod {cs : List Value} (hf : DataW.trod enc Tryz.prog W 0 (fun _ => true) true fuel 36 cs = some x) :
    ∃ y : Av, cs = acell y ∧ NdR W (· < W.heap.size) y.2.1.2 y.2.2.1 y.2.2.2 ∧ Kb y.2.1 := by
  obtain ⟨xs, k, -, -, hlen, hxs, hg⟩ := DataW.trod_struct Tryz.underlying36 hf
  obtain ⟨c1, c2, c3, c4, c5, c6, c7, c8, c9, c10⟩ := cOne
  rw [c10] at hlen
  obtain ⟨v0, v1, v2, v3, v4, v5, v6, v7, v8, v9, rfl⟩ : ∃ v0 v1 v2 v3 v4 v5 v6 v7 v8 v9, cs = [v0, v1, v2, v3, v4, v5, v6, v7, v8, v9] := by
    match cs, hlen with
    | [v0, v1, v2, v3, v4, v5, v6, v7, v8, v9], _ => exact ⟨v0, v1, v2, v3, v4, v5, v6, v7, v8, v9, rfl⟩
  obtain ⟨y0, y1, rfl⟩ : ∃ y0 y1, xs = [y0, y1] := by
    match xs, hxs with
    | [v0, v1], _ => exact ⟨v0, v1, rfl⟩
  have g0 := hg 0 _ rfl
  have g1 := hg 1 _ rfl
  simp only [List.getElem_toArray, List.getElem_cons_succ, List.getElem_cons_zero, c7, c9, List.drop_succ_cons, List.drop_zero, List.take_succ_cons, List.take_zero, List.getElem?_cons_zero, List.getElem?_cons_succ] at g0 g1
  obtain ⟨b0, h0, _⟩ := DataW.trod_bool Tryz.underlying4 g0
  obtain ⟨y, h1, h2, h3⟩ := mb_of_trod g1
  injection h0 with h0 _
  subst h0
  refine ⟨(b0, y), ?_, h2, h3⟩
  rw [h1]; rfl
set_option maxRecDepth 100000 in
/-- a slice of rows of k cells -/
theorem slice_of_trod {α : Type} [Inhabited α] {t e : TypeId} {k : Nat} (ht : Tryz.prog.underlying t = some (.slice e)) (hk : Tryz.prog.cellsOf e = k) (hk0 : 0 < k) (cl : α → List Value) (hcl : ∀ a, (cl a).length = k) (p : α → Prop) (cells : List α → List Value) (hlen : ∀ l, (cells l).length = l.length * k)
    (hcells : ∀ (l : List α) (j i : Nat) (h : j < l.length), i < k → (cells l)[j * k + i]? = (cl l[j])[i]?)
    (hel : ∀ (n : Nat) (cs : List Value) (y : DataW H × List MemPlace), DataW.trod enc Tryz.prog W 0 (fun _ => true) true n e cs = some y → ∃ a, cs = cl a ∧ p a)
    {v : Value} (hf : DataW.trod enc Tryz.prog W 0 (fun _ => true) true fuel t [v] = some x) : ∃ l : List α, RdV W (· < W.heap.size) k v l.length (cells l) ∧ ∀ a ∈ l, p a := by
  rcases Deep.open_slice ht hf with ⟨hcs, _⟩ | ⟨⟨b, off, sp⟩, len, cap, m, n, D, Pl, hcs, _, hl, hm, hmm, _, hx⟩
  · injection hcs with hcs _
    subst hcs
    refine ⟨[], ⟨by simp [hlen], ⟨_, _, rfl, Nat.zero_le _, Nat.zero_le _, .inl rfl⟩, fun _ _ _ _ e j u hu => by cases e⟩, fun a ha => (List.not_mem_nil ha).elim⟩
  · injection hcs with hcs _
    subst hcs
    simp only [if_true] at hmm
    rw [hk] at hx
    have key : ∀ i, i < m → ∃ a, (∀ j u, (cl a)[j]? = some u → W.cell? ((⟨b, off, sp⟩ : Addr).add (i * k + j)) = some u) ∧ p a := fun i hi => by
      obtain ⟨cs', h1, h2⟩ := hx i hi
      obtain ⟨_, hl', hcell⟩ := World.cells?_some h1
      obtain ⟨a, rfl, hp⟩ := hel _ _ _ h2
      refine ⟨a, fun j u hj => ?_, hp⟩
      have hjl := (List.getElem?_eq_some_iff.1 hj).1
      rw [hcl] at hjl
      have := hcell j hjl
      rw [Deep.add_add] at this
      rw [this]; exact hj
    obtain ⟨q, hq⟩ := Deep.choose_lt (α := α) key
    have hsp : cap = 0 ∨ (sp = none ∧ b < W.heap.size) := by
      rcases Nat.eq_zero_or_pos cap with h | h
      · exact .inl h
      · have h0 := (hq 0 (by omega)).1 0 ((cl (q 0))[0]'(by rw [hcl]; exact hk0)) (List.getElem?_eq_getElem _)
        rw [Nat.zero_mul, Nat.add_zero] at h0
        exact .inr (cell_spot h0)
    have hll : ((List.range len).map q).length = len := by simp
    refine ⟨(List.range len).map q, ⟨hlen _, ⟨_, cap, by rw [hll], by omega, hm, ?_⟩, ?_⟩, fun a ha => ?_⟩
    · rcases hsp with h | ⟨rfl, h⟩
      · exact .inl h
      · exact .inr ⟨b, off, rfl, h⟩
    · intro b' off' m' c' he j u hu
      injection he with e1 _ _; injection e1 with e1; injection e1 with e1 e2 e3; subst e1 e2 e3
      have hj := (List.getElem?_eq_some_iff.1 hu).1
      rw [hlen, hll] at hj
      have hil : j / k < len := Nat.div_lt_of_lt_mul (by rw [Nat.mul_comm]; exact hj)
      have hjk : j / k * k + j % k = j := Nat.div_add_mod' j k
      have hrg := hcells ((List.range len).map q) (j / k) (j % k) (by rw [hll]; exact hil) (Nat.mod_lt _ hk0)
      rw [hjk, hu] at hrg
      have hqi : ((List.range len).map q)[j / k]'(by rw [hll]; exact hil) = q (j / k) := by simp
      rw [hqi] at hrg
      have := (hq (j / k) (by omega)).1 (j % k) u hrg.symm
      rw [hjk, Addr.add_mid] at this
      exact this
    · obtain ⟨i, hi, rfl⟩ := List.mem_map.1 ha
      exact (hq i (by have := List.mem_range.1 hi; omega)).2
instance : Inhabited Nd := ⟨⟨0, 0, 0, 0, 0, [], [], []⟩⟩
set_option maxRecDepth 100000 in
/-- AN ARGUMENT OF TYPE []Act, OPENED -/
theorem opened_acts {r : Reach} {base : Nat} {v : Value} {d : DataW H} {ps : List MemPlace} (hok : Value.okWide Tryz.prog W r base 22 v) (h0 : DataW.Trod enc Tryz.prog W 0 (fun _ => true) true 22 v d ps) :
    ∃ l : List Av, ActsR W (· < W.heap.size) (· < W.heap.size) v l ∧ ∀ a ∈ l, Kb a.2.1 := by
  obtain ⟨fuel, hf⟩ := h0
  replace hf : DataW.trod enc Tryz.prog W 0 (fun _ => true) true fuel 22 [v] = some (d, ps) := by
    rcases okSlice Tryz.underlying22 hok with rfl | ⟨b, off, len, cap, rfl, -, -, -⟩ <;> exact hf
  obtain ⟨l, h1, h2⟩ := slice_of_trod (α := Av) (k := 10) Tryz.underlying22 (by kernel_rfl) (by decide) acell acell_len (fun y => NdR W (· < W.heap.size) y.2.1.2 y.2.2.1 y.2.2.2 ∧ Kb y.2.1) acells acells_length acells_get (fun n cs y h => act_of_trod h) hf
  exact ⟨l, ⟨h1, fun a ha => (h2 a ha).1⟩, fun a ha => (h2 a ha).2⟩
set_option maxRecDepth 100000 in
/-- AN ARGUMENT OF TYPE []Member, OPENED -/
theorem opened_mbs {r : Reach} {base : Nat} {v : Value} {d : DataW H} {ps : List MemPlace} (hok : Value.okWide Tryz.prog W r base 33 v) (h0 : DataW.Trod enc Tryz.prog W 0 (fun _ => true) true 33 v d ps) :
    ∃ l : List Mv, Mbs W (· < W.heap.size) (· < W.heap.size) v l ∧ ∀ a ∈ l, Kb a.1 := by
  obtain ⟨fuel, hf⟩ := h0
  replace hf : DataW.trod enc Tryz.prog W 0 (fun _ => true) true fuel 33 [v] = some (d, ps) := by
    rcases okSlice Tryz.underlying33 hok with rfl | ⟨b, off, len, cap, rfl, -, -, -⟩ <;> exact hf
  obtain ⟨l, h1, h2⟩ := slice_of_trod (α := Mv) (k := 9) Tryz.underlying33 (by kernel_rfl) (by decide) (fun y => (mcell y).toList) mcell_len (fun y => NdR W (· < W.heap.size) y.1.2 y.2.1 y.2.2 ∧ Kb y.1) mcells mcells_length (fun l j i h hi => by rw [mcells_get l j i h hi]; simp) (fun n cs y h => mb_of_trod h) hf
  exact ⟨l, ⟨h1, fun a ha => (h2 a ha).1⟩, fun a ha => (h2 a ha).2⟩
end
end Go.Proofs.YtphgmkhbhboklaaGreatDoor
/- WHAT THE ROWS' LISTED VARIABLES AND THE WORLD'S SHAPE GIVE; and a world that holds the listed variables. -/
namespace Go.Proofs.YtphgmkhbhboklaaGreatDoor
open Go.ChangeShapes Go.WideShapes Go.ChangeAt Go.RowKit
theorem mx_of_shape {W : World} (h : W.ShapedOpen Tryz.prog) : Mx W.heap.size W := by
  obtain ⟨m, hm⟩ : ∃ m, W.cell? ⟨2, 0, none⟩ = some (.int .i64 m) := Go.Proofs.cell_of_shapedOpen_int (zero := #[.int .i64 0]) (t := 3) h (of_decide_eq_true (by kernel_rfl)) (by kernel_rfl) rfl (by kernel_rfl) (by kernel_rfl) Tryz.underlying3
  exact ⟨World.block_lt_of_cell? W _ hm, m, hm⟩
/-- what the laws of the trees ask of the world -/
theorem tabs_of {W : World} {l : List (String × DataW Unit)} (hL : laidMetH Tryz.prog l W) (hsh : W.ShapedOpen Tryz.prog) (hc : ("portolan/path.classes", Rows.laid_portolan_path_classes) ∈ l) (ht : ("portolan/tar.types", Rows.laid_portolan_tar_types) ∈ l) : Tabs W.heap.size W :=
  ⟨Nat.le_refl _, mx_of_shape hsh, cls_of_laid hL hc, typ_of_laid (laidMetH_iff.1 hL).1 (List.mem_filter.2 ⟨ht, rfl⟩)⟩
/-- A WORLD FOR THE WITNESS -/
def layRow (c : Array Value) : Obj → Obj
  | .cells _ t frozen => .cells c t frozen
  | o => o
def classesMap : Obj := .map #[⟨.int .i64 1, .func (.func 155) #[] #[], 0⟩, ⟨.int .i64 2, .func (.func 156) #[] #[], 1⟩, ⟨.int .i64 3, .func (.func 157) #[] #[], 2⟩] 3
def typesMap : Obj := .map #[⟨.int .i64 1, .int .u8 53, 0⟩, ⟨.int .i64 2, .int .u8 48, 1⟩, ⟨.int .i64 3, .int .u8 50, 2⟩, ⟨.int .i64 4, .int .u8 54, 3⟩] 4
noncomputable def lowM : Nat := (World.holding Tryz.prog default ⟨#[], #[], []⟩).heap.size
noncomputable def laidWorld (os : Os) : World :=
  let w0 := World.holding Tryz.prog os ⟨#[classesMap, typesMap], #[], []⟩
  let h2 := Array.modify w0.heap 4 (layRow ((List.range 16).flatMap fun i => [Value.int .u8 (Lib.accLo i), Value.int .u8 (Lib.accHi i)]).toArray)
  let h3 := Array.modify h2 3 (layRow (Lib.firstTab.map fun z => Value.int .u8 z).toArray)
  let h4 := Array.modify h3 0 (layRow #[.map (some lowM)])
  let h5 := Array.modify h4 1 (layRow #[.map (some (lowM + 1))])
  { w0 with heap := h5 }
end Go.Proofs.YtphgmkhbhboklaaGreatDoor
