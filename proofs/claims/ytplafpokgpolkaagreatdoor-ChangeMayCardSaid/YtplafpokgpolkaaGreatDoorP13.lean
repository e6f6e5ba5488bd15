/- PARTS OF ONE PROOF, set in one file: MbDel, RfLaw, TreeCopy, ChApply, PathRef. Each part tells its own conditions. -/
import Derived.RangeFuncNested
import Derived.RangeFuncBound
import Derived.Test.YtplafpokgpolkaaGreatDoorP1
import Derived.Test.YtplafpokgpolkaaGreatDoorP4
import Derived.Test.YtplafpokgpolkaaGreatDoorP7
import Derived.Test.YtplafpokgpolkaaGreatDoorP8
import Derived.Test.YtplafpokgpolkaaGreatDoorP10
import Derived.Test.YtplafpokgpolkaaGreatDoorP11
import Derived.Test.YtplafpokgpolkaaGreatDoorP12
/- slices.DeleteFunc over Members of one's own; the predicate is a closure. -/
namespace Go.Proofs.YtplafpokgpolkaaGreatDoor
open Go.RowKit
set_option maxRecDepth 100000 in
theorem run_clear_mbs (w : World) (b o n c : Nat) (hn : 0 < n) (hc : ∀ j, j < n * 9 → (w.cell? ⟨b, o + j, none⟩).isSome = true) (hf : ∀ j, j < n * 9 → w.frozen? ⟨b, o + j, none⟩ = false) :
    ∃ cs : List Value, cs.length = n * 9 ∧ ∀ ty, (Builtin.clear_ #[35] ty #[.slice (some ⟨b, o, none⟩) n c]).run Tryz.prog w = .ok (.tuple #[]) (w.setCells b o cs) := by
  have hz : ∀ w, (zeroValue 32).run Tryz.prog w = .ok (.agg (mbC ([], nd0) nilV nilV)) w := fun w => by kernel_rfl
  obtain ⟨Z, hZ⟩ : ∃ Z : Array Value, mbC ([], nd0) nilV nilV = Z := ⟨_, rfl⟩
  have hZs : Z.size = 9 := by rw [← hZ]; rfl
  have hZ1 : ∀ i, (h : i < Z.size) → Z[i].oneCell' = true := by
    have : (mbC ([], nd0) nilV nilV).all (·.oneCell') = true := by simp [mbC, strV, nilV, Value.oneCell']
    rw [hZ] at this
    intro i h
    exact (Array.all_eq_true.1 this) i h
  rw [hZ] at hz
  have hcl : (Value.agg Z).cells = Z := rfl
  have hl : (Builtin.zeroCells Z n).toList.length = n * 9 := by simp [Builtin.zeroCells, hZs]
  refine ⟨_, hl, fun ty => ?_⟩
  have hst := run_storeCells_cells (P := Tryz.prog) b o (Builtin.zeroCells Z n).toList 0 w (by rw [hl]; simpa using hc) (by rw [hl]; simpa using hf) (by
    intro v hv
    simp only [Builtin.zeroCells, Array.toList_map, List.mem_map] at hv
    obtain ⟨i, _, rfl⟩ := hv
    have hi : i % Z.size < Z.size := Nat.mod_lt _ (by omega)
    rw [getElem!_pos Z _ hi]
    exact hZ1 _ hi)
  simp only [Nat.add_zero] at hst
  obtain ⟨m, rfl⟩ : ∃ m, n = m + 1 := ⟨n - 1, by omega⟩
  simp [Builtin.clear_, run_underlying Tryz.underlying35, hz, hcl, hst]
def kpM (p : Mb → Bool) (l : List Mv) (j : Nat) : List Mv := (l.take j).filter fun x => !p x.1
theorem kpM_le (p : Mb → Bool) (l : List Mv) (j : Nat) : (kpM p l j).length ≤ j := Nat.le_trans (List.length_filter_le _ _) (by rw [List.length_take]; omega)
theorem kpM_succ (p : Mb → Bool) (l : List Mv) (j : Nat) (hj : j < l.length) : kpM p l (j + 1) = if p l[j].1 then kpM p l j else kpM p l j ++ [l[j]] := by
  unfold kpM
  rw [List.take_succ_eq_append_getElem hj, List.filter_append]
  cases h : p l[j].1
  · rw [List.filter_cons_of_pos (by simp [h])]; rfl
  · rw [List.filter_cons_of_neg (by simp [h])]; simp
theorem kpM_all (p : Mb → Bool) (l : List Mv) : kpM p l l.length = l.filter fun x => !p x.1 := by unfold kpM; rw [List.take_length]
/-- the row while it is done -/
structure DFM (p : Mb → Bool) (l ls : List Mv) (j : Nat) : Prop where
  sz : ls.length = l.length
  pre : ls.take (kpM p l j).length = kpM p l j
  post : ∀ m, j ≤ m → m < l.length → ls[m]? = l[m]?
theorem DFM.skip {p : Mb → Bool} {l ls : List Mv} {j : Nat} (h : DFM p l ls j) (hj : j < l.length) (hp : p l[j].1 = true) : DFM p l ls (j + 1) := by
  have hk := kpM_succ p l j hj
  rw [if_pos hp] at hk
  exact ⟨h.sz, by rw [hk]; exact h.pre, fun m hm hl => h.post m (by omega) hl⟩
theorem DFM.put {p : Mb → Bool} {l ls : List Mv} {j : Nat} (h : DFM p l ls j) (hj : j < l.length) (hp : p l[j].1 = false) : DFM p l (ls.set (kpM p l j).length l[j]) (j + 1) := by
  have hk := kpM_succ p l j hj
  rw [if_neg (by rw [hp]; decide)] at hk
  have hle := kpM_le p l j
  have hs := h.sz
  refine ⟨by simp [hs], ?_, fun m hm hml => ?_⟩
  · rw [hk, List.length_append, List.length_singleton, List.take_succ_eq_append_getElem (by rw [List.length_set]; omega), List.getElem_set_self, List.take_set_of_le (Nat.le_refl _), h.pre]
  · rw [List.getElem?_set_ne (by omega)]
    exact h.post m (by omega) hml
theorem layAt_take (cs xs : List Value) (j : Nat) (h : j + cs.length ≤ xs.length) : (layAt xs j cs).take j = xs.take j := by
  apply List.ext_getElem?
  intro i
  rw [List.getElem?_take, List.getElem?_take]
  split
  · rw [layAt_get _ _ _ _ h, if_neg (by omega)]
  · rfl
theorem owns_take {w : World} {base g n cap k : Nat} {e : TypeId} {xs ys : List Value} (h : w.ownsRow base e 9 (.slice (some ⟨g, 0, none⟩) n cap) n xs) (hk : k ≤ n) (hy : xs.take (k * 9) = ys) : w.ownsRow base e 9 (.slice (some ⟨g, 0, none⟩) k cap) k ys := by
  obtain ⟨h0, h⟩ := h
  rcases h with ⟨h1, _⟩ | ⟨g', cap', cur, h1, h2, h3, h4, h5, h6, h7⟩
  · cases h1
  · injection h1 with e1 e2 e3; injection e1 with e1; injection e1 with e1 _ _; subst e1 e3
    refine ⟨by rw [← hy, List.length_take]; omega, .inr ⟨g, cap, cur, rfl, h2, h3, by omega, h5, h6, ?_⟩⟩
    rw [← hy, ← h7, List.take_take, Nat.min_eq_left (by omega)]
theorem slice_mfrom_at (g n cap i : Nat) (hi : i ≤ n) (_hn : n ≤ cap) (hc : i < cap) (w : World) : (Instr.slice 35 (.slice (some ⟨g, 0, none⟩) n cap) (some (.int .i64 (i : Int))) none none).run Tryz.prog w = .ok (.slice (some ⟨g, i * 9, none⟩) (n - i) (cap - i)) w := by
  have he : Tryz.prog.elem 35 = 32 := by simp [Program.elem, Tryz.underlying35]
  have hs : ∀ w, (sizeOf 32).run Tryz.prog w = .ok 9 w := fun w => by kernel_rfl
  have hci : cap ≠ i := by omega
  rw [run_slice_l w 35 _ n cap (by rw [he]; exact Tryz.underlying35) .i64 (i : Int) (by omega) (by omega), he, hs]
  simp [Result.andThen, sliced, hci, Addr.add_mid]
theorem own_loadAt {base g cap n k : Nat} {w : World} {l : List Mv} (h : w.ownsRow base 32 9 (.slice (some ⟨g, 0, none⟩) n cap) n (mcells l)) (hn : n = l.length) {x : Mv} (hx : l[k]? = some x) : (Instr.loadAt 32 (.pointer (some ⟨g, k * 9, none⟩))).run Tryz.prog w = .ok (.agg (mcell x)) w := by
  have hk := (List.getElem?_eq_some_iff.1 hx).1
  have := run_loadAt_mid (P := Tryz.prog) w g (k * 9) 32 (mcell x).toList _ (fun j z hj => by
    have hlt := (List.getElem?_eq_some_iff.1 hj).1
    rw [mcell_len] at hlt
    rw [h.cellAt _ (by omega), mcells_at _ _ _ hlt, hx]
    exact hj) Tryz.underlying32 rfl (by rw [mcell_len]; exact aggM.i)
  simpa using this
theorem arm_setMb {ops : Array Oper} {rest : List Oper} {a : Act} {w : World} {Q : Exit → Act → World → Prop} {tp : TypeId} {dst : Option Tmp} {x y : Operand} {pos : String} {after : Array Edge} {base g cap n k : Nat} {ls : List Mv} (m : Mv)
    (ho : w.ownsRow base 32 9 (.slice (some ⟨g, 0, none⟩) n cap) n (mcells ls)) (hn : n = ls.length) (hk : k < ls.length) (h1 : (mcell m).all (·.oneCell') = true) (hx : a.eval x = .pointer (some ⟨g, k * 9, none⟩)) (hy : a.eval y = .agg (mcell m))
    (h : ∀ w', w'.ownsRow base 32 9 (.slice (some ⟨g, 0, none⟩) n cap) n (mcells (ls.set k m)) → w.grownBy w' (some g) → wpList Tryz.prog ops Q rest (a.put dst undef) w') :
    wpList Tryz.prog ops Q (⟨dst, .store 32 x y, tp, pos, after, none⟩ :: rest) a w :=
  wpList_skip rfl (run_swap hx hy (owns_there ho hn hk) h1) (h _ (owns_setMb ho m hk).1 (owns_setMb ho m hk).2)
theorem arm_sSt {P : Program} {ops : Array Oper} {rest : List Oper} {a : Act} {w : World} {Q : Exit → Act → World → Prop} {tp t : TypeId} {dst : Option Tmp} {x y : Operand} {pos : String} {after : Array Edge} (h : StM P ops rest a w Q ⟨dst, .store t x y, tp, pos, after, none⟩) : wpList P ops Q (⟨dst, .store t x y, tp, pos, after, none⟩ :: rest) a w := by cases h; assumption
set_option maxHeartbeats 4000000 in
set_option maxRecDepth 100000 in
theorem dfuncM (F : FuncId) (cs : Array Value) (p : Mb → Bool) (v : Value) (l : List Mv) (base : Nat) (K : Nat → Prop) (w : World) (hent : ∀ args w, (callFunc F args).run Tryz.prog w = .ok (.enter F args) w) (_hB : base ≤ w.heap.size) (hl : l.length ≤ 1000000000000)
    (hf : ∀ wx, Chg (fun b => v.ownBlock = some b) w.heap.size w wx → ∀ x ∈ l, Calls Tryz.prog F (#[.agg (mcell x)] ++ cs) wx fun e w' => e = .returned (.bool (p x.1)) ∧ Below wx.heap.size wx w') (h : RowM base K w v l) :
    Calls Tryz.prog 101 #[v, .func (.func F) #[] cs] w fun e w' => ∃ v', e = .returned v' ∧ RowM base K w' v' (l.filter fun x => !p x.1) ∧ v'.ownBlock = v.ownBlock ∧ Chg (fun b => v.ownBlock = some b) w.heap.size w w' := by
  have HI := Keep.keep (ifuncM F cs p v l w hent (fun wx hb x hx => hf wx (.of_below hb) x hx) (h.mbs.mono (fun b hb => hb.2) (fun b hb => hb.2.1)))
  have HF := Keep.keep hf
  have HM := Keep.keep h
  obtain ⟨hlen, hcase⟩ := h.own
  have HCASE := Keep.keep hcase
  clear hf hlen hcase
  by_cases hall : ∀ x ∈ l, p x.1 = false
  · have hi : idxM p l = -1 := idxM_none (fun j hj => hall _ (List.getElem_mem hj))
    have hfl : (l.filter fun x => !p x.1) = l := List.filter_eq_self.2 (fun x hx => by simp [hall x hx])
    obtain ⟨a, cap, rfl, -⟩ := (ownsV_reads HM.out.own).shape
    rw [hi] at HI
    rw [hfl]
    clear hi hfl hall h
    go_enter Tryz.func101, Tryz.ntmps101
    go_wp2_with fail
    refine HI.out.mono ?_
    rintro e w1 ⟨rfl, hb⟩
    have HB := Keep.keep hb
    clear hb
    go_wp2_with fail
    go_ret
    exact ⟨_, rfl, HM.out.below HB.out, rfl, .of_below HB.out⟩
  · obtain ⟨i, hi, hpi, hno⟩ : ∃ i, ∃ h : i < l.length, p l[i].1 = true ∧ ∀ j, (hj : j < i) → p (l[j]'(by omega)).1 = false := by
      cases hx : l.findIdx? (fun x => p x.1) with
      | none => exact absurd (fun x hx' => by simpa using List.findIdx?_eq_none_iff.1 hx x hx') hall
      | some i =>
        obtain ⟨h1, h2, h3⟩ := List.findIdx?_eq_some_iff_getElem.1 hx
        exact ⟨i, h1, h2, fun j hj => by simpa using h3 j hj⟩
    have hidx := idxM_hit hi hpi hno
    rw [hidx] at HI
    rcases HCASE.out with ⟨_, h0⟩ | ⟨g, cap, cur, rfl, hbase, hrow, hn, hmx, hsz, htk⟩
    · omega
    have hkp : kpM p l i = l.take i := by
      unfold kpM
      rw [List.filter_eq_self]
      intro x hx
      obtain ⟨j, hj, rfl⟩ := List.mem_iff_getElem.1 hx
      rw [List.length_take] at hj
      simp [hno j (by omega)]
    have hkl : (kpM p l i).length = i := by rw [hkp, List.length_take]; omega
    have hk1 := kpM_succ p l i hi
    rw [if_pos hpi] at hk1
    have HDF : Keep (DFM p l l (i + 1)) := ⟨⟨rfl, by rw [hk1, hkl, hkp], fun m _ _ => rfl⟩⟩
    have HKL : Keep ((kpM p l (i + 1)).length = i) := ⟨by rw [hk1]; exact hkl⟩
    have HTOT : Keep ((kpM p l l.length).length < l.length) := ⟨by
      rw [kpM_all]
      refine Nat.lt_of_le_of_ne (List.length_filter_le _ _) (fun e => ?_)
      have := List.length_filter_eq_length_iff.1 e l[i] (List.getElem_mem hi)
      simp [hpi] at this⟩
    have HGW : Keep (base ≤ g ∧ g < w.heap.size ∧ l.length ≤ cap ∧ cap ≤ maxLen) := ⟨hbase, (Array.getElem?_eq_some_iff.1 hrow).1, hn, hmx⟩
    unfold maxLen at hmx
    clear hidx hpi hno hall hkp hkl hk1 hsz htk hrow hbase HCASE h cur
    have hbig : l.length ≤ 9223372036854775807 := by omega
    go_enter Tryz.func101, Tryz.ntmps101
    go_wp2_with fail
    refine HI.out.mono ?_
    rintro e w1 ⟨rfl, hb⟩
    have HB := Keep.keep hb
    clear hb HI
    have hne : ((i : Int) == -1) = false := by rw [beq_eq_false_iff_ne]; omega
    go_wp2_with fail
    go_loopg [5, 6] (l.length - (i + 1)) (fun q u5 u6 wx => ∃ (j : Nat) (ls : List Mv), j + q = l.length ∧ u6 = .int .i64 (j : Int) ∧ u5 = .int .i64 ((kpM p l j).length : Int) ∧ wx.ownsRow base 32 9 (.slice (some ⟨g, 0, none⟩) l.length cap) l.length (mcells ls) ∧ DFM p l ls j ∧ Chg (fun b => b = g) w.heap.size w wx)
    case atStart => exact ⟨i + 1, l, by omega, by simp, by rw [HKL.out], (HM.out.below HB.out).own, HDF.out, .of_below HB.out⟩
    case round =>
      obtain ⟨j, ls, hjq, rfl, rfl, hown, hdf, hch⟩ := hrel
      have HO := Keep.keep hown; have HD := Keep.keep hdf; have HC := Keep.keep hch
      have hle := kpM_le p l j
      clear hown hdf hch
      cases gk with
      | zero =>
        obtain rfl : j = l.length := by omega
        have HFL : Keep (kpM p l l.length = l.filter fun x => !p x.1) := ⟨kpM_all p l⟩
        have htot := HTOT.out
        generalize hkk : (kpM p l l.length).length = i2 at *
        have HKK := Keep.keep hkk
        have hsz := HD.out.sz
        have hsl := slice_mfrom_at g l.length cap i2 (by omega) HGW.out.2.2.1 (by have := HGW.out.2.2.1; omega) wr
        obtain ⟨zs, hzl, hcl⟩ := run_clear_mbs wr g (i2 * 9) (l.length - i2) (cap - i2) (by omega) (fun m hm => by
          rw [HO.out.cellAt _ (by omega), List.getElem?_eq_getElem (by rw [mcells_length]; omega)]; rfl) (fun m hm => HO.out.frozenAt _)
        have hown2 := owns_setCells zs _ wr (i2 * 9) HO.out
        have hown3 := owns_take (k := i2) hown2.1 (by omega) (by rw [layAt_take _ _ _ (by rw [mcells_length]; omega), ← mcells_take, ← HKK.out, HD.out.pre])
        have HO3 := Keep.keep hown3
        have HC3 : Keep (Chg (fun b => b = g) w.heap.size w (wr.setCells g (i2 * 9) zs)) := ⟨HC.out.trans (((chg_grown hown2.2).mono (Nat.le_refl _) (fun b e => by injection e with e; exact e.symm)).lower HC.out.size)⟩
        clear hown2 hown3 hzl hkk hsz
        generalize wr.setCells g (i2 * 9) zs = w9 at *
        have hst := slice_mto (some ⟨g, 0, none⟩) l.length cap i2 .i64 (by have := HGW.out.2.2.1; omega) w9
        go_wp2_with fail
        go_ret
        refine ⟨_, rfl, ⟨?_, fun x hx => ?_⟩, rfl, HC3.out.mono (Nat.le_refl _) (fun b hb => by rw [hb]; rfl)⟩
        · rw [← HFL.out, HKK.out]; exact HO3.out
        · have hx2 := (List.mem_filter.1 hx).1
          refine ((HM.out.nd x hx2).loc (fun b e => HC3.out.block b e.2.1 (fun e2 => e.2.2 (by rw [e2]; rfl)))).mono (fun b e => ⟨e.1, Nat.lt_of_lt_of_le e.2.1 HC3.out.size, e.2.2⟩)
      | succ q =>
        have hj : j < l.length := by omega
        have hlj : ls[j]? = some l[j] := by rw [HD.out.post j (Nat.le_refl _) hj, List.getElem?_eq_getElem hj]
        have hld := own_loadAt HO.out HD.out.sz.symm hlj
        have HCF := Keep.keep (fun wx (hc : Chg (fun b => (Value.slice (some ⟨g, 0, none⟩) l.length cap).ownBlock = some b) w.heap.size w wx) => HF.out wx hc l[j] (List.getElem_mem hj))
        have HSK := Keep.keep (fun h => HD.out.skip hj h)
        have HPU := Keep.keep (fun h => HD.out.put hj h)
        have HK1 := Keep.keep (kpM_succ p l j hj)
        have HND := Keep.keep (HM.out.nd l[j] (List.getElem_mem hj))
        have HKT : Keep ((kpM p l j).length < l.length) := ⟨by omega⟩
        generalize hkk : (kpM p l j).length = k at *
        have HKK := Keep.keep hkk
        clear hkk hlj
        generalize p l[j].1 = pk at *
        generalize l[j] = x at *
        have HONE := Keep.keep (mcell_one HND.out)
        obtain ⟨⟨xp, ⟨kind, mode, uid, gid, time, attrs, data, link⟩⟩, av, dv⟩ := x
        obtain ⟨aa, la, ca, ad, ld, cd, e1, e2⟩ := HND.out.shape
        dsimp only at e1 e2
        subst e1 e2
        have HMC : Keep (mcell (((xp, ⟨kind, mode, uid, gid, time, attrs, data, link⟩), .slice aa la ca, .slice ad ld cd) : Mv) = #[.string ⟨xp.toArray⟩, .int .i64 kind, .int .u32 mode, .int .u32 uid, .int .u32 gid, .int .i64 time, .slice aa la ca, .slice ad ld cd, .string ⟨link.toArray⟩]) := ⟨rfl⟩
        have HSZ : Keep ((#[.string ⟨xp.toArray⟩, .int .i64 kind, .int .u32 mode, .int .u32 uid, .int .u32 gid, .int .i64 time, .slice aa la ca, .slice ad ld cd, .string ⟨link.toArray⟩] : Array Value).size = 9) := ⟨rfl⟩
        rw [HMC.out] at hld HCF
        clear HND
        go_upto_region 8 with ((with_reducible refine arm_loadM hld ?_ ?_); (focus rfl); simp only [Act.put, List.setIfInBounds_toArray, List.set_cons_succ, List.set_cons_zero])
        refine wp_world (R := fun wq => Hp NoM wr wq [rowA wr.heap.size 32 #[.string ⟨xp.toArray⟩, .int .i64 kind, .int .u32 mode, .int .u32 uid, .int .u32 gid, .int .i64 time, .slice aa la ca, .slice ad ld cd, .string ⟨link.toArray⟩]]) ((Hp.begin NoM wr).newRow _ _) ?_
        intro w2 H2
        have HRV := Keep.keep (H2.out.row 0 rfl)
        have HC2 := Keep.keep (HC.out.trans ((Chg.of_below (M := fun b => b = g) H2.out.below).lower HC.out.size))
        obtain ⟨b7, hb7⟩ : ∃ b7, wr.heap.size = b7 := ⟨_, rfl⟩
        have HB7 := Keep.keep hb7
        rw [hb7] at HRV ⊢
        clear hb7 hld
        go_wp2_with ((with_reducible refine arm_loadRow HRV.out aggM HSZ.out ?_ ?_); (focus rfl); simp only [Act.put, List.setIfInBounds_toArray, List.set_cons_succ, List.set_cons_zero])
        refine (HCF.out w2 (HC2.out.mono (Nat.le_refl _) (fun b hb => by rw [hb]; rfl))).mono ?_
        rintro e w3 ⟨rfl, hb3⟩
        have HB3 := Keep.keep (H2.out.below.trans (hb3.mono H2.out.below.size))
        have HRV3 := Keep.keep (HRV.out.below hb3 HRV.out.lt)
        have HO3 := Keep.keep (ownsRow_loc _ _ (fun b hb => HB3.out.block b (ownsV_lt HO.out b hb).2) HO.out)
        have HC3 := Keep.keep (HC2.out.trans ((Chg.of_below (M := fun b => b = g) hb3).lower HC2.out.size))
        clear hb3 HRV HCF
        cases pk with
        | true =>
          have HX := Keep.keep (HSK.out rfl)
          have HL : Keep ((kpM p l (j + 1)).length = k) := ⟨by rw [HK1.out, if_pos rfl]; exact HKK.out⟩
          go_wp2_with fail
          go_roundg q
          case measure => omega
          case rel => exact ⟨j + 1, ls, by omega, by simp, by rw [HL.out], HO3.out, HX.out, HC3.out⟩
        | false =>
          have HX := Keep.keep (HPU.out rfl)
          have HL : Keep ((kpM p l (j + 1)).length = k + 1) := ⟨by rw [HK1.out, if_neg (by decide), List.length_append, HKK.out]; rfl⟩
          have hkt := HKT.out
          clear HPU HSK
          go_upto_region 9 with fail
          go_wp2_with (first | ((with_reducible refine arm_loadRow HRV3.out aggM HSZ.out ?_ ?_); (focus rfl); simp only [Act.put, List.setIfInBounds_toArray, List.set_cons_succ, List.set_cons_zero]) | (with_reducible refine arm_sSt ?_))
          refine StM.out ?_
          refine arm_setMb (((xp, ⟨kind, mode, uid, gid, time, attrs, data, link⟩), .slice aa la ca, .slice ad ld cd) : Mv) HO3.out HD.out.sz.symm (by rw [HD.out.sz]; exact hkt) HONE.out rfl rfl ?_
          intro w4 ho4 hg4
          have HO4 := Keep.keep ho4
          have HC4 := Keep.keep (HC3.out.trans (((chg_grown hg4).mono (Nat.le_refl _) (fun b e => by injection e with e; exact e.symm)).lower HC3.out.size))
          clear ho4 hg4
          simp only [Act.put]
          go_wp2_with fail
          go_roundg q
          case measure => omega
          case rel => exact ⟨j + 1, _, by omega, by simp, by rw [HL.out]; simp, HO4.out, HX.out, HC4.out⟩
end Go.Proofs.YtplafpokgpolkaaGreatDoor
/- A RANGE OVER A FUNCTION IN A LAW: whose loop variable is a box of its own; quiet regions in its body; the memory as a list of assertions. -/
namespace Go.Proofs.YtplafpokgpolkaaGreatDoor
open Go.RowKit
theorem Hp.grownBy {w X Y : World} {row : Option Nat} {ls : List As} (h : Hp NoM w X ls) (hg : X.grownBy Y row) (hr : ∀ r, row = some r → w.heap.size ≤ r ∧ ∀ A ∈ ls, ¬ A.blk r) : Hp NoM w Y ls := by
  refine ⟨⟨hg.os.trans h.c.os, hg.tape.trans h.c.tape, hg.output.trans h.c.output, Nat.le_trans h.c.size hg.size, fun k hk hm => ?_⟩, fun A hA => ?_, h.d⟩
  · have := h.c.size
    rw [hg.block k (by omega) (fun e => by have := (hr k e.symm).1; omega)]
    exact h.c.block k hk hm
  · have := h.p A hA
    exact ⟨A.loc X Y (fun b hb => hg.block b (this.2 b hb).2 (fun e => (hr b e.symm).2 A hA hb)) this.1, fun b hb => ⟨(this.2 b hb).1, Nat.lt_of_lt_of_le (this.2 b hb).2 hg.size⟩⟩
/-- what speaks of blocks below B alone abides -/
theorem hp_own {β : Type} {w : World} {B : Nat} (hw : w.heap.size ≤ B) (ls : β → List As) (hls : ∀ s, ∀ A ∈ ls s, ∀ b, A.blk b → b < B) : OwnFrom B (fun s W => Hp NoM w W (ls s)) :=
  fun s X Y row h hg hr => h.grownBy hg (fun r e => ⟨by have := (hr r e).1; omega, fun A hA hb => by have := hls s A hA r hb; have := (hr r e).1; omega⟩)
theorem wpIn_region_quiet_wide {r n id : Nat} {P : Program} {l : List Oper} {Q : Exit → Act → World → Prop} {a : Act} {w : World} (hm : P.follows .mixedOrders = true) (hd : noDefer l.toArray = true) (hq : ¬ LetsOut Q) (hB : Region.lexB .any l.toArray = true)
    (h : wpQuiet P l.toArray (fun w' => ∃ n, w' = w.drewN n) (fun a' => ∀ w', (∃ n, w' = w.drewN n) → Q .normal a' w') l a) : (Code.region id l.toArray true).wpIn (Fence.wide.inRound r) n P Q a w := by
  simp only [Region.lexB, Bool.and_eq_true] at hB
  refine wpIn_region_wide hm hd hq (wpAny_of_quiet (C := fun w' => ∃ n, w' = w.drewN n) (Q := fun a' => ∀ w', (∃ n, w' = w.drewN n) → Q .normal a' w') (fun _ w' hw' h => h w' hw') _ _ _ _ ⟨1, rfl⟩ ?_)
  have := wpAnyQ_lex (C := fun w' => ∃ n, w' = w.drewN n) (md := .any) hB.1 l 0 (Array.replicate l.toArray.size false) a (by simp) (by simpa using hB.2) h
  simpa using this
/-- THE LAW: the loop variable v is a new row of the type ty, told by p -/
theorem rangeFunc_row {n : Nat} {P : Program} {α : Type} {g : Operand} {p v : Tmp} {assign body : Code} {Q : Exit → Act → World → Prop} {a : Act} {w : World} (h1 : 1 ≤ n) {gf : Nat} {lb : Array Value} (hg : a.eval g = .func (.func gf) #[] lb) (eg : ∀ args w, (callFunc gf args).run P w = .ok (.enter gf args) w)
    {cs : α → Array Value} {Kp : World → World → Prop} {S Sp : List α → Prop} {N : Nat} (ty : TypeId) (hseq : SeqStopsK Fence.wide (n - 1) P gf lb (fun x => #[.agg (cs x)]) Kp S Sp N w)
    (hKt : ∀ {A B C : World}, Kp A B → Kp B C → Kp A C) (hKb : ∀ (W : World) (l : Nat) (o o' : Obj), w.heap.size ≤ l → W.heap[l]? = some o → o.isCells = false → o.isWalk = false → Kp W (W.putObj l o'))
    (I : List α → World → Prop) (Ix : Code → List α → World → Prop) (hI : OwnFrom w.heap.size I) (hIx : ∀ c, OwnFrom w.heap.size (Ix c)) (h0 : I [] w)
    (hassign : ∀ (l : Nat) (pre : List α) (x : α) (W : World) (K : Act → World → Prop), I pre W → (∀ a' W', KeepsFrom w.heap.size W W' → Kp W W' → I pre W' → (∃ Bx, (Row W' Bx ty (cs x) ∧ w.heap.size ≤ Bx) ∧ a' = { tmps := (a.tmps.setIfInBounds p (.agg (cs x))).setIfInBounds v (.pointer (some ⟨Bx, 0, none⟩)), defers := [] }) → K a' W') →
      assign.wpIn (Fence.wide.inRound l) (n - 1 - 1) P (Exit.then K (fun _ _ _ => False)) { tmps := a.tmps.setIfInBounds p (.agg (cs x)), defers := [] } W)
    (hbody : ∀ (l : Nat) (pre : List α) (x : α) (W : World) (Bx : Nat), w.heap.size ≤ l → (∃ r, W.heap[l]? = some (.loop r)) → I pre W → Row W Bx ty (cs x) → w.heap.size ≤ Bx → pre.length < N →
      body.wpIn (Fence.wide.inRound l) (n - 1 - 1) P (ownPostG w.heap.size Kp I Ix (pre ++ [x]) W) { tmps := (a.tmps.setIfInBounds p (.agg (cs x))).setIfInBounds v (.pointer (some ⟨Bx, 0, none⟩)), defers := [] } W)
    (hdone : ∀ (D : Nat) (xs : List α) (W : World), w.heap.size ≤ D → S xs → I xs W → W.heap[D]? = some (.deferred (some [])) → Q .normal { a with defers := { target := .collected D, args := #[] } :: a.defers } W)
    (hstop : ∀ (D : Nat) (c : Code) (pre : List α) (W : World), w.heap.size ≤ D → Sp pre → Ix c pre W → W.heap[D]? = some (.deferred (some [])) → c.wp P Q { a with defers := { target := .collected D, args := #[] } :: a.defers } W) :
    (Code.rangeFunc g #[p] assign body).wp P Q a w := by
  refine (wpIn_wide (n := n)).1 ?_
  refine wpIn_rangeFunc_ownH rfl h1 hg trivial eg hseq hKt hKb (Below.refl _ _) (fun _ => rfl) I Ix hI hIx h0
    (fun x a' W => ∃ Bx, (Row W Bx ty (cs x) ∧ w.heap.size ≤ Bx) ∧ a' = { tmps := (a.tmps.setIfInBounds p (.agg (cs x))).setIfInBounds v (.pointer (some ⟨Bx, 0, none⟩)), defers := [] })
    (fun x a' _ X Y row hs hg hr => by obtain ⟨Bx, ⟨e2, e3⟩, e4⟩ := hs; exact ⟨Bx, ⟨(grownBy_keeps_cells hg (fun r e => (hr r e).2) e2 rfl).trans e2, e3⟩, e4⟩)
    (fun l pre x W K hi hK => ?_) (fun l pre x a' W hl hr hi ha hN => ?_) hdone (fun D c pre W hD hs hx hk => wpIn_wide.2 (hstop D c pre W hD hs hx hk))
  · simpa using hassign l pre x W K hi hK
  · obtain ⟨Bx, ⟨h2, h3⟩, rfl⟩ := ha
    exact hbody l pre x W Bx hl hr hi h2 h3 hN
end Go.Proofs.YtplafpokgpolkaaGreatDoor
/- tree.Copy: a tree that lives apart. -/
namespace Go.Proofs.YtplafpokgpolkaaGreatDoor
open Go.RowKit
/-- what has come, when one more comes -/
theorem came_put {L : List Mb} (h : SM.Srt L) {todo : Tx → Bool} {p : Tx} {n : Nd} (hp : todo p = true) (hl : SM.look L p = some n) : L.filter (fun x => !(todo x.1 && x.1 != p)) = SM.put (L.filter (fun x => !todo x.1)) (p, n) := by
  have hs : SM.Srt (L.filter (fun x => !todo x.1)) := h.filter _
  have h2 : SM.Srt (L.filter (fun x => !(todo x.1 && x.1 != p))) := h.filter _
  refine h2.ext (hs.put _) (fun q => ?_)
  rw [hs.look_put, h.look_filter (fun k => !(todo k && k != p)), h.look_filter (fun k => !todo k)]
  by_cases e : q = p
  · subst e
    simp [hl]
  · simp [e]
def cpT (W : World) (T2 m2 : Nat) (p : Tx) (n : Nd) (av dv : Value) : Nat → Value → World → Prop
  | 0, v, _ => v = .pointer (some ⟨T2, 0, none⟩)
  | 1, v, _ => v = .pointer (some ⟨T2, 0, none⟩)
  | 2, v, _ => v = .pointer (some ⟨T2, 0, none⟩)
  | 3, v, _ => v = .map (some m2)
  | 4, v, _ => v = .string ⟨p.toArray⟩
  | 5, v, _ => v = .agg (ndC n av dv)
  | _, v, w => ∃ av' dv', v = .agg (ndC n av' dv') ∧ NdR w (Fresh W.heap.size w) n av' dv'
theorem cpT_stays {W : World} {T2 m2 : Nat} {p : Tx} {n : Nd} {av dv : Value} (k : Nat) (v : Value) (w w' : World) (h : cpT W T2 m2 p n av dv k v w) (hb : Below w.heap.size w w') : cpT W T2 m2 p n av dv k v w' := by
  unfold cpT at h ⊢
  split at h
  · exact h
  · exact h
  · exact h
  · exact h
  · exact h
  · exact h
  · obtain ⟨a, d, h1, h2⟩ := h
    exact ⟨a, d, h1, (h2.below hb (fun b hb => hb.2)).mono (fun b hb' => hb'.mono (Nat.le_refl _) hb.size)⟩
set_option maxHeartbeats 4000000 in
set_option maxRecDepth 100000 in
theorem copy_tree (T mb : Nat) (Bk : Nat → Prop) (f : Tx → Value × Value) (L : List Mb) (w : World) (h : TreeIn w T mb Bk f L) (hBk : ∀ b, Bk b → b < w.heap.size) (hL : L.length ≤ 100000) :
    Calls Tryz.prog 31 #[.pointer (some ⟨T, 0, none⟩)] w fun e w' => ∃ T2 m2 Bk2 f2, e = .returned (.pointer (some ⟨T2, 0, none⟩)) ∧ TreeIn w' T2 m2 Bk2 f2 L ∧ (w.heap.size ≤ T2 ∧ w.heap.size ≤ m2 ∧ ∀ b, Bk2 b → Fresh w.heap.size w' b) ∧ Below w.heap.size w w' := by
  have HT := Keep.keep h; have HBK := Keep.keep hBk
  have HN := Keep.keep (none_ok T mb w h.row)
  have hmbw := h.map.lt
  have hTw := h.row.lt
  clear h hBk
  go_enter Tryz.func31, Tryz.ntmps31
  go_wp2_with fail
  refine HN.out.mono ?_
  rintro e w' ⟨rfl, rfl⟩
  have hmm := @run_makeMap Tryz.prog
  go_upto_region 4 with fail
  refine wp_world (R := fun w2 => Hp NoM w w2 [trA (w.heap.size + 1) w.heap.size (fun _ => False) (fun _ => (nilV, nilV)) []]) ?_ ?_
  · have h1 := Hp.begin NoM w
    have hb2 : Below w.heap.size w ((w.alloc (Obj.map #[] 0)).alloc (Obj.cells #[Value.map (some w.heap.size)] 86)) := ((Below.refl _ _).alloc (Nat.le_refl _) _).alloc (by simp) _
    have hm1 := MapS.made (k := 9) w
    exact h1.push (trA (w.heap.size + 1) w.heap.size (fun _ => False) (fun _ => (nilV, nilV)) []) (.of_below hb2)
      ⟨Row.new' (by simp) rfl, hm1.loc (Below.heap_alloc _ _ _ hm1.lt), (fun m hm => (List.not_mem_nil hm).elim), (fun m hm => (List.not_mem_nil hm).elim), ⟨by omega, fun h => h, fun h => h⟩⟩
      (fun b hb => by rcases hb with rfl | rfl | h
                      · simp
                      · simp; omega
                      · exact h.elim)
  intro w2 H2
  obtain ⟨m2, hm2⟩ : ∃ m2, w.heap.size = m2 := ⟨_, rfl⟩
  have HM2 := Keep.keep hm2
  obtain ⟨T2, hT2⟩ : ∃ T2, m2 + 1 = T2 := ⟨_, rfl⟩
  have HT2E := Keep.keep hT2
  rw [hm2, hT2] at H2 ⊢
  clear hmm hm2 hT2
  have hT2w : TreeIn w2 T mb Bk f L := HT.out.loc (fun b hb => H2.out.below.block b (by
    rcases hb with rfl | rfl | h
    · exact hTw
    · exact hmbw
    · exact HBK.out b h))
  have cT := hT2w.row.cell (i := 0) rfl
  have HM := Keep.keep hT2w.map
  have HSR := Keep.keep HT.out.srt
  have HSM := Keep.keep HT.out.sm
  have HND := Keep.keep HT.out.nd
  have HEL : Keep ((entries f L).length = L.length) := ⟨by simp [entries]⟩
  have hs2 := H2.out.size
  have hT2lt : T2 < w2.heap.size := by
    have := (H2.out.p _ (List.mem_of_getElem? (i := 0) rfl)).2 T2 (.inl rfl)
    exact this.2
  clear hT2w HN
  go_wp2_with (first | (with_reducible refine arm_sRange ?_) | (with_reducible refine arm_sNext ?_) | (with_reducible refine arm_sDel ?_) | (with_reducible refine arm_sPut ?_) | (with_reducible refine arm_sIns ?_))
  refine StM.out ?_
  refine arm_rangeS Tryz.underlying9 Tryz.underlying84 HM.out rfl ?_
  intro w3 hrg hb3 hs3
  obtain ⟨r, hr⟩ : ∃ r, w2.heap.size = r := ⟨_, rfl⟩
  have HRE : Keep (w.heap.size ≤ r ∧ mb < r ∧ T2 < r ∧ m2 < r) := ⟨by have := HT2E.out; omega⟩
  have H3 := Keep.keep (H2.out.call hb3)
  rw [hr] at hrg ⊢
  have HRG := Keep.keep hrg
  clear hrg hb3 hs3 hr cT HM H2 hs2 hT2lt
  simp only [Act.put, List.setIfInBounds_toArray, List.set_cons_succ, List.set_cons_zero]
  go_wp2_with fail
  go_loopg [4] L.length (fun g _ wx => ∃ (todo : Tx → Bool) (Bk2 : Nat → Prop) (f2 : Tx → Value × Value), RgS wx 9 mb r (entries f L) todo g ∧ Hp NoM w wx [trA T2 m2 Bk2 f2 (L.filter (fun x => !todo x.1))] ∧ ∀ b, Bk2 b → r < b)
  case atStart =>
    refine ⟨_, fun _ => False, fun _ => (nilV, nilV), by rw [← HEL.out]; exact HRG.out, ?_, fun b hb => hb.elim⟩
    have e0 : L.filter (fun x => !(SM.look (entries f L) x.1).isSome) = [] := by
      rw [List.filter_eq_nil_iff]
      intro x hx
      rw [look_entries, HSR.out.look.2 hx]; simp
    rw [e0]
    exact H3.out
  case round =>
    obtain ⟨todo, Bk2, f2, hrg, hH, hbr⟩ := hrel
    have HRG2 := Keep.keep hrg; have HH := Keep.keep hH; have HBR := Keep.keep hbr
    clear hrg hH hbr HRG H3
    go_wp2_with (first | (with_reducible refine arm_sRange ?_) | (with_reducible refine arm_sNext ?_) | (with_reducible refine arm_sDel ?_) | (with_reducible refine arm_sPut ?_) | (with_reducible refine arm_sIns ?_))
    refine StM.out ?_
    refine arm_nextS Tryz.underlying9 HRG2.out rfl ?_ ?_
    · intro h0 hall
      have e0 : L.filter (fun x => !todo x.1) = L := by
        rw [List.filter_eq_self]
        intro x _
        simp [hall]
      rw [e0] at HH
      clear h0 hall e0
      simp only [Act.put, List.setIfInBounds_toArray, List.set_cons_succ, List.set_cons_zero]
      go_wp2_with fail
      go_ret
      refine ⟨T2, m2, Bk2, f2, rfl, HH.out.get 0 rfl, ?_, HH.out.below⟩
      refine ⟨HH.out.new 0 rfl (b := T2) (.inl rfl) |>.1, HH.out.new 0 rfl (b := m2) (.inr (.inl rfl)) |>.1, fun b hb => HH.out.new 0 rfl (b := b) (.inr (.inr hb))⟩
    · intro p v w4 cnt' h1 h2 h3 h4 h5 h6 hen
      obtain ⟨n, hln, hve⟩ : ∃ n, SM.look L p = some n ∧ v = .agg (ndC n (f p).1 (f p).2) := by
        rw [look_entries] at h2
        cases hl : SM.look L p with
        | none => rw [hl] at h2; cases h2
        | some n => rw [hl] at h2; injection h2 with h2; exact ⟨n, rfl, h2.symm⟩
      have hmem := SM.look_mem hln
      have HCP := Keep.keep (came_put HSR.out h1 hln)
      have HNX := Keep.keep (HND.out _ hmem)
      have HSX := Keep.keep (HSM.out _ hmem)
      have HLN : Keep ((L.filter (fun x => !todo x.1)).length ≤ L.length) := ⟨List.length_filter_le _ _⟩
      obtain ⟨aa, la, ca, ad, ld, cd, e1, e2⟩ := HNX.out.shape
      dsimp only at e1 e2 HNX
      rw [e1, e2] at HNX hve
      have HRG4 := Keep.keep h3
      have hne5 : ∀ b, b < wr.heap.size → b ≠ r → w4.heap[b]? = wr.heap[b]? := fun b hb hn => h5.block b hb hn
      have hr4 := HRG2.out.lt.2.1
      have H4 : Keep (Hp NoM w w4 [trA T2 m2 Bk2 f2 (L.filter (fun x => !todo x.1))]) := ⟨by
        refine HH.out.grownBy (row := some r) ⟨h5.os, h5.tape, h5.output, h5.size, fun k hk hm => h5.block k hk (fun e => hm (by rw [e]))⟩ (fun r' e => ?_)
        injection e with e
        subst e
        refine ⟨HRE.out.1, fun A hA => ?_⟩
        obtain rfl := List.mem_singleton.1 hA
        rintro (h | h | h)
        · have := HRE.out.2.2.1; omega
        · have := HRE.out.2.2.2; omega
        · have := HBR.out _ h; omega⟩
      have hs4 := h5.size
      clear h1 h2 h3 h5 h6 e1 e2 HRG2 HH hmem
      subst hve
      have HNC : Keep (ndC n (.slice aa la ca) (.slice ad ld cd) = #[.int .i64 n.kind, .int .u32 n.mode, .int .u32 n.uid, .int .u32 n.gid, .int .i64 n.time, .slice aa la ca, .slice ad ld cd, .string ⟨n.link.toArray⟩]) := ⟨rfl⟩
      rw [HNC.out] at hen ⊢
      simp only [Act.put, List.setIfInBounds_toArray, List.set_cons_succ, List.set_cons_zero]
      go_upto_region 7 with fail
      refine wp_world (R := fun w5 => (Hp NoM w w5 [trA T2 m2 Bk2 f2 (L.filter (fun x => !todo x.1)), rowA w4.heap.size 30 #[.int .i64 n.kind, .int .u32 n.mode, .int .u32 n.uid, .int .u32 n.gid, .int .i64 n.time, .slice aa la ca, .slice ad ld cd, .string ⟨n.link.toArray⟩]]) ∧ RgS w5 9 mb r (entries f L) (fun q => todo q && q != p) cnt') ⟨H4.out.newRow _ _, HRG4.out.loc (Below.heap_alloc _ _ _ HRG4.out.lt.1) (Below.heap_alloc _ _ _ HRG4.out.lt.2.1)⟩ ?_
      intro w5 H5
      obtain ⟨b5, hb5⟩ : ∃ b5, w4.heap.size = b5 := ⟨_, rfl⟩
      rw [hb5] at H5 ⊢
      have hs5 := (H5.out.1.row 1 rfl).lt
      have hrg5 := H5.out.2.lt
      clear hen H4 HRG4
      refine wp_region_spcT 7 [21, 22, 23, 24, 25, 26, 27] (Below w5.heap.size w5) (cpT w5 T2 m2 p n (.slice aa la ca) (.slice ad ld cd)) (fun w w' => Below w.heap.size w w') (by kernel_rfl) rfl (by decide) (by show ∀ d ∈ _, d < 29; decide) (by kernel_rfl) (by decide) (by kernel_rfl) (by kernel_rfl) (by kernel_rfl) (Below.refl _ _).drew (fun i v w w' h _ hb => cpT_stays i v w w' h hb) ?_ ?_
      · intro q hq a1 w6 hF hC hT
        have b3 : a1.eval (.tmp 3) = .pointer (some ⟨T2, 0, none⟩) := (hF.same 3 (by decide)).trans rfl
        have b4 : a1.eval (.tmp 4) = .string ⟨p.toArray⟩ := (hF.same 4 (by decide)).trans rfl
        have b5e : a1.eval (.tmp 5) = .pointer (some ⟨b5, 0, none⟩) := (hF.same 5 (by decide)).trans rfl
        have hkr : Below w6.heap.size w6 w6 := Below.refl _ _
        have HP := H5.out.1.call hC
        have hRC := HP.row 1 rfl
        have hTW := (HP.get 0 rfl).row
        rcases (by omega : q = 0 ∨ q = 1 ∨ q = 2 ∨ q = 3 ∨ q = 4 ∨ q = 5 ∨ q = 6) with rfl | rfl | rfl | rfl | rfl | rfl | rfl
        · exact spcS_val (d := 21) rfl (wanted_none rfl) run_move hC hkr b3
        · have hx : a1.eval (.tmp 21) = .pointer (some ⟨T2, 0, none⟩) := hT 0 (by decide) (by kernel_rfl)
          exact spcS_val (d := 22) rfl (wanted_none rfl) (by simp [execOp, hx]) hC hkr rfl
        · have hx : a1.eval (.tmp 22) = .pointer (some ⟨T2, 0, none⟩) := hT 1 (by decide) (by kernel_rfl)
          exact spcS_val (d := 23) rfl (wanted_none rfl) (run_fieldAddr (m := 0) Tryz.underlying86 rfl (by kernel_rfl) hx) hC hkr rfl
        · have hx : a1.eval (.tmp 23) = .pointer (some ⟨T2, 0, none⟩) := hT 2 (by decide) (by kernel_rfl)
          exact spcS_val (d := 24) rfl (wanted_none rfl) (run_loadCell (run_isAgg_plain Tryz.underlying84 rfl) (hTW.cell (i := 0) rfl) hx) hC hkr rfl
        · exact spcS_val (d := 25) rfl (wanted_none rfl) run_move hC hkr b4
        · have hld := hRC.loadAt (P := Tryz.prog) 30 _ Tryz.underlying30 rfl (by kernel_rfl)
          exact spcS_val (d := 26) rfl (wanted_none rfl) (by unfold execOp; simp only [b5e, Sem.run_bind, Sem.run_pure, Result.andThen_ok, hld]; rfl) hC hkr rfl
        · have hx : a1.eval (.tmp 26) = .agg (ndC n (.slice aa la ca) (.slice ad ld cd)) := hT 5 (by decide) (by kernel_rfl)
          refine spcS_call (d := 27) (vs := #[.agg (ndC n (.slice aa la ca) (.slice ad ld cd))]) rfl (wanted_none rfl) (Go.Proofs.enters_of Tryz.func58 (by kernel_rfl) rfl) (by simp [hx]) ?_
          have hsz6 := HP.size
          refine (clone_node n _ _ w6 ((HNX.out.below HP.below (fun b hb => HBK.out b hb)).mono (fun b hb => by have := HBK.out b hb; omega)) HSX.out.a (Nat.le_trans HSX.out.d (by decide))).mono ?_
          rintro e wz ⟨a', d', rfl, hn', hb⟩
          exact ⟨_, rfl, hC.trans (hb.mono hC.size), hb, a', d', rfl, hn'.mono (fun b hb' => hb'.mono hC.size (Nat.le_refl _))⟩
      · intro a2 w6 ha hC hT
        have t3 : slot a2 24 = .map (some m2) := hT 3 (by decide)
        have t5 : slot a2 25 = .string ⟨p.toArray⟩ := hT 4 (by decide)
        obtain ⟨av', dv', t8, hn'⟩ : ∃ av' dv', slot a2 27 = .agg (ndC n av' dv') ∧ NdR w6 (Fresh w5.heap.size w6) n av' dv' := hT 6 (by decide)
        simp only [List.foldl_cons, List.foldl_nil, t3, t5, t8] at ha
        clear hT t3 t5 t8
        generalize slot a2 21 = y21 at *
        generalize slot a2 22 = y22 at *
        generalize slot a2 23 = y23 at *
        generalize slot a2 26 = y26 at *
        have HN' := Keep.keep hn'
        have H6 := Keep.keep (H5.out.1.call hC)
        have HS6 := Keep.keep hC.size
        have HC6 := Keep.keep hC
        have HRG6 : Keep (RgS w6 9 mb r (entries f L) (fun q => todo q && q != p) cnt') := ⟨H5.out.2.loc (hC.block _ hrg5.1) (hC.block _ hrg5.2.1)⟩
        clear hn' hC
        subst ha
        simp only [List.drop_succ_cons, List.drop_zero]
        simp only [Act.put, List.setIfInBounds_toArray, List.set_cons_succ, List.set_cons_zero]
        have hT6 : TreeIn w6 T2 m2 Bk2 f2 (L.filter (fun x => !todo x.1)) := H6.out.get 0 rfl
        have hbk6 : ∀ b, Bk2 b → b < w5.heap.size := fun b hb => ((H5.out.1.p _ (List.mem_of_getElem? (i := 0) rfl)).2 b (.inr (.inr hb))).2
        have hT6lt : T2 < w5.heap.size ∧ m2 < w5.heap.size := ⟨((H5.out.1.p _ (List.mem_of_getElem? (i := 0) rfl)).2 T2 (.inl rfl)).2, ((H5.out.1.p _ (List.mem_of_getElem? (i := 0) rfl)).2 m2 (.inr (.inl rfl))).2⟩
        have HT6 := Keep.keep hT6; have HBK6 := Keep.keep hbk6; have HLT6 := Keep.keep hT6lt
        have hel : (entries f2 (L.filter (fun x => !todo x.1))).length < maxLen := by
          have := HLN.out
          simp only [entries, List.length_map]
          unfold maxLen; omega
        clear hT6 hbk6 hT6lt
        go_wp2_with (first | (with_reducible refine arm_sRange ?_) | (with_reducible refine arm_sNext ?_) | (with_reducible refine arm_sDel ?_) | (with_reducible refine arm_sPut ?_) | (with_reducible refine arm_sIns ?_))
        refine StM.out ?_
        refine arm_putS Tryz.underlying9 Tryz.underlying84 HT6.out.map (p := p) (by have := HSX.out.p; dsimp only at this; unfold maxLen; omega) hel rfl rfl rfl ?_
        intro w7 hm7 hc7
        have hs6 := HS6.out
        have hs7 := hc7.size
        have hfin := HT6.out.put (Bk' := fun b => Bk2 b ∨ Fresh w5.heap.size w6 b) (fun b hb => by have := HBK6.out b hb; omega) (p, n) av' dv' HSX.out hm7 hc7 (HN'.out.mono (fun b hb => .inr hb)) (fun b hb => .inl hb) (fun b hb => by
          rcases hb with hb | hb
          · have h1 := HBK6.out b hb
            exact ⟨by omega, fun e => HT6.out.ne.2.1 (e ▸ hb), fun e => HT6.out.ne.2.2 (e ▸ hb)⟩
          · have h1 := hb.1
            have h2 := HLT6.out
            exact ⟨hb.2, by omega, by omega⟩)
        rw [← HCP.out] at hfin
        have hch : Chg (fun j => (trA T2 m2 Bk2 f2 (L.filter (fun x => !todo x.1))).blk j) w5.heap.size w5 w7 := ((Chg.of_below (M := fun j => (trA T2 m2 Bk2 f2 (L.filter (fun x => !todo x.1))).blk j) HC6.out)).trans ((hc7.lower HS6.out).mono (Nat.le_refl _) (fun j hj => .inr (.inl hj)))
        have H7 := Keep.keep (H5.out.1.upd 0 rfl (trA T2 m2 (fun b => Bk2 b ∨ Fresh w5.heap.size w6 b) (fun q => if q = p then (av', dv') else f2 q) (L.filter (fun x => !(todo x.1 && x.1 != p)))) hch hfin (fun b hb => by
          rcases hb with h | h | h | h
          · exact .inl (.inl h)
          · exact .inl (.inr (.inl h))
          · exact .inl (.inr (.inr h))
          · exact .inr ⟨h.1, by have := h.2; omega⟩))
        have HRG7 : Keep (RgS w7 9 mb r (entries f L) (fun q => todo q && q != p) cnt') := ⟨HRG6.out.loc (hc7.block _ HRG6.out.lt.1 (by have := HRE.out; have := HM2.out; omega)) (hc7.block _ HRG6.out.lt.2.1 (by have := HRE.out; omega))⟩
        clear hfin hm7 hc7 hch
        simp only [Act.put]
        go_wp2_with fail
        go_roundg cnt'
        case measure => omega
        case rel =>
          refine ⟨_, (fun b => Bk2 b ∨ Fresh w5.heap.size w6 b), (fun q => if q = p then (av', dv') else f2 q), HRG7.out, H7.out.take 1, fun b hb => ?_⟩
          rcases hb with hb | hb
          · exact HBR.out b hb
          · have := hb.1; omega
end Go.Proofs.YtplafpokgpolkaaGreatDoor
/- change.Plain, keeps, Apply. -/
namespace Go.Proofs.YtplafpokgpolkaaGreatDoor
open Go.RowKit
def isPl (x : Mv) : Bool := decide (cls x.1 = 1)
theorem plain_map (l : List Mv) : (l.filter isPl).map (·.1) = plainC (l.map (·.1)) := by
  unfold plainC isPl
  rw [List.filter_map]; rfl
set_option maxHeartbeats 4000000 in
set_option maxRecDepth 100000 in
theorem plain_any (v : Value) (l : List Mv) (B : Nat) (w : World) (hT : Tabs B w) (K : Nat → Prop) (hK : ∀ b, K b → b < w.heap.size) (hr : Mbs w (· < w.heap.size) K v l) (hs : ∀ x ∈ l, Sm x.1) (hl : l.length ≤ 1000000) :
    Calls Tryz.prog 27 #[v] w fun e w' => ∃ v', e = .returned v' ∧ RowM w.heap.size K w' v' (l.filter isPl) ∧ Below w.heap.size w w' := by
  obtain ⟨a, cap, hv, hcap, hmx, h3⟩ := hr.rd.shape
  have HR := Keep.keep hr; have H3 := Keep.keep h3; have HT := Keep.keep hT; have HS := Keep.keep hs; have HKK := Keep.keep hK
  unfold maxLen at hmx
  clear hr h3 hT hs hK
  subst hv
  go_enter Tryz.func27, Tryz.ntmps27
  go_wp2_with fail
  go_loopg [3, 10] l.length (fun g u3 u10 wx => ∃ (k : Nat), k + g = l.length ∧ u10 = .int .i64 (k : Int) ∧ RowM w.heap.size K wx u3 ((l.take k).filter isPl) ∧ Below w.heap.size w wx)
  case atStart => exact ⟨0, by omega, rfl, RowM.nil _ _ _, Below.refl _ _⟩
  case round =>
    obtain ⟨k, hkg, rfl, hrow, hb⟩ := hrel
    have HRW := Keep.keep hrow; have HB := Keep.keep hb
    obtain ⟨a3, c3, hv3, -⟩ := (ownsV_reads hrow.own).shape
    clear hrow hb
    subst hv3
    cases gk with
    | zero =>
      obtain rfl : k = l.length := by omega
      have HTK : Keep (l.take l.length = l) := ⟨List.take_length⟩
      rw [HTK.out] at HRW ⊢
      go_wp2_with fail
      go_ret
      exact ⟨_, rfl, HRW.out, HB.out⟩
    | succ g =>
      have hk : k < l.length := by omega
      obtain ⟨b, off, rfl, hbl⟩ : ∃ b off, a = some ⟨b, off, none⟩ ∧ b < w.heap.size := by
        rcases H3.out with h | ⟨b, off, h, hb⟩
        · omega
        · exact ⟨b, off, h, hb⟩
      have hrx := HR.out.below HB.out (fun b hb => hb) HKK.out
      have hld := hrx.load hk
      have HTK : Keep ((l.take (k + 1)).filter isPl = (l.take k).filter isPl ++ (if isPl l[k] = true then [l[k]] else [])) := ⟨by
        rw [List.take_succ_eq_append_getElem hk, List.filter_append]
        cases h : isPl l[k] <;> simp [h]⟩
      have hsx := HS.out l[k] (List.getElem_mem hk)
      have HND := Keep.keep (HR.out.nd l[k] (List.getElem_mem hk))
      have hlen : ((l.take k).filter isPl).length ≤ k := Nat.le_trans (List.length_filter_le _ _) (by rw [List.length_take]; omega)
      clear hrx
      generalize l[k] = x at *
      generalize (l.take k).filter isPl = acc at *
      obtain ⟨⟨xp, ⟨kind, mode, uid, gid, time, attrs, data, link⟩⟩, av, dv⟩ := x
      obtain ⟨aa, la, ca, ad, ld, cd, e1, e2⟩ := HND.out.shape
      dsimp only at e1 e2 hsx HTK
      have hxp := hsx.p
      dsimp only at hxp
      subst e1 e2
      have HMC : Keep (mcell ((xp, ⟨kind, mode, uid, gid, time, attrs, data, link⟩), .slice aa la ca, .slice ad ld cd) = #[.string ⟨xp.toArray⟩, .int .i64 kind, .int .u32 mode, .int .u32 uid, .int .u32 gid, .int .i64 time, .slice aa la ca, .slice ad ld cd, .string ⟨link.toArray⟩]) := ⟨rfl⟩
      rw [HMC.out] at hld
      have HCL := Keep.keep (fun wx (hb : Below w.heap.size w wx) => class_any xp (by omega) B wx (Nat.le_trans HT.out.b hb.size) (HT.out.m.on (hb.mono HT.out.b)) (HT.out.c.on (hb.mono HT.out.b)))
      have HPL : Keep (isPl ((xp, ⟨kind, mode, uid, gid, time, attrs, data, link⟩), .slice aa la ca, .slice ad ld cd) = ((classP xp).1 == 1)) := ⟨rfl⟩
      obtain ⟨⟨cl, tg⟩, hcp⟩ : ∃ c, classP xp = c := ⟨_, rfl⟩
      rw [hcp] at HCL HPL
      dsimp only at HCL HPL
      clear hsx hcp
      go_wp2_with ((with_reducible refine arm_loadM hld ?_ ?_); (focus rfl); simp only [Act.put, List.setIfInBounds_toArray, List.set_cons_succ, List.set_cons_zero])
      refine calls_at (R := fun wq => Hp NoM wr wq [rowA wr.heap.size 32 #[.string ⟨xp.toArray⟩, .int .i64 kind, .int .u32 mode, .int .u32 uid, .int .u32 gid, .int .i64 time, .slice aa la ca, .slice ad ld cd, .string ⟨link.toArray⟩]]) ((Hp.begin NoM wr).newRow _ _) ?_
      intro w2 H2
      have hbw2 := HB.out.trans (H2.out.below.mono HB.out.size)
      refine (HCL.out w2 hbw2).mono ?_
      rintro e w3 ⟨rfl, hb3⟩
      have H3' := Keep.keep (H2.out.call hb3)
      have HB3 := Keep.keep (HB.out.trans (H3'.out.below.mono HB.out.size))
      have HRW3 := Keep.keep (HRW.out.below H3'.out.below)
      obtain ⟨b5, hb5⟩ : ∃ b5, wr.heap.size = b5 := ⟨_, rfl⟩
      have HB5 := Keep.keep hb5
      rw [hb5] at H3' ⊢
      have HMR := Keep.keep (H3'.out.row 0 rfl)
      have HSZ : Keep ((#[.string ⟨xp.toArray⟩, .int .i64 kind, .int .u32 mode, .int .u32 uid, .int .u32 gid, .int .i64 time, .slice aa la ca, .slice ad ld cd, .string ⟨link.toArray⟩] : Array Value).size = 9) := ⟨rfl⟩
      have hsw3 := HB3.out.size
      clear hb3 H2 HCL hbw2 hld HRW
      cases hz : (cl == 1) with
      | false =>
        rw [hz] at HPL
        rw [HPL.out, if_neg (by decide), List.append_nil] at HTK
        go_wp2_with fail
        go_roundg g
        case measure => omega
        case rel => exact ⟨k + 1, by omega, by simp, by rw [HTK.out]; exact HRW3.out, HB3.out⟩
      | true =>
        rw [hz] at HPL
        rw [HPL.out, if_pos rfl] at HTK
        go_wp2_with (first | ((with_reducible refine arm_loadRow HMR.out aggM HSZ.out ?_ ?_); (focus rfl); simp only [Act.put, List.setIfInBounds_toArray, List.set_cons_succ, List.set_cons_zero]) | (with_reducible refine arm_stop ?_))
        refine Stopped.out ?_
        have hal : Below w3.heap.size w3 (w3.alloc (.cells #[.string ⟨xp.toArray⟩, .int .i64 kind, .int .u32 mode, .int .u32 uid, .int .u32 gid, .int .i64 time, .slice aa la ca, .slice ad ld cd, .string ⟨link.toArray⟩] 32)) := (Below.refl _ _).alloc (Nat.le_refl _) _
        have HAL := Keep.keep hal
        have hrA := HRW3.out.below hal
        have hm : Mbs (w3.alloc (.cells #[.string ⟨xp.toArray⟩, .int .i64 kind, .int .u32 mode, .int .u32 uid, .int .u32 gid, .int .i64 time, .slice aa la ca, .slice ad ld cd, .string ⟨link.toArray⟩] 32)) (fun _ => True) K (.slice (some ⟨w3.heap.size, 0, none⟩) 1 1) [((xp, ⟨kind, mode, uid, gid, time, attrs, data, link⟩), .slice aa la ca, .slice ad ld cd)] :=
          ⟨RdV.new (N := fun _ => True) 32 [.string ⟨xp.toArray⟩, .int .i64 kind, .int .u32 mode, .int .u32 uid, .int .u32 gid, .int .i64 time, .slice aa la ca, .slice ad ld cd, .string ⟨link.toArray⟩] 9 1 _ rfl rfl (by unfold maxLen; omega) trivial, fun y hy => by
            obtain rfl : y = ((xp, ⟨kind, mode, uid, gid, time, attrs, data, link⟩), .slice aa la ca, .slice ad ld cd) := by simpa using hy
            exact ((HND.out.below HB3.out HKK.out).below (hal.mono HB3.out.size) HKK.out)⟩
        refine arm_appM (B := w.heap.size) hrA (Nat.le_trans hsw3 hal.size) hm (fun b hb => ⟨.inl hb, by have := HKK.out b hb; have := hal.size; omega, fun e => by have := (hrA.lt e).1; have := HKK.out b hb; omega⟩) (by simp; omega) rfl rfl ?_
        intro v4 w4 hr4 hg4 hov4 hsh4
        obtain ⟨a4, c4, rfl⟩ := hsh4
        have HR4 := Keep.keep hr4
        have HB4 : Keep (Below w.heap.size w w4) := ⟨(HB3.out.trans (hal.mono HB3.out.size)).trans (hrA.chg (Nat.le_trans hsw3 hal.size) hg4)⟩
        clear hr4 hg4 hov4 hm hrA hal HRW3 HAL
        simp only [Act.put, List.setIfInBounds_toArray, List.set_cons_succ, List.set_cons_zero]
        go_wp2_with fail
        go_roundg g
        case measure => omega
        case rel => exact ⟨k + 1, by omega, by simp, by rw [HTK.out]; exact HR4.out, HB4.out⟩
theorem ent_keeps1 : ∀ args w, (callFunc 102 args).run Tryz.prog w = .ok (.enter 102 args) w := enters_of Tryz.func102 (by kernel_rfl) rfl
theorem ent_stays : ∀ args w, (callFunc 64 args).run Tryz.prog w = .ok (.enter 64 args) w := enters_of Tryz.func64 (by kernel_rfl) rfl
set_option maxHeartbeats 1000000 in
set_option maxRecDepth 100000 in
theorem keeps1_any (x : Mv) (hs : Sm x.1) (hsh : NdS x) (b1 b2 b3 bf : Nat) (S : List Mb) (w : World) (h : EffIn w b1 b2 b3 S) (hc : w.cell? ⟨bf, 0, none⟩ = some (.func (.func 64) #[.agg #[.map (some b1), .map (some b2), .map (some b3)]] #[])) :
    Calls Tryz.prog 102 #[.agg (mcell x), .pointer (some ⟨bf, 0, none⟩)] w fun e w' => e = .returned (.bool (!staysC S x.1.1)) ∧ Below w.heap.size w w' := by
  obtain ⟨⟨xp, ⟨kind, mode, uid, gid, time, attrs, data, link⟩⟩, av, dv⟩ := x
  obtain ⟨aa, la, ca, ad, ld, cd, e1, e2⟩ := hsh
  dsimp only at e1 e2
  have hxp := hs.p
  dsimp only at hxp ⊢
  subst e1 e2
  have HMC : Keep (mcell ((xp, ⟨kind, mode, uid, gid, time, attrs, data, link⟩), .slice aa la ca, .slice ad ld cd) = #[.string ⟨xp.toArray⟩, .int .i64 kind, .int .u32 mode, .int .u32 uid, .int .u32 gid, .int .i64 time, .slice aa la ca, .slice ad ld cd, .string ⟨link.toArray⟩]) := ⟨rfl⟩
  rw [HMC.out]
  have hlt : bf < w.heap.size := World.block_lt_of_cell? w _ hc
  have HS : Keep (∀ wx, Below w.heap.size w wx → Calls Tryz.prog 64 #[.agg #[.map (some b1), .map (some b2), .map (some b3)], .string ⟨xp.toArray⟩] wx fun e w' => e = .returned (.bool (staysC S xp)) ∧ Below wx.heap.size wx w') := ⟨fun wx hb => stays_any b1 b2 b3 S xp (by omega) wx (h.below hb)⟩
  generalize staysC S xp = st at *
  have hent := ent_stays
  have HC : Keep (∀ wx, Below w.heap.size w wx → wx.cell? ⟨bf, 0, none⟩ = some (.func (.func 64) #[.agg #[.map (some b1), .map (some b2), .map (some b3)]] #[])) := ⟨fun wx hb => by rw [hb.cell (p := ⟨bf, 0, none⟩) hlt]; exact hc⟩
  clear h hc hs
  go_enter Tryz.func102, Tryz.ntmps102
  go_upto_region 1 with fail
  refine wp_world (R := fun w1 => Hp NoM w w1 [rowA w.heap.size 32 #[.string ⟨xp.toArray⟩, .int .i64 kind, .int .u32 mode, .int .u32 uid, .int .u32 gid, .int .i64 time, .slice aa la ca, .slice ad ld cd, .string ⟨link.toArray⟩]]) ((Hp.begin NoM w).newRow _ _) ?_
  intro w1 H1
  have hc := HC.out w1 H1.out.below
  have c0 := (H1.out.row 0 rfl).cell (i := 0) rfl
  go_wp2_with fail
  refine (HS.out w1 H1.out.below).mono ?_
  rintro e w2 ⟨rfl, hb2⟩
  have H2 := Keep.keep (H1.out.call hb2).below
  clear hb2
  go_wp2_with fail
  go_ret
  exact ⟨rfl, H2.out⟩
set_option maxHeartbeats 1000000 in
set_option maxRecDepth 100000 in
theorem keeps_any (v : Value) (l : List Mv) (base : Nat) (K : Nat → Prop) (b1 b2 b3 : Nat) (S : List Mb) (w : World) (hB : base ≤ w.heap.size) (hl : l.length ≤ 1000000) (hs : ∀ x ∈ l, Sm x.1) (h : RowM base K w v l) (hE : EffIn w b1 b2 b3 S) (hne : ∀ b, v.ownBlock = some b → b ≠ b1 ∧ b ≠ b2 ∧ b ≠ b3) :
    Calls Tryz.prog 62 #[v, .func (.func 64) #[.agg #[.map (some b1), .map (some b2), .map (some b3)]] #[]] w fun e w' => ∃ v', e = .returned v' ∧ RowM base K w' v' (l.filter fun x => staysC S x.1.1) ∧ v'.ownBlock = v.ownBlock ∧ Chg (fun b => v.ownBlock = some b) w.heap.size w w' := by
  have HH := Keep.keep h; have HE := Keep.keep hE
  have HLT := Keep.keep (fun b e => (h.lt (b := b) e).2)
  have HNS := Keep.keep (fun x hx => (h.nd x hx).shape)
  have hf2 : (fun x : Mv => !!staysC S x.1.1) = fun x => staysC S x.1.1 := by funext x; simp
  have HD : Keep (∀ w1 bf, Below w.heap.size w w1 → bf = w.heap.size → w1.cell? ⟨bf, 0, none⟩ = some (.func (.func 64) #[.agg #[.map (some b1), .map (some b2), .map (some b3)]] #[]) →
      Calls Tryz.prog 101 #[v, .func (.func 102) #[] #[.pointer (some ⟨bf, 0, none⟩)]] w1 fun e w' => ∃ v', e = .returned v' ∧ RowM base K w' v' (l.filter fun x => staysC S x.1.1) ∧ v'.ownBlock = v.ownBlock ∧ Chg (fun b => v.ownBlock = some b) w1.heap.size w1 w') := ⟨fun w1 bf hb hbf hc => by
    have := dfuncM 102 #[.pointer (some ⟨bf, 0, none⟩)] (fun m => !staysC S m.1) v l base K w1 ent_keeps1 (Nat.le_trans hB hb.size) (by omega) (fun wx hch x hx => by
      have hEx : EffIn wx b1 b2 b3 S := (hE.below hb).loc (fun b hb' => hch.block b (by
        have := (hE.below hb).lt
        rcases hb' with rfl | rfl | rfl <;> omega) (fun e => by
        have := hne b e
        rcases hb' with rfl | rfl | rfl <;> simp at this))
      have hcx : wx.cell? ⟨bf, 0, none⟩ = some (.func (.func 64) #[.agg #[.map (some b1), .map (some b2), .map (some b3)]] #[]) := by
        rw [hch.cell (p := ⟨bf, 0, none⟩) (World.block_lt_of_cell? w1 _ hc) (fun e => by have := HLT.out bf e; omega)]; exact hc
      have := keeps1_any x (hs x hx) (HNS.out x hx) b1 b2 b3 bf S wx hEx hcx
      simpa using this) (h.below hb)
    rw [hf2] at this
    exact this⟩
  obtain ⟨a, cap, hv, -⟩ := (ownsV_reads h.own).shape
  clear h hE hs hf2
  subst hv
  go_enter Tryz.func62, Tryz.ntmps62
  go_wp2_with fail
  refine calls_at (R := fun w1 => Below w.heap.size w w1 ∧ w1.cell? ⟨w.heap.size, 0, none⟩ = some (.func (.func 64) #[.agg #[.map (some b1), .map (some b2), .map (some b3)]] #[])) ⟨(Below.refl _ _).alloc (Nat.le_refl _) _, (Row.new w _ _).cell (i := 0) rfl⟩ ?_
  intro w1 H1
  refine (HD.out w1 _ H1.out.1 rfl H1.out.2).mono ?_
  rintro e w2 ⟨v2, rfl, hr2, ho2, hc2⟩
  have HR2 := Keep.keep hr2; have HO2 := Keep.keep ho2
  have HC2 : Keep (Chg (fun b => (Value.slice a l.length cap).ownBlock = some b) w.heap.size w w2) := ⟨(Chg.of_below H1.out.1).trans (hc2.lower H1.out.1.size)⟩
  obtain ⟨a2, c2, hv2, -⟩ := (ownsV_reads hr2.own).shape
  clear hr2 ho2 hc2
  subst hv2
  go_wp2_with fail
  go_ret
  exact ⟨_, rfl, HR2.out, HO2.out, HC2.out⟩
set_option maxHeartbeats 4000000 in
set_option maxRecDepth 100000 in
theorem apply_any (T mb : Nat) (Bk : Nat → Prop) (f : Tx → Value × Value) (A : List Mb) (v : Value) (l : List Mv) (B : Nat) (w : World) (hT : Tabs B w) (hTr : TreeIn w T mb Bk f A) (hBk : ∀ b, Bk b → b < w.heap.size) (hA : A.length ≤ 100000) (hr : Mbs w (· < w.heap.size) (· < w.heap.size) v l) (hs : ∀ x ∈ l, Sm x.1) (hl : l.length ≤ 100000) :
    Calls Tryz.prog 12 #[.pointer (some ⟨T, 0, none⟩), v] w fun e w' => (∃ pv, e = .returned (.tuple #[pv, .int .i64 (applyC A (l.map (·.1))).1]) ∧ NewIs w w' pv (applyC A (l.map (·.1))).2) ∧ Below w.heap.size w w' := by
  obtain ⟨a, cap, hv, hcap, hmx, h3⟩ := hr.rd.shape
  have HR := Keep.keep hr; have HT := Keep.keep hT; have HS := Keep.keep hs; have HBK := Keep.keep hBk; have HTR := Keep.keep hTr
  have HON : Keep (∀ wx, Below w.heap.size w wx → TreeIn wx T mb Bk f A) := ⟨fun wx hb => hTr.loc (fun b hb' => hb.block b (by
    rcases hb' with rfl | rfl | h
    · exact hTr.row.lt
    · exact hTr.map.lt
    · exact hBk b h))⟩
  have HMB : Keep (∀ wx, Below w.heap.size w wx → Mbs wx (· < wx.heap.size) (· < wx.heap.size) v l) := ⟨fun wx hb => (hr.below hb (fun b hb => hb) (fun b hb => hb)).mono (fun b hb' => Nat.lt_of_lt_of_le hb' hb.size) (fun b hb' => Nat.lt_of_lt_of_le hb' hb.size)⟩
  have HCP := Keep.keep (copy_tree T mb Bk f A w hTr hBk hA)
  have HAP : Keep (applyC A (l.map (·.1)) = if mayC (l.map (·.1)) ≠ 0 then (mayC (l.map (·.1)), none) else newT (A.filter (fun m => staysC (l.map (·.1)) m.1) ++ plainC (l.map (·.1)))) := ⟨rfl⟩
  have HSA := Keep.keep hTr.sm
  have hTlt := hTr.row.lt
  clear hr h3 hT hs hBk hTr
  unfold maxLen at hmx
  subst hv
  generalize hout : applyC A (l.map (·.1)) = out at *
  go_enter Tryz.func12, Tryz.ntmps12
  go_wp2_with fail
  refine HCP.out.mono ?_
  rintro e w1 ⟨T2, m2, Bk2, f2, rfl, -, -, hb1⟩
  have HB1 := Keep.keep hb1
  have HMY := Keep.keep (chmay_any _ l B w1 (HT.out.on (hb1.mono HT.out.b)) (HMB.out w1 hb1) HS.out (by omega))
  generalize mayC (l.map (·.1)) = me at *
  clear hb1 HCP
  go_wp2_with fail
  refine HMY.out.mono ?_
  rintro e w2 ⟨rfl, hb2⟩
  have HB2 := Keep.keep (HB1.out.trans (hb2.mono HB1.out.size))
  clear hb2 HMY
  cases hz : (me != 0) with
  | true =>
    have hz2 : me ≠ 0 := by simpa using hz
    have HX : Keep (out = (me, none)) := ⟨by rw [HAP.out, if_pos hz2]⟩
    go_wp2_with fail
    go_ret2
    exact ⟨⟨.pointer none, by rw [HX.out]; rfl, by rw [HX.out]; rfl⟩, HB2.out⟩
  | false =>
    have hz2 : me = 0 := by simpa using hz
    have HX : Keep (out = newT (A.filter (fun m => staysC (l.map (·.1)) m.1) ++ plainC (l.map (·.1)))) := ⟨by rw [HAP.out, if_neg (by simpa using hz2)]⟩
    have hsz2 := HB2.out.size
    have HAL := Keep.keep (all_own T mb Bk f A w2 hA (HON.out w2 HB2.out) ⟨by omega, by have := (HTR.out.map.lt); omega, fun b hb => by have := HBK.out b hb; omega⟩)
    clear hz
    go_wp2_with fail
    refine HAL.out.mono ?_
    rintro e w3 ⟨v6, l6, rfl, hl6, hm6, hb3⟩
    have HR6 : Keep (RowM w.heap.size (· < w.heap.size) w3 v6 l6) := ⟨(RowM.ofOwn hm6 (· < w.heap.size)).lower hsz2 (fun b hb => hb)⟩
    have HL6 := Keep.keep hl6
    have hn6 : l6.length = A.length := by rw [← hl6, List.length_map]
    have HB3 := Keep.keep (HB2.out.trans (hb3.mono HB2.out.size))
    have hsz3 := HB3.out.size
    obtain ⟨a6, c6, hv6, -⟩ := (ownsV_reads hm6.own).shape
    have HOF := Keep.keep (of_any _ l B w3 (HT.out.on (HB3.out.mono HT.out.b)) (HMB.out w3 HB3.out) HS.out (by omega))
    have HN6 := Keep.keep hn6
    rw [hn6] at hv6
    clear hl6 hm6 hb3 HAL hn6
    subst hv6
    go_wp2_with fail
    refine HOF.out.mono ?_
    rintro e w4 ⟨b1, b2, b3, rfl, hE, hge, hb4⟩
    have HB4 := Keep.keep (HB3.out.trans (hb4.mono HB3.out.size))
    have hsz4 := HB4.out.size
    have HKP := Keep.keep (keeps_any _ l6 w.heap.size (· < w.heap.size) b1 b2 b3 (l.map (·.1)) w4 hsz4 (by rw [HN6.out]; omega) (fun x hx => HSA.out x.1 (by rw [← HL6.out]; exact List.mem_map.2 ⟨x, hx, rfl⟩)) (HR6.out.below hb4) hE (fun b hb => by have := (HR6.out.lt hb).2; omega))
    clear hE hb4 HOF
    go_wp2_with fail
    refine HKP.out.mono ?_
    rintro e w5 ⟨v7, rfl, hr7, ho7, hc5⟩
    have HR7 := Keep.keep hr7
    have HB5 : Keep (Below w.heap.size w w5) := ⟨HB4.out.trans ((hc5.lower hsz4).below (fun k hk e => by have := (HR6.out.lt e).1; omega))⟩
    have hsz5 := HB5.out.size
    obtain ⟨a7, c7, hv7, -⟩ := (ownsV_reads hr7.own).shape
    have HPL := Keep.keep (plain_any _ l B w5 (HT.out.on (HB5.out.mono HT.out.b)) (fun b => b < w.heap.size) (fun b hb => by omega) ((HR.out.below HB5.out (fun b hb => hb) (fun b hb => hb)).mono (fun b hb => Nat.lt_of_lt_of_le hb hsz5) (fun b hb => hb)) HS.out (by omega))
    clear hr7 ho7 hc5 HKP
    obtain ⟨n7, hn7⟩ : ∃ n, (l6.filter fun x => staysC (l.map (·.1)) x.1.1).length = n := ⟨_, rfl⟩
    have HN7 := Keep.keep hn7
    have hn7l : n7 ≤ A.length := by rw [← hn7, ← HN6.out]; exact List.length_filter_le _ _
    rw [hn7] at hv7
    clear hn7
    subst hv7
    go_wp2_with fail
    refine HPL.out.mono ?_
    rintro e w6 ⟨v8, rfl, hr8, hb6⟩
    have HR8 := Keep.keep hr8
    have HR7' := Keep.keep (HR7.out.below hb6)
    have HB6 := Keep.keep (HB5.out.trans (hb6.mono HB5.out.size))
    have hsz6 := HB6.out.size
    have hsz56 := hb6.size
    obtain ⟨a8, c8, hv8, -⟩ := (ownsV_reads hr8.own).shape
    obtain ⟨n8, hn8⟩ : ∃ n, (l.filter isPl).length = n := ⟨_, rfl⟩
    have HN8 := Keep.keep hn8
    have hn8l : n8 ≤ l.length := by rw [← hn8]; exact List.length_filter_le _ _
    rw [hn8] at hv8
    clear hr8 hb6 hn8 HPL
    subst hv8
    go_wp2_with (with_reducible refine arm_stop ?_)
    refine Stopped.out ?_
    refine arm_appM (B := w.heap.size) HR7'.out hsz6 HR8.out.mbs (fun b hb => ⟨?_, hb.2.1, fun e => ?_⟩) (by rw [HN7.out, HN8.out]; omega) rfl rfl ?_
    · rcases hb.1 with h | h
      · exact .inl h
      · exact .inr (by omega)
    · have h1 := (HR7.out.lt e)
      rcases hb.1 with h | h
      · omega
      · omega
    intro v9 w7 hr9 hg9 hov9 hsh9
    have HB7 : Keep (Below w.heap.size w w7) := ⟨HB6.out.trans (HR7'.out.chg hsz6 hg9)⟩
    have HNW := Keep.keep (new_tree v9 _ B w7 (HT.out.on (HB7.out.mono HT.out.b)) (hr9.mbs.mono (fun b hb => hb.2) (fun b hb => hb.2.1)) (fun x hx => by
      rcases List.mem_append.1 hx with hx | hx
      · exact HSA.out x.1 (by rw [← HL6.out]; exact List.mem_map.2 ⟨x, (List.mem_filter.1 hx).1, rfl⟩)
      · exact HS.out x (List.mem_filter.1 hx).1) (by rw [List.length_append, HN7.out, HN8.out]; omega))
    have hmap : ((l6.filter fun x => staysC (l.map (·.1)) x.1.1) ++ l.filter isPl).map (·.1) = A.filter (fun m => staysC (l.map (·.1)) m.1) ++ plainC (l.map (·.1)) := by
      rw [List.map_append, plain_map, ← HL6.out, List.filter_map]; rfl
    rw [hmap, ← HX.out] at HNW
    obtain ⟨a9, c9, hv9⟩ := hsh9
    rw [HN7.out, HN8.out] at hv9
    clear hr9 hg9 hov9 hmap HR7 HR8 HR7'
    subst hv9
    simp only [Act.put, List.setIfInBounds_toArray, List.set_cons_succ, List.set_cons_zero]
    go_wp2_with fail
    refine HNW.out.mono ?_
    rintro e w8 ⟨⟨pv, rfl, hnew⟩, hb8⟩
    have HB8 := Keep.keep (HB7.out.trans (hb8.mono HB7.out.size))
    have HNI : Keep (NewIs w w8 pv out.2) := ⟨by
      have := HB7.out.size
      cases ho : out.2 with
      | none => rw [ho] at hnew; exact hnew
      | some t =>
        rw [ho] at hnew
        obtain ⟨T3, m3, Bk3, f3, e1, h1, h2, h3, h4⟩ := hnew
        exact ⟨T3, m3, Bk3, f3, e1, h1, by omega, by omega, fun b hb => (h4 b hb).mono this (Nat.le_refl _)⟩⟩
    have hpv : ∃ q, pv = .pointer q := by
      cases ho : out.2 with
      | none => rw [ho] at hnew; exact ⟨_, hnew⟩
      | some t =>
        rw [ho] at hnew
        obtain ⟨T3, m3, Bk3, f3, e1, -⟩ := hnew
        exact ⟨_, e1⟩
    obtain ⟨q, hq⟩ := hpv
    clear hnew hb8 HNW
    subst hq
    go_wp2_with fail
    go_ret2
    exact ⟨⟨_, rfl, HNI.out⟩, HB8.out⟩
end Go.Proofs.YtplafpokgpolkaaGreatDoor
/- portolanref11: begins, Name, MayName, Split, May, Join. -/
namespace Go.Proofs.YtplafpokgpolkaaGreatDoor
open Go.RowKit
theorem prefix_take (s t : List UInt8) (_h : t.length ≤ s.length) : (s.take t.length == t) = t.isPrefixOf s := by
  rw [Bool.eq_iff_iff, beq_iff_eq, List.isPrefixOf_iff_prefix]
  constructor
  · intro e; rw [← e]; exact List.take_prefix _ _
  · intro hp; exact (List.prefix_iff_eq_take.1 hp).symm
theorem begins_any (s t : List UInt8) (w : World) : Calls Tryz.prog 110 #[.string ⟨s.toArray⟩, .string ⟨t.toArray⟩] w fun e w' => e = .returned (.bool (t.isPrefixOf s)) ∧ w = w' := by
  by_cases h : t.length ≤ s.length
  · have hd : decide ((t.length : Int) ≤ (s.length : Int)) = true := decide_eq_true (by omega)
    have hd2 : decide (t.length ≤ s.length) = true := decide_eq_true h
    have hst := run_slice_to (P := Tryz.prog) Tryz.underlying9 s .i64 t.length h
    have he := prefix_take s t h
    generalize s.take t.length = q at *
    generalize t.isPrefixOf s = b at *
    go_enter Tryz.func110, Tryz.ntmps110
    go_wp2_with fail
    go_ret
    exact ⟨rfl, rfl⟩
  · have hd : decide ((t.length : Int) ≤ (s.length : Int)) = false := decide_eq_false (by omega)
    have hd2 : decide (t.length ≤ s.length) = false := decide_eq_false h
    have he : t.isPrefixOf s = false := by
      cases hx : t.isPrefixOf s with
      | false => rfl
      | true => exact absurd (List.isPrefixOf_iff_prefix.1 hx).length_le h
    rw [he]
    clear he h
    go_enter Tryz.func110, Tryz.ntmps110
    go_wp2_with fail
    go_ret
    exact ⟨rfl, rfl⟩
def nameB (s : List UInt8) : Bool := !(s.any fun c => c == 47 || c == 0) && (decide (1 ≤ s.length) && decide (s.length ≤ 255) && s != [46] && s != [46, 46])
set_option maxHeartbeats 2000000 in
set_option maxRecDepth 100000 in
theorem rname_any (s : List UInt8) (hs : s.length ≤ 1000000) (w : World) : Calls Tryz.prog 138 #[.string ⟨s.toArray⟩] w fun e w' => e = .returned (.bool (nameB s)) ∧ w = w' := by
  go_enter Tryz.func138, Tryz.ntmps138
  go_wp2_with fail
  go_loopg [3] s.length (fun g u3 wx => ∃ k : Nat, k + g = s.length ∧ u3 = .int .i64 (k : Int) ∧ (∀ j, (hj : j < k) → (hl : j < s.length) → s[j] ≠ 47 ∧ s[j] ≠ 0) ∧ w = wx)
  case atStart => exact ⟨0, by omega, rfl, fun j hj => by omega, rfl⟩
  case round =>
    obtain ⟨k, hkg, rfl, hno, rfl⟩ := hrel
    have HNO := Keep.keep hno
    clear hno
    cases gk with
    | zero =>
      obtain rfl : k = s.length := by omega
      have HE : Keep (nameB s = (decide (1 ≤ s.length) && decide (s.length ≤ 255) && s != [46] && s != [46, 46])) := ⟨by
        have : (s.any fun c => c == 47 || c == 0) = false := by
          rw [List.any_eq_false]
          intro c hc
          obtain ⟨j, hj, rfl⟩ := List.mem_iff_getElem.1 hc
          obtain ⟨h1, h2⟩ := HNO.out j hj hj
          simp [h1, h2]
        unfold nameB; rw [this]; rfl⟩
      simp only [bne] at HE
      obtain ⟨b1, h1⟩ : ∃ b, decide (1 ≤ s.length) = b := ⟨_, rfl⟩
      obtain ⟨b2, h2⟩ : ∃ b, decide (s.length ≤ 255) = b := ⟨_, rfl⟩
      obtain ⟨b3, h3⟩ : ∃ b, (s == [46]) = b := ⟨_, rfl⟩
      obtain ⟨b4, h4⟩ : ∃ b, (s == [46, 46]) = b := ⟨_, rfl⟩
      simp only [h1, h2, h3, h4] at HE
      have h1i : decide ((1 : Int) ≤ (s.length : Int)) = b1 := by rw [← h1]; simp only [decide_eq_decide]; omega
      have h2i : decide ((s.length : Int) ≤ 255) = b2 := by rw [← h2]; simp only [decide_eq_decide]; omega
      clear HNO
      cases b1 with
      | false =>
        go_wp2_with fail
        go_ret
        exact ⟨by rw [HE.out]; rfl, rfl⟩
      | true =>
      cases b2 with
      | false =>
        go_wp2_with fail
        go_ret
        exact ⟨by rw [HE.out]; rfl, rfl⟩
      | true =>
      cases b3 with
      | true =>
        go_wp2_with fail
        go_ret
        exact ⟨by rw [HE.out]; rfl, rfl⟩
      | false =>
        cases b4 with
        | true =>
          go_wp2_with fail
          go_ret
          exact ⟨by rw [HE.out]; rfl, rfl⟩
        | false =>
          go_wp2_with fail
          go_ret
          exact ⟨by rw [HE.out]; rfl, rfl⟩
    | succ g =>
      have hk : k < s.length := by omega
      have hidx := run_index_str (P := Tryz.prog) Tryz.underlying9 ⟨s.toArray⟩ .i64 k s[k] (by simp [hk])
      have hgi : (⟨s.toArray⟩ : ByteArray)[k]'(hk) = s[k] := rfl
      have HSTEP : Keep (s[k] ≠ 47 ∧ s[k] ≠ 0 → ∀ j, (hj : j < k + 1) → (hl : j < s.length) → s[j] ≠ 47 ∧ s[j] ≠ 0) := ⟨fun he j hj hl => by
        rcases Nat.lt_succ_iff_lt_or_eq.1 hj with h | rfl
        · exact HNO.out j h hl
        · exact he⟩
      have HBAD : Keep (s[k] = 47 ∨ s[k] = 0 → nameB s = false) := ⟨fun h => by
        have : (s.any fun c => c == 47 || c == 0) = true := List.any_eq_true.2 ⟨_, List.getElem_mem hk, by rcases h with h | h <;> simp [h]⟩
        unfold nameB; rw [this]; rfl⟩
      by_cases h0 : s[k] = 0
      · have HX := Keep.keep (HBAD.out (.inr h0))
        rw [h0] at hidx hgi
        clear HSTEP HBAD h0 HNO
        go_wp2_with fail
        go_ret
        exact ⟨by rw [HX.out]; rfl, rfl⟩
      · by_cases h47 : s[k] = 47
        · have HX := Keep.keep (HBAD.out (.inl h47))
          rw [h47] at hidx hgi
          clear HSTEP HBAD h0 h47 HNO
          go_wp2_with fail
          go_ret
          exact ⟨by rw [HX.out]; rfl, rfl⟩
        · have HST := Keep.keep (HSTEP.out ⟨h47, h0⟩)
          have hn0 : ((s[k].toNat : Int) == 0) = false := by
            rw [beq_eq_false_iff_ne]; intro e; exact h0 (UInt8.toNat_inj.1 (by show s[k].toNat = 0; omega))
          have hn47 : ((s[k].toNat : Int) == 47) = false := by
            rw [beq_eq_false_iff_ne]; intro e; exact h47 (UInt8.toNat_inj.1 (by show s[k].toNat = 47; omega))
          clear HSTEP HBAD h0 h47 HNO
          generalize s[k] = c at *
          go_wp2_with fail
          go_roundg g
          case measure => omega
          case rel => exact ⟨k + 1, by omega, by simp, HST.out, rfl⟩
theorem mayN_name (s : List UInt8) : mayN s = (nameB s && decide (s.length ≤ 251) && !whiteB.isPrefixOf s) := by
  unfold mayN nameB
  have h1 : decide (1 ≤ s.length) = !s.isEmpty := by cases s <;> simp
  rw [h1, show ([46, 119, 104, 46] : List UInt8) = whiteB from rfl]
  by_cases h2 : s.length ≤ 251
  · rw [decide_eq_true h2, decide_eq_true (show s.length ≤ 255 by omega)]
    cases s.isEmpty <;> cases (s != [46]) <;> cases (s != [46, 46]) <;> cases (s.any fun c => c == 47 || c == 0) <;> cases whiteB.isPrefixOf s <;> rfl
  · rw [decide_eq_false h2]; simp
set_option maxHeartbeats 1000000 in
theorem rmayname_any (s : List UInt8) (hs : s.length ≤ 1000000) (w : World) : Calls Tryz.prog 108 #[.string ⟨s.toArray⟩] w fun e w' => e = .returned (.bool (mayN s)) ∧ w = w' := by
  have HN := Keep.keep (fun w => rname_any s hs w)
  have HB : Keep (∀ w, Calls Tryz.prog 110 #[.string ⟨s.toArray⟩, .string ⟨#[46, 119, 104, 46]⟩] w fun e w' => e = .returned (.bool (whiteB.isPrefixOf s)) ∧ w = w') := ⟨fun w => begins_any s whiteB w⟩
  rw [mayN_name]
  have h2i : decide ((s.length : Int) ≤ 251) = decide (s.length ≤ 251) := by simp only [decide_eq_decide]; omega
  generalize nameB s = b1 at *
  generalize decide (s.length ≤ 251) = b2 at *
  generalize whiteB.isPrefixOf s = b3 at *
  go_enter Tryz.func108, Tryz.ntmps108
  go_wp2_with fail
  refine (HN.out _).mono ?_
  rintro e w' ⟨rfl, rfl⟩
  cases b1 with
  | false =>
    go_wp2_with fail
    go_ret
    exact ⟨rfl, rfl⟩
  | true =>
  cases b2 with
  | false =>
    go_wp2_with fail
    go_ret
    exact ⟨rfl, rfl⟩
  | true =>
    go_wp2_with fail
    refine (HB.out _).mono ?_
    rintro e w' ⟨rfl, rfl⟩
    go_wp2_with fail
    go_ret
    exact ⟨rfl, rfl⟩
/-- how far Split is at place k -/
def SpAt (p : List UInt8) (k f : Nat) (D : List (List UInt8)) : Prop := (k ≤ p.length ∧ f ≤ k ∧ D ++ spl (p.drop f) = spl p ∧ ∀ j, f ≤ j → j < k → (hl : j < p.length) → p[j] ≠ 47) ∨ (k = p.length + 1 ∧ D = spl p)
theorem seg_noSl {p : List UInt8} {k f : Nat} (h : ∀ j, f ≤ j → j < k → (hl : j < p.length) → p[j] ≠ 47) : ∀ x ∈ (p.drop f).take (k - f), x ≠ 47 := by
  intro x hx
  obtain ⟨j, hj, rfl⟩ := List.mem_iff_getElem.1 hx
  rw [List.length_take, List.length_drop] at hj
  rw [List.getElem_take, List.getElem_drop]
  exact h (f + j) (by omega) (by omega) (by omega)
theorem SpAt.cut {p : List UInt8} {k f : Nat} {D : List (List UInt8)} (h : SpAt p k f D) (hk : k < p.length) (h47 : p[k] = 47) : SpAt p (k + 1) (k + 1) (D ++ [(p.drop f).take (k - f)]) := by
  rcases h with ⟨h1, h2, h3, h4⟩ | ⟨h1, _⟩
  · refine .inl ⟨hk, Nat.le_refl _, ?_, fun j a b _ => by omega⟩
    have e1 : p.drop f = (p.drop f).take (k - f) ++ 47 :: p.drop (k + 1) := by
      conv => lhs; rw [← List.take_append_drop (k - f) (p.drop f), List.drop_drop, show f + (k - f) = k by omega, List.drop_eq_getElem_cons hk, h47]
    rw [e1, spl_cut _ (seg_noSl h4)] at h3
    rw [List.append_assoc]; exact h3
  · omega
theorem SpAt.end_ {p : List UInt8} {f : Nat} {D : List (List UInt8)} (h : SpAt p p.length f D) : SpAt p (p.length + 1) (p.length + 1) (D ++ [(p.drop f).take (p.length - f)]) := by
  rcases h with ⟨h1, h2, h3, h4⟩ | ⟨h1, _⟩
  · refine .inr ⟨rfl, ?_⟩
    have e1 : (p.drop f).take (p.length - f) = p.drop f := by rw [List.take_of_length_le]; rw [List.length_drop]; omega
    have h5 := seg_noSl h4
    rw [e1] at h5 ⊢
    rw [spl_none h5] at h3
    exact h3
  · omega
theorem SpAt.skip {p : List UInt8} {k f : Nat} {D : List (List UInt8)} (h : SpAt p k f D) (hk : k < p.length) (h47 : p[k] ≠ 47) : SpAt p (k + 1) f D := by
  rcases h with ⟨h1, h2, h3, h4⟩ | ⟨h1, _⟩
  · refine .inl ⟨hk, by omega, h3, fun j a b c => ?_⟩
    rcases Nat.lt_succ_iff_lt_or_eq.1 b with h | rfl
    · exact h4 j a h c
    · exact h47
  · omega
theorem SpAt.le {p : List UInt8} {k f : Nat} {D : List (List UInt8)} (h : SpAt p k f D) (hk : k ≤ p.length) : f ≤ k := by
  rcases h with ⟨_, h2, _⟩ | ⟨h1, _⟩
  · exact h2
  · omega
theorem run_slice_mid {P : Program} {T : TypeId} (hu : P.underlying T = some .string) (l : List UInt8) (k1 k2 : IntKind) (i j : Nat) (h1 : i ≤ j) (h2 : j ≤ l.length) (w : World) :
    (Instr.slice T (.string ⟨l.toArray⟩) (some (.int k1 (i : Int))) (some (.int k2 (j : Int))) none).run P w = .ok (.string ⟨((l.drop i).take (j - i)).toArray⟩) w := by
  have h := run_slice_str (P := P) hu l k1 k2 (i : Int) (j : Int) (by omega) (by omega) (by omega) w
  rw [h]
  simp
set_option maxHeartbeats 4000000 in
set_option maxRecDepth 100000 in
theorem rsplit_any (p : List UInt8) (hp : p.length ≤ 1000000) (w : World) : Calls Tryz.prog 107 #[.string ⟨p.toArray⟩] w fun e w' => ∃ v, e = .returned v ∧ OwnS w' w.heap.size v (splitP p) ∧ Below w.heap.size w w' := by
  have heq := bne_nil p
  cases hl0 : p.isEmpty with
  | true =>
    have hs : splitP p = [] := by cases p with | nil => rfl | cons c l => cases hl0
    rw [hl0] at heq
    rw [hs]
    clear hs hl0
    go_enter Tryz.func107, Tryz.ntmps107
    go_wp2_with fail
    go_ret
    exact ⟨_, rfl, World.ownsRow_nil _ _ _ _, Below.refl _ _⟩
  | false =>
    have hs : splitP p = spl p := by cases p with | nil => cases hl0 | cons c l => rfl
    rw [hl0] at heq
    rw [hs]
    have hlen := spl_length p
    clear hs hl0
    go_enter Tryz.func107, Tryz.ntmps107
    go_wp2_with fail
    go_loopg [3, 4, 5] (p.length + 1) (fun g u3 u4 u5 wx => ∃ (k f : Nat) (D : List (List UInt8)), k + g = p.length + 1 ∧ u5 = .int .i64 (k : Int) ∧ u4 = .int .i64 (f : Int) ∧ SpAt p k f D ∧ D.length ≤ k ∧ Hp NoM w wx [slA w.heap.size 9 1 u3 D.length (D.map strV)])
    case atStart => exact ⟨0, 0, [], by omega, rfl, rfl, .inl ⟨Nat.zero_le _, Nat.le_refl _, rfl, fun j _ hj => by omega⟩, Nat.le_refl _, (Hp.begin NoM w).nilS _ _ _⟩
    case round =>
      obtain ⟨k, f, D, hkg, rfl, rfl, hsp, hDl, hH⟩ := hrel
      have HH := Keep.keep hH; have HSP := Keep.keep hsp
      have hown := hH.sl 0 rfl
      obtain ⟨a3, c3, rfl, -⟩ := (ownsV_reads hown).shape
      have HO := Keep.keep hown
      clear hH hown hsp
      cases gk with
      | zero =>
        obtain rfl : k = p.length + 1 := by omega
        have HD : Keep (D = spl p) := ⟨by
          rcases HSP.out with ⟨h, _⟩ | ⟨_, h⟩
          · omega
          · exact h⟩
        have hd : decide (((p.length + 1 : Nat) : Int) ≤ (p.length : Int)) = false := decide_eq_false (by omega)
        have hd2 : decide ((p.length : Int) + 1 ≤ (p.length : Int)) = false := decide_eq_false (by omega)
        have hd3 : decide (p.length + 1 ≤ p.length) = false := decide_eq_false (by omega)
        go_wp2_with fail
        go_ret
        exact ⟨_, rfl, by rw [← HD.out]; exact HO.out, HH.out.below⟩
      | succ g =>
        have hk1 : k ≤ p.length := by omega
        have hf := HSP.out.le hk1
        have hd : decide ((k : Int) ≤ (p.length : Int)) = true := decide_eq_true (by omega)
        have hd2 : decide (k ≤ p.length) = true := decide_eq_true hk1
        have hst := run_slice_mid (P := Tryz.prog) Tryz.underlying9 p .i64 .i64 f k hf hk1
        by_cases hke : k = p.length
        · have hek : ((k : Int) == (p.length : Int)) = true := by rw [hke]; exact beq_self_eq_true _
          have hek2 : (k == p.length) = true := by rw [hke]; exact beq_self_eq_true _
          have HNX : Keep (SpAt p (k + 1) (k + 1) (D ++ [(p.drop f).take (k - f)])) := ⟨by
            subst hke; exact HSP.out.end_⟩
          clear hke
          generalize (p.drop f).take (k - f) = x at *
          go_wp2_with (with_reducible refine arm_stop ?_)
          refine Stopped.out ?_
          refine arm_appendV slS ((HH.out.alloc _).sl 0 rfl) (RdV.new (N := fun _ => True) 9 [strV x] 1 1 _ rfl rfl (by unfold maxLen; omega) trivial) (by simp [strV, Value.oneCell']) (by unfold maxLen; omega) (by omega) (by simp; have := HH.out.size; omega) rfl rfl ?_
          intro v' w' ho hg hb _
          have HG := Keep.keep ((HH.out.alloc _).grow 0 rfl hg ho hb)
          obtain ⟨a4, c4, rfl, -⟩ := (ownsV_reads ho).shape
          clear ho hg hb
          simp only [Act.put, List.setIfInBounds_toArray, List.set_cons_succ, List.set_cons_zero]
          go_wp2_with fail
          go_roundg g
          case measure => omega
          case rel => exact ⟨k + 1, k + 1, _, by omega, by simp, by simp, HNX.out, by simp; omega, by rw [List.length_append, List.map_append]; exact HG.out⟩
        · have hk : k < p.length := by omega
          have hek : ((k : Int) == (p.length : Int)) = false := by rw [beq_eq_false_iff_ne]; omega
          have hek2 : (k == p.length) = false := by rw [beq_eq_false_iff_ne]; omega
          have hidx := run_index_str (P := Tryz.prog) Tryz.underlying9 ⟨p.toArray⟩ .i64 k p[k] (by simp [hk])
          have hgi : (⟨p.toArray⟩ : ByteArray)[k]'(hk) = p[k] := rfl
          have HCUT := Keep.keep (fun h => HSP.out.cut hk h)
          have HSKIP := Keep.keep (fun h => HSP.out.skip hk h)
          by_cases h47 : p[k] = 47
          · have HNX := Keep.keep (HCUT.out h47)
            rw [h47] at hidx hgi
            clear HCUT HSKIP h47 hke
            generalize (p.drop f).take (k - f) = x at *
            go_wp2_with (with_reducible refine arm_stop ?_)
            refine Stopped.out ?_
            refine arm_appendV slS ((HH.out.alloc _).sl 0 rfl) (RdV.new (N := fun _ => True) 9 [strV x] 1 1 _ rfl rfl (by unfold maxLen; omega) trivial) (by simp [strV, Value.oneCell']) (by unfold maxLen; omega) (by omega) (by simp; have := HH.out.size; omega) rfl rfl ?_
            intro v' w' ho hg hb _
            have HG := Keep.keep ((HH.out.alloc _).grow 0 rfl hg ho hb)
            obtain ⟨a4, c4, rfl, -⟩ := (ownsV_reads ho).shape
            clear ho hg hb
            simp only [Act.put, List.setIfInBounds_toArray, List.set_cons_succ, List.set_cons_zero]
            go_wp2_with fail
            go_roundg g
            case measure => omega
            case rel => exact ⟨k + 1, k + 1, _, by omega, by simp, by simp, HNX.out, by simp; omega, by rw [List.length_append, List.map_append]; exact HG.out⟩
          · have HNX := Keep.keep (HSKIP.out h47)
            have hn47 : ((p[k].toNat : Int) == 47) = false := by
              rw [beq_eq_false_iff_ne]; intro e; exact h47 (UInt8.toNat_inj.1 (by show p[k].toNat = 47; omega))
            clear HCUT HSKIP h47 hke hst
            generalize p[k] = c at *
            go_wp2_with fail
            go_roundg g
            case measure => omega
            case rel => exact ⟨k + 1, f, D, by omega, by simp, rfl, HNX.out, by omega, HH.out⟩
end Go.Proofs.YtplafpokgpolkaaGreatDoor
