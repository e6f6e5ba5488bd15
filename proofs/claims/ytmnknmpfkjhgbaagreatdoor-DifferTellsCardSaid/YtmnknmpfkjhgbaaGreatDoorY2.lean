/- PARTS OF ONE PROOF, set in one file: DfBoth, MbDelO, DfBelow, DfBelowO, SpcOne, DfOf. Each part tells its own conditions. -/
import Derived.Lib.AppendZeros
import Derived.Test.YtmnknmpfkjhgbaaGreatDoorY1
/- slices.Grow, Concat, Compact of texts; differ.both. -/
namespace Go.Proofs.YtmnknmpfkjhgbaaGreatDoor
open Go.RowKit Go.Sort
theorem slice_sto (a : Option Addr) (n cap i : Nat) (hi : i ≤ cap) (w : World) : (Instr.slice 42 (.slice a n cap) none (some (.int .i64 (i : Int))) none).run Tryz.prog w = .ok (.slice a i cap) w := by
  have he : Tryz.prog.elem 42 = 9 := by simp [Program.elem, Tryz.underlying42]
  have hs : ∀ w, (sizeOf 9).run Tryz.prog w = .ok 1 w := fun w => by kernel_rfl
  rw [run_slice_h w 42 a n cap (by rw [he]; exact Tryz.underlying42) .i64 (i : Int) (by omega) (by omega), he, hs]
  have ha : a.map (·.add 0) = a := by
    cases a <;> simp [Addr.add]
  simp [Result.andThen, sliced, ha]
set_option maxHeartbeats 1000000 in
set_option maxRecDepth 100000 in
theorem grow_own (n : Nat) (hn : n ≤ 1000000000) (w : World) :
    Calls Tryz.prog 162 #[.slice none 0 0, .int .i64 (n : Int)] w fun e w' => ∃ v, e = .returned v ∧ OwnS w' w.heap.size v [] ∧ Below w.heap.size w w' := by
  have hneg : decide ((n : Int) < 0) = false := decide_eq_false (by omega)
  by_cases h0 : n = 0
  · subst h0
    go_enter Tryz.func162, Tryz.ntmps162
    go_wp2_with fail
    go_ret
    exact ⟨_, rfl, World.ownsRow_nil _ _ _ _, Below.refl _ _⟩
  · have hpos : decide (0 < (n : Int)) = true := decide_eq_true (by omega)
    have hpos2 : decide (0 < n) = true := decide_eq_true (by omega)
    have hsl := fun wx => slice_sto none 0 0 0 (Nat.le_refl _) wx
    obtain ⟨i, hi, hz, hsize, hby⟩ := slS.i
    have hrun := Lib.run_append_nil_zeros (P := Tryz.prog) w 42 3 42 9 i (strV []) .i64 .i64 Tryz.underlying42 Tryz.underlying3 hi hz n (by omega) (by rw [hsize]; decide) (by omega) (by rw [hby]; omega)
    have hge := grownCap_ge w n 0 9
    have hle := grownCap_le_maxLen w n 0 9 (by unfold maxLen; omega)
    generalize hc : grownCap w n 0 9 = cap at *
    have HSZ : Keep ((Builtin.zeroCells (strV []).cells n ++ Builtin.zeroCells (strV []).cells (cap - n)).size = cap) := ⟨by
      have hz1 : ∀ m, (Builtin.zeroCells (strV []).cells m).size = m := fun m => by simp [Builtin.zeroCells, strV, Value.cells]
      rw [Array.size_append, hz1, hz1]; omega⟩
    generalize Builtin.zeroCells (strV []).cells n ++ Builtin.zeroCells (strV []).cells (cap - n) = cs at *
    have hst := fun wx => slice_sto (some ⟨w.heap.size, 0, none⟩) n cap 0 (Nat.zero_le _) wx
    have HLE := Keep.keep hle; have HGE := Keep.keep hge; have HRUN := Keep.keep hrun
    clear hc hle hge hrun hi hz hsize hby
    go_enter Tryz.func162, Tryz.ntmps162
    go_wp2_with (at_builtin; refine Lib.wpList_append_run _ rfl _ _ _ _ rfl _ _ rfl rfl _ _ HRUN.out ?_)
    go_ret
    refine ⟨_, rfl, ⟨rfl, .inr ⟨w.heap.size, cap, cs, rfl, Nat.le_refl _, Row.new w.drew 9 cs, Nat.zero_le _, HLE.out, by rw [HSZ.out, Nat.mul_one], by simp⟩⟩, ?_⟩
    exact (Below.refl _ _).drew.alloc (Nat.le_refl _) _
set_option maxHeartbeats 4000000 in
set_option maxRecDepth 100000 in
theorem concat_two (b0 : Nat) (v1 v2 : Value) (l1 l2 : List Tx) (w : World) (hrow : Row w b0 42 #[v1, v2]) (h1 : RdS w (· < w.heap.size) v1 l1) (h2 : RdS w (· < w.heap.size) v2 l2) (hl1 : l1.length ≤ 1000000) (hl2 : l2.length ≤ 1000000) :
    Calls Tryz.prog 141 #[.slice (some ⟨b0, 0, none⟩) 2 2] w fun e w' => ∃ v, e = .returned v ∧ OwnS w' w.heap.size v (l1 ++ l2) ∧ Below w.heap.size w w' := by
  obtain ⟨a1, c1, hv1, -⟩ := h1.shape
  obtain ⟨a2, c2, hv2, -⟩ := h2.shape
  have HRW := Keep.keep hrow; have H1 := Keep.keep h1; have H2 := Keep.keep h2
  have HG := Keep.keep (fun w => grow_own (l1.length + l2.length) (by omega) w)
  clear hrow h1 h2
  subst hv1 hv2
  go_enter Tryz.func141, Tryz.ntmps141
  go_wp2_with fail
  go_loopg [3, 11] 2 (fun g u3 u11 wx => w = wx ∧ ((g = 2 ∧ u11 = .int .i64 0 ∧ u3 = .int .i64 0) ∨ (g = 1 ∧ u11 = .int .i64 1 ∧ u3 = .int .i64 (l1.length : Int)) ∨ (g = 0 ∧ u11 = .int .i64 2 ∧ u3 = .int .i64 ((l1.length + l2.length : Nat) : Int))))
  case atStart => exact ⟨rfl, .inl ⟨rfl, rfl, rfl⟩⟩
  case round =>
    obtain ⟨rfl, hrel⟩ := hrel
    have k0 := HRW.out.cell (i := 0) rfl
    have k1 := HRW.out.cell (i := 1) rfl
    have d1 : decide ((l1.length : Int) < 0) = false := decide_eq_false (by omega)
    have d2 : decide ((l1.length : Int) + (l2.length : Int) < 0) = false := decide_eq_false (by omega)
    rcases hrel with ⟨rfl, rfl, rfl⟩ | ⟨rfl, rfl, rfl⟩ | ⟨rfl, rfl, rfl⟩
    · go_wp2_with fail
      go_roundg 1
      case measure => omega
      case rel => exact ⟨rfl, .inr (.inl ⟨rfl, rfl, by simp⟩)⟩
    · go_wp2_with fail
      go_roundg 0
      case measure => omega
      case rel => exact ⟨rfl, .inr (.inr ⟨rfl, rfl, by simp⟩)⟩
    · clear k0 k1
      go_wp2_with fail
      refine (HG.out w).mono ?_
      rintro e w2 ⟨v6, rfl, ho6, hb2⟩
      have HO6 := Keep.keep ho6; have HB2 := Keep.keep hb2
      obtain ⟨a6, c6, hv6, -⟩ := (ownsV_reads ho6).shape
      rw [List.length_nil] at hv6
      clear ho6 hb2 HG
      subst hv6
      go_wp2_with fail
      go_loopg [6, 27] 2 (fun g u6 u27 wx => Below w.heap.size w wx ∧ ((g = 2 ∧ u27 = .int .i64 0 ∧ OwnS wx w.heap.size u6 []) ∨ (g = 1 ∧ u27 = .int .i64 1 ∧ OwnS wx w.heap.size u6 l1) ∨ (g = 0 ∧ u27 = .int .i64 2 ∧ OwnS wx w.heap.size u6 (l1 ++ l2))))
      case atStart => exact ⟨HB2.out, .inl ⟨rfl, rfl, HO6.out⟩⟩
      case round =>
        obtain ⟨hbx, hrel⟩ := hrel
        have HBX := Keep.keep hbx
        have hsx := hbx.size
        have HRX := Keep.keep (HRW.out.below hbx HRW.out.lt)
        have k0 := HRX.out.cell (i := 0) rfl
        have k1 := HRX.out.cell (i := 1) rfl
        clear hbx
        rcases hrel with ⟨rfl, rfl, ho⟩ | ⟨rfl, rfl, ho⟩ | ⟨rfl, rfl, ho⟩
        · have HO := Keep.keep ho
          obtain ⟨a7, c7, hv7, -⟩ := (ownsV_reads ho).shape
          clear ho
          rw [List.length_nil] at hv7
          subst hv7
          go_wp2_with (with_reducible refine arm_stop ?_)
          refine Stopped.out ?_
          refine arm_appendV slS (m := l1.length) HO.out (H1.out.below HBX.out (fun b hb => hb)) (fun u hu => by obtain ⟨x, _, rfl⟩ := List.mem_map.1 hu; rfl) (by unfold maxLen; simp; omega) (by simp; omega) hsx rfl rfl ?_
          intro v8 w8 ho8 hg8 hov8 _
          have HO8 : Keep (OwnS w8 w.heap.size v8 (l1)) := ⟨by simpa using ho8⟩
          have HB8 : Keep (Below w.heap.size w w8) := ⟨HBX.out.trans ((Chg.grown (M := NoM) (.refl _ _ _) hg8 hsx (fun k e => .inl (World.ownsRow.lt HO.out k e).1)).below (fun _ _ h => h))⟩
          obtain ⟨a8, c8, hv8, -⟩ := (ownsV_reads HO8.out).shape
          clear ho8 hg8 hov8 HO k0 k1 HRX
          subst hv8
          simp only [Act.put, List.setIfInBounds_toArray, List.set_cons_succ, List.set_cons_zero]
          go_wp2_with fail
          go_roundg 1
          case measure => omega
          case rel => exact ⟨HB8.out, .inr (.inl ⟨rfl, rfl, HO8.out⟩)⟩
        · have HO := Keep.keep ho
          obtain ⟨a7, c7, hv7, -⟩ := (ownsV_reads ho).shape
          clear ho
          skip
          subst hv7
          go_wp2_with (with_reducible refine arm_stop ?_)
          refine Stopped.out ?_
          refine arm_appendV slS (m := l2.length) HO.out (H2.out.below HBX.out (fun b hb => hb)) (fun u hu => by obtain ⟨x, _, rfl⟩ := List.mem_map.1 hu; rfl) (by unfold maxLen; omega) (by omega) hsx rfl rfl ?_
          intro v8 w8 ho8 hg8 hov8 _
          have HO8 : Keep (OwnS w8 w.heap.size v8 (l1 ++ l2)) := ⟨by
            show w8.ownsRow w.heap.size 9 1 v8 (l1 ++ l2).length ((l1 ++ l2).map strV)
            rw [List.length_append, List.map_append]
            exact ho8⟩
          have HB8 : Keep (Below w.heap.size w w8) := ⟨HBX.out.trans ((Chg.grown (M := NoM) (.refl _ _ _) hg8 hsx (fun k e => .inl (World.ownsRow.lt HO.out k e).1)).below (fun _ _ h => h))⟩
          obtain ⟨a8, c8, hv8, -⟩ := (ownsV_reads HO8.out).shape
          rw [List.length_append] at hv8
          clear ho8 hg8 hov8 HO k0 k1 HRX
          subst hv8
          simp only [Act.put, List.setIfInBounds_toArray, List.set_cons_succ, List.set_cons_zero]
          go_wp2_with fail
          go_roundg 0
          case measure => omega
          case rel => exact ⟨HB8.out, .inr (.inr ⟨rfl, rfl, HO8.out⟩)⟩
        · have HO := Keep.keep ho
          obtain ⟨a7, c7, hv7, -⟩ := (ownsV_reads ho).shape
          rw [List.length_append] at hv7
          clear ho k0 k1 HRX
          subst hv7
          go_wp2_with fail
          go_ret
          exact ⟨_, rfl, HO.out, HBX.out⟩
theorem compact_len (zs : List Tx) : (Lib.compact zs).length ≤ zs.length := by
  unfold Lib.compact Lib.compactUpTo
  rw [List.length_map]
  exact Nat.le_trans (List.length_filter_le _ _) (by simp)
theorem owns_take1 {w : World} {base g n cap k : Nat} {e : TypeId} {xs ys : List Value} (h : w.ownsRow base e 1 (.slice (some ⟨g, 0, none⟩) n cap) n xs) (hk : k ≤ n) (hy : xs.take k = ys) : w.ownsRow base e 1 (.slice (some ⟨g, 0, none⟩) k cap) k ys := by
  obtain ⟨h0, h⟩ := h
  rcases h with ⟨h1, _⟩ | ⟨g', cap', cur, h1, h2, h3, h4, h5, h6, h7⟩
  · cases h1
  · injection h1 with e1 e2 e3; injection e1 with e1; injection e1 with e1 _ _; subst e1 e3
    refine ⟨by rw [← hy, List.length_take]; omega, .inr ⟨g, cap, cur, rfl, h2, h3, by omega, h5, h6, ?_⟩⟩
    rw [← hy, ← h7, List.take_take, Nat.min_eq_left (by omega), Nat.mul_one]
theorem compact_own (base : Nat) (v : Value) (zs : List Tx) (w : World) (hl : zs.length ≤ 10000000) (h : OwnS w base v zs) :
    Calls Tryz.prog 142 #[v] w fun e w' => ∃ v', e = .returned v' ∧ OwnS w' base v' (Lib.compact zs) ∧ w.grownBy w' v.ownBlock := by
  have h0 := h
  rcases h.2 with ⟨rfl, hz⟩ | ⟨g, cap, cur, rfl, hb, hh, hn, hm, hs, ht⟩
  · obtain rfl : zs = [] := List.eq_nil_of_length_eq_zero hz
    refine (Tryz.slices_Compact_string_empty none 0 w).mono ?_
    rintro e w' ⟨rfl, rfl⟩
    exact ⟨_, rfl, h0, ⟨rfl, rfl, rfl, Nat.le_refl _, fun _ _ _ => rfl⟩⟩
  · rw [Nat.mul_one] at ht
    have hcl := compact_len zs
    refine (Tryz.slices_Compact_string g 0 cap zs w (holds_of_block hh ht) (by omega) hn).mono ?_
    rintro e w' ⟨rfl, q, rfl⟩
    have hts : (Lib.compact zs ++ List.replicate (zs.length - (Lib.compact zs).length) []).length = zs.length := by simp; omega
    have hg : (putRow encStr (Sort.ahead w q) g 0 (Lib.compact zs ++ List.replicate (zs.length - (Lib.compact zs).length) []).toArray) = Go.Sort.grow (putRow encStr (Sort.ahead w q) g 0 (Lib.compact zs ++ List.replicate (zs.length - (Lib.compact zs).length) []).toArray) #[] := (Go.Sort.grow_empty _).symm
    rw [hg]
    have ho := ownsRow_sorted (w := w) (n := q) (os := #[]) hts hb hh hn hm hs
    refine ⟨_, rfl, owns_take1 ho hcl ?_, grownBy_sorted _⟩
    rw [List.map_append, List.take_append_of_le_length (by simp), List.take_of_length_le (by simp)]
    rfl
set_option maxHeartbeats 1000000 in
set_option maxRecDepth 100000 in
/-- differ.both: sorted, each once -/
theorem both_any (v1 v2 : Value) (l1 l2 : List Tx) (w : World) (h1 : RdS w (· < w.heap.size) v1 l1) (h2 : RdS w (· < w.heap.size) v2 l2) (hl1 : l1.length ≤ 400000) (hl2 : l2.length ≤ 400000) :
    Calls Tryz.prog 121 #[v1, v2] w fun e w' => ∃ v, e = .returned v ∧ OwnS w' w.heap.size v (Lib.compact ((l1 ++ l2).mergeSort fun x y => decide (x ≤ y))) ∧ Below w.heap.size w w' := by
  have HC : Keep (∀ wx b0, Below w.heap.size w wx → Row wx b0 42 #[v1, v2] → Calls Tryz.prog 141 #[.slice (some ⟨b0, 0, none⟩) 2 2] wx fun e w' => ∃ v, e = .returned v ∧ OwnS w' wx.heap.size v (l1 ++ l2) ∧ Below wx.heap.size wx w') :=
    ⟨fun wx b0 hb hr => concat_two b0 v1 v2 l1 l2 wx hr ((h1.below hb (fun b hb => hb)).mono (fun b hb' => Nat.lt_of_lt_of_le hb' hb.size)) ((h2.below hb (fun b hb => hb)).mono (fun b hb' => Nat.lt_of_lt_of_le hb' hb.size)) (by omega) (by omega)⟩
  obtain ⟨a1, c1, hv1, -⟩ := h1.shape
  obtain ⟨a2, c2, hv2, -⟩ := h2.shape
  obtain ⟨zs, hzs⟩ : ∃ zs, ((l1 ++ l2).mergeSort fun x y => decide (x ≤ y)) = zs := ⟨_, rfl⟩
  have HZ : Keep (((l1 ++ l2).mergeSort fun x y => decide (x ≤ y)) = zs ∧ zs.length = (l1 ++ l2).length ∧ (l1 ++ l2).length ≤ 1000000) := ⟨hzs, by rw [← hzs]; simp, by simp; omega⟩
  rw [hzs]
  clear h1 h2 hzs
  subst hv1 hv2
  generalize l1.length = n1 at *
  generalize l2.length = n2 at *
  go_enter Tryz.func121, Tryz.ntmps121
  go_wp2_with fail
  refine calls_at (R := fun wq => Below w.heap.size w wq ∧ Row wq w.heap.size 42 #[.slice a1 n1 c1, .slice a2 n2 c2]) ⟨(Below.refl _ _).alloc (Nat.le_refl _) _, Row.new w _ _⟩ ?_
  intro w1 H1
  refine (HC.out w1 _ H1.out.1 H1.out.2).mono ?_
  rintro e w2 ⟨v5, rfl, ho5, hb2⟩
  have HO5 := Keep.keep (ownsRow_base ho5 H1.out.1.size)
  have HB2 := Keep.keep (H1.out.1.trans (hb2.mono H1.out.1.size))
  obtain ⟨a5, c5, hv5, -⟩ := (ownsV_reads ho5).shape
  generalize hn5 : (l1 ++ l2).length = n5 at *
  have HN5 := Keep.keep hn5
  clear ho5 hb2 HC hn5
  subst hv5
  have HS := Keep.keep (sort_own w.heap.size _ (l1 ++ l2) w2 (by rw [HN5.out]; exact HZ.out.2.2) (by rw [HN5.out]; exact HO5.out))
  rw [HN5.out, HZ.out.1] at HS
  go_wp2_with fail
  refine HS.out.mono ?_
  rintro e w3 ⟨rfl, ho6, hg6⟩
  have HO6 : Keep (OwnS w3 w.heap.size (.slice a5 n5 c5) zs) := ⟨by
    have := ho6
    show w3.ownsRow w.heap.size 9 1 (.slice a5 n5 c5) zs.length (zs.map strV)
    rw [HZ.out.2.1]; exact this⟩
  have HB3 : Keep (Below w.heap.size w w3) := ⟨HB2.out.trans ((Chg.grown (M := NoM) (.refl _ _ _) hg6 HB2.out.size (fun k e => .inl (World.ownsRow.lt HO5.out k e).1)).below (fun _ _ h => h))⟩
  have HK := Keep.keep (compact_own w.heap.size _ zs w3 (by rw [HZ.out.2.1]; have := HZ.out.2.2; omega) HO6.out)
  clear ho6 hg6 HS
  go_wp2_with fail
  refine HK.out.mono ?_
  rintro e w4 ⟨v7, rfl, ho7, hg7⟩
  have HO7 := Keep.keep ho7
  have HB4 : Keep (Below w.heap.size w w4) := ⟨HB3.out.trans ((Chg.grown (M := NoM) (.refl _ _ _) hg7 HB3.out.size (fun k e => .inl (World.ownsRow.lt HO6.out k e).1)).below (fun _ _ h => h))⟩
  obtain ⟨a7, c7, hv7, -⟩ := (ownsV_reads ho7).shape
  generalize (Lib.compact zs).length = n7 at hv7
  clear ho7 hg7 HK
  subst hv7
  go_wp2_with fail
  go_ret
  exact ⟨_, rfl, HO7.out, HB4.out⟩
end Go.Proofs.YtmnknmpfkjhgbaaGreatDoor
/- As in MbDel, with nodes whose slices are rows of their types (printed by gen_o.py). -/
namespace Go.Proofs.YtmnknmpfkjhgbaaGreatDoor
open Go.RowKit
set_option maxHeartbeats 4000000 in
set_option maxRecDepth 100000 in
theorem dfuncMO (F : FuncId) (cs : Array Value) (p : Mb → Bool) (v : Value) (l : List Mv) (base : Nat) (K : Nat → Prop) (w : World) (hent : ∀ args w, (callFunc F args).run Tryz.prog w = .ok (.enter F args) w) (_hB : base ≤ w.heap.size) (hl : l.length ≤ 1000000000000)
    (hf : ∀ wx, Chg (fun b => v.ownBlock = some b) w.heap.size w wx → ∀ x ∈ l, Calls Tryz.prog F (#[.agg (mcell x)] ++ cs) wx fun e w' => e = .returned (.bool (p x.1)) ∧ Below wx.heap.size wx w') (h : RowO base K w v l) :
    Calls Tryz.prog 92 #[v, .func (.func F) #[] cs] w fun e w' => ∃ v', e = .returned v' ∧ RowO base K w' v' (l.filter fun x => !p x.1) ∧ v'.ownBlock = v.ownBlock ∧ Chg (fun b => v.ownBlock = some b) w.heap.size w w' := by
  have HI := Keep.keep (ifuncM F cs p v l w hent (fun wx hb x hx => hf wx (.of_below hb) x hx) (h.mbs.mono (fun b hb => hb.2) (fun b hb => hb.2.1)))
  have HF := Keep.keep hf
  have HM := Keep.keep h
  obtain ⟨hlen, hcase⟩ := h.own
  have HCASE := Keep.keep hcase
  clear hf hlen hcase
  by_cases hall : ∀ x ∈ l, p x.1 = false
  · have hi : idxM p l = -1 := idxM_none (fun j hj => hall _ (List.getElem_mem hj))
    have hfl : (l.filter fun x => !p x.1) = l := List.filter_eq_self.2 (fun x hx => by simp [hall x hx])
    obtain ⟨a, cap, rfl, -⟩ := (ownsV_reads HM.out.own).shape
    rw [hi] at HI
    rw [hfl]
    clear hi hfl hall h
    go_enter Tryz.func92, Tryz.ntmps92
    go_wp2_with fail
    refine HI.out.mono ?_
    rintro e w1 ⟨rfl, hb⟩
    have HB := Keep.keep hb
    clear hb
    go_wp2_with fail
    go_ret
    exact ⟨_, rfl, HM.out.below HB.out, rfl, .of_below HB.out⟩
  · obtain ⟨i, hi, hpi, hno⟩ : ∃ i, ∃ h : i < l.length, p l[i].1 = true ∧ ∀ j, (hj : j < i) → p (l[j]'(by omega)).1 = false := by
      cases hx : l.findIdx? (fun x => p x.1) with
      | none => exact absurd (fun x hx' => by simpa using List.findIdx?_eq_none_iff.1 hx x hx') hall
      | some i =>
        obtain ⟨h1, h2, h3⟩ := List.findIdx?_eq_some_iff_getElem.1 hx
        exact ⟨i, h1, h2, fun j hj => by simpa using h3 j hj⟩
    have hidx := idxM_hit hi hpi hno
    rw [hidx] at HI
    rcases HCASE.out with ⟨_, h0⟩ | ⟨g, cap, cur, rfl, hbase, hrow, hn, hmx, hsz, htk⟩
    · omega
    have hkp : kpM p l i = l.take i := by
      unfold kpM
      rw [List.filter_eq_self]
      intro x hx
      obtain ⟨j, hj, rfl⟩ := List.mem_iff_getElem.1 hx
      rw [List.length_take] at hj
      simp [hno j (by omega)]
    have hkl : (kpM p l i).length = i := by rw [hkp, List.length_take]; omega
    have hk1 := kpM_succ p l i hi
    rw [if_pos hpi] at hk1
    have HDF : Keep (DFM p l l (i + 1)) := ⟨⟨rfl, by rw [hk1, hkl, hkp], fun m _ _ => rfl⟩⟩
    have HKL : Keep ((kpM p l (i + 1)).length = i) := ⟨by rw [hk1]; exact hkl⟩
    have HTOT : Keep ((kpM p l l.length).length < l.length) := ⟨by
      rw [kpM_all]
      refine Nat.lt_of_le_of_ne (List.length_filter_le _ _) (fun e => ?_)
      have := List.length_filter_eq_length_iff.1 e l[i] (List.getElem_mem hi)
      simp [hpi] at this⟩
    have HGW : Keep (base ≤ g ∧ g < w.heap.size ∧ l.length ≤ cap ∧ cap ≤ maxLen) := ⟨hbase, (Array.getElem?_eq_some_iff.1 hrow).1, hn, hmx⟩
    unfold maxLen at hmx
    clear hidx hpi hno hall hkp hkl hk1 hsz htk hrow hbase HCASE h cur
    have hbig : l.length ≤ 9223372036854775807 := by omega
    go_enter Tryz.func92, Tryz.ntmps92
    go_wp2_with fail
    refine HI.out.mono ?_
    rintro e w1 ⟨rfl, hb⟩
    have HB := Keep.keep hb
    clear hb HI
    have hne : ((i : Int) == -1) = false := by rw [beq_eq_false_iff_ne]; omega
    go_wp2_with fail
    go_loopg [5, 6] (l.length - (i + 1)) (fun q u5 u6 wx => ∃ (j : Nat) (ls : List Mv), j + q = l.length ∧ u6 = .int .i64 (j : Int) ∧ u5 = .int .i64 ((kpM p l j).length : Int) ∧ wx.ownsRow base 41 9 (.slice (some ⟨g, 0, none⟩) l.length cap) l.length (mcells ls) ∧ DFM p l ls j ∧ Chg (fun b => b = g) w.heap.size w wx)
    case atStart => exact ⟨i + 1, l, by omega, by simp, by rw [HKL.out], (HM.out.below HB.out).own, HDF.out, .of_below HB.out⟩
    case round =>
      obtain ⟨j, ls, hjq, rfl, rfl, hown, hdf, hch⟩ := hrel
      have HO := Keep.keep hown; have HD := Keep.keep hdf; have HC := Keep.keep hch
      have hle := kpM_le p l j
      clear hown hdf hch
      cases gk with
      | zero =>
        obtain rfl : j = l.length := by omega
        have HFL : Keep (kpM p l l.length = l.filter fun x => !p x.1) := ⟨kpM_all p l⟩
        have htot := HTOT.out
        generalize hkk : (kpM p l l.length).length = i2 at *
        have HKK := Keep.keep hkk
        have hsz := HD.out.sz
        have hsl := slice_mfrom_at g l.length cap i2 (by omega) HGW.out.2.2.1 (by have := HGW.out.2.2.1; omega) wr
        obtain ⟨zs, hzl, hcl⟩ := run_clear_mbs wr g (i2 * 9) (l.length - i2) (cap - i2) (by omega) (fun m hm => by
          rw [HO.out.cellAt _ (by omega), List.getElem?_eq_getElem (by rw [mcells_length]; omega)]; rfl) (fun m hm => HO.out.frozenAt _)
        have hown2 := owns_setCells zs _ wr (i2 * 9) HO.out
        have hown3 := owns_take (k := i2) hown2.1 (by omega) (by rw [layAt_take _ _ _ (by rw [mcells_length]; omega), ← mcells_take, ← HKK.out, HD.out.pre])
        have HO3 := Keep.keep hown3
        have HC3 : Keep (Chg (fun b => b = g) w.heap.size w (wr.setCells g (i2 * 9) zs)) := ⟨HC.out.trans (((chg_grown hown2.2).mono (Nat.le_refl _) (fun b e => by injection e with e; exact e.symm)).lower HC.out.size)⟩
        clear hown2 hown3 hzl hkk hsz
        generalize wr.setCells g (i2 * 9) zs = w9 at *
        have hst := slice_mto (some ⟨g, 0, none⟩) l.length cap i2 .i64 (by have := HGW.out.2.2.1; omega) w9
        go_wp2_with fail
        go_ret
        refine ⟨_, rfl, ⟨?_, fun x hx => ?_⟩, rfl, HC3.out.mono (Nat.le_refl _) (fun b hb => by rw [hb]; rfl)⟩
        · rw [← HFL.out, HKK.out]; exact HO3.out
        · have hx2 := (List.mem_filter.1 hx).1
          refine ((HM.out.nd x hx2).loc (fun b e => HC3.out.block b e.2.1 (fun e2 => e.2.2 (by rw [e2]; rfl)))).mono (fun b e => ⟨e.1, Nat.lt_of_lt_of_le e.2.1 HC3.out.size, e.2.2⟩)
      | succ q =>
        have hj : j < l.length := by omega
        have hlj : ls[j]? = some l[j] := by rw [HD.out.post j (Nat.le_refl _) hj, List.getElem?_eq_getElem hj]
        have hld := own_loadAt HO.out HD.out.sz.symm hlj
        have HCF := Keep.keep (fun wx (hc : Chg (fun b => (Value.slice (some ⟨g, 0, none⟩) l.length cap).ownBlock = some b) w.heap.size w wx) => HF.out wx hc l[j] (List.getElem_mem hj))
        have HSK := Keep.keep (fun h => HD.out.skip hj h)
        have HPU := Keep.keep (fun h => HD.out.put hj h)
        have HK1 := Keep.keep (kpM_succ p l j hj)
        have HND := Keep.keep (HM.out.nd l[j] (List.getElem_mem hj))
        have HKT : Keep ((kpM p l j).length < l.length) := ⟨by omega⟩
        generalize hkk : (kpM p l j).length = k at *
        have HKK := Keep.keep hkk
        clear hkk hlj
        generalize p l[j].1 = pk at *
        generalize l[j] = x at *
        have HONE := Keep.keep (mcell_one HND.out.r)
        obtain ⟨⟨xp, ⟨kind, mode, uid, gid, time, attrs, data, link⟩⟩, av, dv⟩ := x
        obtain ⟨aa, la, ca, ad, ld, cd, e1, e2⟩ := HND.out.r.shape
        dsimp only at e1 e2
        subst e1 e2
        have HMC : Keep (mcell (((xp, ⟨kind, mode, uid, gid, time, attrs, data, link⟩), .slice aa la ca, .slice ad ld cd) : Mv) = #[.string ⟨xp.toArray⟩, .int .i64 kind, .int .u32 mode, .int .u32 uid, .int .u32 gid, .int .i64 time, .slice aa la ca, .slice ad ld cd, .string ⟨link.toArray⟩]) := ⟨rfl⟩
        have HSZ : Keep ((#[.string ⟨xp.toArray⟩, .int .i64 kind, .int .u32 mode, .int .u32 uid, .int .u32 gid, .int .i64 time, .slice aa la ca, .slice ad ld cd, .string ⟨link.toArray⟩] : Array Value).size = 9) := ⟨rfl⟩
        rw [HMC.out] at hld HCF
        clear HND
        go_upto_region 8 with ((with_reducible refine arm_loadM hld ?_ ?_); (focus rfl); simp only [Act.put, List.setIfInBounds_toArray, List.set_cons_succ, List.set_cons_zero])
        refine wp_world (R := fun wq => Hp NoM wr wq [rowA wr.heap.size 41 #[.string ⟨xp.toArray⟩, .int .i64 kind, .int .u32 mode, .int .u32 uid, .int .u32 gid, .int .i64 time, .slice aa la ca, .slice ad ld cd, .string ⟨link.toArray⟩]]) ((Hp.begin NoM wr).newRow _ _) ?_
        intro w2 H2
        have HRV := Keep.keep (H2.out.row 0 rfl)
        have HC2 := Keep.keep (HC.out.trans ((Chg.of_below (M := fun b => b = g) H2.out.below).lower HC.out.size))
        obtain ⟨b7, hb7⟩ : ∃ b7, wr.heap.size = b7 := ⟨_, rfl⟩
        have HB7 := Keep.keep hb7
        rw [hb7] at HRV ⊢
        clear hb7 hld
        go_wp2_with ((with_reducible refine arm_loadRow HRV.out aggM HSZ.out ?_ ?_); (focus rfl); simp only [Act.put, List.setIfInBounds_toArray, List.set_cons_succ, List.set_cons_zero])
        refine (HCF.out w2 (HC2.out.mono (Nat.le_refl _) (fun b hb => by rw [hb]; rfl))).mono ?_
        rintro e w3 ⟨rfl, hb3⟩
        have HB3 := Keep.keep (H2.out.below.trans (hb3.mono H2.out.below.size))
        have HRV3 := Keep.keep (HRV.out.below hb3 HRV.out.lt)
        have HO3 := Keep.keep (ownsRow_loc _ _ (fun b hb => HB3.out.block b (ownsV_lt HO.out b hb).2) HO.out)
        have HC3 := Keep.keep (HC2.out.trans ((Chg.of_below (M := fun b => b = g) hb3).lower HC2.out.size))
        clear hb3 HRV HCF
        cases pk with
        | true =>
          have HX := Keep.keep (HSK.out rfl)
          have HL : Keep ((kpM p l (j + 1)).length = k) := ⟨by rw [HK1.out, if_pos rfl]; exact HKK.out⟩
          go_wp2_with fail
          go_roundg q
          case measure => omega
          case rel => exact ⟨j + 1, ls, by omega, by simp, by rw [HL.out], HO3.out, HX.out, HC3.out⟩
        | false =>
          have HX := Keep.keep (HPU.out rfl)
          have HL : Keep ((kpM p l (j + 1)).length = k + 1) := ⟨by rw [HK1.out, if_neg (by decide), List.length_append, HKK.out]; rfl⟩
          have hkt := HKT.out
          clear HPU HSK
          go_upto_region 9 with fail
          go_wp2_with (first | ((with_reducible refine arm_loadRow HRV3.out aggM HSZ.out ?_ ?_); (focus rfl); simp only [Act.put, List.setIfInBounds_toArray, List.set_cons_succ, List.set_cons_zero]) | (with_reducible refine arm_sSt ?_))
          refine StM.out ?_
          refine arm_setMb (((xp, ⟨kind, mode, uid, gid, time, attrs, data, link⟩), .slice aa la ca, .slice ad ld cd) : Mv) HO3.out HD.out.sz.symm (by rw [HD.out.sz]; exact hkt) HONE.out rfl rfl ?_
          intro w4 ho4 hg4
          have HO4 := Keep.keep ho4
          have HC4 := Keep.keep (HC3.out.trans (((chg_grown hg4).mono (Nat.le_refl _) (fun b e => by injection e with e; exact e.symm)).lower HC3.out.size))
          clear ho4 hg4
          simp only [Act.put]
          go_wp2_with fail
          go_roundg q
          case measure => omega
          case rel => exact ⟨j + 1, _, by omega, by simp, by rw [HL.out]; simp, HO4.out, HX.out, HC4.out⟩
end Go.Proofs.YtmnknmpfkjhgbaaGreatDoor
/- differ.told's closure 'below': what is told below a Dir. -/
namespace Go.Proofs.YtmnknmpfkjhgbaaGreatDoor
open Go.RowKit
/-- the paths in a Dir of either tree, each once, rising -/
def ksT (A B : List Mb) (d : Tx) : List Tx := Lib.compact (((kids d A).map (·.1) ++ (kids d B).map (·.1)).mergeSort fun x y => decide (x ≤ y))
theorem ksT_kids {A B : List Mb} (hA : WellL A) (hB : WellL B) : KidsOf A B (ksT A B) :=
  kids_of hA hB (fun d => ⟨_, List.mergeSort_perm _ _, by
    have := List.pairwise_mergeSort (le := fun x y : Tx => decide (x ≤ y)) (fun a b c h1 h2 => decide_eq_true (List.le_trans (of_decide_eq_true h1) (of_decide_eq_true h2))) (fun a b => by
      rcases List.le_total a b with e | e
      · simp [e]
      · simp [e]) ((kids d A).map (·.1) ++ (kids d B).map (·.1))
    exact List.Pairwise.imp (fun h => of_decide_eq_true h) this, rfl⟩)
theorem ent_del1 : ∀ args w, (callFunc 122 args).run Tryz.prog w = .ok (.enter 122 args) w := enters_of Tryz.func122 (by kernel_rfl) rfl
set_option maxHeartbeats 1000000 in
set_option maxRecDepth 100000 in
theorem del1_any (x : Mv) (hsh : NdS x) (q : Tx) (bd : Nat) (w : World) (hc : w.cell? ⟨bd, 0, none⟩ = some (.string ⟨q.toArray⟩)) :
    Calls Tryz.prog 122 #[.agg (mcell x), .pointer (some ⟨bd, 0, none⟩)] w fun e w' => e = .returned (.bool (x.1.1 == q)) ∧ Below w.heap.size w w' := by
  obtain ⟨⟨xp, ⟨kind, mode, uid, gid, time, attrs, data, link⟩⟩, av, dv⟩ := x
  obtain ⟨aa, la, ca, ad, ld, cd, e1, e2⟩ := hsh
  dsimp only at e1 e2 ⊢
  subst e1 e2
  have HMC : Keep (mcell ((xp, ⟨kind, mode, uid, gid, time, attrs, data, link⟩), .slice aa la ca, .slice ad ld cd) = #[.string ⟨xp.toArray⟩, .int .i64 kind, .int .u32 mode, .int .u32 uid, .int .u32 gid, .int .i64 time, .slice aa la ca, .slice ad ld cd, .string ⟨link.toArray⟩]) := ⟨rfl⟩
  rw [HMC.out]
  have hlt : bd < w.heap.size := World.block_lt_of_cell? w _ hc
  have HC : Keep (∀ wx, Below w.heap.size w wx → wx.cell? ⟨bd, 0, none⟩ = some (.string ⟨q.toArray⟩)) := ⟨fun wx hb => by rw [hb.cell (p := ⟨bd, 0, none⟩) hlt]; exact hc⟩
  clear hc
  go_enter Tryz.func122, Tryz.ntmps122
  go_upto_region 1 with fail
  refine wp_world (R := fun w1 => Hp NoM w w1 [rowA w.heap.size 41 #[.string ⟨xp.toArray⟩, .int .i64 kind, .int .u32 mode, .int .u32 uid, .int .u32 gid, .int .i64 time, .slice aa la ca, .slice ad ld cd, .string ⟨link.toArray⟩]]) ((Hp.begin NoM w).newRow _ _) ?_
  intro w1 H1
  have hc := HC.out w1 H1.out.below
  have c0 := (H1.out.row 0 rfl).cell (i := 0) rfl
  have HB := Keep.keep H1.out.below
  go_wp2_with fail
  go_ret
  exact ⟨rfl, HB.out⟩
theorem flatF_take {A B : List Mb} {ks : List Tx} {F : Tx → List Mb} {k : Nat} (hk : k < ks.length) : flatF A B (ks.take (k + 1)) F = flatF A B (ks.take k) F ++ oneF A B (F ks[k]) ks[k] := by
  unfold flatF
  rw [List.take_succ_eq_append_getElem hk, List.flatMap_append]
  simp
end Go.Proofs.YtmnknmpfkjhgbaaGreatDoor
/- As in DfBelow, with nodes whose slices are rows of their types (printed by gen_o.py). -/
namespace Go.Proofs.YtmnknmpfkjhgbaaGreatDoor
open Go.RowKit
set_option maxHeartbeats 8000000 in
set_option maxRecDepth 100000 in
theorem below_anyO (d : TD) (F : Tx → List Mb) (dir : Tx) (T : Nat) (w : World) (hT : Tabs T w) (_hA : WellL d.A) (hB : WellL d.B) (hLA : d.A.length ≤ 100000) (hLB : d.B.length ≤ 100000) (hdl : dir.length ≤ 400000) (hdir : dir = [] ∨ dirB d.B dir = true) (hF : ∀ c, (F c).length ≤ 1 + d.B.length) (h : TInO w d)
    (hone : ∀ c ∈ ksT d.A d.B dir, ∀ wx, Below w.heap.size w wx → Calls Tryz.prog 119 #[.string ⟨c.toArray⟩, .pointer (some ⟨d.ba, 0, none⟩), .pointer (some ⟨d.bb, 0, none⟩), .pointer (some ⟨d.bw, 0, none⟩)] wx (BelAnsO d (oneF d.A d.B (F c) c) wx)) :
    Calls Tryz.prog 120 #[.string ⟨dir.toArray⟩, .pointer (some ⟨d.ba, 0, none⟩), .pointer (some ⟨d.bb, 0, none⟩), .pointer (some ⟨d.bo, 0, none⟩)] w (BelAnsO d (bodyF d.A d.B (ksT d.A d.B dir) F dir) w) := by
  have HT := Keep.keep hT
  have HON : Keep (∀ wx, Below w.heap.size w wx → TInO wx d) := ⟨fun wx hb => h.below hb⟩
  have HLT : Keep (∀ b, d.Na b ∨ d.Nb b ∨ d.Bk b → b < w.heap.size) := ⟨h.lt⟩
  have HONE := Keep.keep hone
  have hlt4 : d.ba < w.heap.size ∧ d.bb < w.heap.size ∧ d.bo < w.heap.size := ⟨h.ra.lt, h.rb.lt, h.ro.lt⟩
  obtain ⟨MA, hma, hra⟩ := h.sa.names
  obtain ⟨MB, hmb, hrb⟩ := h.sb.names
  obtain ⟨Y, hmy, hy⟩ := h.sb.many
  obtain ⟨vA, hvA⟩ : ∃ v, (SM.look MA dir).getD nilV = v := ⟨_, rfl⟩
  obtain ⟨vB, hvB⟩ : ∃ v, (SM.look MB dir).getD nilV = v := ⟨_, rfl⟩
  have hrA := hra dir
  have hrB := hrb dir
  rw [hvA] at hrA
  rw [hvB] at hrB
  have HLA : Keep (∀ wx, Below w.heap.size w wx → (Instr.lookup 108 (.map (some d.ma)) (.string ⟨dir.toArray⟩) false).run Tryz.prog wx = .ok vA wx) := ⟨fun wx hb => by
    have := (hma.loc (hb.block _ hma.lt)).look1 Tryz.underlying9 Tryz.underlying108 (zeroSt wx) (p := dir) (by unfold maxLen; omega)
    rw [hvA] at this; exact this⟩
  have HLB : Keep (∀ wx, Below w.heap.size w wx → (Instr.lookup 108 (.map (some d.mb)) (.string ⟨dir.toArray⟩) false).run Tryz.prog wx = .ok vB wx) := ⟨fun wx hb => by
    have := (hmb.loc (hb.block _ hmb.lt)).look1 Tryz.underlying9 Tryz.underlying108 (zeroSt wx) (p := dir) (by unfold maxLen; omega)
    rw [hvB] at this; exact this⟩
  have HLY : Keep (∀ wx, Below w.heap.size w wx → (Instr.lookup 73 (.map (some d.yb)) (.string ⟨dir.toArray⟩) false).run Tryz.prog wx = .ok (.int .i64 ((cntM d.B dir : Nat) : Int)) wx) := ⟨fun wx hb => by
    have := (hmy.loc (hb.block _ hmy.lt)).look1 Tryz.underlying9 Tryz.underlying73 (zeroI wx) (p := dir) (by unfold maxLen; omega)
    rw [hy dir] at this; exact this⟩
  have hkA : ((kids dir d.A).map (·.1)).length ≤ 100000 := by
    rw [List.length_map]; unfold kids; exact Nat.le_trans (List.length_filter_le _ _) hLA
  have hkB : ((kids dir d.B).map (·.1)).length ≤ 100000 := by
    rw [List.length_map]; unfold kids; exact Nat.le_trans (List.length_filter_le _ _) hLB
  have HBO : Keep (∀ wx, Below w.heap.size w wx → Calls Tryz.prog 121 #[vA, vB] wx fun e w' => ∃ v, e = .returned v ∧ OwnS w' wx.heap.size v (ksT d.A d.B dir) ∧ Below wx.heap.size wx w') :=
    ⟨fun wx hb => both_any vA vB _ _ wx ((hrA.below hb (fun b hb' => h.lt b (.inl hb'))).mono (fun b hb' => Nat.lt_of_lt_of_le (h.lt b (.inl hb')) hb.size)) ((hrB.below hb (fun b hb' => h.lt b (.inr (.inl hb')))).mono (fun b hb' => Nat.lt_of_lt_of_le (h.lt b (.inr (.inl hb'))) hb.size)) (by omega) (by omega)⟩
  have HKL : Keep ((ksT d.A d.B dir).length ≤ 200000 ∧ ∀ c ∈ ksT d.A d.B dir, True) := ⟨by
    unfold ksT
    refine Nat.le_trans (compact_len _) ?_
    rw [List.length_mergeSort, List.length_append]; omega, fun _ _ => trivial⟩
  have HCN := Keep.keep (cnt_dir hB hdir)
  have hcb : cntM d.B dir ≤ 1000000 := by
    have h1 := cnt_all (fun q hq => hB.path hq) dir
    have h2 := List.countP_le_length (p := fun q : Mb => q.1 == dir) (l := d.B)
    have h3 := List.countP_le_length (p := fun q : Mb => underP dir q.1) (l := d.B)
    omega
  have HUN : Keep (∀ wx, Below w.heap.size w wx → Calls Tryz.prog 18 #[.pointer (some ⟨d.Tb, 0, none⟩), .string ⟨dir.toArray⟩] wx (BelAnsO d (underL dir d.B) wx)) := ⟨fun wx hb => by
    have ht := h.below hb
    refine (under_own d.Tb d.tb d.Bk d.f d.B dir wx hLB hdl ht.tr ⟨ht.tr.row.lt, ht.tr.map.lt, fun b hb => ht.lt b (.inr (.inr hb))⟩).mono ?_
    rintro e w' ⟨v, l, rfl, hl, ho, hb'⟩
    exact ⟨v, l, rfl, hl, RowO.ofOwn ho _, hb'⟩⟩
  have HMK : Keep (∀ wx, Below w.heap.size w wx → Calls Tryz.prog 16 #[.string ⟨dir.toArray⟩] wx fun e w' => e = .returned (.agg (mbC (mkM dir) nilV nilV)) ∧ Below wx.heap.size wx w') := ⟨fun wx hb => dmark_any dir (by omega) T wx (Nat.le_trans hT.b hb.size) (hT.m.on (hb.mono hT.b))⟩
  have HONL : Keep (∀ c, (oneF d.A d.B (F c) c).length ≤ 300000) := ⟨fun c => by
    have := one_len d.A d.B (F c) c
    have := hF c
    omega⟩
  have HBY : Keep (bodyF d.A d.B (ksT d.A d.B dir) F dir = if (flatF d.A d.B (ksT d.A d.B dir) F).length ≤ 1 + d.B.countP (fun q => underP dir q.1) then flatF d.A d.B (ksT d.A d.B dir) F else d.B.filter (fun q => underP dir q.1) ++ [mkM dir]) := ⟨rfl⟩
  have HFL : Keep ((underL dir d.B).filter (fun m => !(m.1 == dir)) = d.B.filter (fun q => underP dir q.1)) := ⟨by
    unfold underL
    rw [List.filter_filter]
    refine List.filter_congr (fun x _ => ?_)
    unfold hitU
    by_cases e : x.1 = dir
    · rw [e]
      have : underP dir dir = false := by
        cases hu : underP dir dir with
        | false => rfl
        | true => exact (under_asym hu hu).elim
      simp [this]
    · have : (x.1 == dir) = false := by simpa using e
      simp [this]⟩
  obtain ⟨aA, cA, hvA2, -⟩ := hrA.shape
  obtain ⟨aB, cB, hvB2, -⟩ := hrB.shape
  generalize ((kids dir d.A).map (·.1)).length = nA at *
  generalize ((kids dir d.B).map (·.1)).length = nB at *
  have ca1 : Keep (∀ wx, Below w.heap.size w wx → wx.cell? ⟨d.ba, 1, none⟩ = some (.map (some d.ma)) ∧ wx.cell? ⟨d.bb, 1, none⟩ = some (.map (some d.mb)) ∧ wx.cell? ⟨d.bb, 2, none⟩ = some (.map (some d.yb)) ∧ wx.cell? ⟨d.bb, 3, none⟩ = some (.func (.func 18) #[.pointer (some ⟨d.Tb, 0, none⟩)] #[]) ∧ wx.cell? ⟨d.bo, 0, none⟩ = some (.func (.func 119) #[] #[.pointer (some ⟨d.ba, 0, none⟩), .pointer (some ⟨d.bb, 0, none⟩), .pointer (some ⟨d.bw, 0, none⟩)])) := ⟨fun wx hb => by
    have ht := h.below hb
    exact ⟨ht.ra.cell rfl, ht.rb.cell rfl, ht.rb.cell rfl, ht.rb.cell rfl, ht.ro.cell rfl⟩⟩
  have hent1 := ent_undf
  have hent3 := ent_one
  clear hone h hma hra hmb hrb hmy hy hrA hrB hvA hvB hT hB hF
  subst hvA2 hvB2
  generalize bodyF d.A d.B (ksT d.A d.B dir) F dir = out at *
  generalize ksT d.A d.B dir = ks at *
  obtain ⟨qw, kw, hqw⟩ := signM_cells (opaqueP dir)
  have HMC : Keep (mbC (mkM dir) nilV nilV = #[.string ⟨qw.toArray⟩, .int .i64 kw, .int .u32 0, .int .u32 0, .int .u32 0, .int .i64 0, .slice none 0 0, .slice none 0 0, .string ⟨#[]⟩]) := ⟨hqw⟩
  rw [HMC.out] at HMK
  obtain ⟨cc, hcc⟩ : ∃ c, cntM d.B dir = c := ⟨_, rfl⟩
  rw [hcc] at HLY HCN hcb
  obtain ⟨cP, hcP⟩ : ∃ c, 1 + d.B.countP (fun q => underP dir q.1) = c := ⟨_, rfl⟩
  rw [hcP] at HCN HBY
  obtain ⟨nk, hnk⟩ : ∃ n, ks.length = n := ⟨_, rfl⟩
  have HNK := Keep.keep hnk
  have hnkb : nk ≤ 200000 := by rw [← hnk]; exact HKL.out.1
  clear hqw hcc hcP hnk
  go_enter Tryz.func120, Tryz.ntmps120
  go_upto_region 1 with fail
  refine wp_world (R := fun w1 => Hp NoM w w1 [rowA w.heap.size 9 #[.string ⟨dir.toArray⟩]]) ((Hp.begin NoM w).newRow _ _) ?_
  intro w1 H1
  have hla := HLA.out w1 H1.out.below
  have hlb := HLB.out w1 H1.out.below
  have cd := (H1.out.row 0 rfl).cell (i := 0) rfl
  obtain ⟨c1, c2, c3, c4, c5⟩ := ca1.out w1 H1.out.below
  go_wp2_with fail
  refine (HBO.out w1 H1.out.below).mono ?_
  rintro e w2 ⟨v19, rfl, ho19, hb2⟩
  have H2 := Keep.keep ((H1.out.push (slA w1.heap.size 9 1 v19 ks.length (ks.map strV)) (.of_below hb2) ho19 (fun b hb => World.ownsRow.lt ho19 b hb)).nilS w.heap.size 41 9)
  rw [HNK.out] at H2
  obtain ⟨a19, c19, hv19, -⟩ := (ownsV_reads ho19).shape
  rw [HNK.out] at hv19
  clear ho19 hb2 HBO hla hlb cd c1 c2 c3 c4 c5 HLA HLB H1
  subst hv19
  go_wp2_with fail
  go_loopg [6, 8, 21] nk (fun g u6 _ u21 wx => ∃ (k : Nat) (acc : List Mv), k + g = nk ∧ u21 = .int .i64 (k : Int) ∧ acc.map (·.1) = flatF d.A d.B (ks.take k) F ∧ acc.length ≤ k * 300000 ∧ RowO w.heap.size d.Nb wx u6 acc ∧ Hp NoM w wx [rowA w.heap.size 9 #[.string ⟨dir.toArray⟩], slA w1.heap.size 9 1 (.slice a19 nk c19) nk (ks.map strV), slA w.heap.size 41 9 u6 acc.length (mcells acc)])
  case atStart => exact ⟨0, [], by omega, rfl, rfl, Nat.zero_le _, RowO.nil _ _ _, H2.out⟩
  case round =>
    obtain ⟨k, acc, hkg, rfl, hmap, hal, hrow, hH⟩ := hrel
    have HM := Keep.keep hmap; have HR := Keep.keep hrow; have HH := Keep.keep hH
    obtain ⟨a6, c6, hv6, -⟩ := (ownsV_reads hrow.own).shape
    obtain ⟨n6, hn6⟩ : ∃ n, acc.length = n := ⟨_, rfl⟩
    have HN6 := Keep.keep hn6
    rw [hn6] at hv6 HH hal
    clear hmap hrow hH hn6 H2
    subst hv6
    cases gk with
    | zero =>
      obtain rfl : k = nk := by omega
      have HACC : Keep (acc.map (·.1) = flatF d.A d.B ks F) := ⟨by rw [HM.out, List.take_of_length_le (by rw [HNK.out]; exact Nat.le_refl _)]⟩
      have hb := HH.out.below
      obtain ⟨c1, c2, c3, c4, c5⟩ := ca1.out wr hb
      have cd := (HH.out.row 0 rfl).cell (i := 0) rfl
      have hly := HLY.out wr hb
      have HLEN : Keep ((flatF d.A d.B ks F).length = n6) := ⟨by rw [← HACC.out, List.length_map]; exact HN6.out⟩
      rw [HLEN.out] at HBY
      have HWB := Keep.keep hb
      clear c1 c2 c5 hb
      by_cases hz : dir = []
      focus
        have he : dir.isEmpty = true := by rw [hz]; rfl
        have HCC : Keep (1 + cc = cP) := ⟨by have := HCN.out; rw [if_pos hz] at this; exact this⟩
        clear hz
        cases hd : decide (n6 ≤ cP)
        case true =>
          have hle := of_decide_eq_true hd
          have HO : Keep (out = flatF d.A d.B ks F) := ⟨by rw [HBY.out, if_pos hle]⟩
          have hcP := HCC.out
          have g1 : decide ((n6 : Int) ≤ 1 + (cc : Int)) = true := decide_eq_true (by omega)
          clear hd hle hcP
          go_wp2_with fail
          go_ret
          exact ⟨_, acc, rfl, by rw [HO.out]; exact HACC.out, HR.out, HWB.out⟩
        have hle := of_decide_eq_false hd
        have HO : Keep (out = d.B.filter (fun q => underP dir q.1) ++ [mkM dir]) := ⟨by rw [HBY.out, if_neg hle]⟩
        have hcP := HCC.out
        have g1 : decide ((n6 : Int) ≤ 1 + (cc : Int)) = false := decide_eq_false (by omega)
        clear hd hle hcP
        go_upto_region 12 with fail
      rotate_left
      focus
        have he : dir.isEmpty = false := by simpa using hz
        have HCC : Keep (cc = cP) := ⟨by have := HCN.out; rw [if_neg hz] at this; exact this⟩
        clear hz
        cases hd : decide (n6 ≤ cP)
        case true =>
          have hle := of_decide_eq_true hd
          have HO : Keep (out = flatF d.A d.B ks F) := ⟨by rw [HBY.out, if_pos hle]⟩
          have hcP := HCC.out
          have g1 : decide ((n6 : Int) ≤ 1 + (cc : Int) - 1) = true := decide_eq_true (by omega)
          have g2 : decide (n6 ≤ cc) = true := decide_eq_true (by omega)
          clear hd hle hcP
          go_wp2_with fail
          go_ret
          exact ⟨_, acc, rfl, by rw [HO.out]; exact HACC.out, HR.out, HWB.out⟩
        have hle := of_decide_eq_false hd
        have HO : Keep (out = d.B.filter (fun q => underP dir q.1) ++ [mkM dir]) := ⟨by rw [HBY.out, if_neg hle]⟩
        have hcP := HCC.out
        have g1 : decide ((n6 : Int) ≤ 1 + (cc : Int) - 1) = false := decide_eq_false (by omega)
        have g2 : decide (n6 ≤ cc) = false := decide_eq_false (by omega)
        clear hd hle hcP
        go_upto_region 12 with fail
      all_goals
        go_wp2_with fail
        refine (HUN.out wr HWB.out).mono ?_
        rintro e w5 ⟨v5, l5, rfl, hl5, hr5, hb5⟩
        have HL5 := Keep.keep hl5
        have HW5 := Keep.keep (HWB.out.trans (hb5.mono HWB.out.size))
        have HR5 := Keep.keep (hr5.lower HWB.out.size (fun b hb => hb))
        have HLO : Keep (∀ b, v5.ownBlock = some b → wr.heap.size ≤ b) := ⟨fun b hb => (hr5.lt hb).1⟩
        have HBD : Keep (Row w5 w.heap.size 9 #[.string ⟨dir.toArray⟩] ∧ w.heap.size < wr.heap.size) := ⟨(HH.out.row 0 rfl).below hb5 (HH.out.row 0 rfl).lt, (HH.out.row 0 rfl).lt⟩
        have hn5 : l5.length ≤ 100000 := by
          rw [← List.length_map (f := fun x : Mv => x.1), hl5]
          exact Nat.le_trans (List.length_filter_le _ _) hLB
        have HDF := Keep.keep (dfuncMO 122 #[.pointer (some ⟨w.heap.size, 0, none⟩)] (fun m => m.1 == dir) v5 l5 w.heap.size d.Nb w5 ent_del1 HW5.out.size (by omega) (fun wx hch x hx => by
          have := del1_any x (HR5.out.nd x hx).shape dir w.heap.size wx (by
            rw [hch.cell (p := ⟨w.heap.size, 0, none⟩) HBD.out.1.lt (fun e => by have := HLO.out w.heap.size e; have := HBD.out.2; omega)]
            exact HBD.out.1.cell rfl)
          simpa using this) HR5.out)
        obtain ⟨a5, c5, hv5, -⟩ := (ownsV_reads hr5.own).shape
        generalize l5.length = n5 at hv5
        clear hl5 hr5 hb5 c3 c4 cd hly HH HM HR
        subst hv5
        have cd := HBD.out.1.cell (i := 0) rfl
        go_wp2_with fail
        refine HDF.out.mono ?_
        rintro e w6 ⟨v6, rfl, hr6, ho6, hc6⟩
        have HR6 := Keep.keep hr6
        have HW6 : Keep (Below w.heap.size w w6) := ⟨HW5.out.trans ((hc6.lower HW5.out.size).below (fun b hb e => by have := HLO.out _ e; have := HBD.out.2; omega))⟩
        have HBD6 : Keep (Row w6 w.heap.size 9 #[.string ⟨dir.toArray⟩]) := ⟨HBD.out.1.chg hc6 HBD.out.1.lt (fun e => by have := HLO.out _ e; have := HBD.out.2; omega)⟩
        obtain ⟨a6', c6', hv6, -⟩ := (ownsV_reads hr6.own).shape
        have HL6 : Keep ((l5.filter fun x => !(x.1.1 == dir)).map (·.1) = d.B.filter (fun q => underP dir q.1)) := ⟨by
          rw [← HFL.out, ← HL5.out, List.filter_map]; rfl⟩
        have hn6' : (l5.filter fun x => !(x.1.1 == dir)).length ≤ 100000 := Nat.le_trans (List.length_filter_le _ _) hn5
        generalize (l5.filter fun x => !(x.1.1 == dir)) = l6 at *
        generalize hnl6 : l6.length = n6' at hv6
        have HNL6 := Keep.keep hnl6
        clear hr6 ho6 hc6 HDF cd hnl6 HBD HR5
        subst hv6
        have cd := HBD6.out.cell (i := 0) rfl
        go_wp2_with fail
        refine (HMK.out w6 HW6.out).mono ?_
        rintro e w7 ⟨rfl, hb7⟩
        have HR7 := Keep.keep (HR6.out.below hb7)
        have HW7 := Keep.keep (HW6.out.trans (hb7.mono HW6.out.size))
        clear hb7 cd HBD6 HR6
        go_wp2_with (with_reducible refine arm_stop ?_)
        refine Stopped.out ?_
        have hal : Below w7.heap.size w7 (w7.alloc (.cells #[.string ⟨qw.toArray⟩, .int .i64 kw, .int .u32 0, .int .u32 0, .int .u32 0, .int .i64 0, .slice none 0 0, .slice none 0 0, .string ⟨#[]⟩] 41)) := (Below.refl _ _).alloc (Nat.le_refl _) _
        have hrA := HR7.out.below hal
        have hs7 := HW7.out.size
        have hmN : MbsO (w7.alloc (.cells #[.string ⟨qw.toArray⟩, .int .i64 kw, .int .u32 0, .int .u32 0, .int .u32 0, .int .i64 0, .slice none 0 0, .slice none 0 0, .string ⟨#[]⟩] 41)) (fun _ => True) d.Nb (.slice (some ⟨w7.heap.size, 0, none⟩) 1 1) [((mkM dir, nilV, nilV) : Mv)] := ⟨by
          have := RdV.new (w := w7) (N := fun _ => True) 41 (mcells [((mkM dir, nilV, nilV) : Mv)]) 9 1 w7.heap.size rfl rfl (by unfold maxLen; omega) trivial
          have hmc : (mcells [((mkM dir, nilV, nilV) : Mv)]).toArray = #[.string ⟨qw.toArray⟩, .int .i64 kw, .int .u32 0, .int .u32 0, .int .u32 0, .int .i64 0, .slice none 0 0, .slice none 0 0, .string ⟨#[]⟩] := by
            rw [mcells_cons]
            show (mcell ((mkM dir, nilV, nilV) : Mv)).toList.toArray = _
            exact HMC.out
          rw [hmc] at this
          exact this, fun y hy => by
          obtain rfl : y = ((mkM dir, nilV, nilV) : Mv) := by simpa using hy
          exact ndO_nil (by unfold mkM signM; split <;> rfl) (by unfold mkM signM; split <;> rfl)⟩
        refine arm_appMO (B := w.heap.size) hrA (Nat.le_trans hs7 hal.size) hmN (fun b hb => ⟨.inl hb, by have := HLT.out b (.inr (.inl hb)); have := hal.size; omega, fun e => by have := (hrA.lt e).1; have := HLT.out b (.inr (.inl hb)); omega⟩) (by rw [List.length_singleton]; omega) rfl rfl ?_
        intro v8 w8 hr8 hg8 hov8 hsh8
        obtain ⟨a8, c8, rfl⟩ := hsh8
        have HR8 := Keep.keep hr8
        have HB8 : Keep (Below w.heap.size w w8) := ⟨(HW7.out.trans (hal.mono HW7.out.size)).trans (hrA.chg (Nat.le_trans hs7 hal.size) hg8)⟩
        clear hr8 hg8 hov8 hmN hrA hal
        simp only [Act.put, List.setIfInBounds_toArray, List.set_cons_succ, List.set_cons_zero]
        go_wp2_with fail
        go_ret
        exact ⟨_, _, rfl, by rw [List.map_append, HL6.out, HO.out]; rfl, HR8.out, HB8.out⟩
    | succ g =>
      have hk : k < ks.length := by rw [HNK.out]; omega
      have hb := HH.out.below
      obtain ⟨c1, c2, c3, c4, c5⟩ := ca1.out wr hb
      have ho19 := HH.out.sl 1 rfl
      obtain ⟨g19, rfl⟩ : ∃ g, a19 = some ⟨g, 0, none⟩ := by
        rcases ho19.2 with ⟨_, h0⟩ | ⟨g, cap, cur, h, _⟩
        · omega
        · injection h with h; exact ⟨g, h⟩
      have hcell := (ownsV_reads ho19).cell g19 0 _ _ rfl k (strV ks[k]) (by simp [hk])
      have HC := Keep.keep (HONE.out ks[k] (List.getElem_mem hk) wr hb)
      have HTK := Keep.keep (flatF_take (A := d.A) (B := d.B) (F := F) hk)
      have hol := HONL.out ks[k]
      generalize oneF d.A d.B (F ks[k]) ks[k] = of1 at *
      generalize ks[k] = cq at *
      unfold strV at hcell
      rw [Nat.zero_add] at hcell
      clear hb c1 c2 c3 c4 ho19
      go_wp2_with fail
      refine HC.out.mono ?_
      rintro e w3 ⟨v3, l3, rfl, hl3, hr3, hb3⟩
      have HL3 := Keep.keep hl3; have HR3 := Keep.keep hr3
      have HH3 := Keep.keep (HH.out.call hb3)
      have HRA := Keep.keep (HR.out.below hb3)
      have HRLT := Keep.keep (fun b e => (HR.out.lt (b := b) e))
      have hn3 : l3.length ≤ 300000 := by rw [← List.length_map (f := fun x : Mv => x.1), hl3]; exact hol
      obtain ⟨a3, c3, hv3, -⟩ := (ownsV_reads hr3.own).shape
      have hsw := HH.out.size
      have hs3 := hb3.size
      clear hl3 hr3 hb3 HC hcell c5 HR HH
      subst hv3
      go_wp2_with (with_reducible refine arm_stop ?_)
      refine Stopped.out ?_
      have hkb : k * 300000 ≤ 200000 * 300000 := Nat.mul_le_mul_right _ (by omega)
      refine arm_appMO (B := w.heap.size) HRA.out (Nat.le_trans hsw hs3) HR3.out.mbso (fun b hb => ⟨?_, hb.2.1, fun e => ?_⟩) (by rw [HN6.out]; omega) rfl rfl ?_
      · rcases hb.1 with h | h
        · exact .inl h
        · exact .inr (by omega)
      · have h1 := HRLT.out b e
        rcases hb.1 with h | h
        · have := HLT.out b (.inr (.inl h)); omega
        · omega
      intro v4 w4 hr4 hg4 hov4 hsh4
      have H4 := Keep.keep (HH3.out.grow 2 rfl hg4 hr4.own hov4)
      obtain ⟨a4, c4, rfl⟩ := hsh4
      have HR4 := Keep.keep hr4
      clear hr4 hg4 hov4 HH3 HRA
      simp only [Act.put, List.setIfInBounds_toArray, List.set_cons_succ, List.set_cons_zero]
      rw [HN6.out]
      go_wp2_with fail
      go_roundg g
      case measure => omega
      case rel =>
        refine ⟨k + 1, acc ++ l3, by omega, by simp, by rw [List.map_append, HM.out, HTK.out, HL3.out], ?_, ?_, ?_⟩
        · rw [List.length_append, HN6.out]; omega
        · have := HR4.out; rw [HN6.out] at this; exact this
        · have := H4.out; rw [HN6.out] at this; exact this
end Go.Proofs.YtmnknmpfkjhgbaaGreatDoor
/- A REGION THAT DRAWS ITS ORDER, ONE OPERATION OF WHICH CHANGES THE MEMORY, and so does the last one, which waits for all others: one fact an operation; what is known of slots and memory before that operation and behind it. -/
namespace Go.Proofs.YtmnknmpfkjhgbaaGreatDoor
open Go.RowKit
theorem wp_region_one {P : Program} {ops : Array Oper} {id : Nat} {Q : Exit → Act → World → Prop} {a : Act} {w : World} (n c : Nat) (D : List Nat) (C : Bool → (Nat → Value) → World → Prop) (T : Nat → Value → World → Prop) (St : World → World → Prop) (hm : P.follows .mixedOrders = true)
    (hsz : ops.size = n + 1) (hlen : D.length = n) (hnd : D.Nodup) (hds : ∀ d ∈ D, d < a.tmps.size) (hB : inOrderB ops = true) (hlast : ((List.range n).all fun i => Region.waitsFor .any ops n i) = true) (hcn : c < n) (h0 : C false (slot a) w.drew)
    (hst : ∀ i v w w', T i v w → St w w' → T i v w')
    (hs : ∀ i, i < n → i ≠ c → ∀ b a1 w1, Fr a D a1 → C b (slot a1) w1 → (∀ j, j < n → Region.waitsFor .any ops i j = true → T j (slot a1 (D.getD j 0)) w1) →
      wpOp P ops Q i (fun a2 w2 => ∃ v, a2 = a1.put (some (D.getD i 0)) v ∧ C b (slot a2) w2 ∧ St w1 w2 ∧ T i v w2) a1 w1)
    (h1 : ∀ a1 w1, Fr a D a1 → C false (slot a1) w1 → (∀ j, j < n → Region.waitsFor .any ops c j = true → T j (slot a1 (D.getD j 0)) w1) →
      wpOp P ops Q c (fun a2 w2 => ∃ v, a2 = a1.put (some (D.getD c 0)) v ∧ C true (slot a2) w2 ∧ St w1 w2 ∧ T c v w2) a1 w1)
    (he : ∀ a1 w1, a1 = D.foldl (fun b d => b.put (some d) (slot a1 d)) a → C true (slot a1) w1 → (∀ j, j < n → T j (slot a1 (D.getD j 0)) w1) → wpOp P ops Q n (fun a2 w2 => a2 = a1 ∧ Q .normal a2 w2) a1 w1) : (Code.region id ops true).wp P Q a w := by
  have hmem : ∀ i, i < n → D.getD i 0 ∈ D := fun i hi => by
    rw [List.getD_eq_getElem?_getD, List.getElem?_eq_getElem (by omega)]
    exact List.getElem_mem _
  have hinj : ∀ i j, i < n → j < n → D.getD i 0 = D.getD j 0 → i = j := fun i j hi hj h => by
    rw [List.getD_eq_getElem?_getD, List.getD_eq_getElem?_getD, List.getElem?_eq_getElem (by omega), List.getElem?_eq_getElem (by omega)] at h
    exact (List.getElem_inj hnd).1 h
  have hl : ∀ i, i < n → Region.waitsFor .any ops n i = true := fun i hi => List.all_eq_true.1 hlast i (List.mem_range.2 hi)
  refine wp_region_fr D (fun done s w1 => (done.getD n false = true → ∀ a2, Fr a D a2 → slot a2 = s → Q .normal a2 w1) ∧ (done.getD n false = false → C (done.getD c false) s w1 ∧ ∀ j, j < n → done.getD j false = true → T j (s (D.getD j 0)) w1)) hm ⟨fun h => ?_, fun _ => ⟨?_, fun j hj hd => ?_⟩⟩ ?_ ?_
  · rw [Array.getD_eq_getD_getElem?] at h
    simp [show n < ops.size by omega] at h
  · have : (Array.replicate ops.size false).getD c false = false := by
      rw [Array.getD_eq_getD_getElem?]; simp [show c < ops.size by omega]
    rw [this]; exact h0
  · rw [Array.getD_eq_getD_getElem?] at hd
    simp [show j < ops.size by omega] at hd
  · intro done a1 w1 hF hI hz hcl i hi
    have hlt := ready_lt hi
    have hu : done.getD i false = false := by
      have := (ready_at hi (Array.getElem?_eq_getElem hlt)).1
      rw [Array.getD_eq_getD_getElem?, Array.getElem?_eq_getElem (by omega)] at this ⊢
      exact this
    have hset : ∀ q, q ≠ i → (done.setIfInBounds i true).getD q false = done.getD q false := fun q hq => by
      simp [Array.getD_eq_getD_getElem?, Array.getElem?_setIfInBounds_ne (Ne.symm hq)]
    have hself : (done.setIfInBounds i true).getD i false = true := by
      have : i < done.size := by omega
      simp [Array.getD_eq_getD_getElem?, this]
    have hrdy : ∀ j, Region.waitsFor .any ops i j = true → done.getD j false = true := fun j hj => by
      obtain ⟨e, he1, he2, he3⟩ := waits_of (Array.getElem?_eq_getElem hlt) hj
      have hdn := (ready_at hi (Array.getElem?_eq_getElem hlt)).2 e he1 he2
      rw [he3] at hdn
      exact hdn
    by_cases hin : i = n
    · subst hin
      have hC := hI.2 hu
      have hT : ∀ j, j < i → T j (slot a1 (D.getD j 0)) w1 := fun j hj => hC.2 j hj (hrdy j (hl j hj))
      have hcd : done.getD c false = true := hrdy c (hl c hcn)
      rw [hcd] at hC
      refine wpOp_mono ?_ (he a1 w1 hF.eq hC.1 hT)
      rintro a2 w2 ⟨rfl, hQ⟩
      refine ⟨hF, fun _ a3 hF3 hs3 => ?_, fun h => by rw [hself] at h; cases h⟩
      have e3 := hF3.eq
      rw [hs3] at e3
      rw [e3, ← hF.eq]
      exact hQ
    · have hin' : i < n := by omega
      have hnd' : done.getD n false = false := by
        cases h : done.getD n false with
        | false => rfl
        | true =>
          obtain ⟨e, he1, he2, he3⟩ := waits_of (Array.getElem?_eq_getElem (show n < ops.size by omega)) (hl i hin')
          have := hcl n _ (Array.getElem?_eq_getElem (show n < ops.size by omega)) h e he1 he2
          rw [he3, hu] at this
          cases this
      obtain ⟨hC, hTs⟩ := hI.2 hnd'
      have hT : ∀ j, j < n → Region.waitsFor .any ops i j = true → T j (slot a1 (D.getD j 0)) w1 := fun j hj hw => hTs j hj (hrdy j hw)
      have fin : ∀ b, (done.setIfInBounds i true).getD c false = b → ∀ a2 w2, (∃ v, a2 = a1.put (some (D.getD i 0)) v ∧ C b (slot a2) w2 ∧ St w1 w2 ∧ T i v w2) → Fr a D a2 ∧ ((done.setIfInBounds i true).getD n false = true → ∀ a3, Fr a D a3 → slot a3 = slot a2 → Q .normal a3 w2) ∧
          ((done.setIfInBounds i true).getD n false = false → C ((done.setIfInBounds i true).getD c false) (slot a2) w2 ∧ ∀ j, j < n → (done.setIfInBounds i true).getD j false = true → T j (slot a2 (D.getD j 0)) w2) := by
        rintro b hb a2 w2 ⟨v, rfl, hC2, hSt, hTv⟩
        refine ⟨hF.put _ (hmem i hin') v, fun h => ?_, fun _ => ⟨by rw [hb]; exact hC2, fun j hj hd => ?_⟩⟩
        · rw [hset n (Ne.symm hin), hnd'] at h; cases h
        · by_cases e : i = j
          · subst e
            rw [slot_put_same _ _ _ (by rw [hF.size]; exact hds _ (hmem i hin'))]
            exact hTv
          · rw [hset j (Ne.symm e)] at hd
            rw [slot_put_ne _ _ _ _ (fun e2 => e (hinj i j hin' hj e2))]
            exact hst j _ _ _ (hTs j hj hd) hSt
      by_cases hic : i = c
      · subst hic
        rw [hu] at hC
        exact wpOp_mono (fin true hself) (h1 a1 w1 hF hC hT)
      · exact wpOp_mono (fin _ (hset c (Ne.symm hic))) (hs i hin' hic _ a1 w1 hF hC hT)
  · intro done a1 w1 ha hI hz hr
    refine hI.1 (all_done hB hz hr n (by omega)) a1 ?_ rfl
    rw [ha]
    have : ∀ (l : List Nat) (b : Act), (∀ d ∈ l, d ∈ D) → Fr a D b → Fr a D (l.foldl (fun b d => b.put (some d) (slot a1 d)) b) := by
      intro l
      induction l with
      | nil => intro b _ hb; exact hb
      | cons d l ih => intro b hd hb; exact ih _ (fun x hx => hd x (by simp [hx])) (hb.put d (hd d (by simp)) _)
    exact this D a (fun d hd => hd) (Fr.refl _ _)
section
variable {P : Program} {ops : Array Oper} {Q : Exit → Act → World → Prop} {C : (Nat → Value) → World → Prop} {T : Value → World → Prop} {St : World → World → Prop} {i d : Nat} {a1 : Act} {w1 w2 : World} {op : Op} {tp : TypeId} {pos : String} {af : Array Edge} {v : Value}
/-- an operation that yields a value at once -/
theorem one_val (hi : ops[i]? = some ⟨some d, op, tp, pos, af, none⟩) (hd : d < a1.tmps.size) (hr : (execOp a1.eval (⟨some d, op, tp, pos, af, none⟩ : Oper)).run P w1 = .ok (.value v) w2)
    (hC : ∀ s : Nat → Value, s d = v → (∀ j, j ≠ d → s j = slot a1 j) → C s w2) (hS : St w1 w2) (hT : T v w2) : wpOp P ops Q i (fun a2 w2 => ∃ v, a2 = a1.put (some d) v ∧ C (slot a2) w2 ∧ St w1 w2 ∧ T v w2) a1 w1 :=
  inv_op (o := ⟨some d, op, tp, pos, af, none⟩) hi rfl hr ⟨v, rfl, hC _ (slot_put_same _ _ _ hd) (fun _j hj => slot_put_ne _ _ _ _ (Ne.symm hj)), hS, hT⟩
/-- the last one, that yields nothing -/
theorem one_last {K : Act → World → Prop} (hi : ops[i]? = some ⟨none, op, tp, pos, af, none⟩) (hr : (execOp a1.eval (⟨none, op, tp, pos, af, none⟩ : Oper)).run P w1 = .ok .skip w2) (hK : K a1 w2) : wpOp P ops Q i K a1 w1 := by
  unfold wpOp
  rw [hi]
  simp only
  rw [if_pos (by simp [Region.wanted])]
  refine .inl ?_
  unfold Oper.wp
  rw [hr]
  exact hK
end
end Go.Proofs.YtmnknmpfkjhgbaaGreatDoor
/- differ.of: a tree's side. -/
namespace Go.Proofs.YtmnknmpfkjhgbaaGreatDoor
open Go.RowKit
/-- region 7: what each operation yields -/
def ofT (mb b3 b5 : Nat) (dir xp : Tx) (vK : Value) : Nat → Value → World → Prop
  | 0, v, _ => v = .pointer (some ⟨b3, 1, none⟩)
  | 1, v, _ => v = .map (some mb)
  | 2, v, _ => v = .string ⟨dir.toArray⟩
  | 3, v, _ => v = .pointer (some ⟨b3, 1, none⟩)
  | 4, v, _ => v = .map (some mb)
  | 5, v, _ => v = .string ⟨dir.toArray⟩
  | 6, v, _ => v = vK
  | 7, v, _ => v = .pointer (some ⟨b5, 0, none⟩)
  | 8, v, _ => v = .string ⟨xp.toArray⟩
  | 9, v, w => ∃ bl, v = .slice (some ⟨bl, 0, none⟩) 1 1 ∧ RdV w (fun b => b = bl) 1 v 1 [.string ⟨xp.toArray⟩] ∧ bl < w.heap.size ∧ vK.ownBlock ≠ some bl
  | _, _, _ => True
theorem ofT_stays {mb b3 b5 : Nat} {dir xp : Tx} {vK : Value} (i : Nat) (v : Value) (w w' : World) (h : ofT mb b3 b5 dir xp vK i v w) (hb : Chg (fun j => vK.ownBlock = some j) w.heap.size w w') : ofT mb b3 b5 dir xp vK i v w' := by
  unfold ofT at h ⊢
  split at h
  · exact h
  · exact h
  · exact h
  · exact h
  · exact h
  · exact h
  · exact h
  · exact h
  · exact h
  · obtain ⟨bl, e, h1, h2, h3⟩ := h
    exact ⟨bl, e, h1.chg hb (fun b e => by subst e; exact ⟨h2, h3⟩), Nat.lt_of_lt_of_le h2 hb.size, h3⟩
  · trivial
/-- .. and what is known of the memory, before the append and behind it -/
def ofC (W : World) (b0 : Nat) (vK : Value) (ks : List Tx) : Bool → (Nat → Value) → World → Prop
  | false, _, w => Below W.heap.size W w
  | true, s, w => Chg (fun j => vK.ownBlock = some j) W.heap.size W w ∧ OwnS w b0 (s 41) ks ∧ ((s 41).ownBlock = vK.ownBlock ∨ ∃ g, (s 41).ownBlock = some g ∧ W.heap.size ≤ g)
theorem ofC_chg {W : World} {b0 : Nat} {vK : Value} {ks : List Tx} {b : Bool} {s : Nat → Value} {w : World} (h : ofC W b0 vK ks b s w) : Chg (fun j => vK.ownBlock = some j) W.heap.size W w := by
  cases b with
  | false => exact .of_below h
  | true => exact h.1
theorem ofC_on {W : World} {b0 : Nat} {vK : Value} {ks : List Tx} {b : Bool} {s s' : Nat → Value} {w w' : World} (h : ofC W b0 vK ks b s w) (hs : s' 41 = s 41) (hb : Below w.heap.size w w') : ofC W b0 vK ks b s' w' := by
  cases b with
  | false => exact (show Below W.heap.size W w from h).trans (hb.mono (show Below W.heap.size W w from h).size)
  | true =>
    obtain ⟨h1, h2, h3⟩ := h
    exact ⟨h1.trans ((Chg.of_below hb).lower h1.size), by rw [hs]; exact ownsRow_loc _ _ (fun b e => hb.block b (World.ownsRow.lt h2 b e).2) h2, by rw [hs]; exact h3⟩
theorem keysM_len (m : Mb) : (keysM m).length ≤ m.1.length + 2 := by
  unfold keysM
  rw [List.length_cons, List.length_append, List.length_singleton]
  have := abvT_len m.1 m.1.length
  rw [abvT_all] at this
  omega
theorem flat_take {L : List Mb} {k : Nat} (hk : k < L.length) : (L.take (k + 1)).flatMap keysM = (L.take k).flatMap keysM ++ keysM L[k] := by
  rw [List.take_succ_eq_append_getElem hk, List.flatMap_append]
  simp
theorem flatk_len {L : List Mb} (h : ∀ m ∈ L, m.1.length ≤ 400000) : (L.flatMap keysM).length ≤ L.length * 400002 := by
  induction L with
  | nil => simp
  | cons m L ih =>
    rw [List.flatMap_cons, List.length_append, List.length_cons]
    have h1 := keysM_len m
    have h2 := h m (by simp)
    have h3 := ih (fun x hx => h x (by simp [hx]))
    omega
theorem NamesIn.made (w : World) (base : Nat) : NamesIn (w.alloc (.map #[] 0)) base w.heap.size [] [] :=
  ⟨MapS.made w, fun d v h => by simp [SM.look] at h, fun _ _ => rfl, fun d d' v v' b h => by simp [SM.look] at h, fun d v b h => by simp [SM.look] at h⟩
theorem Hp.newNam {M : Nat → Prop} {w wr : World} {ls : List As} (h : Hp M w wr ls) (base : Nat) : Hp M w (wr.alloc (.map #[] 0)) (ls ++ [namA base wr.heap.size [] []]) :=
  h.push _ (.of_below ((Below.refl _ _).alloc (Nat.le_refl _) _)) (NamesIn.made wr base) (fun b hb => by
    rcases hb with hb | ⟨d, v, hd, _⟩
    · subst hb; simp
    · simp [SM.look] at hd)
/-- blocks that stay as they were in W -/
def sameA (N : Nat → Prop) (W : World) : As := ⟨N, fun w => ∀ b, N b → w.heap[b]? = W.heap[b]?, fun _ _ h hp b hb => (h b hb).trans (hp b hb)⟩
end Go.Proofs.YtmnknmpfkjhgbaaGreatDoor
