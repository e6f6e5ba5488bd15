/- PARTS OF ONE PROOF, set in one file: ChangeMay, Nest, Ok, NodeOpen, TreeLaid. Each part tells its own conditions. -/
import Derived.Deep.Slices
import Derived.Deep.SlicePairs
import Derived.Lib.LaidU8
import Derived.LaidHandle
import Derived.LaidSub
import Derived.PinnedBridge
import Derived.Deep.DeepWitnessRowRef
import Derived.Test.YtplafpokgpolkaaGreatDoorY3
/- portolanlaw19.ChangeMay. -/
namespace Go.Proofs.YtplafpokgpolkaaGreatDoor
open Go.RowKit
section
variable {ρ : Operand → Value} {d : Option Tmp} {x y : Operand} {t t1 : TypeId} {pos : String} {af : Array Edge} {g : Option (Nat × Bool)} {w : World}
theorem run_addI {a b : Int} (hx : ρ x = .int .i64 a) (hy : ρ y = .int .i64 b) (h : -9223372036854775808 ≤ a + b ∧ a + b < 9223372036854775808) : (execOp ρ (⟨d, .binOp .add 3 x y t1, t, pos, af, g⟩ : Oper)).run Tryz.prog w = .ok (.value (.int .i64 (a + b))) w := by
  simp [go_sem, execOp, hx, hy]
  rw [IntKind.wrap_i64]
  omega
end
/-- what is said of each operation of Delete's region -/
def dlT (B : Nat) (sl : Value) (n k : Nat) (l : List Mv) : Nat → Value → World → Prop
  | 0, v, _ => v = sl
  | 1, v, w => ∃ g c, v = .slice (some ⟨g, 0, none⟩) n c ∧ RowM B (· < B) w v l
  | 2, v, _ => v = .int .i64 (k : Int)
  | 3, v, _ => v = .int .i64 (k : Int)
  | 4, v, _ => v = .int .i64 ((k : Int) + 1)
  | _, _, _ => True
theorem dlT_stays {B : Nat} {sl : Value} {n k : Nat} {l : List Mv} : ∀ (i : Nat) (v : Value) {w w' : World}, dlT B sl n k l i v w → Below w.heap.size w w' → dlT B sl n k l i v w'
  | 0, _, _, _, h, _ => h
  | 1, _, _, _, ⟨g, c, e, h⟩, hb => ⟨g, c, e, h.below hb⟩
  | 2, _, _, _, h, _ => h
  | 3, _, _, _, h, _ => h
  | 4, _, _, _, h, _ => h
  | _ + 5, _, _, _, h, _ => h
/-- .. of Insert's -/
def inT (B : Nat) (sl : Value) (n k : Nat) (l : List Mv) (pt : Value) (x : Mv) : Nat → Value → World → Prop
  | 0, v, _ => v = sl
  | 1, v, w => ∃ g c, v = .slice (some ⟨g, 0, none⟩) n c ∧ RowM B (· < B) w v l
  | 2, v, _ => v = .int .i64 (k : Int)
  | 3, v, _ => v = sl
  | 4, v, _ => v = .int .i64 (k : Int)
  | 5, v, _ => v = pt
  | 6, v, _ => v = .agg (mcell x)
  | 7, v, w => ∃ b, v = .slice (some ⟨b, 0, none⟩) 1 1 ∧ Row w b 32 (mcell x)
  | _, _, _ => True
theorem inT_stays {B : Nat} {sl : Value} {n k : Nat} {l : List Mv} {pt : Value} {x : Mv} : ∀ (i : Nat) (v : Value) {w w' : World}, inT B sl n k l pt x i v w → Below w.heap.size w w' → inT B sl n k l pt x i v w'
  | 0, _, _, _, h, _ => h
  | 1, _, _, _, ⟨g, c, e, h⟩, hb => ⟨g, c, e, h.below hb⟩
  | 2, _, _, _, h, _ => h
  | 3, _, _, _, h, _ => h
  | 4, _, _, _, h, _ => h
  | 5, _, _, _, h, _ => h
  | 6, _, _, _, h, _ => h
  | 7, _, _, _, ⟨b, e, h⟩, hb => ⟨b, e, h.below hb h.lt⟩
  | _ + 8, _, _, _, h, _ => h
theorem RowM.at0 {B : Nat} {K : Nat → Prop} {w : World} {v : Value} {l : List Mv} (h : RowM B K w v l) (hl : 0 < l.length) : ∃ g c, v = .slice (some ⟨g, 0, none⟩) l.length c := by
  rcases h.own.2 with ⟨h1, h2⟩ | ⟨g', cap', cur, h1, -⟩
  · omega
  · exact ⟨g', cap', h1⟩
theorem swp_list {d0 : Array MvS} {l8 : List Mv} (h : d0.toList.map (·.1) = l8) {k p : Nat} (hk : k < l8.length) (hp : p < l8.length) : (Go.Sort.swp d0 k p).toList.map (·.1) = (l8.set k l8[p]).set p l8[k] := by
  subst h
  rw [List.length_map] at hk hp
  have e1 : d0[k]! = d0.toList[k] := by rw [getElem!_pos d0 k (by simpa using hk)]; simp
  have e2 : d0[p]! = d0.toList[p] := by rw [getElem!_pos d0 p (by simpa using hp)]; simp
  unfold Go.Sort.swp
  rw [e1, e2]
  simp [List.map_set]
theorem turn_may {S : List Mb} {l8 : List Mv} (hS : l8.map (·.1) = S) (h : mayC S = 0) {k p : Nat} (hkp : k = p + 1) (hk : k < l8.length) {d0 : Array MvS} (hd : d0.toList.map (·.1) = l8) :
    (mayC (((Go.Sort.swp d0 k p).toList.map (·.1)).map (·.1)) = 1 ∨ mayC (((Go.Sort.swp d0 k p).toList.map (·.1)).map (·.1)) = 33) ∧ (∀ y ∈ (Go.Sort.swp d0 k p).toList.map (·.1), y ∈ l8) ∧ (Go.Sort.swp d0 k p).size = l8.length ∧ ((Go.Sort.swp d0 k p).toList.map (·.1)).length = l8.length := by
  subst hkp
  have hl := swp_list hd hk (show p < l8.length by omega)
  refine ⟨?_, fun y hy => ?_, ?_, ?_⟩
  · have := may_turned h (k := p) (by rw [← hS, List.length_map]; exact hk)
    rw [hl]
    subst hS
    simpa [List.map_set] using this
  · rw [hl] at hy
    rcases List.mem_or_eq_of_mem_set hy with hy | rfl
    · rcases List.mem_or_eq_of_mem_set hy with hy | rfl
      · exact hy
      · exact List.getElem_mem _
    · exact List.getElem_mem _
  · have := congrArg List.length hl
    simpa using this
  · rw [hl]; simp
theorem wrong_may {S : List Mb} {l8 : List Mv} (hS : l8.map (·.1) = S) (h : mayC S = 0) {k : Nat} {x : Mv} (hk : l8[k]? = some x) (hc : (classP x.1.1).1 ≠ 1) (v : Value) : mayC ((l8.set k (setD x v)).map (·.1)) = 31 := by
  have hkl := (List.getElem?_eq_some_iff.1 hk).1
  have hx : l8[k] = x := (List.getElem?_eq_some_iff.1 hk).2
  have hkS : k < S.length := by rw [← hS, List.length_map]; exact hkl
  have hSk : S[k] = x.1 := by simp only [← hS, List.getElem_map, hx]
  have := may_wrong h (k := k) hkS (by rw [hSk]; exact hc)
  rw [hSk] at this
  rw [List.map_set, hS]
  exact this
theorem sm_setD {x : Mv} (h : Sm x.1) (v : Value) : Sm (setD x v).1 := ⟨h.p, h.l, by simp [setD], h.a, h.n, h.k⟩
set_option maxHeartbeats 16000000 in
set_option maxRecDepth 100000 in
theorem cmay_any (B : Nat) (v1 : Value) (l1 : List Mv) (c : Nat) (hc : c < 256) (w : World) (hT : Tabs B w) (hr1 : Mbs w (· < w.heap.size) (· < w.heap.size) v1 l1) (hk1 : ∀ a ∈ l1, Kb a.1) :
    Calls Tryz.prog 6 #[v1, .int .u8 (c : Int)] w fun e w' => e = .returned (.bool true) ∧ Below w.heap.size w w' := by
  obtain ⟨a1, c1, hv1, -, -, -⟩ := hr1.rd.shape
  have HT := Keep.keep hT
  have HM1 : Keep (MbL w v1 l1) := ⟨hr1⟩
  obtain ⟨S, hS⟩ : ∃ S, grown19 (l1.map (·.1)) = S := ⟨_, rfl⟩
  have HG : Keep (S.length ≤ 280 ∧ ∀ x ∈ S, Sm x) := ⟨by rw [← hS]; exact grown19_len _, by rw [← hS]; exact grown19_sm (fun x hx => by obtain ⟨y, hy, rfl⟩ := List.mem_map.1 hx; exact hk1 y hy)⟩
  have HGE := Keep.keep hS
  clear hT hr1 hk1 hS
  subst hv1
  go_enter Tryz.func6, Tryz.ntmps6
  go_wp2_with fail
  refine (grown19_any _ _ _ HM1.out).mono ?_
  rw [HGE.out]
  rintro e w1 ⟨v8, l8, rfl, hl8, hr8, hb1⟩
  have HL8 : Keep (l8.map (·.1) = S) := ⟨hl8⟩
  have HS8 : Keep (l8.length ≤ 280 ∧ ∀ x ∈ l8, Sm x.1) := ⟨by have := HG.out.1; rw [← hl8, List.length_map] at this; exact this, sm_mapX (by rw [hl8]; exact HG.out.2)⟩
  obtain ⟨a8, c8, hv8, -⟩ := (ownsV_reads hr8.own).shape
  obtain ⟨n, hn⟩ : ∃ n, l8.length = n := ⟨_, rfl⟩
  have HN := Keep.keep hn
  rw [hn] at hv8
  have HR8 := Keep.keep hr8
  have HW1 := Keep.keep hb1
  clear hl8 hr8 hb1 hn HM1 HGE
  subst hv8
  go_upto_region 2 with fail
  refine wp_world (R := fun wq => Hp NoM w1 wq [rowA w1.heap.size 35 #[.slice a8 n c8]]) ((Hp.begin NoM w1).newRow _ _) ?_
  intro w2 H2
  obtain ⟨b5, hb5⟩ : ∃ b, w1.heap.size = b := ⟨_, rfl⟩
  have HW2 := Keep.keep (HW1.out.trans (H2.out.below.mono HW1.out.size))
  have HR82 := Keep.keep (HR8.out.below H2.out.below)
  rw [hb5] at H2 ⊢
  have HB5 := Keep.keep (H2.out.row 0 rfl)
  clear hb5 H2 HR8 HW1
  have c50 := HB5.out.cell (i := 0) rfl
  obtain ⟨cd, hcd⟩ : ∃ cd, mayC S = cd := ⟨_, rfl⟩
  have HCD := Keep.keep hcd
  have HMAY := Keep.keep (chmay_any (.slice a8 n c8) l8 B w2 (HT.out.on (HW2.out.mono HT.out.b)) (MbL.ofRow HR82.out) HS8.out.2 (by have := HS8.out.1; omega))
  rw [HL8.out, HCD.out] at HMAY
  clear hcd
  go_wp2_with fail
  refine HMAY.out.mono ?_
  rintro e w3 ⟨rfl, hb⟩
  have HW3 := Keep.keep (HW2.out.trans (hb.mono HW2.out.size))
  have HR83 := Keep.keep (HR82.out.below hb)
  have HB53 := Keep.keep (HB5.out.below hb HB5.out.lt)
  clear hb HMAY HR82 HB5 HW2 c50
  have c50 := HB53.out.cell (i := 0) rfl
  by_cases hcd : cd = 0
  rotate_left
  focus
    have hcb : (cd == 0) = false := by rw [beq_eq_false_iff_ne]; exact hcd
    go_wp2_with fail
    refine (wakes19_any B w3 (HT.out.on (HW3.out.mono HT.out.b))).mono ?_
    rintro e w4 ⟨rfl, hb⟩
    have HW4 := Keep.keep (HW3.out.trans (hb.mono HW3.out.size))
    clear hb
    go_wp2_with fail
    go_ret
    exact ⟨rfl, HW4.out⟩
  subst hcd
  by_cases hn0 : n = 0
  focus
    have hnb : ((n : Int) == 0) = true := by rw [hn0]; rfl
    go_wp2_with fail
    refine (wakes19_any B w3 (HT.out.on (HW3.out.mono HT.out.b))).mono ?_
    rintro e w4 ⟨rfl, hb⟩
    have HW4 := Keep.keep (HW3.out.trans (hb.mono HW3.out.size))
    clear hb
    go_wp2_with fail
    go_ret
    exact ⟨rfl, HW4.out⟩
  have hnb : ((n : Int) == 0) = false := by rw [beq_eq_false_iff_ne]; omega
  obtain ⟨k, hk⟩ : ∃ i, c % n = i := ⟨_, rfl⟩
  have hkn : k < n := by rw [← hk]; exact Nat.mod_lt _ (by omega)
  have hmod : (c : Int) % (n : Int) = (k : Int) := by rw [← hk]; rfl
  have hn280 : n ≤ 280 := by have := HS8.out.1; have := HN.out; omega
  obtain ⟨g8, rfl⟩ : ∃ g2, a8 = some ⟨g2, 0, none⟩ := by
    obtain ⟨g', c', h1⟩ := HR83.out.at0 (by have := HN.out; omega)
    injection h1 with h1; exact ⟨g', h1⟩
  clear hk
  go_upto_region 5 with fail
  try rw [hmod]
  refine wp_world (R := fun wq => Hp NoM w3 wq [rowA w3.heap.size 3 #[.int .i64 (k : Int)]]) ((Hp.begin NoM w3).newRow _ _) ?_
  intro w4 H4
  obtain ⟨b6, hb6⟩ : ∃ b, w3.heap.size = b := ⟨_, rfl⟩
  have HW4 := Keep.keep (HW3.out.trans (H4.out.below.mono HW3.out.size))
  have HR84 := Keep.keep (HR83.out.below H4.out.below)
  have HB54 := Keep.keep (HB53.out.below H4.out.below HB53.out.lt)
  rw [hb6] at H4 ⊢
  have HB64 := Keep.keep (H4.out.row 0 rfl)
  clear hb6 H4 HR83 HB53 HW3 c50 hmod hnb hn0 hc
  have hnp : 0 < n := by omega
  obtain ⟨m, hm⟩ : ∃ m, n = m + 1 := ⟨n - 1, by omega⟩
  have HMM := Keep.keep hm
  clear hm
  have HML8 : Keep (MbL w4 (.slice (some ⟨g8, 0, none⟩) n c8) l8) := ⟨MbL.ofRow HR84.out⟩
  have HSZ : Keep (l8.length = n ∧ k < l8.length) := ⟨HN.out, by have := HN.out; omega⟩
  refine wp_region_spcT 5 [32, 33, 34, 35, 36] (Below w4.heap.size w4) (dlT w4.heap.size (.slice (some ⟨g8, 0, none⟩) n c8) n k l8) (fun w w' => Below w.heap.size w w') (by kernel_rfl) rfl (by decide) (by show ∀ d ∈ _, d < 111; decide) (by kernel_rfl) (by decide) (by kernel_rfl) (by kernel_rfl) (by kernel_rfl) (Below.refl _ _).drew (fun i v w w' h _ hb => dlT_stays i v h hb) ?_ ?_
  focus
    intro q hq a1 w5 hF hC hT
    have hsz : a1.tmps.size = 111 := hF.size
    have t5 : a1.eval (.tmp 5) = .pointer (some ⟨b5, 0, none⟩) := (hF.same 5 (by decide)).trans rfl
    have t6 : a1.eval (.tmp 6) = .pointer (some ⟨b6, 0, none⟩) := (hF.same 6 (by decide)).trans rfl
    have hkr : Below w5.heap.size w5 w5 := Below.refl _ _
    have cl5 := (HB54.out.below hC HB54.out.lt).cell (i := 0) rfl
    have cl6 := (HB64.out.below hC HB64.out.lt).cell (i := 0) rfl
    rcases (by omega : q = 0 ∨ q = 1 ∨ q = 2 ∨ q = 3 ∨ q = 4) with rfl | rfl | rfl | rfl | rfl
    · exact spcS_val (d := 32) rfl (wanted_none rfl) (run_loadCell (run_isAgg_plain Tryz.underlying35 rfl) cl5 t5) hC hkr rfl
    · have hx : a1.eval (.tmp 32) = .slice (some ⟨g8, 0, none⟩) n c8 := hT 0 (by decide) (by kernel_rfl)
      refine spcS_call (d := 33) (vs := #[.slice (some ⟨g8, 0, none⟩) n c8]) rfl (wanted_none rfl) (Go.Proofs.enters_of Tryz.func22 (by kernel_rfl) rfl) (by simp [hx]) ?_
      refine (clM_own (.slice (some ⟨g8, 0, none⟩) n c8) l8 w5 (· < w4.heap.size) (fun b hb => Nat.lt_of_lt_of_le hb hC.size) ((Mbs.below HML8.out hC (fun _ h => h) (fun _ h => h)).mono (fun b hb => Nat.lt_of_lt_of_le hb hC.size) (fun _ h => h)) (by have := HSZ.out; omega)).mono ?_
      rintro e wz ⟨v', rfl, hrow, hb⟩
      obtain ⟨gg, cc, hv'⟩ := hrow.at0 (by have := HSZ.out; omega)
      rw [HSZ.out.1] at hv'
      exact ⟨_, rfl, hC.trans (hb.mono hC.size), hb, gg, cc, hv', hrow.lower hC.size (fun _ h => h)⟩
    · exact spcS_val (d := 34) rfl (wanted_none rfl) (run_loadCell (run_isAgg_plain Tryz.underlying3 rfl) cl6 t6) hC hkr rfl
    · exact spcS_val (d := 35) rfl (wanted_none rfl) (run_loadCell (run_isAgg_plain Tryz.underlying3 rfl) cl6 t6) hC hkr rfl
    · have hy : a1.eval (.tmp 35) = .int .i64 (k : Int) := hT 3 (by decide) (by kernel_rfl)
      exact spcS_val (d := 36) rfl (wanted_none rfl) (run_addI hy (show _ = Value.int .i64 1 from rfl) (by omega)) hC hkr rfl
  intro a1 w5 ha hC hT
  have t32 : slot a1 32 = .slice (some ⟨g8, 0, none⟩) n c8 := hT 0 (by decide)
  obtain ⟨g1, q1, t33, hrow⟩ : ∃ g c, slot a1 33 = .slice (some ⟨g, 0, none⟩) n c ∧ RowM w4.heap.size (· < w4.heap.size) w5 (slot a1 33) l8 := hT 1 (by decide)
  have t34 : slot a1 34 = .int .i64 (k : Int) := hT 2 (by decide)
  have t35 : slot a1 35 = .int .i64 (k : Int) := hT 3 (by decide)
  have t36 : slot a1 36 = .int .i64 ((k : Int) + 1) := hT 4 (by decide)
  rw [t33] at hrow
  simp only [List.foldl_cons, List.foldl_nil, t32, t33, t34, t35, t36] at ha
  have HROW := Keep.keep hrow
  have HC5 := Keep.keep hC
  clear hT t32 t33 t34 t35 t36 hrow hC
  subst ha
  simp only [List.drop_succ_cons, List.drop_zero]
  simp only [Act.put, List.setIfInBounds_toArray, List.set_cons_succ, List.set_cons_zero]
  go_wp2_with fail
  refine (del_mb w4.heap.size (· < w4.heap.size) g1 q1 k n m l8 w5 HC5.out.size HROW.out (by omega) hkn HMM.out).mono ?_
  rintro e w6 ⟨rfl, hr7, hb⟩
  have HR7 := Keep.keep hr7
  have HB6 := Keep.keep (HC5.out.trans hb)
  clear hr7 hb HROW HC5
  have HW6 := Keep.keep (HW4.out.trans (HB6.out.mono HW4.out.size))
  have HR86 := Keep.keep (HR84.out.below HB6.out)
  have HB56 := Keep.keep (HB54.out.below HB6.out HB54.out.lt)
  have HB66 := Keep.keep (HB64.out.below HB6.out HB64.out.lt)
  have HM7 : Keep (MbL w6 (.slice (some ⟨g1, 0, none⟩) m q1) (l8.take k ++ l8.drop (k + 1))) := ⟨MbL.ofRow HR7.out⟩
  clear HR7 HW4 HR84 HB54 HB64 HML8 HB6
  go_upto_region 6 with fail
  obtain ⟨x, hx8⟩ : ∃ x, x = l8[k]'HSZ.out.2 := ⟨_, rfl⟩
  have HX8 : Keep (l8[k]? = some x) := ⟨by rw [hx8]; exact List.getElem?_eq_getElem HSZ.out.2⟩
  have HXI : Keep (x ∈ l8) := ⟨by rw [hx8]; exact List.getElem_mem _⟩
  have HXN : Keep (NdR w6 (fun b => (b < w.heap.size ∨ w.heap.size ≤ b) ∧ b < w6.heap.size ∧ (Value.slice (some ⟨g8, 0, none⟩) n c8).ownBlock ≠ some b) x.1.2 x.2.1 x.2.2) := ⟨HR86.out.nd x HXI.out⟩
  have HOW : Keep (w6.ownsRow w.heap.size 32 9 (.slice (some ⟨g8, 0, none⟩) n c8) n (mcells l8)) := ⟨by have := HR86.out.own; rw [HSZ.out.1] at this; exact this⟩
  have HXE : Keep (x = l8[k]'HSZ.out.2) := ⟨hx8⟩
  clear hx8
  have HML8 : Keep (MbL w6 (.slice (some ⟨g8, 0, none⟩) n c8) l8) := ⟨MbL.ofRow HR86.out⟩
  refine wp_region_spcT 8 [38, 39, 40, 41, 42, 43, 44, 45] (Below w6.heap.size w6) (inT w6.heap.size (.slice (some ⟨g8, 0, none⟩) n c8) n k l8 (.pointer (some ⟨g8, k * 9, none⟩)) x) (fun w w' => Below w.heap.size w w') (by kernel_rfl) rfl (by decide) (by show ∀ d ∈ _, d < 111; decide) (by kernel_rfl) (by decide) (by kernel_rfl) (by kernel_rfl) (by kernel_rfl) (Below.refl _ _).drew (fun i v w w' h _ hb => inT_stays i v h hb) ?_ ?_
  focus
    intro q hq a1 w7 hF hC hT
    have hsz : a1.tmps.size = 111 := hF.size
    have t5 : a1.eval (.tmp 5) = .pointer (some ⟨b5, 0, none⟩) := (hF.same 5 (by decide)).trans rfl
    have t6 : a1.eval (.tmp 6) = .pointer (some ⟨b6, 0, none⟩) := (hF.same 6 (by decide)).trans rfl
    have hkr : Below w7.heap.size w7 w7 := Below.refl _ _
    have cl5 := (HB56.out.below hC HB56.out.lt).cell (i := 0) rfl
    have cl6 := (HB66.out.below hC HB66.out.lt).cell (i := 0) rfl
    rcases (by omega : q = 0 ∨ q = 1 ∨ q = 2 ∨ q = 3 ∨ q = 4 ∨ q = 5 ∨ q = 6 ∨ q = 7) with rfl | rfl | rfl | rfl | rfl | rfl | rfl | rfl
    · exact spcS_val (d := 38) rfl (wanted_none rfl) (run_loadCell (run_isAgg_plain Tryz.underlying35 rfl) cl5 t5) hC hkr rfl
    · have hx : a1.eval (.tmp 38) = .slice (some ⟨g8, 0, none⟩) n c8 := hT 0 (by decide) (by kernel_rfl)
      refine spcS_call (d := 39) (vs := #[.slice (some ⟨g8, 0, none⟩) n c8]) rfl (wanted_none rfl) (Go.Proofs.enters_of Tryz.func22 (by kernel_rfl) rfl) (by simp [hx]) ?_
      refine (clM_own (.slice (some ⟨g8, 0, none⟩) n c8) l8 w7 (· < w6.heap.size) (fun b hb => Nat.lt_of_lt_of_le hb hC.size) ((Mbs.below HML8.out hC (fun _ h => h) (fun _ h => h)).mono (fun b hb => Nat.lt_of_lt_of_le hb hC.size) (fun _ h => h)) (by have := HSZ.out; omega)).mono ?_
      rintro e wz ⟨v', rfl, hrow, hb⟩
      obtain ⟨gg, cc, hv'⟩ := hrow.at0 (by have := HSZ.out; omega)
      rw [HSZ.out.1] at hv'
      exact ⟨_, rfl, hC.trans (hb.mono hC.size), hb, gg, cc, hv', hrow.lower hC.size (fun _ h => h)⟩
    · exact spcS_val (d := 40) rfl (wanted_none rfl) (run_loadCell (run_isAgg_plain Tryz.underlying3 rfl) cl6 t6) hC hkr rfl
    · exact spcS_val (d := 41) rfl (wanted_none rfl) (run_loadCell (run_isAgg_plain Tryz.underlying35 rfl) cl5 t5) hC hkr rfl
    · exact spcS_val (d := 42) rfl (wanted_none rfl) (run_loadCell (run_isAgg_plain Tryz.underlying3 rfl) cl6 t6) hC hkr rfl
    · have hx : a1.eval (.tmp 41) = .slice (some ⟨g8, 0, none⟩) n c8 := hT 3 (by decide) (by kernel_rfl)
      have hy : a1.eval (.tmp 42) = .int .i64 (k : Int) := hT 4 (by decide) (by kernel_rfl)
      exact spcS_val (d := 43) rfl (wanted_none rfl) (run_index hx hy hkn) hC hkr rfl
    · have hx : a1.eval (.tmp 43) = .pointer (some ⟨g8, k * 9, none⟩) := hT 5 (by decide) (by kernel_rfl)
      have hld := fun pos af => own_load (ρ := a1.eval) (d := some 44) (t := 32) (pos := pos) (af := af) (gd := none) (ownsRow_loc _ _ (fun b e => hC.block b (HR86.out.lt e).2) HOW.out) HSZ.out.1.symm HSZ.out.2 hx
      simp only [← HXE.out] at hld
      exact spcS_val (d := 44) rfl (wanted_none rfl) (hld _ _) hC hkr rfl
    · have hx : a1.eval (.tmp 44) = .agg (mcell x) := hT 6 (by decide) (by kernel_rfl)
      have hal2 : Below w7.heap.size w7 (w7.alloc (.cells (mcell x) 32)) := hkr.alloc (Nat.le_refl _) _
      have hrun := fun pos af => run_build1 (P := Tryz.prog) (ρ := a1.eval) (d := some 45) (x := .tmp 44) (t := 35) (pos := pos) (af := af) (g := none) (w := w7) slMb (by decide) (by rw [hx]; rfl)
      simp only [hx] at hrun
      exact spcS_val (d := 45) rfl (wanted_none rfl) (hrun _ _) (hC.trans (hal2.mono hC.size)) hal2 ⟨_, rfl, Row.new _ _ _⟩
  intro a1 w7 ha hC hT
  have t38 : slot a1 38 = .slice (some ⟨g8, 0, none⟩) n c8 := hT 0 (by decide)
  obtain ⟨g2, q2, t39, hrow⟩ : ∃ g c, slot a1 39 = .slice (some ⟨g, 0, none⟩) n c ∧ RowM w6.heap.size (· < w6.heap.size) w7 (slot a1 39) l8 := hT 1 (by decide)
  have t40 : slot a1 40 = .int .i64 (k : Int) := hT 2 (by decide)
  have t41 : slot a1 41 = .slice (some ⟨g8, 0, none⟩) n c8 := hT 3 (by decide)
  have t42 : slot a1 42 = .int .i64 (k : Int) := hT 4 (by decide)
  have t43 : slot a1 43 = .pointer (some ⟨g8, k * 9, none⟩) := hT 5 (by decide)
  have t44 : slot a1 44 = .agg (mcell x) := hT 6 (by decide)
  obtain ⟨vb, t45, hvb⟩ : ∃ b, slot a1 45 = .slice (some ⟨b, 0, none⟩) 1 1 ∧ Row w7 b 32 (mcell x) := hT 7 (by decide)
  rw [t39] at hrow
  simp only [List.foldl_cons, List.foldl_nil, t38, t39, t40, t41, t42, t43, t44, t45] at ha
  have HROW := Keep.keep hrow
  have HC7 := Keep.keep hC
  have HVB := Keep.keep hvb
  clear hT t38 t39 t40 t41 t42 t43 t44 t45 hrow hC hvb
  obtain ⟨mc, hmc⟩ : ∃ q, q = mcell x := ⟨_, rfl⟩
  rw [← hmc] at ha
  clear hmc
  subst ha
  simp only [List.drop_succ_cons, List.drop_zero]
  simp only [Act.put, List.setIfInBounds_toArray, List.set_cons_succ, List.set_cons_zero]
  go_wp2_with fail
  refine (ins_mb w6.heap.size (· < w6.heap.size) g2 q2 k n vb l8 x w7 HC7.out.size HROW.out (by omega) hkn HVB.out ((HXN.out.below HC7.out (fun _ h => h.2.1)).mono (fun b hb => ⟨.inl hb.2.1, Nat.lt_of_lt_of_le hb.2.1 HC7.out.size, fun e => by have := (HROW.out.lt e).1; have := hb.2.1; omega⟩))).mono ?_
  rintro e w8 ⟨g3, q3, rfl, hr8, hb⟩
  have HB8 := Keep.keep (HC7.out.trans hb)
  have HW8 := Keep.keep (HW6.out.trans (HB8.out.mono HW6.out.size))
  have HR88 := Keep.keep (HR86.out.below HB8.out)
  have HB58 := Keep.keep (HB56.out.below HB8.out HB56.out.lt)
  have HB68 := Keep.keep (HB66.out.below HB8.out HB66.out.lt)
  have HM78 := Keep.keep (HM7.out.on HB8.out)
  have HM8 : Keep (MbL w8 (.slice (some ⟨g3, 0, none⟩) (n + 1) q3) (l8.take k ++ [x] ++ l8.drop k)) := ⟨MbL.ofRow hr8⟩
  clear hr8 hb HROW HC7 HVB HW6 HR86 HB56 HB66 HM7 HB8 HML8 HOW HXN
  go_upto_region 7 with fail
  have hml8 : MbL w8 (.slice (some ⟨g8, 0, none⟩) n c8) l8 := MbL.ofRow HR88.out
  have hcp : w8.cell? ⟨g8, k * 9, none⟩ = some (.string ⟨x.1.1.toArray⟩) := by
    have := Mbs.cell hml8 HSZ.out.2 0 (by decide) (u := .string ⟨x.1.1.toArray⟩) (by rw [← HXE.out]; rfl)
    rw [Nat.zero_add, Nat.add_zero] at this
    exact this
  have HSX : Keep (Sm x.1) := ⟨HS8.out.2 x HXI.out⟩
  have HCF := Keep.keep (cfuncM 44 #[.pointer (some ⟨b5, 0, none⟩), .pointer (some ⟨b6, 0, none⟩)] (fun m => underP x.1.1 m.1) _ l8 w8 ent_cmay1 (fun wx hb y hy => by
    have hlt := World.block_lt_of_cell? w8 _ hcp
    exact cmay1_any y (HR88.out.nd y hy).shape b5 b6 g8 n c8 k x.1.1 (by have := HSX.out.p; omega) wx ((HB58.out.below hb HB58.out.lt).cell (i := 0) rfl) ((HB68.out.below hb HB68.out.lt).cell (i := 0) rfl) hkn (by rw [hb.cell (p := ⟨g8, k * 9, none⟩) hlt]; exact hcp)) hml8)
  have HSK : Keep (k < S.length ∧ ∀ h, S[k]'h = x.1) := ⟨by rw [← HL8.out, List.length_map]; exact HSZ.out.2, fun h => by simp only [← HL8.out, List.getElem_map, HXE.out]⟩
  have HLESS : Keep (mayC ((l8.take k ++ l8.drop (k + 1)).map (·.1)) = if (l8.any fun y => underP x.1.1 y.1.1) = true then 33 else 0) := ⟨by
    have := may_less HCD.out HSK.out.1
    rw [HSK.out.2, List.eraseIdx_eq_take_drop_succ, ← HL8.out, List.any_map, ← List.map_take, ← List.map_drop, ← List.map_append] at this
    exact this⟩
  have HTWICE : Keep (mayC ((l8.take k ++ [x] ++ l8.drop k).map (·.1)) = 1) := ⟨by
    have := may_twice HCD.out HSK.out.1
    rw [HSK.out.2, ← HL8.out, ← List.map_take, ← List.map_drop] at this
    simpa using this⟩
  obtain ⟨ra, hra⟩ : ∃ r, (l8.any fun y => underP x.1.1 y.1.1) = r := ⟨_, rfl⟩
  rw [hra] at HCF HLESS
  clear hra hcp hml8
  have c50 := HB58.out.cell (i := 0) rfl
  go_wp2_with fail
  refine HCF.out.mono ?_
  rintro e w9 ⟨rfl, hb⟩
  have HW9 := Keep.keep (HW8.out.trans (hb.mono HW8.out.size))
  have HR89 := Keep.keep (HR88.out.below hb)
  have HB59 := Keep.keep (HB58.out.below hb HB58.out.lt)
  have HB69 := Keep.keep (HB68.out.below hb HB68.out.lt)
  have HM79 := Keep.keep (HM78.out.on hb)
  have HM9 := Keep.keep (HM8.out.on hb)
  clear hb HCF HW8 HR88 HB58 HB68 HM78 HM8 c50
  obtain ⟨dl, hdl⟩ : ∃ d : Int, d = if ra = true then 33 else 0 := ⟨_, rfl⟩
  rw [← hdl] at HLESS
  have HDL := Keep.keep hdl
  clear hdl
  go_upto_if 50 with fail
  go_cut [10] from 50 to 51 (fun u10 wx => u10 = .int .i64 dl ∧ wx = w9)
  case first =>
    cases ra
    · go_wp2_with fail
      go_meet
      case rel => exact ⟨by rw [HDL.out]; rfl, rfl⟩
    · go_wp2_with fail
      go_meet
      case rel => exact ⟨by rw [HDL.out]; rfl, rfl⟩
  case rest =>
  obtain ⟨rfl, hwc⟩ := hcut
  replace hwc := hwc.symm
  subst hwc
  have hdd : (dl == dl) = true := beq_self_eq_true dl
  have HL7 : Keep ((l8.take k ++ l8.drop (k + 1)).length ≤ 300 ∧ (l8.take k ++ [x] ++ l8.drop k).length ≤ 300) := ⟨by simp; have := HSZ.out; omega, by simp; have := HSZ.out; omega⟩
  have HMAY := Keep.keep (chmay_any _ _ B w9 (HT.out.on (HW9.out.mono HT.out.b)) HM79.out (fun y hy => HS8.out.2 y (by
    rcases List.mem_append.1 hy with hy | hy
    · exact List.mem_of_mem_take hy
    · exact List.mem_of_mem_drop hy)) (by have := HL7.out.1; omega))
  rw [HLESS.out] at HMAY
  go_wp2_with fail
  refine HMAY.out.mono ?_
  rintro e w10 ⟨rfl, hb⟩
  have HW10 := Keep.keep (HW9.out.trans (hb.mono HW9.out.size))
  have HR810 := Keep.keep (HR89.out.below hb)
  have HB510 := Keep.keep (HB59.out.below hb HB59.out.lt)
  have HB610 := Keep.keep (HB69.out.below hb HB69.out.lt)
  have HM10 := Keep.keep (HM9.out.on hb)
  clear hb HMAY HW9 HR89 HB59 HB69 HM79 HM9
  have HMAY := Keep.keep (chmay_any _ _ B w10 (HT.out.on (HW10.out.mono HT.out.b)) HM10.out (fun y hy => HS8.out.2 y (by
    rcases List.mem_append.1 hy with hy | hy
    · rcases List.mem_append.1 hy with hy | hy
      · exact List.mem_of_mem_take hy
      · rw [List.mem_singleton.1 hy]; exact HXI.out
    · exact List.mem_of_mem_drop hy)) (by have := HL7.out.2; omega))
  rw [HTWICE.out] at HMAY
  go_wp2_with fail
  refine HMAY.out.mono ?_
  rintro e w11 ⟨rfl, hb⟩
  have HW11 := Keep.keep (HW10.out.trans (hb.mono HW10.out.size))
  have HR811 := Keep.keep (HR810.out.below hb)
  have HB511 := Keep.keep (HB510.out.below hb HB510.out.lt)
  have HB611 := Keep.keep (HB610.out.below hb HB610.out.lt)
  clear hb HMAY HW10 HR810 HB510 HB610 HM10 HL7
  have c60 := HB611.out.cell (i := 0) rfl
  go_upto_if 61 with fail
  clear c60 hdd
  go_cut [4, 11, 12] from 61 to 87 (fun u4 _ _ wx => u4 = .bool false ∧ RowM w.heap.size (· < w.heap.size) wx (.slice (some ⟨g8, 0, none⟩) n c8) l8 ∧ Row wx b5 35 #[.slice (some ⟨g8, 0, none⟩) n c8] ∧ Row wx b6 3 #[.int .i64 (k : Int)] ∧ Below w.heap.size w wx)
  case first =>
    by_cases hk0 : k = 0
    · have hkz : decide ((0 : Int) < (k : Int)) = false := decide_eq_false (by omega)
      go_wp2_with fail
      go_meet
      case rel => exact ⟨rfl, HR811.out, HB511.out, HB611.out, HW11.out⟩
    · have hkz : decide ((0 : Int) < (k : Int)) = true := decide_eq_true (by omega)
      have c50 := HB511.out.cell (i := 0) rfl
      go_wp2_with fail
      refine (clM_own _ l8 w11 (· < w11.heap.size) (fun _ h => h) (MbL.ofRow HR811.out) (by have := HSZ.out; omega)).mono ?_
      rintro e w12 ⟨v11, rfl, hrow, hb⟩
      obtain ⟨g4, c4, hv4⟩ := hrow.at0 (by have := HSZ.out; omega)
      rw [HSZ.out.1] at hv4
      rw [hv4] at hrow
      have HROW := Keep.keep hrow
      have HW12 := Keep.keep (HW11.out.trans (hb.mono HW11.out.size))
      have HX12 : Keep (w11.heap.size ≤ w12.heap.size) := ⟨hb.size⟩
      have HB612 := Keep.keep (HB611.out.below hb HB611.out.lt)
      have HXX := Keep.keep hb
      have HB65 : Keep (b6 < w11.heap.size ∧ b5 < w11.heap.size ∧ g8 < w11.heap.size) := ⟨HB611.out.lt, HB511.out.lt, (HR811.out.lt rfl).2⟩
      obtain ⟨d0, hd0, hsz, R, S⟩ := hrow.swk
      have hd0s : d0.size = n := by rw [hsz]; exact HSZ.out.1
      have HD0 : Keep (d0.toList.map (·.1) = l8) := ⟨hd0⟩
      obtain ⟨k9, hk9⟩ : ∃ k, k = 9 := ⟨_, rfl⟩
      obtain ⟨off, hoff⟩ : ∃ o, o = 0 := ⟨_, rfl⟩
      have HK9 := Keep.keep hk9; have HOFF := Keep.keep hoff
      have aE : ∀ w, (isAgg 32).run Tryz.prog w = .ok true w := fun w => by kernel_rfl
      have mixed : Tryz.prog.follows Departure.mixedOrders = true := by first | rfl | kernel_rfl
      have zE : ∀ w, (Go.sizeOf 32).run Tryz.prog w = .ok k9 w := fun w => by rw [hk9]; kernel_rfl
      rw [← hk9, ← hoff] at R S
      have hv5 : v11 = .slice (some ⟨g4, off, none⟩) n c4 := by rw [hoff]; exact hv4
      have S0 : Aside (SWK encS k9 w12 g4 off d0 w12) := S
      have HGN : Keep (w11.heap.size ≤ g4) := ⟨(hrow.lt rfl).1⟩
      have HSW : Keep (w.heap.size ≤ w11.heap.size) := ⟨HW11.out.size⟩
      clear hb hk9 hoff S hd0 hsz hrow hv4 HW11 c50
      subst hv5
      go_upto_region 15 with fail
      obtain ⟨p, hp⟩ : ∃ p, p = k - 1 := ⟨_, rfl⟩
      have rp : (k : Int) - 1 = (p : Int) := by omega
      have rpw : IntKind.i64.wrap (p : Int) = (p : Int) := by rw [IntKind.wrap_i64]; omega
      have HKP : Keep (k = p + 1) := ⟨by omega⟩
      have bk : ((k : Nat) : Int) < (n : Int) := by omega
      have bp : ((p : Nat) : Int) < (n : Int) := by omega
      have hpn : p < n := by omega
      clear hp
      have c6z : w12.drew.cell? ⟨b6, 0, none⟩ = some (.int .i64 (k : Int)) := HB612.out.cell (i := 0) rfl
      go_cut [] from 64 to 79 (fun wx => Aside (SWK encS k9 w12 g4 off (Go.Sort.swp d0 k p) wx))
      case first =>
        have S3 : Aside (SWK encS k9 w12 g4 off (Go.Sort.swp d0 (k) (p)) ((w12.drew.setCells g4 (off + (k) * k9) (encS d0[p]!)).setCells g4 (off + (p) * k9) (encS d0[k]!))) := S0.swapped R (k) (p) (by omega) (by omega)
        have la1 := S0.ld1 R rfl Tryz.prog (k) (by omega)
        have lb1 := S0.ld1 R rfl Tryz.prog (p) (by omega)
        have sa1 := S0.st1 R rfl Tryz.prog (k) (by omega) d0[p]!
        have sb1 := S0.st2 R rfl Tryz.prog (k) (p) (by omega) (by omega) d0[p]! d0[k]!
        have na1 : (encS d0[k]!).length = k9 := R.hk _
        have nb1 : (encS d0[p]!).length = k9 := R.hk _
        have c61 : (w12.drew.setCells g4 (off + (k) * k9) (encS d0[p]!)).cell? ⟨b6, 0, none⟩ = some (.int .i64 (k : Int)) := by
          rw [World.cell?_setCells_out g4 _ _ _ _ (fun e _ => by have := HB65.out.1; have := HGN.out; simp only at e; omega)]
          exact c6z
        generalize encS d0[k]! = cI1 at S3 la1 sb1 na1
        generalize encS d0[p]! = cJ1 at S3 lb1 sa1 sb1 nb1 c61
        clear S0
        go_big_region_o
        clear la1 lb1 sa1 sb1 c61 na1 nb1
        generalize (w12.drew.setCells g4 (off + (k) * k9) cJ1).setCells g4 (off + (p) * k9) cI1 = w13 at S3 ⊢
        go_wp2
        go_meet
        case rel => exact S3
      case rest =>
      have S3 := hcut
      clear hcut S0 c6z zE rp rpw
      obtain ⟨w13, hw13⟩ : ∃ q, q = wc := ⟨_, rfl⟩
      rw [← hw13] at S3 ⊢
      clear hw13
      have HTM := Keep.keep (turn_may HL8.out HCD.out HKP.out HSZ.out.2 HD0.out)
      have hfin : RowM w11.heap.size (· < w11.heap.size) w13 (.slice (some ⟨g4, off, none⟩) n c4) ((Go.Sort.swp d0 k p).toList.map (·.1)) ∧ Below w11.heap.size w12 w13 := by
        have S1 := S3.out
        rw [HK9.out, HOFF.out] at S1
        rw [HOFF.out]
        exact HROW.out.ofSwk HX12.out S1 HTM.out.2.2.1 HTM.out.2.1
      have HR13 := Keep.keep hfin.1
      have HX13 := Keep.keep hfin.2
      clear hfin S3 HROW
      obtain ⟨l13, hl13⟩ : ∃ q, q = (Go.Sort.swp d0 k p).toList.map (·.1) := ⟨_, rfl⟩
      rw [← hl13] at HTM HR13
      clear hl13
      obtain ⟨cd2, hcd2⟩ : ∃ q, q = mayC (l13.map (·.1)) := ⟨_, rfl⟩
      rw [← hcd2] at HTM
      have HX14 : Keep (w11.heap.size ≤ w13.heap.size) := ⟨Nat.le_trans HX12.out HX13.out.size⟩
      have HW13 : Keep (Below w.heap.size w w13) := ⟨HW12.out.trans (HX13.out.mono HSW.out)⟩
      have HMAY := Keep.keep (chmay_any _ _ B w13 (HT.out.on (HW13.out.mono HT.out.b)) (MbL.ofRow HR13.out) (fun y hy => HS8.out.2 y (HTM.out.2.1 y hy)) (by rw [HTM.out.2.2.2]; have := HSZ.out; omega))
      rw [← hcd2] at HMAY
      clear hcd2 R aE mixed hd0s bk bp hpn HW12 HD0 HK9 HOFF HB612
      go_wp2_with fail
      refine HMAY.out.mono ?_
      rintro e w14 ⟨rfl, hb⟩
      have HXZ := Keep.keep ((HXX.out.trans HX13.out).trans (hb.mono HX14.out))
      have HW14 := Keep.keep (HW13.out.trans (hb.mono HW13.out.size))
      clear hb HMAY HR13 HX13 HX12 HX14 HXX HW13
      rcases HTM.out.1 with rfl | rfl
      all_goals
        go_wp2_with fail
        go_meet
        case rel => exact ⟨rfl, HR811.out.below HXZ.out, HB511.out.below HXZ.out HB511.out.lt, HB611.out.below HXZ.out HB611.out.lt, HW14.out⟩
  case rest =>
  obtain ⟨rfl, hcut⟩ := hcut
  have HZ := Keep.keep hcut
  clear hcut HR811 HB511 HB611 HW11
  obtain ⟨wz, hwz⟩ : ∃ q, q = wc := ⟨_, rfl⟩
  rw [← hwz] at HZ ⊢
  clear hwz
  all_goals
    have HR8 := Keep.keep HZ.out.1
    have HB5 := Keep.keep HZ.out.2.1
    have HB6 := Keep.keep HZ.out.2.2.1
    have HWZ := Keep.keep HZ.out.2.2.2
    clear HZ
    have hml8 : MbL wz (.slice (some ⟨g8, 0, none⟩) n c8) l8 := MbL.ofRow HR8.out
    have hcp : wz.cell? ⟨g8, k * 9, none⟩ = some (.string ⟨x.1.1.toArray⟩) := by
      have := Mbs.cell hml8 HSZ.out.2 0 (by decide) (u := .string ⟨x.1.1.toArray⟩) (by rw [← HXE.out]; rfl)
      rw [Nat.zero_add, Nat.add_zero] at this
      exact this
    have c50 := HB5.out.cell (i := 0) rfl
    have c60 := HB6.out.cell (i := 0) rfl
    clear hml8
    have hkni : (k : Int) < (n : Int) := by omega
    obtain ⟨xp, hxp⟩ : ∃ q, x.1.1 = q := ⟨_, rfl⟩
    have HXP := Keep.keep hxp
    rw [hxp] at hcp
    have HCL := Keep.keep (class_any xp (by rw [← hxp]; have := HSX.out.p; omega) B wz (Nat.le_trans HT.out.b HWZ.out.size) (HT.out.m.on (HWZ.out.mono HT.out.b)) (HT.out.c.on (HWZ.out.mono HT.out.b)))
    obtain ⟨cc, hcc⟩ : ∃ q, classP xp = q := ⟨_, rfl⟩
    have HCC := Keep.keep hcc
    rw [hcc] at HCL
    obtain ⟨cl, ct⟩ := cc
    dsimp only at HCL
    clear hxp hcc
    go_wp2_with fail
    refine HCL.out.mono ?_
    rintro e y1 ⟨rfl, hb⟩
    have HR81 := Keep.keep (HR8.out.below hb)
    have HB51 := Keep.keep (HB5.out.below hb HB5.out.lt)
    have HB61 := Keep.keep (HB6.out.below hb HB6.out.lt)
    have HY1 := Keep.keep (HWZ.out.trans (hb.mono HWZ.out.size))
    clear hb HR8 HB5 HB6 HWZ hcp c50 c60 HCL
    by_cases hcl : cl = 1
    focus
      have hclb : (cl == 1) = true := by rw [hcl]; rfl
      go_wp2_with fail
      refine (wakes19_any B y1 (HT.out.on (HY1.out.mono HT.out.b))).mono ?_
      rintro e y2 ⟨rfl, hb⟩
      have HY2 := Keep.keep (HY1.out.trans (hb.mono HY1.out.size))
      clear hb
      go_wp2_with fail
      go_ret
      exact ⟨rfl, HY2.out⟩
    have hclb : (cl == 1) = false := by rw [beq_eq_false_iff_ne]; exact hcl
    have c50 := HB51.out.cell (i := 0) rfl
    go_wp2_with fail
    refine (clM_own _ l8 y1 (· < y1.heap.size) (fun _ h => h) (MbL.ofRow HR81.out) (by have := HSZ.out; omega)).mono ?_
    rintro e y2 ⟨v15, rfl, hrow, hb⟩
    obtain ⟨g4, c4, hv4⟩ := hrow.at0 (by have := HSZ.out; omega)
    rw [HSZ.out.1] at hv4
    rw [hv4] at hrow
    have HROW := Keep.keep hrow
    have HY2 := Keep.keep (HY1.out.trans (hb.mono HY1.out.size))
    have HX2 : Keep (y1.heap.size ≤ y2.heap.size) := ⟨hb.size⟩
    have HXY : Keep (w.heap.size ≤ y1.heap.size) := ⟨HY1.out.size⟩
    have HB62 := Keep.keep (HB61.out.below hb HB61.out.lt)
    clear hb hrow HY1 HR81 HB51 HB61 c50 hclb
    subst hv4
    go_upto_region 22 with fail
    have hown := HROW.out.own
    rw [HSZ.out.1] at hown
    have hcd : y2.cell? ⟨g4, k * 9 + 7, none⟩ = some x.2.2 := by
      rw [hown.cellAt _ (by omega), mcells_at _ _ _ (by decide), HX8.out]; rfl
    have hfz : y2.frozen? ⟨g4, k * 9 + 7, none⟩ = false := hown.frozenAt _
    have hkni : (k : Int) < (n : Int) := by omega
    have c60 := HB62.out.cell (i := 0) rfl
    have hgl : g4 < y2.heap.size := (HROW.out.lt rfl).2
    clear hown
    have HCW := Keep.keep (wrong_may HL8.out HCD.out HX8.out (by rw [HXP.out, HCC.out]; exact hcl) (.slice (some ⟨y2.heap.size, 0, none⟩) 1 1))
    have HSD := Keep.keep (HROW.out.setData HX2.out HX8.out)
    clear HROW HX2
    go_upto_region 23 with fail
    clear hcd hfz c60 hkni hgl
    obtain ⟨dv, hdv⟩ : ∃ q, q = Value.slice (some ⟨y2.heap.size, 0, none⟩) 1 1 := ⟨_, rfl⟩
    rw [← hdv] at HSD HCW ⊢
    clear hdv
    obtain ⟨y3, hy3⟩ : ∃ q, q = (y2.setCell ⟨g4, k * 9 + 1 + 6, none⟩ dv).alloc (.cells #[.int .u8 1] 5) := ⟨_, rfl⟩
    rw [← hy3] at HSD ⊢
    clear hy3
    have HY3 : Keep (Below w.heap.size w y3) := ⟨HY2.out.trans (HSD.out.2.mono HXY.out)⟩
    have HMAY := Keep.keep (chmay_any _ _ B y3 (HT.out.on (HY3.out.mono HT.out.b)) (MbL.ofRow HSD.out.1) (fun y hy => by
      rcases List.mem_or_eq_of_mem_set hy with hy | rfl
      · exact HS8.out.2 y hy
      · exact sm_setD HSX.out _) (by rw [List.length_set]; have := HSZ.out; omega))
    rw [HCW.out] at HMAY
    clear HSD HY2 HB62
    go_wp2_with fail
    refine HMAY.out.mono ?_
    rintro e y4 ⟨rfl, hb⟩
    have HY4 := Keep.keep (HY3.out.trans (hb.mono HY3.out.size))
    clear hb HMAY HY3
    go_wp2_with fail
    refine (wakes19_any B y4 (HT.out.on (HY4.out.mono HT.out.b))).mono ?_
    rintro e y5 ⟨rfl, hb⟩
    have HY5 := Keep.keep (HY4.out.trans (hb.mono HY4.out.size))
    clear hb
    go_wp2_with fail
    go_ret
    exact ⟨rfl, HY5.out⟩
end Go.Proofs.YtplafpokgpolkaaGreatDoor
/- ARGUMENTS WITH SLICES WITHIN SLICES, OPENED: what lies deeper has no word of its own on its blocks; its cells tell them. -/
namespace Go.Proofs.YtplafpokgpolkaaGreatDoor
open Go.ChangeShapes Go.WideShapes Go.ChangeAt Go.RowKit
theorem cell_spot {w : World} {a : Addr} {v : Value} (h : w.cell? a = some v) : a.spot = none ∧ a.block < w.heap.size := by
  unfold World.cell? at h
  split at h
  · rename_i c e fr hb
    split at h
    · cases h
    · rename_i hs
      exact ⟨by simpa using hs, (Array.getElem?_eq_some_iff.1 hb).1⟩
  · cases h
/-- a []byte that lies anywhere within an argument -/
theorem reads_of_trod {P : Program} {H : Type} {enc : TypeId × Value → H} {t e : TypeId} {held : Bool} {fuel : Nat} (ht : P.underlying t = some (.slice e)) (he : P.underlying e = some (.int .u8)) (hc : P.cellsOf e = 1) {W : World} {v : Value} {x : DataW H × List MemPlace}
    (hf : DataW.trod enc P W 0 (fun _ => true) held fuel t [v] = some x) : ∃ l, Reads W (fun b => b < W.heap.size) v l := by
  rcases open_ints ht he hc hf with ⟨hcs, hx⟩ | ⟨⟨b, off, sp⟩, len, cap, zs, hcs, _, hl, hm, hz, hx, hcell, hwz⟩
  · injection hcs with hcs _
    subst hcs
    exact ⟨[], Reads.ofNil⟩
  · injection hcs with hcs _
    subst hcs
    simp only [if_true] at hz
    have hsp : cap = 0 ∨ (sp = none ∧ b < W.heap.size) := by
      rcases Nat.eq_zero_or_pos cap with h | h
      · exact .inl h
      · have := cell_spot (hcell 0 (by omega))
        exact .inr this
    refine ⟨(zs.take len).map fun x => UInt8.ofNat x.toNat, ⟨some ⟨b, off, sp⟩, cap, ?_, ?_, hm, ?_⟩, fun b' off' n' c' he' j hj => ?_⟩
    · congr 1; simp; omega
    · simp; omega
    · rcases hsp with h | ⟨rfl, h⟩
      · exact .inl h
      · exact .inr ⟨b, off, rfl, h⟩
    · injection he' with e1 _ _; injection e1 with e1; injection e1 with e1 e2 e3; subst e1 e2 e3
      have hj' : j < len := by simp at hj; omega
      have hjz : j < zs.length := by omega
      have hc := hcell j hjz
      rw [Addr.add_mid] at hc
      rw [hc]
      have hw := hwz _ (List.getElem_mem hjz)
      have hm1 : IntKind.u8.min = 0 := rfl
      have hm2 : IntKind.u8.max = 255 := rfl
      simp only [Lit.wf, Bool.and_eq_true, decide_eq_true_eq, hm1, hm2] at hw
      simp only [List.getElem_map, List.getElem_take, List.getD_eq_getElem?_getD, List.getElem?_eq_getElem hjz, Option.getD_some, UInt8.toNat_ofNat']
      congr 2
      omega
end Go.Proofs.YtplafpokgpolkaaGreatDoor
/- ARGUMENTS THAT ARE WHOLE NUMBERS, OPENED. -/
namespace Go.Proofs.YtplafpokgpolkaaGreatDoor
open Go.ChangeShapes Go.WideShapes Go.ChangeAt Go.RowKit
theorem okU8 {P : Program} {w : World} {r : Reach} {base : Nat} {t : TypeId} {v : Value} (ht : P.underlying t = some (.int .u8)) (h : Value.okWide P w r base t v) : ∃ n : Nat, v = .int .u8 (n : Int) ∧ n < 256 := by
  simp only [Value.okWide, ht, Cell.okWide] at h
  have hm1 : IntKind.u8.min = 0 := rfl
  have hm2 : IntKind.u8.max = 255 := rfl
  cases v <;> simp only [Cell.ok, ht] at h
  rename_i k x
  obtain ⟨rfl, h1, h2⟩ := h
  rw [hm1] at h1; rw [hm2] at h2
  exact ⟨x.toNat, by congr 1; omega, by omega⟩
end Go.Proofs.YtplafpokgpolkaaGreatDoor
/- ARGUMENTS THAT ARE SLICES OF MEMBERS, OR OF ACTS, OPENED. -/
namespace Go.Proofs.YtplafpokgpolkaaGreatDoor
open Go.ChangeShapes Go.WideShapes Go.ChangeAt Go.RowKit
section
variable {H : Type} {enc : TypeId × Value → H} {W : World} {fuel : Nat} {x : DataW H × List MemPlace}
theorem str_of_trod {v : Value} (h : DataW.trod enc Tryz.prog W 0 (fun _ => true) true fuel 9 [v] = some x) : ∃ l : Tx, v = strV l ∧ l.length ≤ maxLen := by
  obtain ⟨⟨⟨l⟩⟩, e, _, hm⟩ := DataW.trod_string Tryz.underlying9 h
  injection e with e _
  exact ⟨l, e, hm⟩
theorem attrs_of_trod {v : Value} (hf : DataW.trod enc Tryz.prog W 0 (fun _ => true) true fuel 27 [v] = some x) : ∃ l : List R2, RdV W (· < W.heap.size) 2 v l.length (rcells l) := by
  rcases Deep.open_slice_pairs Tryz.underlying27 Tryz.underlying97 (by kernel_rfl) rfl rfl (by kernel_rfl) (by kernel_rfl) hf with ⟨hcs, _⟩ | ⟨⟨b, off, sp⟩, len, cap, m, n, V0, V1, D0, D1, P0, P1, hcs, _, hl, hm, hmm, _, hx⟩
  · injection hcs with hcs _
    subst hcs
    exact ⟨[], RdV.ofNil⟩
  · injection hcs with hcs _
    subst hcs
    simp only [if_true] at hmm
    have hsp : cap = 0 ∨ (sp = none ∧ b < W.heap.size) := by
      rcases Nat.eq_zero_or_pos cap with h | h
      · exact .inl h
      · exact .inr (cell_spot (hx 0 (by omega)).1)
    have key : ∀ i, i < m → ∃ q : R2, V0 i = strV q.1 ∧ V1 i = strV q.2 := fun i hi => by
      obtain ⟨_, _, t0, t1⟩ := hx i hi
      obtain ⟨l0, e0, _⟩ := str_of_trod t0
      obtain ⟨l1, e1, _⟩ := str_of_trod t1
      exact ⟨(l0, l1), e0, e1⟩
    obtain ⟨q, hq⟩ := Deep.choose_lt (α := R2) key
    have hll : ((List.range len).map q).length = len := by simp
    refine ⟨(List.range len).map q, rcells_length _, ⟨_, cap, by rw [hll], by omega, hm, ?_⟩, ?_⟩
    · rcases hsp with h | ⟨rfl, h⟩
      · exact .inl h
      · exact .inr ⟨b, off, rfl, h⟩
    · intro b' off' m' c' he j u hu
      injection he with e1 _ _; injection e1 with e1; injection e1 with e1 e2 e3; subst e1 e2 e3
      have hj := (List.getElem?_eq_some_iff.1 hu).1
      rw [rcells_length, hll] at hj
      obtain ⟨i, hi⟩ : ∃ i, i = j / 2 := ⟨_, rfl⟩
      have hil : i < len := by omega
      have hrg := rcells_get ((List.range len).map q) i (by rw [hll]; exact hil)
      have hqi : ((List.range len).map q)[i]'(by rw [hll]; exact hil) = q i := by simp
      rw [hqi] at hrg
      obtain ⟨k0, k1, _, _⟩ := hx i (by omega)
      obtain ⟨s0, s1⟩ := hq i (by omega)
      rw [Addr.add_mid] at k0 k1
      rcases (by omega : j = i * 2 ∨ j = i * 2 + 1) with rfl | rfl
      · rw [hrg.1] at hu; injection hu with hu
        rw [k0, s0, hu]
      · rw [hrg.2] at hu; injection hu with hu
        rw [← Nat.add_assoc, ← hu, ← s1]
        rw [← Nat.add_assoc] at k1
        exact k1
theorem cOne : Tryz.prog.cellsOf 3 = 1 ∧ Tryz.prog.cellsOf 26 = 1 ∧ Tryz.prog.cellsOf 2 = 1 ∧ Tryz.prog.cellsOf 27 = 1 ∧ Tryz.prog.cellsOf 28 = 1 ∧ Tryz.prog.cellsOf 9 = 1 ∧ Tryz.prog.cellsOf 4 = 1 ∧ Tryz.prog.cellsOf 30 = 8 ∧ Tryz.prog.cellsOf 32 = 9 := ⟨by kernel_rfl, by kernel_rfl, by kernel_rfl, by kernel_rfl, by kernel_rfl, by kernel_rfl, by kernel_rfl, by kernel_rfl, by kernel_rfl⟩
set_option maxRecDepth 100000 in
theorem node_of_trod {cs : List Value} (hf : DataW.trod enc Tryz.prog W 0 (fun _ => true) true fuel 30 cs = some x) :
    ∃ n av dv, cs = (ndC n av dv).toList ∧ NdR W (· < W.heap.size) n av dv ∧ -9223372036854775808 ≤ n.kind ∧ n.kind ≤ 9223372036854775807 := by
  obtain ⟨xs, k, -, -, hlen, hxs, hg⟩ := DataW.trod_struct Tryz.underlying30 hf
  obtain ⟨c1, c2, c3, c4, c5, c6, c7, c8, -⟩ := cOne
  rw [c8] at hlen
  obtain ⟨v0, v1, v2, v3, v4, v5, v6, v7, rfl⟩ : ∃ v0 v1 v2 v3 v4 v5 v6 v7, cs = [v0, v1, v2, v3, v4, v5, v6, v7] := by
    match cs, hlen with
    | [v0, v1, v2, v3, v4, v5, v6, v7], _ => exact ⟨v0, v1, v2, v3, v4, v5, v6, v7, rfl⟩
  obtain ⟨y0, y1, y2, y3, y4, y5, y6, y7, rfl⟩ : ∃ y0 y1 y2 y3 y4 y5 y6 y7, xs = [y0, y1, y2, y3, y4, y5, y6, y7] := by
    match xs, hxs with
    | [v0, v1, v2, v3, v4, v5, v6, v7], _ => exact ⟨v0, v1, v2, v3, v4, v5, v6, v7, rfl⟩
  have g0 := hg 0 _ rfl
  have g1 := hg 1 _ rfl
  have g2 := hg 2 _ rfl
  have g3 := hg 3 _ rfl
  have g4 := hg 4 _ rfl
  have g5 := hg 5 _ rfl
  have g6 := hg 6 _ rfl
  have g7 := hg 7 _ rfl
  simp only [List.getElem?_cons_zero, List.getElem?_cons_succ] at g0 g1 g2 g3 g4 g5 g6 g7
  obtain ⟨n0, h0, _, w0⟩ := DataW.trod_int Tryz.underlying3 g0
  obtain ⟨n1, h1, _, _⟩ := DataW.trod_int Tryz.underlying26 g1
  obtain ⟨n2, h2, _, _⟩ := DataW.trod_int Tryz.underlying26 g2
  obtain ⟨n3, h3, _, _⟩ := DataW.trod_int Tryz.underlying26 g3
  obtain ⟨n4, h4, _, _⟩ := DataW.trod_int Tryz.underlying2 g4
  obtain ⟨l5, h5⟩ := attrs_of_trod g5
  obtain ⟨l6, h6⟩ := reads_of_trod Tryz.underlying28 Tryz.underlying5 (by kernel_rfl) g6
  obtain ⟨l7, h7, _⟩ := str_of_trod g7
  injection h0 with h0 _; injection h1 with h1 _; injection h2 with h2 _; injection h3 with h3 _; injection h4 with h4 _
  subst h0 h1 h2 h3 h4 h7
  have hm1 : IntKind.i64.min = -9223372036854775808 := rfl
  have hm2 : IntKind.i64.max = 9223372036854775807 := rfl
  simp only [Lit.wf, Bool.and_eq_true, decide_eq_true_eq, hm1, hm2] at w0
  exact ⟨⟨n0, n1, n2, n3, n4, l5, l6, l7⟩, v5, v6, rfl, ⟨h5, h6⟩, by exact w0⟩
set_option maxRecDepth 100000 in
theorem mb_of_trod {cs : List Value} (hf : DataW.trod enc Tryz.prog W 0 (fun _ => true) true fuel 32 cs = some x) :
    ∃ y : Mv, cs = (mcell y).toList ∧ NdR W (· < W.heap.size) y.1.2 y.2.1 y.2.2 ∧ Kb y.1 := by
  obtain ⟨xs, k, -, -, hlen, hxs, hg⟩ := DataW.trod_struct Tryz.underlying32 hf
  obtain ⟨c1, c2, c3, c4, c5, c6, c7, c8, c9⟩ := cOne
  rw [c9] at hlen
  obtain ⟨v0, v1, v2, v3, v4, v5, v6, v7, v8, rfl⟩ : ∃ v0 v1 v2 v3 v4 v5 v6 v7 v8, cs = [v0, v1, v2, v3, v4, v5, v6, v7, v8] := by
    match cs, hlen with
    | [v0, v1, v2, v3, v4, v5, v6, v7, v8], _ => exact ⟨v0, v1, v2, v3, v4, v5, v6, v7, v8, rfl⟩
  obtain ⟨y0, y1, rfl⟩ : ∃ y0 y1, xs = [y0, y1] := by
    match xs, hxs with
    | [v0, v1], _ => exact ⟨v0, v1, rfl⟩
  have g0 := hg 0 _ rfl
  have g1 := hg 1 _ rfl
  simp only [List.getElem_toArray, List.getElem_cons_succ, List.getElem_cons_zero, c6, c8, List.drop_succ_cons, List.drop_zero, List.take_succ_cons, List.take_zero, List.getElem?_cons_zero, List.getElem?_cons_succ] at g0 g1
  obtain ⟨l0, h0, _⟩ := str_of_trod g0
  obtain ⟨n, av, dv, h1, h2, h3⟩ := node_of_trod g1
  subst h0
  refine ⟨((l0, n), av, dv), ?_, h2, h3⟩
  rw [h1]; rfl
set_option maxRecDepth 100000 in
/-- a slice of rows of k cells -/
theorem slice_of_trod {α : Type} [Inhabited α] {t e : TypeId} {k : Nat} (ht : Tryz.prog.underlying t = some (.slice e)) (hk : Tryz.prog.cellsOf e = k) (hk0 : 0 < k) (cl : α → List Value) (hcl : ∀ a, (cl a).length = k) (p : α → Prop) (cells : List α → List Value) (hlen : ∀ l, (cells l).length = l.length * k)
    (hcells : ∀ (l : List α) (j i : Nat) (h : j < l.length), i < k → (cells l)[j * k + i]? = (cl l[j])[i]?)
    (hel : ∀ (n : Nat) (cs : List Value) (y : DataW H × List MemPlace), DataW.trod enc Tryz.prog W 0 (fun _ => true) true n e cs = some y → ∃ a, cs = cl a ∧ p a)
    {v : Value} (hf : DataW.trod enc Tryz.prog W 0 (fun _ => true) true fuel t [v] = some x) : ∃ l : List α, RdV W (· < W.heap.size) k v l.length (cells l) ∧ ∀ a ∈ l, p a := by
  rcases Deep.open_slice ht hf with ⟨hcs, _⟩ | ⟨⟨b, off, sp⟩, len, cap, m, n, D, Pl, hcs, _, hl, hm, hmm, _, hx⟩
  · injection hcs with hcs _
    subst hcs
    refine ⟨[], ⟨by simp [hlen], ⟨_, _, rfl, Nat.zero_le _, Nat.zero_le _, .inl rfl⟩, fun _ _ _ _ e j u hu => by cases e⟩, fun a ha => (List.not_mem_nil ha).elim⟩
  · injection hcs with hcs _
    subst hcs
    simp only [if_true] at hmm
    rw [hk] at hx
    have key : ∀ i, i < m → ∃ a, (∀ j u, (cl a)[j]? = some u → W.cell? ((⟨b, off, sp⟩ : Addr).add (i * k + j)) = some u) ∧ p a := fun i hi => by
      obtain ⟨cs', h1, h2⟩ := hx i hi
      obtain ⟨_, hl', hcell⟩ := World.cells?_some h1
      obtain ⟨a, rfl, hp⟩ := hel _ _ _ h2
      refine ⟨a, fun j u hj => ?_, hp⟩
      have hjl := (List.getElem?_eq_some_iff.1 hj).1
      rw [hcl] at hjl
      have := hcell j hjl
      rw [Deep.add_add] at this
      rw [this]; exact hj
    obtain ⟨q, hq⟩ := Deep.choose_lt (α := α) key
    have hsp : cap = 0 ∨ (sp = none ∧ b < W.heap.size) := by
      rcases Nat.eq_zero_or_pos cap with h | h
      · exact .inl h
      · have h0 := (hq 0 (by omega)).1 0 ((cl (q 0))[0]'(by rw [hcl]; exact hk0)) (List.getElem?_eq_getElem _)
        rw [Nat.zero_mul, Nat.add_zero] at h0
        exact .inr (cell_spot h0)
    have hll : ((List.range len).map q).length = len := by simp
    refine ⟨(List.range len).map q, ⟨hlen _, ⟨_, cap, by rw [hll], by omega, hm, ?_⟩, ?_⟩, fun a ha => ?_⟩
    · rcases hsp with h | ⟨rfl, h⟩
      · exact .inl h
      · exact .inr ⟨b, off, rfl, h⟩
    · intro b' off' m' c' he j u hu
      injection he with e1 _ _; injection e1 with e1; injection e1 with e1 e2 e3; subst e1 e2 e3
      have hj := (List.getElem?_eq_some_iff.1 hu).1
      rw [hlen, hll] at hj
      have hil : j / k < len := Nat.div_lt_of_lt_mul (by rw [Nat.mul_comm]; exact hj)
      have hjk : j / k * k + j % k = j := Nat.div_add_mod' j k
      have hrg := hcells ((List.range len).map q) (j / k) (j % k) (by rw [hll]; exact hil) (Nat.mod_lt _ hk0)
      rw [hjk, hu] at hrg
      have hqi : ((List.range len).map q)[j / k]'(by rw [hll]; exact hil) = q (j / k) := by simp
      rw [hqi] at hrg
      have := (hq (j / k) (by omega)).1 (j % k) u hrg.symm
      rw [hjk, Addr.add_mid] at this
      exact this
    · obtain ⟨i, hi, rfl⟩ := List.mem_map.1 ha
      exact (hq i (by have := List.mem_range.1 hi; omega)).2
instance : Inhabited Nd := ⟨⟨0, 0, 0, 0, 0, [], [], []⟩⟩
set_option maxRecDepth 100000 in
/-- AN ARGUMENT OF TYPE []Member, OPENED -/
theorem opened_mbs {r : Reach} {base : Nat} {v : Value} {d : DataW H} {ps : List MemPlace} (hok : Value.okWide Tryz.prog W r base 35 v) (h0 : DataW.Trod enc Tryz.prog W 0 (fun _ => true) true 35 v d ps) :
    ∃ l : List Mv, Mbs W (· < W.heap.size) (· < W.heap.size) v l ∧ ∀ a ∈ l, Kb a.1 := by
  obtain ⟨fuel, hf⟩ := h0
  replace hf : DataW.trod enc Tryz.prog W 0 (fun _ => true) true fuel 35 [v] = some (d, ps) := by
    rcases okSlice Tryz.underlying35 hok with rfl | ⟨b, off, len, cap, rfl, -, -, -⟩ <;> exact hf
  obtain ⟨l, h1, h2⟩ := slice_of_trod (α := Mv) (k := 9) Tryz.underlying35 (by kernel_rfl) (by decide) (fun y => (mcell y).toList) mcell_len (fun y => NdR W (· < W.heap.size) y.1.2 y.2.1 y.2.2 ∧ Kb y.1) mcells mcells_length (fun l j i h hi => by rw [mcells_get l j i h hi]; simp) (fun n cs y h => mb_of_trod h) hf
  exact ⟨l, ⟨h1, fun a ha => (h2 a ha).1⟩, fun a ha => (h2 a ha).2⟩
end
end Go.Proofs.YtplafpokgpolkaaGreatDoor
/- WHAT THE ROWS' LISTED VARIABLES AND THE WORLD'S SHAPE GIVE; and a world that holds the listed variables. -/
namespace Go.Proofs.YtplafpokgpolkaaGreatDoor
open Go.ChangeShapes Go.WideShapes Go.ChangeAt Go.RowKit
theorem mx_of_shape {W : World} (h : W.ShapedOpen Tryz.prog) : Mx W.heap.size W := by
  obtain ⟨m, hm⟩ : ∃ m, W.cell? ⟨2, 0, none⟩ = some (.int .i64 m) := Go.Proofs.cell_of_shapedOpen_int (zero := #[.int .i64 0]) (t := 3) h (of_decide_eq_true (by kernel_rfl)) (by kernel_rfl) rfl (by kernel_rfl) (by kernel_rfl) Tryz.underlying3
  exact ⟨World.block_lt_of_cell? W _ hm, m, hm⟩
/-- what the laws of the trees ask of the world -/
theorem tabs_of {W : World} {l : List (String × DataW Unit)} (hL : laidMetH Tryz.prog l W) (hsh : W.ShapedOpen Tryz.prog) (hc : ("portolan/path.classes", Rows.laid_portolan_path_classes) ∈ l) (ht : ("portolan/tar.types", Rows.laid_portolan_tar_types) ∈ l) : Tabs W.heap.size W :=
  ⟨Nat.le_refl _, mx_of_shape hsh, cls_of_laid hL hc, typ_of_laid (laidMetH_iff.1 hL).1 (List.mem_filter.2 ⟨ht, rfl⟩)⟩
/-- A WORLD FOR THE WITNESS -/
def layRow (c : Array Value) : Obj → Obj
  | .cells _ t frozen => .cells c t frozen
  | o => o
def classesMap : Obj := .map #[⟨.int .i64 1, .func (.func 215) #[] #[], 0⟩, ⟨.int .i64 2, .func (.func 216) #[] #[], 1⟩, ⟨.int .i64 3, .func (.func 217) #[] #[], 2⟩] 3
def typesMap : Obj := .map #[⟨.int .i64 1, .int .u8 53, 0⟩, ⟨.int .i64 2, .int .u8 48, 1⟩, ⟨.int .i64 3, .int .u8 50, 2⟩, ⟨.int .i64 4, .int .u8 54, 3⟩] 4
noncomputable def lowM : Nat := (World.holding Tryz.prog default ⟨#[], #[], []⟩).heap.size
noncomputable def laidWorld (os : Os) : World :=
  let w0 := World.holding Tryz.prog os ⟨#[classesMap, typesMap], #[], []⟩
  let h2 := Array.modify w0.heap 4 (layRow ((List.range 16).flatMap fun i => [Value.int .u8 (Lib.accLo i), Value.int .u8 (Lib.accHi i)]).toArray)
  let h3 := Array.modify h2 3 (layRow (Lib.firstTab.map fun z => Value.int .u8 z).toArray)
  let h4 := Array.modify h3 0 (layRow #[.map (some lowM)])
  let h5 := Array.modify h4 1 (layRow #[.map (some (lowM + 1))])
  { w0 with heap := h5 }
end Go.Proofs.YtplafpokgpolkaaGreatDoor
