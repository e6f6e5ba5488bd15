/- PARTS OF ONE PROOF, set in one file: ChangeKnown, TreeLaid. Each part tells its own conditions. -/
import Derived.Lib.LaidU8
import Derived.LaidHandle
import Derived.LaidSub
import Derived.PinnedBridge
import Derived.Deep.DeepWitnessRowRef
import Derived.Test.YtplafpokgpolkaaGreatDoorV1
/- portolanlaw19.ChangeKnown. -/
namespace Go.Proofs.YtplafpokgpolkaaGreatDoor
open Go.RowKit
theorem ckExt {ρ : Operand → Value} {d : Option Tmp} {x : Operand} {t : TypeId} {pos : String} {af : Array Edge} {g : Option (Nat × Bool)} {w : World} {i : Nat} {u v r : Value} (hx : ρ x = .tuple #[u, v]) (h : (#[u, v] : Array Value)[i]? = some r) : (execOp ρ (⟨d, .extract x i, t, pos, af, g⟩ : Oper)).run Tryz.prog w = .ok (.value r) w := by
  simp [go_sem, execOp, hx, Instr.extract, h]
theorem build2S {ρ : Operand → Value} {d : Option Tmp} {x y : Operand} {t : TypeId} {pos : String} {af : Array Edge} {g : Option (Nat × Bool)} {w : World} {a1 a2 : Option Addr} {n1 n2 c1 c2 : Nat} (hx : ρ x = .slice a1 n1 c1) (hy : ρ y = .slice a2 n2 c2) :
    (execOp ρ (⟨d, .buildSlice 61 2 #[(0, x), (1, y)], t, pos, af, g⟩ : Oper)).run Tryz.prog w = .ok (.value (.slice (some ⟨w.heap.size, 0, none⟩) 2 2)) (w.alloc (.cells #[.slice a1 n1 c1, .slice a2 n2 c2] 35)) := by
  have h : ∀ w, (Instr.buildSlice 61 2 #[(0, .slice a1 n1 c1), (1, .slice a2 n2 c2)]).run Tryz.prog w = .ok (.slice (some ⟨w.heap.size, 0, none⟩) 2 2) (w.alloc (.cells #[.slice a1 n1 c1, .slice a2 n2 c2] 35)) := fun w => by kernel_rfl
  unfold execOp
  simp only [hx, hy, List.map_toArray, List.map_cons, List.map_nil, Sem.run_bind, h, Result.andThen_ok, Sem.run_pure]
/-- what is said of each operation of the folding region -/
def ckD (T : Nat) : Nat → Value → World → Prop
  | 0, v, _ => v = .pointer (some ⟨T, 0, none⟩)
  | 1, v, w => ∃ a c, v = .agg #[.string ⟨([97, 47, 120] : Tx).toArray⟩, .int .i64 2, .int .u32 0, .int .u32 0, .int .u32 0, .int .i64 0, .slice none 0 0, .slice a 0 c, .string ⟨#[]⟩] ∧ NdL w (fileD []) nilV (.slice a 0 c)
  | 2, v, w => ∃ b l, v = .slice (some ⟨b, 0, none⟩) 1 1 ∧ MbL w v l ∧ l.map (·.1) = [([97, 47, 120], fileD [])]
  | 3, v, w => ∃ b vs, v = .slice (some ⟨b, 0, none⟩) 2 2 ∧ SetsL w b vs ∧ vs.length = 2 ∧ (∀ x ∈ vs, x.2.length ≤ 600 ∧ ∀ y ∈ x.2, Sm y.1) ∧ setsC vs = [[], [([97, 47, 120], fileD [])]]
  | 4, v, _ => ∃ pv, v = .tuple #[pv, .int .i64 33]
  | 5, v, _ => ∃ pv, v = .tuple #[pv, .int .i64 33]
  | 7, v, _ => v = .int .i64 33
  | 9, v, _ => v = .int .i64 33
  | _, _, _ => True
theorem ckD_stays {T : Nat} : ∀ (i : Nat) (v : Value) {w w' : World}, ckD T i v w → Below w.heap.size w w' → ckD T i v w'
  | 0, _, _, _, h, _ => h
  | 1, _, _, _, ⟨a, c, h1, h2⟩, hb => ⟨a, c, h1, h2.on hb⟩
  | 2, _, _, _, ⟨b, l, h1, h2, h3⟩, hb => ⟨b, l, h1, h2.on hb, h3⟩
  | 3, _, _, _, ⟨b, vs, h1, h2, h3⟩, hb => ⟨b, vs, h1, h2.on hb, h3⟩
  | 4, _, _, _, h, _ => h
  | 5, _, _, _, h, _ => h
  | 6, _, _, _, _, _ => trivial
  | 7, _, _, _, h, _ => h
  | 8, _, _, _, _, _ => trivial
  | 9, _, _, _, h, _ => h
  | _ + 10, _, _, _, _, _ => trivial
theorem nm_cells (k q1 r1 r0 : Nat) (h1 : k / 676 = q1) (h2 : k / 26 % 26 = r1) (h3 : k % 26 = r0) (hk : k < 4094) : (#[.int .u8 (97 + (q1 : Int)), .int .u8 (97 + (r1 : Int)), .int .u8 (97 + (r0 : Int))] : Array Value) = (bcells (nmX k).tail).toArray := by
  unfold nmX bcells
  rw [h1, h2, h3]
  have e : ∀ n : Nat, n < 256 → ((UInt8.ofNat n).toNat : Int) = (n : Int) := fun n hn => by rw [UInt8.toNat_ofNat_of_lt' (by simpa using hn)]
  simp only [List.tail_cons, List.map_cons, List.map_nil]
  rw [e _ (by omega), e _ (by omega), e _ (by omega)]
  rfl
set_option maxHeartbeats 32000000 in
set_option maxRecDepth 100000 in
theorem cknown_any (B : Nat) (w : World) (hT : Tabs B w) : Calls Tryz.prog 3 #[] w fun e w' => e = .returned (.bool true) ∧ Below w.heap.size w w' := by
  have HT := Keep.keep hT
  have HW0 : Keep (Below w.heap.size w w) := ⟨Below.refl _ _⟩
  clear hT
  go_enter Tryz.func3, Tryz.ntmps3
  go_wp2_with fail
  refine (dir_any [97] 0 _).mono ?_
  rintro e w1 ⟨rfl, hb⟩
  have HW1 := Keep.keep (HW0.out.trans (hb.mono HW0.out.size))
  clear HW0
  clear hb
  go_wp2_with fail
  refine (dir_any [97, 47, 98] 0 _).mono ?_
  rintro e w2 ⟨rfl, hb⟩
  have HW2 := Keep.keep (HW1.out.trans (hb.mono HW1.out.size))
  clear HW1
  clear hb
  go_wp2_with fail
  refine (file_any [97, 47, 98, 47, 99] [49] 1 rfl (by decide) _).mono ?_
  rintro e w3 ⟨a0, c0, rfl, hn, hb⟩
  have HW3 := Keep.keep (HW2.out.trans (hb.mono HW2.out.size))
  clear HW2
  have HN0 := Keep.keep hn
  clear hn hb
  go_wp2_with fail
  refine (file_any [100] [50] 1 rfl (by decide) _).mono ?_
  rintro e w4 ⟨a1, c1, rfl, hn, hb⟩
  have HW4 := Keep.keep (HW3.out.trans (hb.mono HW3.out.size))
  clear HW3
  have HN0' := Keep.keep (HN0.out.on hb)
  clear HN0
  have HN0 := HN0'
  clear HN0'
  have HN1 := Keep.keep hn
  clear hn hb
  go_wp2_with fail
  refine calls_at (R := fun wq => Below w4.heap.size w4 wq ∧ SetL wq w4.heap.size ([(([97], dirM 0), nilV, nilV), (([97, 47, 98], dirM 0), nilV, nilV), (([97, 47, 98, 47, 99], fileD [49]), nilV, .slice a0 1 c0), (([100], fileD [50]), nilV, .slice a1 1 c1)] : List Mv)) ⟨(Below.refl _ _).alloc (Nat.le_refl _) _, SetL.new (fun x hx => ?_) rfl⟩ ?_
  · simp only [List.mem_cons, List.not_mem_nil, or_false] at hx
    rcases hx with rfl | rfl | rfl | rfl
    · exact dirL _ _
    · exact dirL _ _
    · exact HN0.out
    · exact HN1.out
  intro w5 Hq
  have hbq := Hq.out.1
  clear HN0
  clear HN1
  have HW5 := Keep.keep (HW4.out.trans (hbq.mono HW4.out.size))
  clear HW4
  refine (new_tr B (HT.out.on (HW5.out.mono HT.out.b)) (Hq.out.2.mb (n := 4) rfl (by decide)) (fun x hx => ?_) (by simp) ckn).mono ?_
  · simp only [List.mem_cons, List.not_mem_nil, or_false] at hx
    rcases hx with rfl | rfl | rfl | rfl
    · exact sm_dirM _ _ (by decide)
    · exact sm_dirM _ _ (by decide)
    · exact sm_fileD _ _ (by decide) (by decide)
    · exact sm_fileD _ _ (by decide) (by decide)
  rintro e w6 ⟨T1, rfl, ht, hb⟩
  have HW6 := Keep.keep (HW5.out.trans (hb.mono HW5.out.size))
  clear HW5
  have HT1 := Keep.keep ht
  clear ht hb hbq Hq
  go_wp2_with fail
  refine calls_at (R := fun wq => Below w6.heap.size w6 wq ∧ BoxT wq w6.heap.size T1 kT) ⟨(Below.refl _ _).alloc (Nat.le_refl _) _, (Row.new _ 22 #[.pointer (some ⟨T1, 0, none⟩)]).cell (i := 0) rfl, HT1.out.on ((Below.refl _ _).alloc (Nat.le_refl _) _)⟩ ?_
  intro w7 Hq
  have hbq := Hq.out.1
  obtain ⟨b1, hb1⟩ : ∃ b, b = w6.heap.size := ⟨_, rfl⟩
  have HBX := Keep.keep Hq.out.2
  rw [← hb1] at HBX ⊢
  clear HT1 hb1
  have HW7 := Keep.keep (HW6.out.trans (hbq.mono HW6.out.size))
  clear HW6
  clear hbq Hq
  refine (apply_nil _ _ rfl).mono ?_
  rintro e w8 ⟨rfl, hb⟩
  have HW8 := Keep.keep (HW7.out.trans (hb.mono HW7.out.size))
  clear HW7
  have HBX' := Keep.keep (HBX.out.on hb)
  clear HBX
  have HBX := HBX'
  clear HBX'
  clear hb
  go_wp2_with fail
  refine (fold_nil _ _ rfl).mono ?_
  rintro e w9 ⟨rfl, hb⟩
  have HW9 := Keep.keep (HW8.out.trans (hb.mono HW8.out.size))
  clear HW8
  have HBX' := Keep.keep (HBX.out.on hb)
  clear HBX
  have HBX := HBX'
  clear HBX'
  clear hb
  have c0 := HBX.out.1
  go_wp2_with fail
  refine (fold_none T1 kT _ HBX.out.2 (by decide)).mono ?_
  rintro e w10 ⟨T2, rfl, ht, hb⟩
  have HW10 := Keep.keep (HW9.out.trans (hb.mono HW9.out.size))
  clear HW9
  have HBX' := Keep.keep (HBX.out.on hb)
  clear HBX
  have HBX := HBX'
  clear HBX'
  have HU := Keep.keep ht
  clear hb ht c0
  go_upto_region 10 with fail
  refine wp_region_spcS [45, 46, 47, 48, 49, 44, 50, 51, 12, 13] (Below w10.heap.size w10) (ckD T1) (fun w w' => Below w.heap.size w w') (by kernel_rfl) rfl (by decide) (by show ∀ d ∈ _, d < 260; decide) (by kernel_rfl) (Below.refl _ _).drew (fun i v w w' h _ hb => ckD_stays i v h hb) ?_ ?_
  focus
    intro q hq a1 w5 hF hC hT
    have hsz : a1.tmps.size = 260 := hF.size
    have t1 : a1.eval (.tmp 1) = .pointer (some ⟨b1, 0, none⟩) := (hF.same 1 (by decide)).trans rfl
    have hkr : Below w5.heap.size w5 w5 := Below.refl _ _
    have hbx := HBX.out.on hC
    rcases (by have hq : q < 10 := hq; omega : q = 0 ∨ q = 1 ∨ q = 2 ∨ q = 3 ∨ q = 4 ∨ q = 5 ∨ q = 6 ∨ q = 7 ∨ q = 8 ∨ q = 9) with rfl | rfl | rfl | rfl | rfl | rfl | rfl | rfl | rfl | rfl
    · exact spcS_val (d := 45) rfl (wanted_none rfl) (run_loadCell (run_isAgg_plain Tryz.underlying22 rfl) hbx.1 t1) hC hkr rfl
    · refine spcS_call (d := 46) (vs := #[.string ⟨([97, 47, 120] : Tx).toArray⟩, .string ⟨([] : Tx).toArray⟩]) rfl (wanted_none rfl) (Go.Proofs.enters_of Tryz.func10 (by kernel_rfl) rfl) (by simp <;> exact ⟨rfl, rfl⟩) ?_
      refine (file_any [97, 47, 120] [] 0 rfl (by decide) w5).mono ?_
      rintro e wz ⟨a, c, rfl, hn, hb⟩
      exact ⟨_, rfl, hC.trans (hb.mono hC.size), hb, a, c, rfl, hn⟩
    · obtain ⟨a, c, hx, hn⟩ : ckD T1 1 (slot a1 46) w5 := hT 1 (by kernel_rfl)
      replace hx : a1.eval (.tmp 46) = .agg (mcell (([97, 47, 120], fileD []), nilV, .slice a 0 c)) := hx
      have hal : Below w5.heap.size w5 (w5.alloc (.cells (a1.eval (.tmp 46)).cells 32)) := (Below.refl _ _).alloc (Nat.le_refl _) _
      refine spcS_val (d := 47) rfl (wanted_none rfl) (run_build1 slMb (by decide) (by rw [hx]; rfl)) (hC.trans (hal.mono hC.size)) hal ?_
      rw [hx]
      refine ⟨w5.heap.size, [(([97, 47, 120], fileD []), nilV, .slice a 0 c)], rfl, (SetL.new (l := [(([97, 47, 120], fileD []), nilV, .slice a 0 c)]) (fun x hx => ?_) rfl).mb (n := 1) rfl (by decide), rfl⟩
      obtain rfl : x = (([97, 47, 120], fileD []), nilV, .slice a 0 c) := by simpa using hx
      exact hn
    · obtain ⟨b, l, hx, hm, hl⟩ : ckD T1 2 (slot a1 47) w5 := hT 2 (by kernel_rfl)
      have hal : Below w5.heap.size w5 (w5.alloc (.cells #[.slice none 0 0, .slice (some ⟨b, 0, none⟩) 1 1] 35)) := (Below.refl _ _).alloc (Nat.le_refl _) _
      refine spcS_val (d := 48) rfl (wanted_none rfl) (build2S (x := .const (.slice none 0 0)) (y := .tmp 47) rfl hx) (hC.trans (hal.mono hC.size)) hal ?_
      have hll : l.length = 1 := by rw [← List.length_map (f := fun x : Mv => x.1), hl]; rfl
      refine ⟨w5.heap.size, [(.slice none 0 0, []), (.slice (some ⟨b, 0, none⟩) 1 1, l)], rfl, ⟨Row.new _ _ _, fun x hx2 => ?_⟩, rfl, fun x hx2 => ?_, by simp [setsC, hl]⟩
      · simp only [List.mem_cons, List.not_mem_nil, or_false] at hx2
        rcases hx2 with rfl | rfl
        · exact ⟨RdV.ofNil, fun x hx => by simp at hx⟩
        · rw [hx] at hm; exact hm.on hal
      · simp only [List.mem_cons, List.not_mem_nil, or_false] at hx2
        rcases hx2 with rfl | rfl
        · exact ⟨by simp, fun x hx => by simp at hx⟩
        · refine ⟨by dsimp only; omega, sm_mapX (fun x hx3 => ?_)⟩
          dsimp only at hx3
          rw [hl] at hx3
          obtain rfl : x = ([97, 47, 120], fileD []) := by simpa using hx3
          exact sm_fileD _ _ (by decide) (by decide)
    · have hx1 : a1.eval (.tmp 45) = .pointer (some ⟨T1, 0, none⟩) := hT 0 (by kernel_rfl)
      obtain ⟨b, vs, hx2, hs, hn, hv, hsc⟩ : ckD T1 3 (slot a1 48) w5 := hT 3 (by kernel_rfl)
      replace hx2 : a1.eval (.tmp 48) = .slice (some ⟨b, 0, none⟩) 2 2 := hx2
      refine spcS_call (d := 49) (vs := #[.pointer (some ⟨T1, 0, none⟩), .slice (some ⟨b, 0, none⟩) 2 2]) rfl (wanted_none rfl) (Go.Proofs.enters_of Tryz.func17 (by kernel_rfl) rfl) (by simp [hx1, hx2]) ?_
      have hfo := fold_any B T1 kT b 2 vs w5 (HT.out.on ((HW10.out.trans (hC.mono HW10.out.size)).mono HT.out.b)) hbx.2 hs hv (by decide) hn (by decide)
      rw [hsc, ckf] at hfo
      refine hfo.mono ?_
      rintro e wz ⟨⟨pv, rfl, -⟩, hb⟩
      exact ⟨_, rfl, hC.trans (hb.mono hC.size), hb, pv, rfl⟩
    · obtain ⟨pv, hx⟩ : ckD T1 4 (slot a1 49) w5 := hT 4 (by kernel_rfl)
      exact spcS_val (d := 44) rfl (wanted_none rfl) run_move hC hkr ⟨pv, hx⟩
    · obtain ⟨pv, hx⟩ : ckD T1 5 (slot a1 44) w5 := hT 5 (by kernel_rfl)
      replace hx : a1.eval (.tmp 44) = .tuple #[pv, .int .i64 33] := hx
      exact spcS_val (d := 50) (v := pv) rfl (wanted_none rfl) (ckExt hx rfl) hC hkr trivial
    · obtain ⟨pv, hx⟩ : ckD T1 5 (slot a1 44) w5 := hT 5 (by kernel_rfl)
      replace hx : a1.eval (.tmp 44) = .tuple #[pv, .int .i64 33] := hx
      exact spcS_val (d := 51) (v := .int .i64 33) rfl (wanted_none rfl) (ckExt hx rfl) hC hkr rfl
    · exact spcS_val (d := 12) rfl (wanted_none rfl) run_assign hC hkr trivial
    · have hx : a1.eval (.tmp 51) = .int .i64 33 := hT 7 (by kernel_rfl)
      exact spcS_val (d := 13) rfl (wanted_none rfl) run_assign hC hkr hx
  intro a1 w11 ha hC hT
  have t45 : slot a1 45 = .pointer (some ⟨T1, 0, none⟩) := hT 0 (by decide)
  obtain ⟨fa, fc, t46, -⟩ : ckD T1 1 (slot a1 46) w11 := hT 1 (by decide)
  obtain ⟨fb, -, t47, -⟩ : ckD T1 2 (slot a1 47) w11 := hT 2 (by decide)
  obtain ⟨fd, -, t48, -⟩ : ckD T1 3 (slot a1 48) w11 := hT 3 (by decide)
  obtain ⟨fp, t49⟩ : ckD T1 4 (slot a1 49) w11 := hT 4 (by decide)
  obtain ⟨fq, t44⟩ : ckD T1 5 (slot a1 44) w11 := hT 5 (by decide)
  have t51 : slot a1 51 = .int .i64 33 := hT 7 (by decide)
  have t13 : slot a1 13 = .int .i64 33 := hT 9 (by decide)
  simp only [List.foldl_cons, List.foldl_nil, t45, t46, t47, t48, t49, t44, t51, t13] at ha
  have HW11 := Keep.keep (HW10.out.trans (hC.mono HW10.out.size))
  clear HW10
  have HBX' := Keep.keep (HBX.out.on hC)
  clear HBX
  have HBX := HBX'
  clear HBX'
  have HU' := Keep.keep (HU.out.on hC)
  clear HU
  have HU := HU'
  clear HU'
  clear hT t45 t46 t47 t48 t49 t44 t51 t13 hC
  generalize slot a1 50 = y50 at *
  generalize slot a1 12 = y12 at *
  subst ha
  obtain ⟨n4, Z, hn4, hZ, hmk⟩ : ∃ (n : Nat) (Z : Array Value), Keep (n = 4094) ∧ Keep (∀ B K (w : World), B ≤ w.heap.size → RowM B K (w.alloc (.cells Z 32)) (.slice (some ⟨w.heap.size, 0, none⟩) n n) (List.replicate n z9)) ∧ ∀ w : World, (Instr.makeSlice 35 (.int .i64 4094) (.int .i64 4094)).run Tryz.prog w = .ok (.slice (some ⟨w.heap.size, 0, none⟩) n n) (w.alloc (.cells Z 32)) := ⟨4094, _, ⟨rfl⟩, ⟨fun B K w h => new_mbs B K w 4094 (by decide) h⟩, fun w => mk_mbs 4094 4094 rfl (by decide) w⟩
  simp only [Act.put, List.setIfInBounds_toArray, List.set_cons_succ, List.set_cons_zero]
  go_wp2_with fail
  have HAL : Keep (Below w11.heap.size w11 (w11.alloc (.cells Z 32))) := ⟨(Below.refl _ _).alloc (Nat.le_refl _) _⟩
  have HRW0 := Keep.keep (hZ.out w11.heap.size NoM w11 (Nat.le_refl _))
  have hn5 : n4 ≤ 4094 := Nat.le_of_eq hn4.out
  clear hmk
  obtain ⟨gm, hgm⟩ : ∃ g, w11.heap.size = g := ⟨_, rfl⟩
  have HGM := Keep.keep hgm
  go_loopg [55] n4 (fun g u55 wx => ∃ (k : Nat) (l : List Mv), k + g = n4 ∧ u55 = .int .i64 (k : Int) ∧ l.length = n4 ∧ (l.take k).map (·.1) = rowX k ∧ RowM w11.heap.size NoM wx (.slice (some ⟨w11.heap.size, 0, none⟩) n4 n4) l ∧ Below w11.heap.size w11 wx)
  focus
    exact ⟨0, List.replicate n4 z9, by omega, rfl, List.length_replicate, by simp [rowX], HRW0.out, HAL.out⟩
  obtain ⟨k, l, hkg, rfl, hll, htk, hrow, hb⟩ := hrel
  have HLL := Keep.keep hll; have HTK := Keep.keep htk; have HRW := Keep.keep hrow; have HB := Keep.keep hb
  clear hll htk hrow hb HRW0 HAL hgm HGM
  cases gk
  rotate_left
  focus
    rename_i g hnext
    have hk : k < n4 := by omega
    have hd : decide ((k : Int) < (n4 : Int)) = true := decide_eq_true (by omega)
    have hkn : k < 4094 := by omega
    obtain ⟨q1, hq1⟩ : ∃ q, k / 676 = q := ⟨_, rfl⟩
    obtain ⟨q2, hq2⟩ : ∃ q, k / 26 = q := ⟨_, rfl⟩
    obtain ⟨r1, hr1⟩ : ∃ q, q2 % 26 = q := ⟨_, rfl⟩
    obtain ⟨r0, hr0⟩ : ∃ q, k % 26 = q := ⟨_, rfl⟩
    have b1' : q1 < 8 := by omega
    have b2 : q2 < 200 := by omega
    have b3 : r1 < 26 := by omega
    have b4 : r0 < 26 := by omega
    have d1 : (k : Int).tdiv 676 = (q1 : Int) := by rw [Int.tdiv_eq_ediv_of_nonneg (by omega), ← hq1]; rfl
    have d2 : (k : Int).tdiv 26 = (q2 : Int) := by rw [Int.tdiv_eq_ediv_of_nonneg (by omega), ← hq2]; rfl
    have d3 : (q2 : Int).tmod 26 = (r1 : Int) := by rw [Int.tmod_eq_emod_of_nonneg (by omega), ← hr1]; rfl
    have d4 : (k : Int).tmod 26 = (r0 : Int) := by rw [Int.tmod_eq_emod_of_nonneg (by omega), ← hr0]; rfl
    have d5 : (k : Int) / 676 = (q1 : Int) := by rw [← hq1]; rfl
    have d6 : (k : Int) / 26 = (q2 : Int) := by rw [← hq2]; rfl
    have d7 : (q2 : Int) % 26 = (r1 : Int) := by rw [← hr1]; rfl
    have d8 : (k : Int) % 26 = (r0 : Int) := by rw [← hr0]; rfl
    have HNM := Keep.keep (nm_cells k q1 r1 r0 hq1 (by rw [hq2]; exact hr1) hr0 hkn)
    obtain ⟨nm, hnm⟩ : ∃ n, (nmX k).tail = n := ⟨_, rfl⟩
    have HNX : Keep (nmX k = 120 :: nm) := ⟨by rw [← hnm]; rfl⟩
    have hnl : nm.length = 3 := by rw [← hnm]; rfl
    rw [hnm] at HNM
    have hcat := run_cat (P := Tryz.prog) [120] nm (by rw [hnl]; decide)
    rw [show ([120] ++ nm : Tx) = nmX k from HNX.out.symm] at hcat
    obtain ⟨nx, hnx⟩ : ∃ n, nmX k = n := ⟨_, rfl⟩
    have HMX : Keep (mX k = (nx, fileD [])) := ⟨by rw [← hnx]; rfl⟩
    rw [hnx] at hcat
    have hcv : (convert 28 9 (.slice (some ⟨wr.heap.size, 0, none⟩) 3 3)).run Tryz.prog (wr.alloc (.cells #[.int .u8 (97 + (q1 : Int)), .int .u8 (97 + (r1 : Int)), .int .u8 (97 + (r0 : Int))] 5)) = .ok (.string ⟨nm.toArray⟩) (wr.alloc (.cells #[.int .u8 (97 + (q1 : Int)), .int .u8 (97 + (r1 : Int)), .int .u8 (97 + (r0 : Int))] 5)) :=
      run_string_of (Reads.lit 5 _ nm (0, 0) wr.heap.size 3 rfl HNM.out (by rw [hnl]) (by rw [hnl]; decide))
    clear hq1 hq2 hr1 hr0 hnm HNM hnx HNX
    go_wp2_with fail
    refine calls_at (R := fun wq => Below wr.heap.size wr wq) ((Below.refl _ _).alloc (Nat.le_refl _) _) ?_
    intro x2 Hx2
    clear hcv d1 d2 d3 d4 d5 d6 d7 d8
    refine (file_fresh nx [] 0 rfl (by decide) x2).mono ?_
    rintro e x3 ⟨da, dc, rfl, hdn, hb3⟩
    have HD3 := Keep.keep hdn
    have HX3 := Keep.keep (Hx2.out.trans (hb3.mono Hx2.out.size))
    have HRW3 := Keep.keep (HRW.out.below HX3.out)
    have HX2 : Keep (wr.heap.size ≤ x2.heap.size) := ⟨Hx2.out.size⟩
    clear hdn hb3 Hx2 hcat
    go_wp2_with (with_reducible refine arm_stopS ?_)
    refine Stopped.out ?_
    have hgl := HRW.out.lt (b := w11.heap.size) rfl
    refine arm_setMbK (B := w11.heap.size) (k := k) ((nx, fileD []), nilV, .slice da 0 dc) (Nat.le_trans HB.out.size HX3.out.size) HRW3.out HLL.out.symm (by rw [HLL.out]; exact hk) HD3.out (fun b hb => ⟨.inr (Nat.le_trans HB.out.size (Nat.le_trans HX2.out hb.1)), hb.2, fun e => by have := hb.1; have := HX2.out; omega⟩) rfl rfl ?_
    intro x4 hr4 hb4
    have HR4 := Keep.keep hr4
    have HB4 := Keep.keep (HB.out.trans ((HX3.out.mono HB.out.size).trans hb4))
    have HTK4 : Keep ((((l.set k ((nx, fileD []), nilV, .slice da 0 dc)).take (k + 1)).map (·.1)) = rowX (k + 1)) := ⟨by
      have hkl : k < (l.set k ((nx, fileD []), nilV, .slice da 0 dc)).length := by rw [List.length_set, HLL.out]; exact hk
      rw [List.take_succ_eq_append_getElem hkl, List.map_append, List.take_set_of_le (Nat.le_refl _), HTK.out, rowX_succ, HMX.out, List.getElem_set_self]
      rfl⟩
    clear hr4 hb4 HRW3 HX3 HX2 HRW hgl HD3
    simp only [Act.put]
    go_wp2_with fail
    go_roundg g
    case measure => omega
    case rel => exact ⟨k + 1, _, by omega, by simp, by rw [List.length_set]; exact HLL.out, HTK4.out, HR4.out, HB4.out⟩
  obtain rfl : k = n4 := by omega
  have HLX : Keep (l.map (·.1) = rowX 4094) := ⟨by have h := HTK.out; rw [List.take_of_length_le (Nat.le_of_eq HLL.out), hn4.out] at h; exact h⟩
  have HML := Keep.keep (MbL.ofRow HRW.out)
  have hb := HB.out
  generalize wr = w12 at *
  have HW12 := Keep.keep (HW11.out.trans (hb.mono HW11.out.size))
  clear HW11
  have HBX' := Keep.keep (HBX.out.on hb)
  clear HBX
  have HBX := HBX'
  clear HBX'
  have HU' := Keep.keep (HU.out.on hb)
  clear HU
  have HU := HU'
  clear HU'
  clear hb HTK HRW HB hZ
  have HMS : Keep (∀ x ∈ l, Sm x.1) := ⟨sm_mapX (fun x hx => by
    rw [HLX.out] at hx
    obtain ⟨j, hj, rfl⟩ := rowX_mem.1 hx
    exact sm_fileD _ _ (by simp [nmX]) (by decide))⟩
  have HAP := Keep.keep (apply_o B (HT.out.on (HW12.out.mono HT.out.b)) HBX.out.2 (by decide) HML.out HMS.out (by rw [HLL.out]; omega))
  rw [HLX.out, many_apply] at HAP
  dsimp only at HAP
  have c0 := HBX.out.1
  clear HLX HLL HML HMS
  go_wp2_with fail
  refine HAP.out.mono ?_
  rintro e w13 ⟨⟨pv, rfl, -⟩, hb⟩
  have HW13 := Keep.keep (HW12.out.trans (hb.mono HW12.out.size))
  clear HW12
  have HBX' := Keep.keep (HBX.out.on hb)
  clear HBX
  have HBX := HBX'
  clear HBX'
  have HU' := Keep.keep (HU.out.on hb)
  clear HU
  have HU := HU'
  clear HU'
  clear hb HAP c0
  have c0 := HBX.out.1
  go_wp2_with fail
  refine (same_tr HBX.out.2 HU.out (by decide) rfl).mono ?_
  rintro e w14 ⟨rfl, hb⟩
  have HU9 := HU
  clear HU HU9
  have HW14 := Keep.keep (HW13.out.trans (hb.mono HW13.out.size))
  clear HW13
  have HBX' := Keep.keep (HBX.out.on hb)
  clear HBX
  have HBX := HBX'
  clear HBX'
  clear hb c0
  have hbz : ∀ w, (Instr.build 32 #[(0, .string ⟨#[122]⟩)]).run Tryz.prog w = .ok (.agg #[.string ⟨#[122]⟩, .int .i64 0, .int .u32 0, .int .u32 0, .int .u32 0, .int .i64 0, .slice none 0 0, .slice none 0 0, .string ⟨#[]⟩]) w := fun w => by kernel_rfl
  go_wp2_with fail
  refine (file_any [] [] 0 rfl (by decide) _).mono ?_
  rintro e w15 ⟨a2, c2, rfl, hn, hb⟩
  have HW15 := Keep.keep (HW14.out.trans (hb.mono HW14.out.size))
  clear HW14
  have HBX' := Keep.keep (HBX.out.on hb)
  clear HBX
  have HBX := HBX'
  clear HBX'
  have HN2 := Keep.keep hn
  clear hn hb
  go_wp2_with fail
  refine calls_at (R := fun wq => Below w15.heap.size w15 wq ∧ SetL wq w15.heap.size ([(([], fileD []), nilV, .slice a2 0 c2)] : List Mv)) ⟨(Below.refl _ _).alloc (Nat.le_refl _) _, SetL.new (fun x hx => ?_) rfl⟩ ?_
  · simp only [List.mem_cons, List.not_mem_nil, or_false] at hx
    obtain rfl := hx
    · exact HN2.out
  intro w16 Hq
  have hbq := Hq.out.1
  clear HN2
  have HW16 := Keep.keep (HW15.out.trans (hbq.mono HW15.out.size))
  clear HW15
  have HBX' := Keep.keep (HBX.out.on hbq)
  clear HBX
  have HBX := HBX'
  clear HBX'
  refine (k1_any B b1 T1 kT _ _ w16 (HT.out.on (HW16.out.mono HT.out.b)) HBX.out (by decide) (Hq.out.2.mb (n := 1) rfl (by decide)) (fun x hx => ?_) (by simp) ck0).mono ?_
  · simp only [List.mem_cons, List.not_mem_nil, or_false] at hx
    obtain rfl := hx
    · exact sm_fileD _ _ (by decide) (by decide)
  rintro e w17 ⟨rfl, hb⟩
  have HW17 := Keep.keep (HW16.out.trans (hb.mono HW16.out.size))
  clear HW16
  have HBX' := Keep.keep (HBX.out.on hb)
  clear HBX
  have HBX := HBX'
  clear HBX'
  clear hb hbq Hq
  go_wp2_with fail
  refine (file_any [46, 119, 104, 46, 46, 119, 104, 46, 116, 111, 99] [] 0 rfl (by decide) _).mono ?_
  rintro e w18 ⟨a3, c3, rfl, hn, hb⟩
  have HW18 := Keep.keep (HW17.out.trans (hb.mono HW17.out.size))
  clear HW17
  have HBX' := Keep.keep (HBX.out.on hb)
  clear HBX
  have HBX := HBX'
  clear HBX'
  have HN3 := Keep.keep hn
  clear hn hb
  go_wp2_with fail
  refine calls_at (R := fun wq => Below w18.heap.size w18 wq ∧ SetL wq w18.heap.size ([(([46, 119, 104, 46, 46, 119, 104, 46, 116, 111, 99], fileD []), nilV, .slice a3 0 c3)] : List Mv)) ⟨(Below.refl _ _).alloc (Nat.le_refl _) _, SetL.new (fun x hx => ?_) rfl⟩ ?_
  · simp only [List.mem_cons, List.not_mem_nil, or_false] at hx
    obtain rfl := hx
    · exact HN3.out
  intro w19 Hq
  have hbq := Hq.out.1
  clear HN3
  have HW19 := Keep.keep (HW18.out.trans (hbq.mono HW18.out.size))
  clear HW18
  have HBX' := Keep.keep (HBX.out.on hbq)
  clear HBX
  have HBX := HBX'
  clear HBX'
  refine (k1_any B b1 T1 kT _ _ w19 (HT.out.on (HW19.out.mono HT.out.b)) HBX.out (by decide) (Hq.out.2.mb (n := 1) rfl (by decide)) (fun x hx => ?_) (by simp) ck1).mono ?_
  · simp only [List.mem_cons, List.not_mem_nil, or_false] at hx
    obtain rfl := hx
    · exact sm_fileD _ _ (by decide) (by decide)
  rintro e w20 ⟨rfl, hb⟩
  have HW20 := Keep.keep (HW19.out.trans (hb.mono HW19.out.size))
  clear HW19
  have HBX' := Keep.keep (HBX.out.on hb)
  clear HBX
  have HBX := HBX'
  clear HBX'
  clear hb hbq Hq
  go_wp2_with fail
  refine (file_any [46, 119, 104, 46, 46, 119, 104, 46, 120] [] 0 rfl (by decide) _).mono ?_
  rintro e w21 ⟨a4, c4, rfl, hn, hb⟩
  have HW21 := Keep.keep (HW20.out.trans (hb.mono HW20.out.size))
  clear HW20
  have HBX' := Keep.keep (HBX.out.on hb)
  clear HBX
  have HBX := HBX'
  clear HBX'
  have HN4 := Keep.keep hn
  clear hn hb
  go_wp2_with fail
  refine calls_at (R := fun wq => Below w21.heap.size w21 wq ∧ SetL wq w21.heap.size ([(([46, 119, 104, 46, 46, 119, 104, 46, 120], fileD []), nilV, .slice a4 0 c4)] : List Mv)) ⟨(Below.refl _ _).alloc (Nat.le_refl _) _, SetL.new (fun x hx => ?_) rfl⟩ ?_
  · simp only [List.mem_cons, List.not_mem_nil, or_false] at hx
    obtain rfl := hx
    · exact HN4.out
  intro w22 Hq
  have hbq := Hq.out.1
  clear HN4
  have HW22 := Keep.keep (HW21.out.trans (hbq.mono HW21.out.size))
  clear HW21
  have HBX' := Keep.keep (HBX.out.on hbq)
  clear HBX
  have HBX := HBX'
  clear HBX'
  refine (k1_any B b1 T1 kT _ _ w22 (HT.out.on (HW22.out.mono HT.out.b)) HBX.out (by decide) (Hq.out.2.mb (n := 1) rfl (by decide)) (fun x hx => ?_) (by simp) ck2).mono ?_
  · simp only [List.mem_cons, List.not_mem_nil, or_false] at hx
    obtain rfl := hx
    · exact sm_fileD _ _ (by decide) (by decide)
  rintro e w23 ⟨rfl, hb⟩
  have HW23 := Keep.keep (HW22.out.trans (hb.mono HW22.out.size))
  clear HW22
  have HBX' := Keep.keep (HBX.out.on hb)
  clear HBX
  have HBX := HBX'
  clear HBX'
  clear hb hbq Hq
  go_wp2_with fail
  refine (file_any [46, 119, 104, 46, 100] [49] 1 rfl (by decide) _).mono ?_
  rintro e w24 ⟨a5, c5, rfl, hn, hb⟩
  have HW24 := Keep.keep (HW23.out.trans (hb.mono HW23.out.size))
  clear HW23
  have HBX' := Keep.keep (HBX.out.on hb)
  clear HBX
  have HBX := HBX'
  clear HBX'
  have HN5 := Keep.keep hn
  clear hn hb
  go_wp2_with fail
  refine calls_at (R := fun wq => Below w24.heap.size w24 wq ∧ SetL wq w24.heap.size ([(([46, 119, 104, 46, 100], fileD [49]), nilV, .slice a5 1 c5)] : List Mv)) ⟨(Below.refl _ _).alloc (Nat.le_refl _) _, SetL.new (fun x hx => ?_) rfl⟩ ?_
  · simp only [List.mem_cons, List.not_mem_nil, or_false] at hx
    obtain rfl := hx
    · exact HN5.out
  intro w25 Hq
  have hbq := Hq.out.1
  clear HN5
  have HW25 := Keep.keep (HW24.out.trans (hbq.mono HW24.out.size))
  clear HW24
  have HBX' := Keep.keep (HBX.out.on hbq)
  clear HBX
  have HBX := HBX'
  clear HBX'
  refine (k1_any B b1 T1 kT _ _ w25 (HT.out.on (HW25.out.mono HT.out.b)) HBX.out (by decide) (Hq.out.2.mb (n := 1) rfl (by decide)) (fun x hx => ?_) (by simp) ck3).mono ?_
  · simp only [List.mem_cons, List.not_mem_nil, or_false] at hx
    obtain rfl := hx
    · exact sm_fileD _ _ (by decide) (by decide)
  rintro e w26 ⟨rfl, hb⟩
  have HW26 := Keep.keep (HW25.out.trans (hb.mono HW25.out.size))
  clear HW25
  have HBX' := Keep.keep (HBX.out.on hb)
  clear HBX
  have HBX := HBX'
  clear HBX'
  clear hb hbq Hq
  go_wp2_with fail
  refine (dir_any [46, 119, 104, 46, 100] 0 _).mono ?_
  rintro e w27 ⟨rfl, hb⟩
  have HW27 := Keep.keep (HW26.out.trans (hb.mono HW26.out.size))
  clear HW26
  have HBX' := Keep.keep (HBX.out.on hb)
  clear HBX
  have HBX := HBX'
  clear HBX'
  clear hb
  go_wp2_with fail
  refine calls_at (R := fun wq => Below w27.heap.size w27 wq ∧ SetL wq w27.heap.size ([(([46, 119, 104, 46, 100], dirM 0), nilV, nilV)] : List Mv)) ⟨(Below.refl _ _).alloc (Nat.le_refl _) _, SetL.new (fun x hx => ?_) rfl⟩ ?_
  · simp only [List.mem_cons, List.not_mem_nil, or_false] at hx
    obtain rfl := hx
    · exact dirL _ _
  intro w28 Hq
  have hbq := Hq.out.1
  have HW28 := Keep.keep (HW27.out.trans (hbq.mono HW27.out.size))
  clear HW27
  have HBX' := Keep.keep (HBX.out.on hbq)
  clear HBX
  have HBX := HBX'
  clear HBX'
  refine (k1_any B b1 T1 kT _ _ w28 (HT.out.on (HW28.out.mono HT.out.b)) HBX.out (by decide) (Hq.out.2.mb (n := 1) rfl (by decide)) (fun x hx => ?_) (by simp) ck4).mono ?_
  · simp only [List.mem_cons, List.not_mem_nil, or_false] at hx
    obtain rfl := hx
    · exact sm_dirM _ _ (by decide)
  rintro e w29 ⟨rfl, hb⟩
  have HW29 := Keep.keep (HW28.out.trans (hb.mono HW28.out.size))
  clear HW28
  have HBX' := Keep.keep (HBX.out.on hb)
  clear HBX
  have HBX := HBX'
  clear HBX'
  clear hb hbq Hq
  go_wp2_with fail
  refine (file_any [97, 47, 120] [] 0 rfl (by decide) _).mono ?_
  rintro e w30 ⟨a6, c6, rfl, hn, hb⟩
  have HW30 := Keep.keep (HW29.out.trans (hb.mono HW29.out.size))
  clear HW29
  have HBX' := Keep.keep (HBX.out.on hb)
  clear HBX
  have HBX := HBX'
  clear HBX'
  have HN6 := Keep.keep hn
  clear hn hb
  go_wp2_with fail
  refine calls_at (R := fun wq => Below w30.heap.size w30 wq ∧ SetL wq w30.heap.size ([(([97, 47, 120], fileD []), nilV, .slice a6 0 c6)] : List Mv)) ⟨(Below.refl _ _).alloc (Nat.le_refl _) _, SetL.new (fun x hx => ?_) rfl⟩ ?_
  · simp only [List.mem_cons, List.not_mem_nil, or_false] at hx
    obtain rfl := hx
    · exact HN6.out
  intro w31 Hq
  have hbq := Hq.out.1
  clear HN6
  have HW31 := Keep.keep (HW30.out.trans (hbq.mono HW30.out.size))
  clear HW30
  have HBX' := Keep.keep (HBX.out.on hbq)
  clear HBX
  have HBX := HBX'
  clear HBX'
  refine (k1_any B b1 T1 kT _ _ w31 (HT.out.on (HW31.out.mono HT.out.b)) HBX.out (by decide) (Hq.out.2.mb (n := 1) rfl (by decide)) (fun x hx => ?_) (by simp) ck5).mono ?_
  · simp only [List.mem_cons, List.not_mem_nil, or_false] at hx
    obtain rfl := hx
    · exact sm_fileD _ _ (by decide) (by decide)
  rintro e w32 ⟨rfl, hb⟩
  have HW32 := Keep.keep (HW31.out.trans (hb.mono HW31.out.size))
  clear HW31
  have HBX' := Keep.keep (HBX.out.on hb)
  clear HBX
  have HBX := HBX'
  clear HBX'
  clear hb hbq Hq
  go_wp2_with fail
  refine (file_any [97] [] 0 rfl (by decide) _).mono ?_
  rintro e w33 ⟨a7, c7, rfl, hn, hb⟩
  have HW33 := Keep.keep (HW32.out.trans (hb.mono HW32.out.size))
  clear HW32
  have HBX' := Keep.keep (HBX.out.on hb)
  clear HBX
  have HBX := HBX'
  clear HBX'
  have HN7 := Keep.keep hn
  clear hn hb
  go_wp2_with fail
  refine (file_any [97, 47, 120] [] 0 rfl (by decide) _).mono ?_
  rintro e w34 ⟨a8, c8, rfl, hn, hb⟩
  have HW34 := Keep.keep (HW33.out.trans (hb.mono HW33.out.size))
  clear HW33
  have HBX' := Keep.keep (HBX.out.on hb)
  clear HBX
  have HBX := HBX'
  clear HBX'
  have HN7' := Keep.keep (HN7.out.on hb)
  clear HN7
  have HN7 := HN7'
  clear HN7'
  have HN8 := Keep.keep hn
  clear hn hb
  go_wp2_with fail
  refine calls_at (R := fun wq => Below w34.heap.size w34 wq ∧ SetL wq w34.heap.size ([(([97], fileD []), nilV, .slice a7 0 c7), (([97, 47, 120], fileD []), nilV, .slice a8 0 c8)] : List Mv)) ⟨(Below.refl _ _).alloc (Nat.le_refl _) _, SetL.new (fun x hx => ?_) rfl⟩ ?_
  · simp only [List.mem_cons, List.not_mem_nil, or_false] at hx
    rcases hx with rfl | rfl
    · exact HN7.out
    · exact HN8.out
  intro w35 Hq
  have hbq := Hq.out.1
  clear HN7
  clear HN8
  have HW35 := Keep.keep (HW34.out.trans (hbq.mono HW34.out.size))
  clear HW34
  have HBX' := Keep.keep (HBX.out.on hbq)
  clear HBX
  have HBX := HBX'
  clear HBX'
  refine (k1_any B b1 T1 kT _ _ w35 (HT.out.on (HW35.out.mono HT.out.b)) HBX.out (by decide) (Hq.out.2.mb (n := 2) rfl (by decide)) (fun x hx => ?_) (by simp) ck6).mono ?_
  · simp only [List.mem_cons, List.not_mem_nil, or_false] at hx
    rcases hx with rfl | rfl
    · exact sm_fileD _ _ (by decide) (by decide)
    · exact sm_fileD _ _ (by decide) (by decide)
  rintro e w36 ⟨rfl, hb⟩
  have HW36 := Keep.keep (HW35.out.trans (hb.mono HW35.out.size))
  clear HW35
  have HBX' := Keep.keep (HBX.out.on hb)
  clear HBX
  have HBX := HBX'
  clear HBX'
  clear hb hbq Hq
  go_wp2_with fail
  refine (file_any [98] [] 0 rfl (by decide) _).mono ?_
  rintro e w37 ⟨a9, c9, rfl, hn, hb⟩
  have HW37 := Keep.keep (HW36.out.trans (hb.mono HW36.out.size))
  clear HW36
  have HBX' := Keep.keep (HBX.out.on hb)
  clear HBX
  have HBX := HBX'
  clear HBX'
  have HN9 := Keep.keep hn
  clear hn hb
  go_wp2_with fail
  refine (file_any [97] [] 0 rfl (by decide) _).mono ?_
  rintro e w38 ⟨a10, c10, rfl, hn, hb⟩
  have HW38 := Keep.keep (HW37.out.trans (hb.mono HW37.out.size))
  clear HW37
  have HBX' := Keep.keep (HBX.out.on hb)
  clear HBX
  have HBX := HBX'
  clear HBX'
  have HN9' := Keep.keep (HN9.out.on hb)
  clear HN9
  have HN9 := HN9'
  clear HN9'
  have HN10 := Keep.keep hn
  clear hn hb
  go_wp2_with fail
  refine calls_at (R := fun wq => Below w38.heap.size w38 wq ∧ SetL wq w38.heap.size ([(([98], fileD []), nilV, .slice a9 0 c9), (([97], fileD []), nilV, .slice a10 0 c10)] : List Mv)) ⟨(Below.refl _ _).alloc (Nat.le_refl _) _, SetL.new (fun x hx => ?_) rfl⟩ ?_
  · simp only [List.mem_cons, List.not_mem_nil, or_false] at hx
    rcases hx with rfl | rfl
    · exact HN9.out
    · exact HN10.out
  intro w39 Hq
  have hbq := Hq.out.1
  clear HN9
  clear HN10
  have HW39 := Keep.keep (HW38.out.trans (hbq.mono HW38.out.size))
  clear HW38
  have HBX' := Keep.keep (HBX.out.on hbq)
  clear HBX
  have HBX := HBX'
  clear HBX'
  refine (k1_any B b1 T1 kT _ _ w39 (HT.out.on (HW39.out.mono HT.out.b)) HBX.out (by decide) (Hq.out.2.mb (n := 2) rfl (by decide)) (fun x hx => ?_) (by simp) ck7).mono ?_
  · simp only [List.mem_cons, List.not_mem_nil, or_false] at hx
    rcases hx with rfl | rfl
    · exact sm_fileD _ _ (by decide) (by decide)
    · exact sm_fileD _ _ (by decide) (by decide)
  rintro e w40 ⟨rfl, hb⟩
  have HW40 := Keep.keep (HW39.out.trans (hb.mono HW39.out.size))
  clear HW39
  have HBX' := Keep.keep (HBX.out.on hb)
  clear HBX
  have HBX := HBX'
  clear HBX'
  clear hb hbq Hq
  go_wp2_with fail
  refine calls_at (R := fun wq => Below w40.heap.size w40 wq ∧ SetL wq w40.heap.size ([(([122], nd0), nilV, nilV)] : List Mv)) ⟨(Below.refl _ _).alloc (Nat.le_refl _) _, SetL.new (fun x hx => ?_) rfl⟩ ?_
  · simp only [List.mem_cons, List.not_mem_nil, or_false] at hx
    obtain rfl := hx
    · exact ndR_nil rfl rfl
  intro w41 Hq
  have hbq := Hq.out.1
  have HW41 := Keep.keep (HW40.out.trans (hbq.mono HW40.out.size))
  clear HW40
  have HBX' := Keep.keep (HBX.out.on hbq)
  clear HBX
  have HBX := HBX'
  clear HBX'
  refine (k1_any B b1 T1 kT _ _ w41 (HT.out.on (HW41.out.mono HT.out.b)) HBX.out (by decide) (Hq.out.2.mb (n := 1) rfl (by decide)) (fun x hx => ?_) (by simp) ck8).mono ?_
  · simp only [List.mem_cons, List.not_mem_nil, or_false] at hx
    obtain rfl := hx
    · exact sm_nd0 (by decide)
  rintro e w42 ⟨rfl, hb⟩
  have HW42 := Keep.keep (HW41.out.trans (hb.mono HW41.out.size))
  clear HW41
  have HBX' := Keep.keep (HBX.out.on hb)
  clear HBX
  have HBX := HBX'
  clear HBX'
  clear hb hbq Hq
  go_wp2_with fail
  refine (k2_any B b1 T1 kT _ _ [] w42 (HT.out.on (HW42.out.mono HT.out.b)) HBX.out (by decide) ⟨RdV.ofNil, fun x hx => by simp at hx⟩ (fun x hx => by simp at hx) (by simp) (by decide) ck9).mono ?_
  rintro e w43 ⟨vp, rfl, ho, hb⟩
  have HW43 := Keep.keep (HW42.out.trans (hb.mono HW42.out.size))
  clear HW42
  have HBX' := Keep.keep (HBX.out.on hb)
  clear HBX
  have HBX := HBX'
  clear HBX'
  obtain ⟨ap, cp, hvp, -⟩ := (ownsV_reads ho).shape
  replace hvp : vp = .slice ap 4 cp := hvp
  have HP := Keep.keep ho.rd'
  clear ho hb
  subst hvp
  go_wp2_with fail
  refine calls_at (R := fun wq => Below w43.heap.size w43 wq ∧ RdS wq (· < wq.heap.size) (.slice (some ⟨w43.heap.size, 0, none⟩) 4 4) [[97], [97, 47, 98], [97, 47, 98, 47, 99], [100]]) ⟨(Below.refl _ _).alloc (Nat.le_refl _) _, RdV.new 9 (([[97], [97, 47, 98], [97, 47, 98, 47, 99], [100]] : List Tx).map strV) 1 4 _ rfl rfl (by unfold maxLen; omega) (by simp)⟩ ?_
  intro w44 Hq
  have hbq := Hq.out.1
  have HP' := Keep.keep (RdS.on' HP.out hbq)
  clear HP
  have HW44 := Keep.keep (HW43.out.trans (hbq.mono HW43.out.size))
  clear HW43
  have HBX' := Keep.keep (HBX.out.on hbq)
  clear HBX
  have HBX := HBX'
  clear HBX'
  refine (k3_any _ _ _ _ _ HP'.out Hq.out.2 (by decide) (by decide) rfl).mono ?_
  rintro e w45 ⟨rfl, hb⟩
  have HW45 := Keep.keep (HW44.out.trans (hb.mono HW44.out.size))
  clear HW44
  have HBX' := Keep.keep (HBX.out.on hb)
  clear HBX
  have HBX := HBX'
  clear HBX'
  clear hb Hq hbq HP'
  go_wp2_with fail
  refine (file_any [46, 119, 104, 46, 46, 119, 104, 46, 46, 111, 112, 113] [] 0 rfl (by decide) _).mono ?_
  rintro e w46 ⟨a11, c11, rfl, hn, hb⟩
  have HW46 := Keep.keep (HW45.out.trans (hb.mono HW45.out.size))
  clear HW45
  have HBX' := Keep.keep (HBX.out.on hb)
  clear HBX
  have HBX := HBX'
  clear HBX'
  have HN11 := Keep.keep hn
  clear hn hb
  go_wp2_with fail
  refine calls_at (R := fun wq => Below w46.heap.size w46 wq ∧ SetL wq w46.heap.size ([(([46, 119, 104, 46, 46, 119, 104, 46, 46, 111, 112, 113], fileD []), nilV, .slice a11 0 c11)] : List Mv)) ⟨(Below.refl _ _).alloc (Nat.le_refl _) _, SetL.new (fun x hx => ?_) rfl⟩ ?_
  · simp only [List.mem_cons, List.not_mem_nil, or_false] at hx
    obtain rfl := hx
    · exact HN11.out
  intro w47 Hq
  have hbq := Hq.out.1
  clear HN11
  have HW47 := Keep.keep (HW46.out.trans (hbq.mono HW46.out.size))
  clear HW46
  have HBX' := Keep.keep (HBX.out.on hbq)
  clear HBX
  have HBX := HBX'
  clear HBX'
  refine (k2_any B b1 T1 kT _ _ _ w47 (HT.out.on (HW47.out.mono HT.out.b)) HBX.out (by decide) (Hq.out.2.mb (n := 1) rfl (by decide)) (fun x hx => ?_) (by simp) (by decide) ck10).mono ?_
  · simp only [List.mem_cons, List.not_mem_nil, or_false] at hx
    obtain rfl := hx
    · exact sm_fileD _ _ (by decide) (by decide)
  rintro e w48 ⟨vp, rfl, ho, hb⟩
  have HW48 := Keep.keep (HW47.out.trans (hb.mono HW47.out.size))
  clear HW47
  have HBX' := Keep.keep (HBX.out.on hb)
  clear HBX
  have HBX := HBX'
  clear HBX'
  obtain ⟨ap, cp, hvp, -⟩ := (ownsV_reads ho).shape
  replace hvp : vp = .slice ap 0 cp := hvp
  have HP := Keep.keep ho.rd'
  clear ho hb hbq Hq
  subst hvp
  go_wp2_with fail
  refine calls_at (R := fun wq => Below w48.heap.size w48 wq ∧ RdS wq (· < wq.heap.size) (.slice (some ⟨w48.heap.size, 0, none⟩) 0 0) []) ⟨(Below.refl _ _).alloc (Nat.le_refl _) _, RdV.new 9 (([] : List Tx).map strV) 1 0 _ rfl rfl (by unfold maxLen; omega) (by simp)⟩ ?_
  intro w49 Hq
  have hbq := Hq.out.1
  have HP' := Keep.keep (RdS.on' HP.out hbq)
  clear HP
  have HW49 := Keep.keep (HW48.out.trans (hbq.mono HW48.out.size))
  clear HW48
  have HBX' := Keep.keep (HBX.out.on hbq)
  clear HBX
  have HBX := HBX'
  clear HBX'
  refine (k3_any _ _ _ _ _ HP'.out Hq.out.2 (by decide) (by decide) rfl).mono ?_
  rintro e w50 ⟨rfl, hb⟩
  have HW50 := Keep.keep (HW49.out.trans (hb.mono HW49.out.size))
  clear HW49
  have HBX' := Keep.keep (HBX.out.on hb)
  clear HBX
  have HBX := HBX'
  clear HBX'
  clear hb Hq hbq HP'
  go_wp2_with fail
  refine (file_any [46, 119, 104, 46, 46, 119, 104, 46, 46, 111, 112, 113] [] 0 rfl (by decide) _).mono ?_
  rintro e w51 ⟨a12, c12, rfl, hn, hb⟩
  have HW51 := Keep.keep (HW50.out.trans (hb.mono HW50.out.size))
  clear HW50
  have HBX' := Keep.keep (HBX.out.on hb)
  clear HBX
  have HBX := HBX'
  clear HBX'
  have HN12 := Keep.keep hn
  clear hn hb
  go_wp2_with fail
  refine (file_any [100] [51] 1 rfl (by decide) _).mono ?_
  rintro e w52 ⟨a13, c13, rfl, hn, hb⟩
  have HW52 := Keep.keep (HW51.out.trans (hb.mono HW51.out.size))
  clear HW51
  have HBX' := Keep.keep (HBX.out.on hb)
  clear HBX
  have HBX := HBX'
  clear HBX'
  have HN12' := Keep.keep (HN12.out.on hb)
  clear HN12
  have HN12 := HN12'
  clear HN12'
  have HN13 := Keep.keep hn
  clear hn hb
  go_wp2_with fail
  refine calls_at (R := fun wq => Below w52.heap.size w52 wq ∧ SetL wq w52.heap.size ([(([46, 119, 104, 46, 46, 119, 104, 46, 46, 111, 112, 113], fileD []), nilV, .slice a12 0 c12), (([100], fileD [51]), nilV, .slice a13 1 c13)] : List Mv)) ⟨(Below.refl _ _).alloc (Nat.le_refl _) _, SetL.new (fun x hx => ?_) rfl⟩ ?_
  · simp only [List.mem_cons, List.not_mem_nil, or_false] at hx
    rcases hx with rfl | rfl
    · exact HN12.out
    · exact HN13.out
  intro w53 Hq
  have hbq := Hq.out.1
  clear HN12
  clear HN13
  have HW53 := Keep.keep (HW52.out.trans (hbq.mono HW52.out.size))
  clear HW52
  have HBX' := Keep.keep (HBX.out.on hbq)
  clear HBX
  have HBX := HBX'
  clear HBX'
  refine (k2_any B b1 T1 kT _ _ _ w53 (HT.out.on (HW53.out.mono HT.out.b)) HBX.out (by decide) (Hq.out.2.mb (n := 2) rfl (by decide)) (fun x hx => ?_) (by simp) (by decide) ck11).mono ?_
  · simp only [List.mem_cons, List.not_mem_nil, or_false] at hx
    rcases hx with rfl | rfl
    · exact sm_fileD _ _ (by decide) (by decide)
    · exact sm_fileD _ _ (by decide) (by decide)
  rintro e w54 ⟨vp, rfl, ho, hb⟩
  have HW54 := Keep.keep (HW53.out.trans (hb.mono HW53.out.size))
  clear HW53
  have HBX' := Keep.keep (HBX.out.on hb)
  clear HBX
  have HBX := HBX'
  clear HBX'
  obtain ⟨ap, cp, hvp, -⟩ := (ownsV_reads ho).shape
  replace hvp : vp = .slice ap 1 cp := hvp
  have HP := Keep.keep ho.rd'
  clear ho hb hbq Hq
  subst hvp
  go_wp2_with fail
  refine calls_at (R := fun wq => Below w54.heap.size w54 wq ∧ RdS wq (· < wq.heap.size) (.slice (some ⟨w54.heap.size, 0, none⟩) 1 1) [[100]]) ⟨(Below.refl _ _).alloc (Nat.le_refl _) _, RdV.new 9 (([[100]] : List Tx).map strV) 1 1 _ rfl rfl (by unfold maxLen; omega) (by simp)⟩ ?_
  intro w55 Hq
  have hbq := Hq.out.1
  have HP' := Keep.keep (RdS.on' HP.out hbq)
  clear HP
  have HW55 := Keep.keep (HW54.out.trans (hbq.mono HW54.out.size))
  clear HW54
  have HBX' := Keep.keep (HBX.out.on hbq)
  clear HBX
  have HBX := HBX'
  clear HBX'
  refine (k3_any _ _ _ _ _ HP'.out Hq.out.2 (by decide) (by decide) rfl).mono ?_
  rintro e w56 ⟨rfl, hb⟩
  have HW56 := Keep.keep (HW55.out.trans (hb.mono HW55.out.size))
  clear HW55
  have HBX' := Keep.keep (HBX.out.on hb)
  clear HBX
  have HBX := HBX'
  clear HBX'
  clear hb Hq hbq HP'
  go_wp2_with fail
  refine (file_any [46, 119, 104, 46, 97] [] 0 rfl (by decide) _).mono ?_
  rintro e w57 ⟨a14, c14, rfl, hn, hb⟩
  have HW57 := Keep.keep (HW56.out.trans (hb.mono HW56.out.size))
  clear HW56
  have HBX' := Keep.keep (HBX.out.on hb)
  clear HBX
  have HBX := HBX'
  clear HBX'
  have HN14 := Keep.keep hn
  clear hn hb
  go_wp2_with fail
  refine (dir_any [97] 0 _).mono ?_
  rintro e w58 ⟨rfl, hb⟩
  have HW58 := Keep.keep (HW57.out.trans (hb.mono HW57.out.size))
  clear HW57
  have HBX' := Keep.keep (HBX.out.on hb)
  clear HBX
  have HBX := HBX'
  clear HBX'
  have HN14' := Keep.keep (HN14.out.on hb)
  clear HN14
  have HN14 := HN14'
  clear HN14'
  clear hb
  go_wp2_with fail
  refine calls_at (R := fun wq => Below w58.heap.size w58 wq ∧ SetL wq w58.heap.size ([(([46, 119, 104, 46, 97], fileD []), nilV, .slice a14 0 c14), (([97], dirM 0), nilV, nilV)] : List Mv)) ⟨(Below.refl _ _).alloc (Nat.le_refl _) _, SetL.new (fun x hx => ?_) rfl⟩ ?_
  · simp only [List.mem_cons, List.not_mem_nil, or_false] at hx
    rcases hx with rfl | rfl
    · exact HN14.out
    · exact dirL _ _
  intro w59 Hq
  have hbq := Hq.out.1
  clear HN14
  have HW59 := Keep.keep (HW58.out.trans (hbq.mono HW58.out.size))
  clear HW58
  have HBX' := Keep.keep (HBX.out.on hbq)
  clear HBX
  have HBX := HBX'
  clear HBX'
  refine (k2_any B b1 T1 kT _ _ _ w59 (HT.out.on (HW59.out.mono HT.out.b)) HBX.out (by decide) (Hq.out.2.mb (n := 2) rfl (by decide)) (fun x hx => ?_) (by simp) (by decide) ck12).mono ?_
  · simp only [List.mem_cons, List.not_mem_nil, or_false] at hx
    rcases hx with rfl | rfl
    · exact sm_fileD _ _ (by decide) (by decide)
    · exact sm_dirM _ _ (by decide)
  rintro e w60 ⟨vp, rfl, ho, hb⟩
  have HW60 := Keep.keep (HW59.out.trans (hb.mono HW59.out.size))
  clear HW59
  have HBX' := Keep.keep (HBX.out.on hb)
  clear HBX
  have HBX := HBX'
  clear HBX'
  obtain ⟨ap, cp, hvp, -⟩ := (ownsV_reads ho).shape
  replace hvp : vp = .slice ap 2 cp := hvp
  have HP := Keep.keep ho.rd'
  clear ho hb hbq Hq
  subst hvp
  go_wp2_with fail
  refine calls_at (R := fun wq => Below w60.heap.size w60 wq ∧ RdS wq (· < wq.heap.size) (.slice (some ⟨w60.heap.size, 0, none⟩) 2 2) [[97], [100]]) ⟨(Below.refl _ _).alloc (Nat.le_refl _) _, RdV.new 9 (([[97], [100]] : List Tx).map strV) 1 2 _ rfl rfl (by unfold maxLen; omega) (by simp)⟩ ?_
  intro w61 Hq
  have hbq := Hq.out.1
  have HP' := Keep.keep (RdS.on' HP.out hbq)
  clear HP
  have HW61 := Keep.keep (HW60.out.trans (hbq.mono HW60.out.size))
  clear HW60
  have HBX' := Keep.keep (HBX.out.on hbq)
  clear HBX
  have HBX := HBX'
  clear HBX'
  refine (k3_any _ _ _ _ _ HP'.out Hq.out.2 (by decide) (by decide) rfl).mono ?_
  rintro e w62 ⟨rfl, hb⟩
  have HW62 := Keep.keep (HW61.out.trans (hb.mono HW61.out.size))
  clear HW61
  have HBX' := Keep.keep (HBX.out.on hb)
  clear HBX
  have HBX := HBX'
  clear HBX'
  clear hb Hq hbq HP'
  go_wp2_with fail
  refine (file_any [97] [110, 111, 119, 32, 97, 32, 70, 105, 108, 101] 10 rfl (by decide) _).mono ?_
  rintro e w63 ⟨a15, c15, rfl, hn, hb⟩
  have HW63 := Keep.keep (HW62.out.trans (hb.mono HW62.out.size))
  clear HW62
  have HBX' := Keep.keep (HBX.out.on hb)
  clear HBX
  have HBX := HBX'
  clear HBX'
  have HN15 := Keep.keep hn
  clear hn hb
  go_wp2_with fail
  refine calls_at (R := fun wq => Below w63.heap.size w63 wq ∧ SetL wq w63.heap.size ([(([97], fileD [110, 111, 119, 32, 97, 32, 70, 105, 108, 101]), nilV, .slice a15 10 c15)] : List Mv)) ⟨(Below.refl _ _).alloc (Nat.le_refl _) _, SetL.new (fun x hx => ?_) rfl⟩ ?_
  · simp only [List.mem_cons, List.not_mem_nil, or_false] at hx
    obtain rfl := hx
    · exact HN15.out
  intro w64 Hq
  have hbq := Hq.out.1
  clear HN15
  have HW64 := Keep.keep (HW63.out.trans (hbq.mono HW63.out.size))
  clear HW63
  have HBX' := Keep.keep (HBX.out.on hbq)
  clear HBX
  have HBX := HBX'
  clear HBX'
  refine (k2_any B b1 T1 kT _ _ _ w64 (HT.out.on (HW64.out.mono HT.out.b)) HBX.out (by decide) (Hq.out.2.mb (n := 1) rfl (by decide)) (fun x hx => ?_) (by simp) (by decide) ck13).mono ?_
  · simp only [List.mem_cons, List.not_mem_nil, or_false] at hx
    obtain rfl := hx
    · exact sm_fileD _ _ (by decide) (by decide)
  rintro e w65 ⟨vp, rfl, ho, hb⟩
  have HW65 := Keep.keep (HW64.out.trans (hb.mono HW64.out.size))
  clear HW64
  have HBX' := Keep.keep (HBX.out.on hb)
  clear HBX
  have HBX := HBX'
  clear HBX'
  obtain ⟨ap, cp, hvp, -⟩ := (ownsV_reads ho).shape
  replace hvp : vp = .slice ap 2 cp := hvp
  have HP := Keep.keep ho.rd'
  clear ho hb hbq Hq
  subst hvp
  go_wp2_with fail
  refine calls_at (R := fun wq => Below w65.heap.size w65 wq ∧ RdS wq (· < wq.heap.size) (.slice (some ⟨w65.heap.size, 0, none⟩) 2 2) [[97], [100]]) ⟨(Below.refl _ _).alloc (Nat.le_refl _) _, RdV.new 9 (([[97], [100]] : List Tx).map strV) 1 2 _ rfl rfl (by unfold maxLen; omega) (by simp)⟩ ?_
  intro w66 Hq
  have hbq := Hq.out.1
  have HP' := Keep.keep (RdS.on' HP.out hbq)
  clear HP
  have HW66 := Keep.keep (HW65.out.trans (hbq.mono HW65.out.size))
  clear HW65
  have HBX' := Keep.keep (HBX.out.on hbq)
  clear HBX
  have HBX := HBX'
  clear HBX'
  refine (k3_any _ _ _ _ _ HP'.out Hq.out.2 (by decide) (by decide) rfl).mono ?_
  rintro e w67 ⟨rfl, hb⟩
  have HW67 := Keep.keep (HW66.out.trans (hb.mono HW66.out.size))
  clear HW66
  have HBX' := Keep.keep (HBX.out.on hb)
  clear HBX
  have HBX := HBX'
  clear HBX'
  clear hb Hq hbq HP'
  go_wp2_with fail
  refine (dir_any [97] 0 _).mono ?_
  rintro e w68 ⟨rfl, hb⟩
  have HW68 := Keep.keep (HW67.out.trans (hb.mono HW67.out.size))
  clear HW67
  have HBX' := Keep.keep (HBX.out.on hb)
  clear HBX
  have HBX := HBX'
  clear HBX'
  clear hb
  go_wp2_with fail
  refine (dir_any [97, 47, 98] 0 _).mono ?_
  rintro e w69 ⟨rfl, hb⟩
  have HW69 := Keep.keep (HW68.out.trans (hb.mono HW68.out.size))
  clear HW68
  have HBX' := Keep.keep (HBX.out.on hb)
  clear HBX
  have HBX := HBX'
  clear HBX'
  clear hb
  go_wp2_with fail
  refine calls_at (R := fun wq => Below w69.heap.size w69 wq ∧ SetL wq w69.heap.size ([(([97], dirM 0), nilV, nilV), (([97, 47, 98], dirM 0), nilV, nilV)] : List Mv)) ⟨(Below.refl _ _).alloc (Nat.le_refl _) _, SetL.new (fun x hx => ?_) rfl⟩ ?_
  · simp only [List.mem_cons, List.not_mem_nil, or_false] at hx
    rcases hx with rfl | rfl
    · exact dirL _ _
    · exact dirL _ _
  intro w70 Hq
  have hbq := Hq.out.1
  have HW70 := Keep.keep (HW69.out.trans (hbq.mono HW69.out.size))
  clear HW69
  have HBX' := Keep.keep (HBX.out.on hbq)
  clear HBX
  have HBX := HBX'
  clear HBX'
  refine (k2_any B b1 T1 kT _ _ _ w70 (HT.out.on (HW70.out.mono HT.out.b)) HBX.out (by decide) (Hq.out.2.mb (n := 2) rfl (by decide)) (fun x hx => ?_) (by simp) (by decide) ck14).mono ?_
  · simp only [List.mem_cons, List.not_mem_nil, or_false] at hx
    rcases hx with rfl | rfl
    · exact sm_dirM _ _ (by decide)
    · exact sm_dirM _ _ (by decide)
  rintro e w71 ⟨vp, rfl, ho, hb⟩
  have HW71 := Keep.keep (HW70.out.trans (hb.mono HW70.out.size))
  clear HW70
  have HBX' := Keep.keep (HBX.out.on hb)
  clear HBX
  have HBX := HBX'
  clear HBX'
  obtain ⟨ap, cp, hvp, -⟩ := (ownsV_reads ho).shape
  replace hvp : vp = .slice ap 4 cp := hvp
  have HP := Keep.keep ho.rd'
  clear ho hb hbq Hq
  subst hvp
  go_wp2_with fail
  refine calls_at (R := fun wq => Below w71.heap.size w71 wq ∧ RdS wq (· < wq.heap.size) (.slice (some ⟨w71.heap.size, 0, none⟩) 4 4) [[97], [97, 47, 98], [97, 47, 98, 47, 99], [100]]) ⟨(Below.refl _ _).alloc (Nat.le_refl _) _, RdV.new 9 (([[97], [97, 47, 98], [97, 47, 98, 47, 99], [100]] : List Tx).map strV) 1 4 _ rfl rfl (by unfold maxLen; omega) (by simp)⟩ ?_
  intro w72 Hq
  have hbq := Hq.out.1
  have HP' := Keep.keep (RdS.on' HP.out hbq)
  clear HP
  have HW72 := Keep.keep (HW71.out.trans (hbq.mono HW71.out.size))
  clear HW71
  have HBX' := Keep.keep (HBX.out.on hbq)
  clear HBX
  have HBX := HBX'
  clear HBX'
  refine (k3_any _ _ _ _ _ HP'.out Hq.out.2 (by decide) (by decide) rfl).mono ?_
  rintro e w73 ⟨rfl, hb⟩
  have HW73 := Keep.keep (HW72.out.trans (hb.mono HW72.out.size))
  clear HW72
  have HBX' := Keep.keep (HBX.out.on hb)
  clear HBX
  have HBX := HBX'
  clear HBX'
  clear hb Hq hbq HP'
  go_wp2_with fail
  refine (dir_any [97] 0 _).mono ?_
  rintro e w74 ⟨rfl, hb⟩
  have HW74 := Keep.keep (HW73.out.trans (hb.mono HW73.out.size))
  clear HW73
  have HBX' := Keep.keep (HBX.out.on hb)
  clear HBX
  have HBX := HBX'
  clear HBX'
  clear hb
  go_wp2_with fail
  refine (file_any [97, 47, 46, 119, 104, 46, 98] [] 0 rfl (by decide) _).mono ?_
  rintro e w75 ⟨a16, c16, rfl, hn, hb⟩
  have HW75 := Keep.keep (HW74.out.trans (hb.mono HW74.out.size))
  clear HW74
  have HBX' := Keep.keep (HBX.out.on hb)
  clear HBX
  have HBX := HBX'
  clear HBX'
  have HN16 := Keep.keep hn
  clear hn hb
  go_wp2_with fail
  refine (file_any [97, 47, 98] [] 0 rfl (by decide) _).mono ?_
  rintro e w76 ⟨a17, c17, rfl, hn, hb⟩
  have HW76 := Keep.keep (HW75.out.trans (hb.mono HW75.out.size))
  clear HW75
  have HBX' := Keep.keep (HBX.out.on hb)
  clear HBX
  have HBX := HBX'
  clear HBX'
  have HN16' := Keep.keep (HN16.out.on hb)
  clear HN16
  have HN16 := HN16'
  clear HN16'
  have HN17 := Keep.keep hn
  clear hn hb
  go_wp2_with fail
  refine calls_at (R := fun wq => Below w76.heap.size w76 wq ∧ SetL wq w76.heap.size ([(([97], dirM 0), nilV, nilV), (([97, 47, 46, 119, 104, 46, 98], fileD []), nilV, .slice a16 0 c16), (([97, 47, 98], fileD []), nilV, .slice a17 0 c17)] : List Mv)) ⟨(Below.refl _ _).alloc (Nat.le_refl _) _, SetL.new (fun x hx => ?_) rfl⟩ ?_
  · simp only [List.mem_cons, List.not_mem_nil, or_false] at hx
    rcases hx with rfl | rfl | rfl
    · exact dirL _ _
    · exact HN16.out
    · exact HN17.out
  intro w77 Hq
  have hbq := Hq.out.1
  clear HN16
  clear HN17
  have HW77 := Keep.keep (HW76.out.trans (hbq.mono HW76.out.size))
  clear HW76
  have HBX' := Keep.keep (HBX.out.on hbq)
  clear HBX
  have HBX := HBX'
  clear HBX'
  refine (k2_any B b1 T1 kT _ _ _ w77 (HT.out.on (HW77.out.mono HT.out.b)) HBX.out (by decide) (Hq.out.2.mb (n := 3) rfl (by decide)) (fun x hx => ?_) (by simp) (by decide) ck15).mono ?_
  · simp only [List.mem_cons, List.not_mem_nil, or_false] at hx
    rcases hx with rfl | rfl | rfl
    · exact sm_dirM _ _ (by decide)
    · exact sm_fileD _ _ (by decide) (by decide)
    · exact sm_fileD _ _ (by decide) (by decide)
  rintro e w78 ⟨vp, rfl, ho, hb⟩
  have HW78 := Keep.keep (HW77.out.trans (hb.mono HW77.out.size))
  clear HW77
  have HBX' := Keep.keep (HBX.out.on hb)
  clear HBX
  have HBX := HBX'
  clear HBX'
  obtain ⟨ap, cp, hvp, -⟩ := (ownsV_reads ho).shape
  replace hvp : vp = .slice ap 3 cp := hvp
  have HP := Keep.keep ho.rd'
  clear ho hb hbq Hq
  subst hvp
  go_wp2_with fail
  refine calls_at (R := fun wq => Below w78.heap.size w78 wq ∧ RdS wq (· < wq.heap.size) (.slice (some ⟨w78.heap.size, 0, none⟩) 3 3) [[97], [97, 47, 98], [100]]) ⟨(Below.refl _ _).alloc (Nat.le_refl _) _, RdV.new 9 (([[97], [97, 47, 98], [100]] : List Tx).map strV) 1 3 _ rfl rfl (by unfold maxLen; omega) (by simp)⟩ ?_
  intro w79 Hq
  have hbq := Hq.out.1
  have HP' := Keep.keep (RdS.on' HP.out hbq)
  clear HP
  have HW79 := Keep.keep (HW78.out.trans (hbq.mono HW78.out.size))
  clear HW78
  have HBX' := Keep.keep (HBX.out.on hbq)
  clear HBX
  have HBX := HBX'
  clear HBX'
  refine (k3_any _ _ _ _ _ HP'.out Hq.out.2 (by decide) (by decide) rfl).mono ?_
  rintro e w80 ⟨rfl, hb⟩
  have HW80 := Keep.keep (HW79.out.trans (hb.mono HW79.out.size))
  clear HW79
  have HBX' := Keep.keep (HBX.out.on hb)
  clear HBX
  have HBX := HBX'
  clear HBX'
  clear hb Hq hbq HP'
  go_wp2_with fail
  refine (file_any [46, 119, 104, 46, 110, 111, 110, 101] [] 0 rfl (by decide) _).mono ?_
  rintro e w81 ⟨a18, c18, rfl, hn, hb⟩
  have HW81 := Keep.keep (HW80.out.trans (hb.mono HW80.out.size))
  clear HW80
  have HBX' := Keep.keep (HBX.out.on hb)
  clear HBX
  have HBX := HBX'
  clear HBX'
  have HN18 := Keep.keep hn
  clear hn hb
  go_wp2_with fail
  refine calls_at (R := fun wq => Below w81.heap.size w81 wq ∧ SetL wq w81.heap.size ([(([46, 119, 104, 46, 110, 111, 110, 101], fileD []), nilV, .slice a18 0 c18)] : List Mv)) ⟨(Below.refl _ _).alloc (Nat.le_refl _) _, SetL.new (fun x hx => ?_) rfl⟩ ?_
  · simp only [List.mem_cons, List.not_mem_nil, or_false] at hx
    obtain rfl := hx
    · exact HN18.out
  intro w82 Hq
  have hbq := Hq.out.1
  clear HN18
  have HW82 := Keep.keep (HW81.out.trans (hbq.mono HW81.out.size))
  clear HW81
  have HBX' := Keep.keep (HBX.out.on hbq)
  clear HBX
  have HBX := HBX'
  clear HBX'
  refine (k2_any B b1 T1 kT _ _ _ w82 (HT.out.on (HW82.out.mono HT.out.b)) HBX.out (by decide) (Hq.out.2.mb (n := 1) rfl (by decide)) (fun x hx => ?_) (by simp) (by decide) ck16).mono ?_
  · simp only [List.mem_cons, List.not_mem_nil, or_false] at hx
    obtain rfl := hx
    · exact sm_fileD _ _ (by decide) (by decide)
  rintro e w83 ⟨vp, rfl, ho, hb⟩
  have HW83 := Keep.keep (HW82.out.trans (hb.mono HW82.out.size))
  clear HW82
  have HBX' := Keep.keep (HBX.out.on hb)
  clear HBX
  have HBX := HBX'
  clear HBX'
  obtain ⟨ap, cp, hvp, -⟩ := (ownsV_reads ho).shape
  replace hvp : vp = .slice ap 4 cp := hvp
  have HP := Keep.keep ho.rd'
  clear ho hb hbq Hq
  subst hvp
  go_wp2_with fail
  refine calls_at (R := fun wq => Below w83.heap.size w83 wq ∧ RdS wq (· < wq.heap.size) (.slice (some ⟨w83.heap.size, 0, none⟩) 4 4) [[97], [97, 47, 98], [97, 47, 98, 47, 99], [100]]) ⟨(Below.refl _ _).alloc (Nat.le_refl _) _, RdV.new 9 (([[97], [97, 47, 98], [97, 47, 98, 47, 99], [100]] : List Tx).map strV) 1 4 _ rfl rfl (by unfold maxLen; omega) (by simp)⟩ ?_
  intro w84 Hq
  have hbq := Hq.out.1
  have HP' := Keep.keep (RdS.on' HP.out hbq)
  clear HP
  have HW84 := Keep.keep (HW83.out.trans (hbq.mono HW83.out.size))
  clear HW83
  have HBX' := Keep.keep (HBX.out.on hbq)
  clear HBX
  have HBX := HBX'
  clear HBX'
  refine (k3_any _ _ _ _ _ HP'.out Hq.out.2 (by decide) (by decide) rfl).mono ?_
  rintro e w85 ⟨rfl, hb⟩
  have HW85 := Keep.keep (HW84.out.trans (hb.mono HW84.out.size))
  clear HW84
  have HBX' := Keep.keep (HBX.out.on hb)
  clear HBX
  have HBX := HBX'
  clear HBX'
  clear hb Hq hbq HP'
  go_wp2_with fail
  have hcs := cstays_any B (.slice none 0 0) [] [] w85 (HT.out.on (HW85.out.mono HT.out.b)) ⟨RdV.ofNil, fun x hx => by simp at hx⟩ (fun x hx => by simp at hx) (by simp) (by decide)
  rw [show staysC (([] : List Mv).map (·.1)) [] = false from rfl] at hcs
  refine hcs.mono ?_
  rintro e w86 ⟨rfl, hb⟩
  have HW86 := Keep.keep (HW85.out.trans (hb.mono HW85.out.size))
  clear HW85
  have HBX' := Keep.keep (HBX.out.on hb)
  clear HBX
  have HBX := HBX'
  clear HBX'
  clear hb hcs
  go_wp2_with fail
  have hcs := cstays_any B (.slice none 0 0) [] [113] w86 (HT.out.on (HW86.out.mono HT.out.b)) ⟨RdV.ofNil, fun x hx => by simp at hx⟩ (fun x hx => by simp at hx) (by simp) (by decide)
  rw [show staysC (([] : List Mv).map (·.1)) [113] = true from rfl] at hcs
  refine hcs.mono ?_
  rintro e w87 ⟨rfl, hb⟩
  have HW87 := Keep.keep (HW86.out.trans (hb.mono HW86.out.size))
  clear HW86
  have HBX' := Keep.keep (HBX.out.on hb)
  clear HBX
  have HBX := HBX'
  clear HBX'
  clear hb hcs
  go_wp2_with fail
  refine (wakes19_any B w87 (HT.out.on (HW87.out.mono HT.out.b))).mono ?_
  rintro e w88 ⟨rfl, hb⟩
  have HW88 := Keep.keep (HW87.out.trans (hb.mono HW87.out.size))
  clear HW87
  have HBX' := Keep.keep (HBX.out.on hb)
  clear HBX
  have HBX := HBX'
  clear HBX'
  clear hb
  go_wp2_with fail
  go_ret
  exact ⟨rfl, HW88.out⟩
end Go.Proofs.YtplafpokgpolkaaGreatDoor
/- WHAT THE ROWS' LISTED VARIABLES AND THE WORLD'S SHAPE GIVE; and a world that holds the listed variables. -/
namespace Go.Proofs.YtplafpokgpolkaaGreatDoor
open Go.ChangeShapes Go.WideShapes Go.ChangeAt Go.RowKit
theorem mx_of_shape {W : World} (h : W.ShapedOpen Tryz.prog) : Mx W.heap.size W := by
  obtain ⟨m, hm⟩ : ∃ m, W.cell? ⟨2, 0, none⟩ = some (.int .i64 m) := Go.Proofs.cell_of_shapedOpen_int (zero := #[.int .i64 0]) (t := 3) h (of_decide_eq_true (by kernel_rfl)) (by kernel_rfl) rfl (by kernel_rfl) (by kernel_rfl) Tryz.underlying3
  exact ⟨World.block_lt_of_cell? W _ hm, m, hm⟩
/-- what the laws of the trees ask of the world -/
theorem tabs_of {W : World} {l : List (String × DataW Unit)} (hL : laidMetH Tryz.prog l W) (hsh : W.ShapedOpen Tryz.prog) (hc : ("portolan/path.classes", Rows.laid_portolan_path_classes) ∈ l) (ht : ("portolan/tar.types", Rows.laid_portolan_tar_types) ∈ l) : Tabs W.heap.size W :=
  ⟨Nat.le_refl _, mx_of_shape hsh, cls_of_laid hL hc, typ_of_laid (laidMetH_iff.1 hL).1 (List.mem_filter.2 ⟨ht, rfl⟩)⟩
/-- A WORLD FOR THE WITNESS -/
def layRow (c : Array Value) : Obj → Obj
  | .cells _ t frozen => .cells c t frozen
  | o => o
def classesMap : Obj := .map #[⟨.int .i64 1, .func (.func 215) #[] #[], 0⟩, ⟨.int .i64 2, .func (.func 216) #[] #[], 1⟩, ⟨.int .i64 3, .func (.func 217) #[] #[], 2⟩] 3
def typesMap : Obj := .map #[⟨.int .i64 1, .int .u8 53, 0⟩, ⟨.int .i64 2, .int .u8 48, 1⟩, ⟨.int .i64 3, .int .u8 50, 2⟩, ⟨.int .i64 4, .int .u8 54, 3⟩] 4
noncomputable def lowM : Nat := (World.holding Tryz.prog default ⟨#[], #[], []⟩).heap.size
noncomputable def laidWorld (os : Os) : World :=
  let w0 := World.holding Tryz.prog os ⟨#[classesMap, typesMap], #[], []⟩
  let h2 := Array.modify w0.heap 4 (layRow ((List.range 16).flatMap fun i => [Value.int .u8 (Lib.accLo i), Value.int .u8 (Lib.accHi i)]).toArray)
  let h3 := Array.modify h2 3 (layRow (Lib.firstTab.map fun z => Value.int .u8 z).toArray)
  let h4 := Array.modify h3 0 (layRow #[.map (some lowM)])
  let h5 := Array.modify h4 1 (layRow #[.map (some (lowM + 1))])
  { w0 with heap := h5 }
end Go.Proofs.YtplafpokgpolkaaGreatDoor
