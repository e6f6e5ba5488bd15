/- PARTS OF ONE PROOF, set in one file: TreeWell, Nest, Ok. Each part tells its own conditions. -/
import Derived.Deep.Slices
import Derived.Test.YtphgmkhbhboklaaGreatDoorP1
import Derived.Test.YtphgmkhbhboklaaGreatDoorP3
import Derived.Test.YtphgmkhbhboklaaGreatDoorP4
import Derived.Test.YtphgmkhbhboklaaGreatDoorP8
import Derived.Test.YtphgmkhbhboklaaGreatDoorP9
import Derived.Test.YtphgmkhbhboklaaGreatDoorP10
import Derived.Test.YtphgmkhbhboklaaGreatDoorP11
/- TreeWell: what stays so of a tree under calls; all Members in any order make the same tree. -/
namespace Go.Proofs.YtphgmkhbhboklaaGreatDoor
open Go.RowKit
theorem slice_acts (a : Option Addr) (n cap i : Nat) (k : IntKind) (hi : i ≤ cap) (w : World) : (Instr.slice 22 (.slice a n cap) none (some (.int k (i : Int))) none).run Tryz.prog w = .ok (.slice a i cap) w := by
  have he : Tryz.prog.elem 22 = 36 := by simp [Program.elem, Tryz.underlying22]
  have hs : ∀ w, (sizeOf 36).run Tryz.prog w = .ok 10 w := fun w => by kernel_rfl
  rw [run_slice_h w 22 a n cap (by rw [he]; exact Tryz.underlying22) k (i : Int) (by omega) (by omega), he, hs]
  have ha : a.map (·.add 0) = a := by
    cases a <;> simp [Addr.add]
  simp [Result.andThen, sliced, ha]
theorem acells_take (l : List Av) (i : Nat) : acells (l.take i) = (acells l).take (i * 10) := by
  induction l generalizing i with
  | nil => simp [acells]
  | cons x l ih =>
    cases i with
    | zero => simp [acells]
    | succ i =>
      rw [List.take_succ_cons, acells_cons, acells_cons, ih, show (i + 1) * 10 = (acell x).length + i * 10 by rw [acell_len]; omega, List.take_append, List.take_of_length_le (l := acell x) (by omega)]
      simp
theorem ActsR.take {w : World} {N N' : Nat → Prop} {a : Option Addr} {n cap : Nat} {l : List Av} (h : ActsR w N N' (.slice a n cap) l) (i : Nat) (hi : i ≤ l.length) : ActsR w N N' (.slice a i cap) (l.take i) := by
  obtain ⟨⟨hl, ⟨a0, cap0, he0, g1, g2, g3⟩, hc⟩, hn⟩ := h
  injection he0 with e1 e2 e3
  subst e1 e2 e3
  have hl' : (l.take i).length = i := by rw [List.length_take]; omega
  refine ⟨⟨acells_length _, ⟨a, cap, by rw [hl'], by omega, g2, g3⟩, fun b off m c he1 j u hj => ?_⟩, fun x hx => hn x (List.mem_of_mem_take hx)⟩
  injection he1 with e1 e2 e3
  subst e1 e3
  refine hc b off _ _ rfl j u ?_
  rw [acells_take] at hj
  have hlt := (List.getElem?_eq_some_iff.1 hj).1
  rw [List.getElem?_take_of_lt (by simp at hlt; omega)] at hj
  exact hj
theorem under_row (T mb : Nat) (Bk : Nat → Prop) (f : Tx → Value × Value) (L : List Mb) (w wx : World) (p : Tx) (hL : L.length ≤ 100000) (hp : p.length ≤ 400000) (hT : TreeIn w T mb Bk f L) (hBk : ∀ b, Bk b → b < w.heap.size) (hb : Below w.heap.size w wx) :
    Calls Tryz.prog 14 #[.pointer (some ⟨T, 0, none⟩), .string ⟨p.toArray⟩] wx fun e w' => ∃ a cap, e = .returned (.slice a (manyU L p) cap) ∧ Below wx.heap.size wx w' := by
  have hs := hb.size
  have ht := hT.row.lt
  have hm := hT.map.lt
  refine (under_tree T mb Bk f L p wx hL hp (hT.loc (fun b hb' => hb.block b (by
    rcases hb' with rfl | rfl | h
    · exact ht
    · exact hm
    · exact hBk b h))) ⟨by omega, by omega, fun b hb' => by have := hBk b hb'; omega⟩).mono ?_
  rintro e w' ⟨v, l, rfl, hl, hm, hb'⟩
  obtain ⟨a, cap, rfl, -, -, -⟩ := hm.rd.shape
  refine ⟨a, cap, ?_, hb'⟩
  rw [show l.length = manyU L p by rw [manyU, ← hl, List.length_map]]
theorem len_row (T mb : Nat) (Bk : Nat → Prop) (f : Tx → Value × Value) (L : List Mb) (w wx : World) (hT : TreeIn w T mb Bk f L) (hBk : ∀ b, Bk b → b < w.heap.size) (hb : Below w.heap.size w wx) :
    Calls Tryz.prog 15 #[.pointer (some ⟨T, 0, none⟩)] wx fun e w' => e = .returned (.int .i64 (L.length : Int)) ∧ Below wx.heap.size wx w' := by
  have ht := hT.row.lt
  have hm := hT.map.lt
  refine (len_tree T mb Bk f L wx (hT.loc (fun b hb' => hb.block b (by
    rcases hb' with rfl | rfl | h
    · exact ht
    · exact hm
    · exact hBk b h)))).mono ?_
  rintro e w' ⟨rfl, rfl⟩
  exact ⟨rfl, Below.refl _ _⟩
section
variable {ρ : Operand → Value} {d : Option Tmp} {x y : Operand} {t t1 : TypeId} {pos : String} {af : Array Edge} {g : Option (Nat × Bool)} {w : World}
theorem run_neqI {a b : Int} (hx : ρ x = .int .i64 a) (hy : ρ y = .int .i64 b) : (execOp ρ (⟨d, .binOp .neq 3 x y t1, t, pos, af, g⟩ : Oper)).run Tryz.prog w = .ok (.value (.bool (a != b))) w := by
  simp [go_sem, execOp, hx, hy]
theorem run_subI {a b : Int} (hx : ρ x = .int .i64 a) (hy : ρ y = .int .i64 b) (h : -9223372036854775808 ≤ a - b ∧ a - b < 9223372036854775808) : (execOp ρ (⟨d, .binOp .sub 3 x y t1, t, pos, af, g⟩ : Oper)).run Tryz.prog w = .ok (.value (.int .i64 (a - b))) w := by
  simp [go_sem, execOp, hx, hy]
  rw [IntKind.wrap_i64]
  omega
end
section
variable {P : Program} {ops : Array Oper} {rest : List Oper} {a : Act} {C : World → Prop} {Q : Act → Prop} {tp : TypeId} {dst : Option Tmp} {pos : String} {after : Array Edge} {g : Option (Nat × Bool)}
/-- ARM: a map is looked at, in a class walk -/
theorem cls_look {ty : TypeId} {b : Nat} {p : Tx} {v : Value} {m x : Operand} (hwt : Region.wanted (⟨dst, .lookup ty m x false, tp, pos, after, g⟩ : Oper) (yielded ops a.tmps) = true) (hl : ∀ w, C w → (Instr.lookup ty (.map (some b)) (.string ⟨p.toArray⟩) false).run P w = .ok v w)
    (hm : a.eval m = .map (some b)) (hx : a.eval x = .string ⟨p.toArray⟩) (h : wpQuiet P ops C Q rest (a.put dst v)) : wpQuiet P ops C Q (⟨dst, .lookup ty m x false, tp, pos, after, g⟩ :: rest) a :=
  cls_op hwt (fun w hw => by simp [execOp, hm, hx, hl w hw]) h
end
theorem dirsM_len (L : List Mb) (i : Nat) : (dirsM L i).length ≤ L.length + 1 := by
  unfold dirsM
  have h1 := List.length_filter_le (fun x : Mb => decide (x.2.kind = 1)) (L.take i)
  have h2 : (L.take i).length ≤ L.length := by rw [List.length_take]; omega
  rw [List.length_cons, List.length_map]
  omega
/-- the region that counts what was removed: what is said of each operation's value -/
def r21T (T T2 b10 : Nat) (p : Tx) (n1 n0 u : Nat) : Nat → Value → World → Prop
  | 0, v, _ => v = .pointer (some ⟨T, 0, none⟩)
  | 1, v, _ => v = .pointer (some ⟨b10, 0, none⟩)
  | 2, v, _ => v = .string ⟨p.toArray⟩
  | 3, v, _ => ∃ a cap, v = .slice a 0 cap
  | 4, v, _ => v = .int .i64 0
  | 7, v, _ => v = .pointer (some ⟨T, 0, none⟩)
  | 8, v, _ => v = .int .i64 (n1 : Int)
  | 9, v, _ => v = .pointer (some ⟨T2, 0, none⟩)
  | 10, v, _ => v = .int .i64 (n0 : Int)
  | 11, v, _ => v = .pointer (some ⟨T2, 0, none⟩)
  | 12, v, _ => v = .pointer (some ⟨b10, 0, none⟩)
  | 13, v, _ => v = .string ⟨p.toArray⟩
  | 14, v, _ => ∃ a cap, v = .slice a u cap
  | 15, v, _ => v = .int .i64 (u : Int)
  | 16, v, _ => v = .int .i64 (n1 : Int)
  | _, v, _ => v = .bool false
theorem r21T_stays {T T2 b10 : Nat} {p : Tx} {n1 n0 u : Nat} (k : Nat) (v : Value) (w w' : World) (h : r21T T T2 b10 p n1 n0 u k v w) : r21T T T2 b10 p n1 n0 u k v w' := by
  unfold r21T at h ⊢
  split at h <;> exact h
set_option pp.maxSteps 1000000 in
set_option pp.deepTerms true in
set_option maxHeartbeats 4000000 in
set_option maxRecDepth 100000 in
theorem well_any (B : Nat) (v : Value) (l0 : List Av) (at_ : Nat) (hat : at_ < 256) (ov : Value) (ord : List UInt8) (w : World) (hT : Tabs B w) (hr0 : ActsR w (· < w.heap.size) (· < w.heap.size) v l0) (hs0 : ∀ x ∈ l0, Kb x.2.1) (ho : Reads w (· < w.heap.size) ov ord) :
    Calls Tryz.prog 3 #[v, .int .u8 (at_ : Int), ov] w fun e w' => e = .returned (.bool true) ∧ Below w.heap.size w w' := by
  obtain ⟨a0, cap0, hv, hcap0, hmx0, -⟩ := hr0.rd.shape
  obtain ⟨oa, oc, hov, hoc, hom, -⟩ := ho.shape
  have HO := Keep.keep ho
  subst hv hov
  obtain ⟨n, hn⟩ : ∃ n, min l0.length 40 = n := ⟨_, rfl⟩
  have HR := Keep.keep (hr0.take n (by omega))
  have HS : Keep (∀ x ∈ l0.take n, Kb x.2.1) := ⟨fun x hx => hs0 x (List.mem_of_mem_take hx)⟩
  have hnl : (l0.take n).length = n := by rw [List.length_take]; omega
  generalize l0.take n = l at *
  have hmin : min (l0.length : Int) 40 = (n : Int) := by omega
  have hn40 : n ≤ 40 := by omega
  have hsl := fun wx => slice_acts a0 l0.length cap0 n .i64 (by omega) wx
  have HT := Keep.keep hT
  unfold maxLen at hmx0 hom
  clear hT hr0 hs0 ho hn
  go_enter Tryz.func3, Tryz.ntmps3
  go_upto_if 28 with fail
  go_cut [7] from 28 to 33 (fun u7 wc => ∃ k : Nat, u7 = .int .i64 (k : Int) ∧ (n = 0 ∧ k = 0 ∨ k < n) ∧ wc = w)
  case first =>
    by_cases hn0 : 0 < n
    · have hne : ((n : Int) == 0) = false := by simp; omega
      go_wp2_with fail
      go_meet
      case rel =>
        exact ⟨at_ % n, rfl, .inr (Nat.mod_lt _ hn0), rfl⟩
    · have hn00 := Keep.keep (show n = 0 by omega)
      go_wp2_with fail
      go_meet
      case rel => exact ⟨0, rfl, .inl ⟨hn00.out, rfl⟩, rfl⟩
  case rest =>
    obtain ⟨k, rfl, hk, hwc⟩ := hcut
    have hwc2 := hwc.symm
    clear hwc
    subst hwc2
    have hsl2 := fun wx => slice_acts a0 n cap0 k .i64 (by omega) wx
    have hkn : k ≤ n := by omega
    have HRK := Keep.keep (HR.out.take k (by omega))
    have hlk : (l.take k).length = k := by rw [List.length_take]; omega
    obtain ⟨L, hL⟩ : ∃ L, grownL ((l.take k).map fun x => (x.1, x.2.1)) = L := ⟨_, rfl⟩
    have HW : Keep (WellL L) := ⟨hL ▸ grown_well _⟩
    have hlen : L.length ≤ 40 := hL ▸ grown_len _
    have HG := Keep.keep (grown_any B (.slice a0 k cap0) (l.take k) w HT.out HRK.out (fun x hx => HS.out x (List.mem_of_mem_take hx)))
    rw [hL] at HG
    clear hL hsl hmin
    go_wp2_with fail
    refine HG.out.mono ?_
    rintro e w2 ⟨T, mb, Bk, f, rfl, hti, ⟨hTw, hmw, hBk⟩, hb2⟩
    have HTI := Keep.keep hti; have HBK := Keep.keep hBk; have HB2 := Keep.keep hb2
    clear hti hBk hb2 HG hsl2
    go_upto_if 42 with fail
    have hs2 := HB2.out.size
    have HTL : Keep (T < w2.heap.size ∧ mb < w2.heap.size ∧ ∀ b, Bk b → b < w2.heap.size) := ⟨HTI.out.row.lt, HTI.out.map.lt, fun b hb => (HBK.out b hb).2⟩
    go_cut [9, 10, 11, 12] from 42 to 114 (fun _ _ _ _ w9 => ∃ L Bk f, TreeIn w9 T mb Bk f L ∧ WellL L ∧ L.length ≤ 41 ∧ (∀ b, Bk b → b < w9.heap.size) ∧ Below w.heap.size w w9)
    case first =>
      by_cases hn0 : 0 < n
      · have hkn' : k < n := by omega
        have hk1 : k < l.length := by omega
        go_wp2_with fail
        refine (copy_tree T mb Bk f L w2 HTI.out HTL.out.2.2 (by omega)).mono ?_
        rintro e w3 ⟨T2, m2, Bk2, f2, rfl, ht2, hf2, hb3⟩
        obtain ⟨b, off, rfl, hbl⟩ : ∃ b off, a0 = some ⟨b, off, none⟩ ∧ b < w.heap.size := by
          obtain ⟨b, off, cap, h, -, -, hb⟩ := HR.out.rd.has (by omega)
          injection h with h
          exact ⟨b, off, h, hb⟩
        have HB3 := Keep.keep (HB2.out.trans (hb3.mono HB2.out.size))
        have HT3 : Keep (TreeIn w3 T mb Bk f L) := ⟨HTI.out.loc (fun b hb => hb3.block b (by
          rcases hb with rfl | rfl | h
          · exact HTL.out.1
          · exact HTL.out.2.1
          · exact HTL.out.2.2 b h))⟩
        have HW2 := Keep.keep ht2; have HF2 := Keep.keep hf2
        have hs3 := hb3.size
        have HAX : Keep (∀ wx, Below w.heap.size w wx → ActsR wx (· < w.heap.size) (· < w.heap.size) (.slice (some ⟨b, off, none⟩) l.length cap0) l) := ⟨fun wx h => by rw [hnl]; exact HR.out.below h (fun b hb => hb) (fun b hb => hb)⟩
        have hax := HAX.out w3 HB3.out
        have hld := hax.load hk1
        have hsm := HS.out _ (List.getElem_mem hk1)
        have hndx := hax.nd _ (List.getElem_mem hk1)
        have HPU : Keep (∀ wx, Below w.heap.size w wx → wx.cell? ⟨b, off + k * 10, none⟩ = some (.bool l[k].1)) := ⟨fun wx h => (HAX.out wx h).puts hk1⟩
        clear hax ht2 hf2 hb3
        generalize l[k] = x at *
        obtain ⟨pu, ⟨⟨xp, ⟨kind, mode, uid, gid, time, attrs, data, link⟩⟩, av, dv⟩⟩ := x
        obtain ⟨aa, la, ca, ad, ld, cd, e1, e2⟩ := hndx.shape
        dsimp only at hndx e1 e2 hsm
        subst e1 e2
        have HX := Keep.keep hndx; have HSM := Keep.keep hsm
        unfold mcell mbC strV at hld
        dsimp only at hld
        clear hndx hsm
        have hsW := HB3.out.size
        have HMB : Keep (Mbs (w3.alloc (.cells #[.string ⟨xp.toArray⟩, .int .i64 kind, .int .u32 mode, .int .u32 uid, .int .u32 gid, .int .i64 time, .slice aa la ca, .slice ad ld cd, .string ⟨link.toArray⟩] 32)) (· < (w3.alloc (.cells #[.string ⟨xp.toArray⟩, .int .i64 kind, .int .u32 mode, .int .u32 uid, .int .u32 gid, .int .i64 time, .slice aa la ca, .slice ad ld cd, .string ⟨link.toArray⟩] 32)).heap.size) (· < (w3.alloc (.cells #[.string ⟨xp.toArray⟩, .int .i64 kind, .int .u32 mode, .int .u32 uid, .int .u32 gid, .int .i64 time, .slice aa la ca, .slice ad ld cd, .string ⟨link.toArray⟩] 32)).heap.size) (.slice (some ⟨w3.heap.size, 0, none⟩) 1 1) [((xp, ⟨kind, mode, uid, gid, time, attrs, data, link⟩), .slice aa la ca, .slice ad ld cd)]) :=
          ⟨⟨RdV.new 32 [.string ⟨xp.toArray⟩, .int .i64 kind, .int .u32 mode, .int .u32 uid, .int .u32 gid, .int .i64 time, .slice aa la ca, .slice ad ld cd, .string ⟨link.toArray⟩] 9 1 _ rfl rfl (by unfold maxLen; omega) (by simp), fun x hx => by
            obtain rfl : x = ((xp, ⟨kind, mode, uid, gid, time, attrs, data, link⟩), .slice aa la ca, .slice ad ld cd) := by simpa using hx
            exact (HX.out.below ((Below.refl _ w3).alloc (Nat.le_refl _) _) (fun b hb => by omega)).mono (fun b hb => by simp; omega)⟩⟩
        go_wp2_with ((with_reducible refine arm_loadM hld ?_ ?_); (focus rfl); simp only [Act.put, List.setIfInBounds_toArray, List.set_cons_succ, List.set_cons_zero])
        refine (few18_any _ _ _ HMB.out).mono ?_
        rintro e w4 ⟨v4, rfl, ⟨l4, e4, ho4, hn4⟩, hb4⟩
        have e3 : l4.map (·.1) = [cutM (xp, ⟨kind, mode, uid, gid, time, attrs, data, link⟩)] := e4
        obtain ⟨y, rfl, hy⟩ := one_of_map e3
        have HB4 := Keep.keep ((HB3.out.alloc hsW _).trans (hb4.mono (by simp; omega)))
        have hloc4 : ∀ b, b < w3.heap.size → w4.heap[b]? = w3.heap[b]? := fun b hb => by rw [hb4.block b (by simp; omega), Below.heap_alloc w3 _ b hb]
        have HT4 : Keep (TreeIn w4 T mb Bk f L) := ⟨HT3.out.loc (fun b hb => hloc4 b (by
          rcases hb with rfl | rfl | h
          · exact HT3.out.row.lt
          · exact HT3.out.map.lt
          · have := HTL.out.2.2 b h; omega))⟩
        have HW4 : Keep (TreeIn w4 T2 m2 Bk2 f2 L) := ⟨HW2.out.loc (fun b hb => hloc4 b (by
          rcases hb with rfl | rfl | h
          · exact HW2.out.row.lt
          · exact HW2.out.map.lt
          · exact (HF2.out.2.2 b h).2))⟩
        obtain ⟨g2, c2, rfl⟩ : ∃ g2 c2, v4 = .slice (some ⟨g2, 0, none⟩) 1 c2 := by
          rcases ho4.2 with ⟨_, h⟩ | ⟨g, cap, cur, h, _⟩
          · simp at h
          · exact ⟨g, cap, h⟩
        have hny := hn4 y (by simp)
        have hm4 : Mbs w4 _ _ (.slice (some ⟨g2, 0, none⟩) 1 c2) [y] := ⟨ownsV_reads ho4, hn4⟩
        have hld4 := hm4.load (k := 0) (by simp)
        rw [show 0 + 0 * 9 = 0 from rfl] at hld4
        obtain ⟨⟨yp, ⟨k2, m5, u2, gi2, t2, at2, da2, li2⟩⟩, av2, dv2⟩ := y
        obtain ⟨a8, l8, c8, a9, l9, c9, e8, e9⟩ := hny.shape
        dsimp only at hny e8 e9 hy
        subst e8 e9
        have HY := Keep.keep hy; have HNY := Keep.keep hny
        simp only [List.getElem_cons_zero] at hld4
        unfold mcell mbC strV at hld4
        dsimp only at hld4
        have hs4 : w3.heap.size + 1 ≤ w4.heap.size := by have := hb4.size; simpa using this
        clear ho4 hn4 hb4 e3 e4 hy hny hm4 hld HMB hloc4 HT3 HW2
        go_upto_region 11 with ((with_reducible refine arm_loadM hld4 ?_ ?_); (focus rfl); simp only [Act.put, List.setIfInBounds_toArray, List.set_cons_succ, List.set_cons_zero])
        refine wp_world (R := fun w5 => (Row w5 w4.heap.size 32 #[.string ⟨yp.toArray⟩, .int .i64 k2, .int .u32 m5, .int .u32 u2, .int .u32 gi2, .int .i64 t2, .slice a8 l8 c8, .slice a9 l9 c9, .string ⟨li2.toArray⟩] ∧ TreeIn w5 T mb Bk f L ∧ TreeIn w5 T2 m2 Bk2 f2 L) ∧ Below w.heap.size w w5 ∧ w4.heap.size < w5.heap.size ∧ NdR w5 (fun b => w3.heap.size < b ∧ b < w4.heap.size) ⟨k2, m5, u2, gi2, t2, at2, da2, li2⟩ (.slice a8 l8 c8) (.slice a9 l9 c9)) ⟨⟨Row.new _ _ _, ?_, ?_⟩, HB4.out.alloc (by have := HB4.out.size; omega) _, by simp, ?_⟩ ?_
        · exact HT4.out.loc (fun b hb => Below.heap_alloc w4 _ b (by
            rcases hb with rfl | rfl | h
            · exact HT4.out.row.lt
            · exact HT4.out.map.lt
            · have := HTL.out.2.2 b h; omega))
        · exact HW4.out.loc (fun b hb => Below.heap_alloc w4 _ b (by
            rcases hb with rfl | rfl | h
            · exact HW4.out.row.lt
            · exact HW4.out.map.lt
            · have := (HF2.out.2.2 b h).2; omega))
        · exact (HNY.out.below ((Below.refl _ w4).alloc (Nat.le_refl _) _) (fun b hb => hb.1.2)).mono (fun b hb => ⟨by have := hb.1.1; simp at this; omega, hb.1.2⟩)
        intro w5 HV
        obtain ⟨b10, hb10⟩ : ∃ b10, w4.heap.size = b10 := ⟨_, rfl⟩
        rw [hb10] at HV ⊢
        have HRW := Keep.keep HV.out.1.1
        have HSZ : Keep ((#[.string ⟨yp.toArray⟩, .int .i64 k2, .int .u32 m5, .int .u32 u2, .int .u32 gi2, .int .i64 t2, .slice a8 l8 c8, .slice a9 l9 c9, .string ⟨li2.toArray⟩] : Array Value).size = 9) := ⟨rfl⟩
        have cpu := HPU.out w5 HV.out.2.1
        have cy := HV.out.1.1.cell (i := 0) rfl
        have HLT5 : Keep ((T < w5.heap.size ∧ mb < w5.heap.size ∧ ∀ b, Bk b → b < w5.heap.size) ∧ (T2 < w5.heap.size ∧ m2 < w5.heap.size ∧ ∀ b, Bk2 b → b < w5.heap.size) ∧ (mb < T2 ∧ mb < m2 ∧ ∀ b, Bk2 b → mb < b)) := ⟨by
          have h1 := HTL.out
          have h2 := HF2.out
          have h3 := HV.out.2.2.1
          have h5 := HV.out.1.2.2.row.lt
          have h6 := HV.out.1.2.2.map.lt
          refine ⟨⟨by omega, by omega, fun b hb => by have := h1.2.2 b hb; omega⟩, ⟨h5, h6, fun b hb => by have := (h2.2.2 b hb).2; omega⟩, ⟨by omega, by omega, fun b hb => by have := (h2.2.2 b hb).1; omega⟩⟩⟩
        have HSW : Keep (∀ w6, Chg (fun j => j = mb) w5.heap.size w5 w6 → TreeIn w6 T2 m2 Bk2 f2 L) := ⟨fun w6 hc => HV.out.1.2.2.loc (fun b hb => hc.block b (by
          rcases hb with rfl | rfl | h
          · exact HLT5.out.2.1.1
          · exact HLT5.out.2.1.2.1
          · exact HLT5.out.2.1.2.2 b h) (by
          have h9 := HLT5.out.2.2
          rcases hb with rfl | rfl | h
          · omega
          · omega
          · have := h9.2.2 b h; omega))⟩
        have HBC : Keep (∀ w6, Chg (fun j => j = mb) w5.heap.size w5 w6 → Below w.heap.size w w6) := ⟨fun w6 hc => HV.out.2.1.trans ((hc.lower HV.out.2.1.size).below (fun j hj e => by omega))⟩
        clear hld4 HT4 HW4 HB4 HNY
        cases pu with
        | true =>
          go_wp2_with ((with_reducible refine arm_loadRow HRW.out aggM HSZ.out ?_ ?_); (focus rfl); simp only [Act.put, List.setIfInBounds_toArray, List.set_cons_succ, List.set_cons_zero])
          refine (put_tree T mb Bk f L B w5 HV.out.1.2.1 HLT5.out.1.2.2 (by omega) (HT.out.on (HV.out.2.1.mono HT.out.b)) (yp, ⟨k2, m5, u2, gi2, t2, at2, da2, li2⟩) _ _ (by rw [HY.out]; exact HSM.out.cut) (HV.out.2.2.2.mono (fun b hb => ⟨by have := HV.out.2.2.1; omega, by have := HTL.out.2.1; omega⟩))).mono ?_
          rintro e w6 ⟨rfl, ⟨Bk3, f3, hti3, hbk3⟩, hch⟩
          have HPE := Keep.keep (putT_err (L := L) (m := (yp, ⟨k2, m5, u2, gi2, t2, at2, da2, li2⟩)))
          have HPO := Keep.keep (putT_ok HW.out (m := (yp, ⟨k2, m5, u2, gi2, t2, at2, da2, li2⟩)))
          have HPW := Keep.keep (put_well HW.out (yp, ⟨k2, m5, u2, gi2, t2, at2, da2, li2⟩))
          have HPL := Keep.keep (put_len HW.out.s (yp, ⟨k2, m5, u2, gi2, t2, at2, da2, li2⟩))
          dsimp only at HPO
          generalize putT L (yp, ⟨k2, m5, u2, gi2, t2, at2, da2, li2⟩) = PT at *
          obtain ⟨pc, PL⟩ := PT
          dsimp only at hti3 HPE HPO HPW HPL ⊢
          have HT6 := Keep.keep hti3
          have HB6 := Keep.keep (HBC.out w6 hch)
          have HW6 := Keep.keep (HSW.out w6 hch)
          have hs6 := hch.size
          have HK6 : Keep (∀ b, Bk3 b → b < w6.heap.size) := ⟨fun b hb => by
            rcases hbk3 b hb with h | h
            · have := HLT5.out.1.2.2 b h; omega
            · exact h.2⟩
          have HR6 : Keep (Row w6 b10 32 #[.string ⟨yp.toArray⟩, .int .i64 k2, .int .u32 m5, .int .u32 u2, .int .u32 gi2, .int .i64 t2, .slice a8 l8 c8, .slice a9 l9 c9, .string ⟨li2.toArray⟩]) := ⟨HV.out.1.1.chg hch HV.out.1.1.lt (by have := HTL.out.2.1; omega)⟩
          have HN6 : Keep (NdR w6 (· < w6.heap.size) ⟨k2, m5, u2, gi2, t2, at2, da2, li2⟩ (.slice a8 l8 c8) (.slice a9 l9 c9)) := ⟨(HV.out.2.2.2.chg hch (fun b hb => ⟨by have := HV.out.2.2.1; omega, by have := HTL.out.2.1; omega⟩)).mono (fun b hb => by have := HV.out.2.2.1; omega)⟩
          clear hti3 hbk3 hch cpu cy HRW
          by_cases hpc : pc = 0
          · have hne : (pc != 0) = false := by simp [hpc]
            have HGE := Keep.keep (HPO.out hpc)
            clear hpc HPE HPO
            have cy6 := HR6.out.cell (i := 0) rfl
            go_wp2_with fail
            refine (get_tree T mb Bk3 f3 PL w6 HT6.out HK6.out yp (by have h1 := HSM.out.cut.p; rw [← HY.out] at h1; exact Nat.le_trans h1 (by omega))).mono ?_
            rintro e w7 ⟨av7, dv7, rfl, hn7, hb7⟩
            rw [HGE.out] at hn7 ⊢
            obtain ⟨a7, l7, c7, d7, n7, e7, f1, f2'⟩ := hn7.shape
            subst f1 f2'
            dsimp only at hn7
            have HN7 := Keep.keep hn7
            have HB7 := Keep.keep (HB6.out.trans (hb7.mono HB6.out.size))
            have HT7 : Keep (TreeIn w7 T mb Bk3 f3 PL) := ⟨HT6.out.loc (fun b hb => hb7.block b (by
              rcases hb with rfl | rfl | h
              · exact HT6.out.row.lt
              · exact HT6.out.map.lt
              · exact HK6.out b h))⟩
            have HR7 := Keep.keep (HR6.out.below hb7 HR6.out.lt)
            have HN8 := Keep.keep (HN6.out.below hb7 (fun b hb => hb))
            have hs7 := hb7.size
            have hb10lt := HR6.out.lt
            clear hn7 hb7 cy6 HT6 HR6 HN6
            unfold ndC strV
            dsimp only
            have HNL : Keep ((#[.int .i64 k2, .int .u32 m5, .int .u32 u2, .int .u32 gi2, .int .i64 t2, .slice a7 l7 c7, .slice d7 n7 e7, .string ⟨li2.toArray⟩] : Array Value).size = 8) := ⟨rfl⟩
            go_upto_region 16 with fail
            refine wp_world (R := fun w8 => Below w7.heap.size w7 w8 ∧ Row w8 w7.heap.size 30 #[.int .i64 k2, .int .u32 m5, .int .u32 u2, .int .u32 gi2, .int .i64 t2, .slice a7 l7 c7, .slice d7 n7 e7, .string ⟨li2.toArray⟩]) ⟨(Below.refl _ _).alloc (Nat.le_refl _) _, Row.new _ _ _⟩ ?_
            intro w8 H8
            obtain ⟨b11, hb11⟩ : ∃ b11, w7.heap.size = b11 := ⟨_, rfl⟩
            have HB8 := Keep.keep (HB7.out.trans (H8.out.1.mono HB7.out.size))
            have HT8 : Keep (TreeIn w8 T mb Bk3 f3 PL) := ⟨HT7.out.loc (fun b hb => H8.out.1.block b (by
              rcases hb with rfl | rfl | h
              · exact HT7.out.row.lt
              · exact HT7.out.map.lt
              · have := HK6.out b h; omega))⟩
            have hs8 := H8.out.1.size
            have HR8 := HR7.out.below H8.out.1 HR7.out.lt
            have x1 := HR8.cell (i := 1) rfl
            have x2 := HR8.cell (i := 2) rfl
            have x3 := HR8.cell (i := 3) rfl
            have x4 := HR8.cell (i := 4) rfl
            have x5 := HR8.cell (i := 5) rfl
            have x6 := HR8.cell (i := 6) rfl
            have x7 := HR8.cell (i := 7) rfl
            have x8 := HR8.cell (i := 8) rfl
            have HN9 := Keep.keep ((HN7.out.below H8.out.1 (fun b hb => hb.2)).mono (N' := (· < w8.heap.size)) (fun b hb => by have := hb.2; omega))
            have HN10 := Keep.keep ((HN8.out.below H8.out.1 (fun b hb => by omega)).mono (N' := (· < w8.heap.size)) (fun b hb => by omega))
            have HR11 := Keep.keep H8.out.2
            have hb10w8 : b10 < w8.heap.size := by omega
            rw [hb11] at HR11 ⊢
            clear HR8 H8
            have hbm1 : ∀ w, (Instr.build 32 #[(1, .agg #[.int .i64 k2, .int .u32 m5, .int .u32 u2, .int .u32 gi2, .int .i64 t2, .slice a7 l7 c7, .slice d7 n7 e7, .string ⟨li2.toArray⟩])]).run Tryz.prog w = .ok (.agg #[.string ⟨#[]⟩, .int .i64 k2, .int .u32 m5, .int .u32 u2, .int .u32 gi2, .int .i64 t2, .slice a7 l7 c7, .slice d7 n7 e7, .string ⟨li2.toArray⟩]) w := fun w => by kernel_rfl
            have hbm2 : ∀ w, (Instr.build 32 #[(1, .agg #[.int .i64 k2, .int .u32 m5, .int .u32 u2, .int .u32 gi2, .int .i64 t2, .slice a8 l8 c8, .slice a9 l9 c9, .string ⟨li2.toArray⟩])]).run Tryz.prog w = .ok (.agg #[.string ⟨#[]⟩, .int .i64 k2, .int .u32 m5, .int .u32 u2, .int .u32 gi2, .int .i64 t2, .slice a8 l8 c8, .slice a9 l9 c9, .string ⟨li2.toArray⟩]) w := fun w => by kernel_rfl
            go_wp2_with ((with_reducible refine arm_loadRowG ?_ HR11.out aggN HNL.out ?_ ?_); (focus rfl); (focus rfl); simp only [Act.put, List.setIfInBounds_toArray, List.set_cons_succ, List.set_cons_zero])
            refine (alike_one w8 _ _ _ _ _ _ _ _ _ _ _ _ _ _ _ _ _ _ _ _ HN9.out HN10.out).mono ?_
            rintro e w9 ⟨rfl, hb9⟩
            have HB9 := Keep.keep (HB8.out.trans (hb9.mono HB8.out.size))
            have HT9 : Keep (TreeIn w9 T mb Bk3 f3 PL) := ⟨HT8.out.loc (fun b hb => hb9.block b (by
              rcases hb with rfl | rfl | h
              · exact HT8.out.row.lt
              · exact HT8.out.map.lt
              · have := HK6.out b h; omega))⟩
            have hs9 := hb9.size
            clear hb9
            go_wp2_with fail
            go_meet
            case rel => exact ⟨PL, Bk3, f3, HT9.out, HPW.out, by have := HPL.out; omega, fun b hb => by have := HK6.out b hb; omega, HB9.out⟩
          · have hne : (pc != 0) = true := by simpa using hpc
            have HPE2 := Keep.keep (HPE.out hpc)
            clear hpc HPE HPO
            go_wp2_with fail
            refine (same_tree T mb Bk3 f3 PL T2 m2 Bk2 f2 L w6 HT6.out HK6.out HW6.out (fun b hb => by have := HLT5.out.2.1.2.2 b hb; omega) (by have := HPL.out; omega)).mono ?_
            rintro e w7 ⟨⟨rb, rfl, hrb⟩, hb7⟩
            obtain rfl : rb = true := hrb.2 HPE2.out
            have HB7 := Keep.keep (HB6.out.trans (hb7.mono HB6.out.size))
            have HT7 : Keep (TreeIn w7 T mb Bk3 f3 PL) := ⟨HT6.out.loc (fun b hb => hb7.block b (by
              rcases hb with rfl | rfl | h
              · exact HT6.out.row.lt
              · exact HT6.out.map.lt
              · exact HK6.out b h))⟩
            have hs7 := hb7.size
            clear hrb hb7
            go_wp2_with fail
            go_meet
            case rel => exact ⟨PL, Bk3, f3, HT7.out, HPW.out, by have := HPL.out; omega, fun b hb => by have := HK6.out b hb; omega, HB7.out⟩
        | false =>
          have hyp : yp.length ≤ 400000 := by have h1 := HSM.out.cut.p; rw [← HY.out] at h1; exact Nat.le_trans h1 (by omega)
          go_wp2_with fail
          refine (remove_tree T mb Bk f L w5 HV.out.1.2.1 HLT5.out.1.2.2 yp (by omega)).mono ?_
          rintro e w6 ⟨rfl, hti3, hch⟩
          have HPE := Keep.keep (removeT_err (L := L) (p := yp))
          have HPO := Keep.keep (removeT_ok (L := L) (p := yp))
          have HPW := Keep.keep (remove_well HW.out yp)
          have HRL := Keep.keep (remove_len L yp)
          generalize removeT L yp = PT at *
          obtain ⟨pc, PL⟩ := PT
          dsimp only at hti3 HPE HPO HPW HRL ⊢
          have HT6 := Keep.keep hti3
          have HB6 := Keep.keep (HBC.out w6 hch)
          have HW6 := Keep.keep (HSW.out w6 hch)
          have hs6 := hch.size
          have HK6 : Keep (∀ b, Bk b → b < w6.heap.size) := ⟨fun b hb => by have := HLT5.out.1.2.2 b hb; omega⟩
          have HK2 : Keep (∀ b, Bk2 b → b < w6.heap.size) := ⟨fun b hb => by have := HLT5.out.2.1.2.2 b hb; omega⟩
          have HR6 : Keep (Row w6 b10 32 #[.string ⟨yp.toArray⟩, .int .i64 k2, .int .u32 m5, .int .u32 u2, .int .u32 gi2, .int .i64 t2, .slice a8 l8 c8, .slice a9 l9 c9, .string ⟨li2.toArray⟩]) := ⟨HV.out.1.1.chg hch HV.out.1.1.lt (by have := HTL.out.2.1; omega)⟩
          clear hti3 hch cpu cy HRW
          by_cases hpc : pc = 0
          · have hne : (pc != 0) = false := by simp [hpc]
            have HRO := Keep.keep (HPO.out hpc)
            clear hpc HPE HPO
            go_upto_region 21 with fail
            refine wp_region_spc [96, 97, 98, 99, 100, 101, 102, 103, 104, 105, 106, 107, 108, 109, 110, 111, 112, 113, 114] (Below w6.heap.size w6) (r21T T T2 b10 yp PL.length L.length (manyU L yp)) (by kernel_rfl) rfl (by decide) (by show ∀ d ∈ _, d < 215; decide) (by kernel_rfl) (Below.refl _ _).drew (fun i v wx wy h _ _ => r21T_stays i v wx wy h) ?_ ?_
            · intro q hq a1 w7 hF hC hT
              have b8 : a1.eval (.tmp 8) = .pointer (some ⟨T, 0, none⟩) := (hF.same 8 (by decide)).trans rfl
              have b9 : a1.eval (.tmp 9) = .pointer (some ⟨T2, 0, none⟩) := (hF.same 9 (by decide)).trans rfl
              have b10' : a1.eval (.tmp 10) = .pointer (some ⟨b10, 0, none⟩) := (hF.same 10 (by decide)).trans rfl
              have hkr : Below w7.heap.size w7 w7 := Below.refl _ _
              have hcy := (HR6.out.below hC HR6.out.lt).cell (i := 0) rfl
              have hq' : q < 19 := hq
              rcases (by omega : q = 0 ∨ q = 1 ∨ q = 2 ∨ q = 3 ∨ q = 4 ∨ q = 5 ∨ q = 6 ∨ q = 7 ∨ q = 8 ∨ q = 9 ∨ q = 10 ∨ q = 11 ∨ q = 12 ∨ q = 13 ∨ q = 14 ∨ q = 15 ∨ q = 16 ∨ q = 17 ∨ q = 18) with rfl | rfl | rfl | rfl | rfl | rfl | rfl | rfl | rfl | rfl | rfl | rfl | rfl | rfl | rfl | rfl | rfl | rfl | rfl
              · exact spc_val (d := 96) rfl (wanted_none rfl) (by simp [execOp, b8]) hC hkr rfl
              · exact spc_val (d := 97) rfl (wanted_none rfl) (run_fieldAddr (m := 0) Tryz.underlying32 rfl (by kernel_rfl) b10') hC hkr rfl
              · have hx : a1.eval (.tmp 97) = .pointer (some ⟨b10, 0, none⟩) := hT 1 (by kernel_rfl)
                exact spc_val (d := 98) rfl (wanted_none rfl) (run_loadCell (run_isAgg_plain Tryz.underlying9 rfl) hcy hx) hC hkr rfl
              · have hx : a1.eval (.tmp 96) = .pointer (some ⟨T, 0, none⟩) := hT 0 (by kernel_rfl)
                have hy : a1.eval (.tmp 98) = .string ⟨yp.toArray⟩ := hT 2 (by kernel_rfl)
                refine spc_call (d := 99) (vs := #[.pointer (some ⟨T, 0, none⟩), .string ⟨yp.toArray⟩]) rfl (wanted_none rfl) (Go.Proofs.enters_of Tryz.func14 (by kernel_rfl) rfl) (by simp [hx, hy]) ?_
                refine (under_row T mb Bk f PL w6 w7 yp (by have := HRL.out; omega) hyp HT6.out HK6.out hC).mono ?_
                rintro e wz ⟨a, cap, rfl, hb⟩
                rw [HRO.out.1]
                exact ⟨_, rfl, hC.trans (hb.mono hC.size), hb, a, cap, rfl⟩
              · obtain ⟨a, cap, hx⟩ : ∃ a cap, a1.eval (.tmp 99) = .slice a 0 cap := hT 3 (by kernel_rfl)
                exact spc_val (d := 100) rfl (wanted_none rfl) (run_lenSl Tryz.underlying33 hx) hC hkr rfl
              · have hx : a1.eval (.tmp 100) = .int .i64 0 := hT 4 (by kernel_rfl)
                exact spc_val (d := 101) rfl (wanted_none rfl) (run_neqI hx rfl) hC hkr rfl
              · have hx : a1.eval (.tmp 101) = .bool false := hT 5 (by kernel_rfl)
                exact spc_val (d := 102) rfl (wanted_none rfl) (by simp [execOp, hx]) hC hkr rfl
              all_goals have hg : slot a1 102 = .bool false := hT 6 (by kernel_rfl)
              · exact spc_val (d := 103) rfl (wanted_of rfl rfl hg) (by simp [execOp, b8]) hC hkr rfl
              · have hx : a1.eval (.tmp 103) = .pointer (some ⟨T, 0, none⟩) := hT 7 (by kernel_rfl)
                refine spc_call (d := 104) (vs := #[.pointer (some ⟨T, 0, none⟩)]) rfl (wanted_of rfl rfl hg) (Go.Proofs.enters_of Tryz.func15 (by kernel_rfl) rfl) (by simp [hx]) ?_
                refine (len_row T mb Bk f PL w6 w7 HT6.out HK6.out hC).mono ?_
                rintro e wz ⟨rfl, hb⟩
                exact ⟨_, rfl, hC.trans (hb.mono hC.size), hb, rfl⟩
              · exact spc_val (d := 105) rfl (wanted_of rfl rfl hg) (by simp [execOp, b9]) hC hkr rfl
              · have hx : a1.eval (.tmp 105) = .pointer (some ⟨T2, 0, none⟩) := hT 9 (by kernel_rfl)
                refine spc_call (d := 106) (vs := #[.pointer (some ⟨T2, 0, none⟩)]) rfl (wanted_of rfl rfl hg) (Go.Proofs.enters_of Tryz.func15 (by kernel_rfl) rfl) (by simp [hx]) ?_
                refine (len_row T2 m2 Bk2 f2 L w6 w7 HW6.out HK2.out hC).mono ?_
                rintro e wz ⟨rfl, hb⟩
                exact ⟨_, rfl, hC.trans (hb.mono hC.size), hb, rfl⟩
              · exact spc_val (d := 107) rfl (wanted_of rfl rfl hg) (by simp [execOp, b9]) hC hkr rfl
              · exact spc_val (d := 108) rfl (wanted_of rfl rfl hg) (run_fieldAddr (m := 0) Tryz.underlying32 rfl (by kernel_rfl) b10') hC hkr rfl
              · have hx : a1.eval (.tmp 108) = .pointer (some ⟨b10, 0, none⟩) := hT 12 (by kernel_rfl)
                exact spc_val (d := 109) rfl (wanted_of rfl rfl hg) (run_loadCell (run_isAgg_plain Tryz.underlying9 rfl) hcy hx) hC hkr rfl
              · have hx : a1.eval (.tmp 107) = .pointer (some ⟨T2, 0, none⟩) := hT 11 (by kernel_rfl)
                have hy : a1.eval (.tmp 109) = .string ⟨yp.toArray⟩ := hT 13 (by kernel_rfl)
                refine spc_call (d := 110) (vs := #[.pointer (some ⟨T2, 0, none⟩), .string ⟨yp.toArray⟩]) rfl (wanted_of rfl rfl hg) (Go.Proofs.enters_of Tryz.func14 (by kernel_rfl) rfl) (by simp [hx, hy]) ?_
                refine (under_row T2 m2 Bk2 f2 L w6 w7 yp (by omega) hyp HW6.out HK2.out hC).mono ?_
                rintro e wz ⟨a, cap, rfl, hb⟩
                exact ⟨_, rfl, hC.trans (hb.mono hC.size), hb, a, cap, rfl⟩
              · obtain ⟨a, cap, hx⟩ : ∃ a cap, a1.eval (.tmp 110) = .slice a (manyU L yp) cap := hT 14 (by kernel_rfl)
                exact spc_val (d := 111) rfl (wanted_of rfl rfl hg) (run_lenSl Tryz.underlying33 hx) hC hkr rfl
              · have hx : a1.eval (.tmp 106) = .int .i64 (L.length : Int) := hT 10 (by kernel_rfl)
                have hy : a1.eval (.tmp 111) = .int .i64 (manyU L yp : Int) := hT 15 (by kernel_rfl)
                exact spc_val (d := 112) rfl (wanted_of rfl rfl hg) (run_subI hx hy (by have := HRO.out.2; omega)) hC hkr (by
                  have := HRO.out.2
                  show Value.int .i64 _ = Value.int .i64 _
                  congr 1
                  omega)
              · have hx : a1.eval (.tmp 104) = .int .i64 (PL.length : Int) := hT 8 (by kernel_rfl)
                have hy : a1.eval (.tmp 112) = .int .i64 (PL.length : Int) := hT 16 (by kernel_rfl)
                exact spc_val (d := 113) rfl (wanted_of rfl rfl hg) (run_neqI hx hy) hC hkr (by show Value.bool _ = _; simp)
              · have hy : a1.eval (.tmp 113) = .bool false := hT 17 (by kernel_rfl)
                exact spc_val (d := 114) rfl (wanted_none rfl) (by have hg' : a1.eval (.tmp 102) = .bool false := hg; rw [run_pickF hg', hy]) hC hkr rfl
            · intro a1 w7 ha hC hT
              have t18 : slot a1 114 = .bool false := hT 18 (by show 18 < 19; decide)
              simp only [List.foldl_cons, List.foldl_nil, t18] at ha
              have H7 := Keep.keep hC
              clear hT t18 hC
              generalize slot a1 96 = y96 at *
              generalize slot a1 97 = y97 at *
              generalize slot a1 98 = y98 at *
              generalize slot a1 99 = y99 at *
              generalize slot a1 100 = y100 at *
              generalize slot a1 101 = y101 at *
              generalize slot a1 102 = y102 at *
              generalize slot a1 103 = y103 at *
              generalize slot a1 104 = y104 at *
              generalize slot a1 105 = y105 at *
              generalize slot a1 106 = y106 at *
              generalize slot a1 107 = y107 at *
              generalize slot a1 108 = y108 at *
              generalize slot a1 109 = y109 at *
              generalize slot a1 110 = y110 at *
              generalize slot a1 111 = y111 at *
              generalize slot a1 112 = y112 at *
              generalize slot a1 113 = y113 at *
              subst ha
              simp only [Act.put, List.setIfInBounds_toArray, List.set_cons_succ, List.set_cons_zero]
              have HB7 := Keep.keep (HB6.out.trans (H7.out.mono HB6.out.size))
              have HT7 : Keep (TreeIn w7 T mb Bk f PL) := ⟨HT6.out.loc (fun b hb => H7.out.block b (by
                rcases hb with rfl | rfl | h
                · exact HT6.out.row.lt
                · exact HT6.out.map.lt
                · exact HK6.out b h))⟩
              have hs7 := H7.out.size
              go_wp2_with fail
              go_meet
              case rel => exact ⟨PL, Bk, f, HT7.out, HPW.out, by have := HRL.out; omega, fun b hb => by have := HK6.out b hb; omega, HB7.out⟩
          · have hne : (pc != 0) = true := by simpa using hpc
            have HPE2 := Keep.keep (HPE.out hpc)
            clear hpc HPE HPO
            go_wp2_with fail
            refine (same_tree T mb Bk f PL T2 m2 Bk2 f2 L w6 HT6.out HK6.out HW6.out HK2.out (by have := HRL.out; omega)).mono ?_
            rintro e w7 ⟨⟨rb, rfl, hrb⟩, hb7⟩
            obtain rfl : rb = true := hrb.2 HPE2.out
            have HB7 := Keep.keep (HB6.out.trans (hb7.mono HB6.out.size))
            have HT7 : Keep (TreeIn w7 T mb Bk f PL) := ⟨HT6.out.loc (fun b hb => hb7.block b (by
              rcases hb with rfl | rfl | h
              · exact HT6.out.row.lt
              · exact HT6.out.map.lt
              · exact HK6.out b h))⟩
            have hs7 := hb7.size
            clear hrb hb7
            go_wp2_with fail
            go_meet
            case rel => exact ⟨PL, Bk, f, HT7.out, HPW.out, by have := HRL.out; omega, fun b hb => by have := HK6.out b hb; omega, HB7.out⟩
      · go_wp2_with fail
        go_meet
        case rel => exact ⟨L, Bk, f, HTI.out, HW.out, by omega, HTL.out.2.2, HB2.out⟩
    case rest =>
      obtain ⟨L9, Bk9, f9, hti9, hwl9, hl41, hbk9, hbw9⟩ := hcut
      have HT9 := Keep.keep hti9; have HW9 := Keep.keep hwl9; have HB9 := Keep.keep hbw9
      have HK9 : Keep (T < wc.heap.size ∧ mb < wc.heap.size ∧ ∀ b, Bk9 b → b < wc.heap.size) := ⟨hti9.row.lt, hti9.map.lt, hbk9⟩
      have hs9 := hbw9.size
      clear hti9 hwl9 hbw9 hbk9 HTI HW HTL HB2 HBK HRK HR HS hlen hlk hkn
      go_wp2_with fail
      refine (all_own T mb Bk9 f9 L9 wc (by omega) HT9.out HK9.out).mono ?_
      rintro e w10 ⟨v, l9, rfl, hl9, hown, hb10⟩
      have hln9 : l9.length = L9.length := by rw [← hl9, List.length_map]
      have hle : l9.length ≤ 41 := by omega
      have HB10 := Keep.keep (HB9.out.trans (hb10.mono hs9))
      have HT10 : Keep (TreeIn w10 T mb Bk9 f9 L9) := ⟨HT9.out.loc (fun b hb => hb10.block b (by
        rcases hb with rfl | rfl | h
        · exact HK9.out.1
        · exact HK9.out.2.1
        · exact HK9.out.2.2 b h))⟩
      have hs10 := hb10.size
      obtain ⟨ga, gc, hva, hgc, hga⟩ : ∃ ga gc, v = .slice ga l9.length gc ∧ (l9.length ≤ gc ∧ gc ≤ maxLen) ∧ (l9.length = 0 ∨ ∃ g, ga = some ⟨g, 0, none⟩ ∧ wc.heap.size ≤ g ∧ g < w10.heap.size) := by
        rcases hown.own.2 with ⟨h, h0⟩ | ⟨g, cap, cur, h, h1, h2, h3, h4, -⟩
        · exact ⟨none, 0, by rw [h, h0], ⟨by omega, by unfold maxLen; omega⟩, .inl h0⟩
        · exact ⟨some ⟨g, 0, none⟩, cap, h, ⟨h3, h4⟩, .inr ⟨g, rfl, h1, (Array.getElem?_eq_some_iff.1 h2).1⟩⟩
      subst hva
      have HOWN := Keep.keep hown; have HGA := Keep.keep hga; have HL9 := Keep.keep hl9
      unfold maxLen at hgc
      have HLN := Keep.keep hln9
      have hmk : ∀ w, (Instr.makeMap 47 none).run Tryz.prog w = .ok (.map (some w.heap.size)) (w.alloc (.map #[] 0)) := fun w => by kernel_rfl
      clear hown hga hl9 hb10 HT9 hln9
      go_wp2_with (first | (with_reducible refine arm_sRange ?_) | (with_reducible refine arm_sNext ?_) | (with_reducible refine arm_sDel ?_) | (with_reducible refine arm_sPut ?_) | (with_reducible refine arm_sIns ?_))
      refine StM.out ?_
      refine arm_insS (u := .int .i64 1) Tryz.underlying9 Tryz.underlying47 (MapS.made w10) (p := []) (by simp) (by unfold maxLen; simp) rfl rfl rfl ?_
      intro w11 hm11 hc11
      have HB11 : Keep (Below w10.heap.size w10 w11) := ⟨((Chg.of_below ((Below.refl _ w10).alloc (Nat.le_refl _) _)).trans (hc11.lower (by simp))).below (fun k hk e => by omega)⟩
      have HM11 : Keep (MapS w11 9 w10.heap.size (dirsM L9 0)) := ⟨hm11⟩
      obtain ⟨bm, hbm⟩ : ∃ b, w10.heap.size = b := ⟨_, rfl⟩
      rw [hbm] at HM11 HB11 ⊢
      clear hm11 hc11
      simp only [Act.put]
      go_wp2_with fail
      go_loopg [121] l9.length (fun g u121 wx => ∃ k : Nat, k + g = l9.length ∧ u121 = .int .i64 (k : Int) ∧ MapS wx 9 bm (dirsM L9 k) ∧ Below bm w10 wx)
      case atStart => exact ⟨0, by omega, rfl, HM11.out, HB11.out⟩
      case round =>
        obtain ⟨k, hkg, rfl, hmk, hbk⟩ := hrel
        have HMK := Keep.keep hmk; have HBK := Keep.keep hbk
        clear hmk hbk HM11 HB11
        cases gk with
        | zero =>
          obtain rfl : k = l9.length := by omega
          obtain ⟨n9, hn9⟩ : ∃ n9, wc.heap.size = n9 := ⟨_, rfl⟩
          have HND9 : Keep (∀ x ∈ l9, NdR w10 (fun b => n9 ≤ b ∧ b < w10.heap.size ∧ (Value.slice ga l9.length gc).ownBlock ≠ some b) x.1.2 x.2.1 x.2.2) := ⟨hn9 ▸ (fun x hx => (HOWN.out.nd x hx).r)⟩
          have HO2 : Keep (wr.ownsRow n9 32 9 (.slice ga l9.length gc) l9.length (mcells l9)) := ⟨hn9 ▸ ownsRow_loc _ _ (fun b hb => HBK.out.block b (by have := (World.ownsRow.lt HOWN.out.own b hb).2; omega)) HOWN.out.own⟩
          have HC2 : Keep (Chg (fun j => (Value.slice ga l9.length gc).ownBlock = some j) bm w10 wr) := ⟨Chg.of_below HBK.out⟩
          have HK10 : Keep (T < n9 ∧ mb < n9 ∧ ∀ b, Bk9 b → b < n9) := ⟨hn9 ▸ HK9.out⟩
          rw [hn9] at hs9 hs10 HGA
          clear HMK HBK HOWN HK9 HB9 hn9
          go_wp2_with fail
          go_loopg [162] l9.length (fun g u162 wx => ∃ (k : Nat) (P : List Mv), k + g = l9.length ∧ u162 = .int .i64 (k : Int) ∧ P.Perm l9 ∧ wx.ownsRow n9 32 9 (.slice ga l9.length gc) l9.length (mcells P) ∧ Chg (fun j => (Value.slice ga l9.length gc).ownBlock = some j) bm w10 wx)
          case atStart => exact ⟨0, l9, by omega, rfl, List.Perm.refl _, HO2.out, HC2.out⟩
          case round =>
            obtain ⟨k, P, hkg, rfl, hpm, how, hch⟩ := hrel
            have HPM := Keep.keep hpm; have HOW := Keep.keep how; have HCH := Keep.keep hch
            have hpl : P.length = l9.length := hpm.length_eq
            clear hpm how hch HO2 HC2
            have HPL := Keep.keep hpl
            cases gk with
            | zero =>
              obtain rfl : k = l9.length := by omega
              clear hpl
              have hownb : ∀ b, (Value.slice ga l9.length gc).ownBlock = some b → n9 ≤ b := fun b e => (World.ownsRow.lt HOW.out b e).1
              have HBR : Keep (Below w.heap.size w wr) := ⟨HB10.out.trans ((HCH.out.lower (by have := HB10.out.size; omega)).below (fun b hb e => by have := hownb b e; omega))⟩
              have hsr : w10.heap.size ≤ wr.heap.size := HCH.out.size
              have HTR : Keep (TreeIn wr T mb Bk9 f9 L9) := ⟨HT10.out.loc (fun b hb => HCH.out.block b (by
                have h := HK10.out
                rcases hb with rfl | rfl | hb
                · omega
                · omega
                · have := h.2.2 b hb; omega) (fun e => by
                have h := HK10.out
                have h2 := hownb b e
                rcases hb with rfl | rfl | hb
                · omega
                · omega
                · have := h.2.2 b hb; omega))⟩
              have HLR : Keep (T < wr.heap.size ∧ mb < wr.heap.size ∧ ∀ b, Bk9 b → b < wr.heap.size) := ⟨by
                have h := HK10.out
                exact ⟨by omega, by omega, fun b hb => by have := h.2.2 b hb; omega⟩⟩
              have HMP : Keep (Mbs wr (· < wr.heap.size) (· < wr.heap.size) (.slice ga l9.length gc) P) := ⟨⟨by
                have := ownsV_reads HOW.out
                rw [HPL.out]
                exact this.mono (fun b hb => hb.2.1), fun x hx => ((HND9.out x (HPM.out.mem_iff.1 hx)).chg HCH.out (fun b hb => ⟨by have := hb.2.1; omega, hb.2.2⟩)).mono (fun b hb => by have := hb.2.1; omega)⟩⟩
              have HSP : Keep (∀ x ∈ P, Sm x.1) := ⟨fun x hx => HTR.out.sm _ (by rw [← HL9.out]; exact List.mem_map_of_mem (HPM.out.mem_iff.1 hx))⟩
              have HNP : Keep (newT (P.map (·.1)) = (0, some L9)) := ⟨newT_perm HW9.out (by rw [← HL9.out]; exact HPM.out.map _) (by omega)⟩
              have hP41 : P.length ≤ 1000000 := by have := HPL.out; omega
              clear HOW HCH HPM HND9 hownb HGA
              go_wp2_with fail
              refine (new_tree _ P B wr (HT.out.on (HBR.out.mono HT.out.b)) HMP.out HSP.out hP41).mono ?_
              rintro e w5 ⟨⟨pv, rfl, hni⟩, hb5⟩
              rw [HNP.out] at hni ⊢
              obtain ⟨T3, m3, Bk3, f3, rfl, ht3, h3a, h3b, h3c⟩ := hni
              have HB5 := Keep.keep (HBR.out.trans (hb5.mono HBR.out.size))
              have HT5 := Keep.keep ht3
              have hT5lt := ht3.row.lt
              have hm5lt := ht3.map.lt
              have HL5 : Keep (T3 < w5.heap.size ∧ m3 < w5.heap.size ∧ ∀ b, Bk3 b → b < w5.heap.size) := ⟨⟨hT5lt, hm5lt, fun b hb => (h3c b hb).2⟩⟩
              have hs5 := hb5.size
              have HTA : Keep (TreeIn w5 T mb Bk9 f9 L9) := ⟨HTR.out.loc (fun b hb => hb5.block b (by
                rcases hb with rfl | rfl | hb
                · exact HLR.out.1
                · exact HLR.out.2.1
                · exact HLR.out.2.2 b hb))⟩
              have HLA : Keep (T < w5.heap.size ∧ mb < w5.heap.size ∧ ∀ b, Bk9 b → b < w5.heap.size) := ⟨by
                have h := HLR.out
                exact ⟨by omega, by omega, fun b hb => by have := h.2.2 b hb; omega⟩⟩
              clear hb5 ht3 h3a h3b h3c HMP HSP HNP
              dsimp only
              go_wp2_with fail
              refine (same_tree T mb Bk9 f9 L9 T3 m3 Bk3 f3 L9 w5 HTA.out HLA.out.2.2 HT5.out HL5.out.2.2 (by omega)).mono ?_
              rintro e w6 ⟨⟨rb, rfl, hrb⟩, hb6⟩
              obtain rfl : rb = true := hrb.2 rfl
              have HB6 := Keep.keep (HB5.out.trans (hb6.mono HB5.out.size))
              have hs6 := hb6.size
              have HTX : Keep (∀ wx, Below w5.heap.size w5 wx → TreeIn wx T mb Bk9 f9 L9 ∧ TreeIn wx T3 m3 Bk3 f3 L9) := ⟨fun wx hb => ⟨HTA.out.loc (fun b h => hb.block b (by
                rcases h with rfl | rfl | h
                · exact HLA.out.1
                · exact HLA.out.2.1
                · exact HLA.out.2.2 b h)), HT5.out.loc (fun b h => hb.block b (by
                rcases h with rfl | rfl | h
                · exact HL5.out.1
                · exact HL5.out.2.1
                · exact HL5.out.2.2 b h))⟩⟩
              have HBX6 := Keep.keep hb6
              clear hrb hb6
              go_wp2_with fail
              refine (all_tree T mb Bk9 f9 L9 w6 (by omega) (HTX.out w6 HBX6.out).1 ⟨by have := HLA.out.1; omega, by have := HLA.out.2.1; omega, fun b hb => by have := HLA.out.2.2 b hb; omega⟩).mono ?_
              rintro e w7 ⟨v7, q7, rfl, hq7, hm7, hb7⟩
              obtain ⟨a7, c7, rfl, -, -, -⟩ := hm7.rd.shape
              have HBX7 := Keep.keep (HBX6.out.trans (hb7.mono hs6))
              have HQ7 := Keep.keep hq7; have HM7 := Keep.keep hm7
              have hs7 := hb7.size
              clear hq7 hm7 hb7
              go_wp2_with fail
              refine (all_tree T3 m3 Bk3 f3 L9 w7 (by omega) (HTX.out w7 HBX7.out).2 ⟨by have := HL5.out.1; omega, by have := HL5.out.2.1; omega, fun b hb => by have := HL5.out.2.2 b hb; omega⟩).mono ?_
              rintro e w8 ⟨v8, q8, rfl, hq8, hm8, hb8⟩
              obtain ⟨a8, c8, rfl, -, -, -⟩ := hm8.rd.shape
              have HBX8 := Keep.keep (HBX7.out.trans (hb8.mono (by omega)))
              have HQ8 := Keep.keep hq8; have HM8 := Keep.keep (hm8.mono (fun b (hb : Fresh w7.heap.size w8 b) => hb.2) (fun b (hb : Fresh w7.heap.size w8 b) => hb.2))
              have hs8 := hb8.size
              have HM7' : Keep (Mbs w8 (· < w8.heap.size) (· < w8.heap.size) (.slice a7 q7.length c7) q7) := ⟨(HM7.out.below hb8 (fun b hb => hb.2) (fun b hb => hb.2)).mono (fun b hb => by have := hb.2; omega) (fun b hb => by have := hb.2; omega)⟩
              clear hq8 hm8 hb8 HM7
              go_wp2_with fail
              refine (alike_any _ _ q7 q8 w8 HM7'.out HM8.out).mono ?_
              rintro e w9 ⟨⟨rb, rfl, hrb⟩, hb9⟩
              obtain rfl : rb = true := hrb.2 (by rw [HQ7.out, HQ8.out])
              have HBX9 := Keep.keep (HBX8.out.trans (hb9.mono (by omega)))
              have HBW9 := Keep.keep (HB5.out.trans (HBX9.out.mono HB5.out.size))
              clear hrb hb9
              go_wp2_with fail
              refine (tells_any B w9 (HT.out.on (HBW9.out.mono HT.out.b))).mono ?_
              rintro e w12 ⟨rfl, hb12⟩
              have HBE := Keep.keep (HBW9.out.trans (hb12.mono HBW9.out.size))
              clear hb12
              go_wp2_with fail
              go_ret
              exact ⟨rfl, HBE.out⟩
            | succ g =>
              have hk1 : k < l9.length := by omega
              have hd : decide ((k : Int) < (l9.length : Int)) = true := decide_eq_true (by omega)
              have h0 : 0 < l9.length := by omega
              have hd0 : ((l9.length : Int) == 0) = false := beq_eq_false_iff_ne.2 (by omega)
              obtain ⟨gb, rfl, hgb1, hgb2⟩ : ∃ g, ga = some ⟨g, 0, none⟩ ∧ n9 ≤ g ∧ g < w10.heap.size := by
                rcases HGA.out with h | h
                · omega
                · exact h
              have HOC : Keep (∀ x ∈ P, (mcell x).all (·.oneCell') = true) := ⟨fun x hx => mcell_one (HND9.out x (HPM.out.mem_iff.1 hx))⟩
              have HOR : Keep (Reads wr (· < w.heap.size) (.slice oa ord.length oc) ord) := ⟨HO.out.loc (fun b hb => by
                have h1 := HCH.out.block b (by have := HB10.out.size; omega) (fun e => by
                  simp [Value.ownBlock] at e; omega)
                exact h1.trans (HB10.out.block b hb))⟩
              clear hpl
              go_upto_if 169 with fail
              go_cut [18] from 169 to 177 (fun u18 w5 => ∃ j : Nat, u18 = .int .i64 (j : Int) ∧ j < l9.length ∧ w5 = wr)
              case first =>
                by_cases hko : k < ord.length
                · have hdo : decide ((k : Int) < (ord.length : Int)) = true := decide_eq_true (by omega)
                  obtain ⟨ob, oo, rfl⟩ : ∃ b off, oa = some ⟨b, off, none⟩ := by
                    obtain ⟨b, off, c, h, -⟩ := HOR.out.has (by omega)
                    injection h with h
                    exact ⟨b, off, h⟩
                  have hcc : wr.cell? ⟨ob, oo + k, none⟩ = some (.int .u8 (ord[k].toNat : Int)) := HOR.out.cell _ _ _ _ rfl k hko
                  have hcb : ord[k].toNat < 256 := UInt8.toNat_lt _
                  generalize ord[k].toNat = cn at *
                  go_wp2_with fail
                  go_meet
                  case rel => exact ⟨cn % l9.length, by simp, Nat.mod_lt _ h0, rfl⟩
                · have hdo : decide ((k : Int) < (ord.length : Int)) = false := decide_eq_false (by omega)
                  go_wp2_with fail
                  go_meet
                  case rel => exact ⟨k, rfl, hk1, rfl⟩
              case rest =>
                obtain ⟨j, rfl, hj, hwc⟩ := hcut
                have hwc2 := hwc.symm
                clear hwc
                subst hwc2
                have hpl := HPL.out
                have hkP : k < P.length := by omega
                have hjP : j < P.length := by omega
                go_upto_region 39 with fail
                refine wp_region_fr [178, 179, 180, 181, 182, 183, 184, 185, 186, 187, 188, 189, 190, 191] (swI (.slice (some ⟨gb, 0, none⟩) l9.length gc) (.pointer (some ⟨gb, k * 9, none⟩)) (.pointer (some ⟨gb, j * 9, none⟩)) k j (mcell P[k]) (mcell P[j]) wr.drew (wr.drew.setCells gb (k * 9) (mcell P[j]).toList) ((wr.drew.setCells gb (k * 9) (mcell P[j]).toList).setCells gb (j * 9) (mcell P[k]).toList)) (by kernel_rfl) ⟨fun i _ hd => (by rw [getD_replicate_false] at hd; cases hd), by rw [getD_replicate_false, getD_replicate_false]; rfl⟩ ?_ ?_
                · intro done a1 w1 hF hI hz hcl i hi
                  have b13 : a1.eval (.tmp 13) = .slice (some ⟨gb, 0, none⟩) l9.length gc := (hF.same 13 (by decide)).trans rfl
                  have b17 : a1.eval (.tmp 17) = .int .i64 (k : Int) := (hF.same 17 (by decide)).trans rfl
                  have b18 : a1.eval (.tmp 18) = .int .i64 (j : Int) := (hF.same 18 (by decide)).trans rfl
                  have hds : ∀ d ∈ ([178, 179, 180, 181, 182, 183, 184, 185, 186, 187, 188, 189, 190, 191] : List Nat), d < 215 := by decide
                  have hi16 : i < 16 := ready_lt hi
                  rcases (by omega : i = 0 ∨ i = 1 ∨ i = 2 ∨ i = 3 ∨ i = 4 ∨ i = 5 ∨ i = 6 ∨ i = 7 ∨ i = 8 ∨ i = 9 ∨ i = 10 ∨ i = 11 ∨ i = 12 ∨ i = 13 ∨ i = 14 ∨ i = 15) with rfl | rfl | rfl | rfl | rfl | rfl | rfl | rfl | rfl | rfl | rfl | rfl | rfl | rfl | rfl | rfl
                  · exact fr_op (d := 178) hF (by decide) rfl run_move (fun s hs ho => hI.put 0 (.inl (by decide)) hs ho b13) hds
                  · exact fr_op (d := 179) hF (by decide) rfl run_move (fun s hs ho => hI.put 1 (.inl (by decide)) hs ho b17) hds
                  · exact fr_op (d := 180) hF (by decide) rfl run_move (fun s hs ho => hI.put 2 (.inl (by decide)) hs ho b13) hds
                  · exact fr_op (d := 181) hF (by decide) rfl run_move (fun s hs ho => hI.put 3 (.inl (by decide)) hs ho b18) hds
                  · exact fr_op (d := 182) hF (by decide) rfl run_move (fun s hs ho => hI.put 4 (.inl (by decide)) hs ho b13) hds
                  · exact fr_op (d := 183) hF (by decide) rfl run_move (fun s hs ho => hI.put 5 (.inl (by decide)) hs ho b18) hds
                  · have hx : a1.eval (.tmp 182) = .slice (some ⟨gb, 0, none⟩) l9.length gc := hI.at 4 (by decide) (ready_wait hi (by kernel_rfl))
                    have hy : a1.eval (.tmp 183) = .int .i64 (j : Int) := hI.at 5 (by decide) (ready_wait hi (by kernel_rfl))
                    exact fr_op (d := 184) hF (by decide) rfl (run_index hx hy hj) (fun s hs ho => hI.put 6 (.inl (by decide)) hs ho rfl) hds
                  · have hx : a1.eval (.tmp 184) = .pointer (some ⟨gb, j * 9, none⟩) := hI.at 6 (by decide) (ready_wait hi (by kernel_rfl))
                    have hun := ready_un hi
                    have hw1 : w1 = wr.drew := by
                      rw [hI.2, closed_un hcl (by decide) hun (show Region.waitsFor .any _ 15 7 = true by kernel_rfl), closed_un hcl (by decide) hun (show Region.waitsFor .any _ 13 7 = true by kernel_rfl)]; rfl
                    subst hw1
                    exact fr_op (d := 185) hF (by decide) rfl (own_load HOW.out.drew hpl.symm hjP hx) (fun s hs ho => hI.put 7 (.inl (by decide)) hs ho rfl) hds
                  · exact fr_op (d := 186) hF (by decide) rfl run_move (fun s hs ho => hI.put 8 (.inl (by decide)) hs ho b13) hds
                  · exact fr_op (d := 187) hF (by decide) rfl run_move (fun s hs ho => hI.put 9 (.inl (by decide)) hs ho b17) hds
                  · have hx : a1.eval (.tmp 186) = .slice (some ⟨gb, 0, none⟩) l9.length gc := hI.at 8 (by decide) (ready_wait hi (by kernel_rfl))
                    have hy : a1.eval (.tmp 187) = .int .i64 (k : Int) := hI.at 9 (by decide) (ready_wait hi (by kernel_rfl))
                    exact fr_op (d := 188) hF (by decide) rfl (run_index hx hy hk1) (fun s hs ho => hI.put 10 (.inl (by decide)) hs ho rfl) hds
                  · have hx : a1.eval (.tmp 188) = .pointer (some ⟨gb, k * 9, none⟩) := hI.at 10 (by decide) (ready_wait hi (by kernel_rfl))
                    have hun := ready_un hi
                    have hw1 : w1 = wr.drew := by
                      rw [hI.2, closed_un hcl (by decide) hun (show Region.waitsFor .any _ 15 11 = true by kernel_rfl), closed_un hcl (by decide) hun (show Region.waitsFor .any _ 13 11 = true by kernel_rfl)]; rfl
                    subst hw1
                    exact fr_op (d := 189) hF (by decide) rfl (own_load HOW.out.drew hpl.symm hkP hx) (fun s hs ho => hI.put 11 (.inl (by decide)) hs ho rfl) hds
                  · have hx : a1.eval (.tmp 178) = .slice (some ⟨gb, 0, none⟩) l9.length gc := hI.at 0 (by decide) (ready_wait hi (by kernel_rfl))
                    have hy : a1.eval (.tmp 179) = .int .i64 (k : Int) := hI.at 1 (by decide) (ready_wait hi (by kernel_rfl))
                    exact fr_op (d := 190) hF (by decide) rfl (run_index hx hy hk1) (fun s hs ho => hI.put 12 (.inl (by decide)) hs ho rfl) hds
                  · have hx : a1.eval (.tmp 190) = .pointer (some ⟨gb, k * 9, none⟩) := hI.at 12 (by decide) (ready_wait hi (by kernel_rfl))
                    have hy : a1.eval (.tmp 185) = .agg (mcell P[j]) := hI.at 7 (by decide) (ready_wait hi (by kernel_rfl))
                    have hun := ready_un hi
                    have h15 := closed_un hcl (by decide) hun (show Region.waitsFor .any _ 15 13 = true by kernel_rfl)
                    have hw1 : w1 = wr.drew := by rw [hI.2, h15, hun]; rfl
                    subst hw1
                    exact fr_skip hF rfl (run_swap hx hy (owns_there HOW.out.drew hpl.symm hkP) (HOC.out _ (List.getElem_mem hjP))) (hI.store 13 (.inl ⟨rfl, rfl, h15⟩) hz)
                  · have hx : a1.eval (.tmp 180) = .slice (some ⟨gb, 0, none⟩) l9.length gc := hI.at 2 (by decide) (ready_wait hi (by kernel_rfl))
                    have hy : a1.eval (.tmp 181) = .int .i64 (j : Int) := hI.at 3 (by decide) (ready_wait hi (by kernel_rfl))
                    exact fr_op (d := 191) hF (by decide) rfl (run_index hx hy hj) (fun s hs ho => hI.put 14 (.inr rfl) hs ho rfl) hds
                  · have hx : a1.eval (.tmp 191) = .pointer (some ⟨gb, j * 9, none⟩) := hI.at 14 (by decide) (ready_wait hi (by kernel_rfl))
                    have hy : a1.eval (.tmp 189) = .agg (mcell P[k]) := hI.at 11 (by decide) (ready_wait hi (by kernel_rfl))
                    have h13 := ready_wait hi (show Region.waitsFor .any _ 15 13 = true by kernel_rfl)
                    have hw1 : w1 = wr.drew.setCells gb (k * 9) (mcell P[j]).toList := by rw [hI.2, ready_un hi, h13]; rfl
                    subst hw1
                    exact fr_skip hF rfl (run_swap hx hy (owns_there (owns_setMb HOW.out.drew P[j] hkP).1 (by rw [List.length_set]; exact hpl.symm) (by rw [List.length_set]; exact hjP)) (HOC.out _ (List.getElem_mem hkP))) (hI.store 15 (.inr ⟨rfl, rfl⟩) hz)
                · intro done a1 w1 ha hI hz hr
                  have hw1 : w1 = (wr.drew.setCells gb (k * 9) (mcell P[j]).toList).setCells gb (j * 9) (mcell P[k]).toList := by
                    rw [hI.2, all_done (by kernel_rfl) hz hr 15 (by decide)]; rfl
                  have o1 := owns_setMb HOW.out.drew P[j] hkP
                  have o2 := owns_setMb o1.1 P[k] (by rw [List.length_set]; exact hjP)
                  rw [← hw1] at o2
                  have HOW2 := Keep.keep o2.1
                  have HCH2 : Keep (Chg (fun j => (Value.slice (some ⟨gb, 0, none⟩) l9.length gc).ownBlock = some j) bm w10 w1) := ⟨(HCH.out.drew.grown o1.2 (by have := HCH.out.size; show bm ≤ wr.heap.size; omega) (fun k hk => by injection hk with hk; subst hk; exact .inr rfl)).grown o2.2 (by have := HCH.out.size; have h2 : wr.heap.size ≤ _ := o1.2.size; omega) (fun k hk => by injection hk with hk; subst hk; exact .inr rfl)⟩
                  have HPM2 : Keep (((P.set k P[j]).set j P[k]).Perm l9) := ⟨(List.set_set_perm hkP hjP).trans HPM.out⟩
                  generalize (P.set k P[j]).set j P[k] = P2 at *
                  simp only [List.foldl_cons, List.foldl_nil] at ha
                  clear hI hr hw1 o1 o2
                  generalize slot a1 178 = y178 at *
                  generalize slot a1 179 = y179 at *
                  generalize slot a1 180 = y180 at *
                  generalize slot a1 181 = y181 at *
                  generalize slot a1 182 = y182 at *
                  generalize slot a1 183 = y183 at *
                  generalize slot a1 184 = y184 at *
                  generalize slot a1 185 = y185 at *
                  generalize slot a1 186 = y186 at *
                  generalize slot a1 187 = y187 at *
                  generalize slot a1 188 = y188 at *
                  generalize slot a1 189 = y189 at *
                  generalize slot a1 190 = y190 at *
                  generalize slot a1 191 = y191 at *
                  subst ha
                  simp only [Act.put, List.setIfInBounds_toArray, List.set_cons_succ, List.set_cons_zero]
                  clear hpl hkP hjP hj HOR HOC
                  go_wp2_with fail
                  go_roundg g
                  case measure => omega
                  case rel => exact ⟨k + 1, P2, by omega, by simp, HPM2.out, HOW2.out, HCH2.out⟩
        | succ g =>
          have hk1 : k < l9.length := by omega
          have hk2 : k < L9.length := by have := HLN.out; omega
          have hd : decide ((k : Int) < (l9.length : Int)) = true := decide_eq_true (by omega)
          obtain ⟨gb, rfl, hgb1, hgb2⟩ : ∃ g, ga = some ⟨g, 0, none⟩ ∧ wc.heap.size ≤ g ∧ g < w10.heap.size := by
            rcases HGA.out with h | h
            · omega
            · exact h
          have hmx : Mbs wr (Fresh wc.heap.size w10) (Fresh wc.heap.size w10) (.slice (some ⟨gb, 0, none⟩) l9.length gc) l9 := HOWN.out.mbs.below (hbm ▸ HBK.out) (fun b hb => hb.2) (fun b hb => hb.2)
          have hld := hmx.load hk1
          have hndx := hmx.nd _ (List.getElem_mem hk1)
          have hxL : l9[k].1 = L9[k] := by simp only [← HL9.out, List.getElem_map]
          have HDP := Keep.keep (dirsM_parent HW9.out hk2)
          have HDS := Keep.keep (dirsM_step HW9.out hk2)
          have HDK := Keep.keep (dirsM_skip hk2)
          have HMY := Keep.keep (HW9.out.m _ (List.getElem_mem hk2))
          rw [← hxL] at HDP HDS HDK HMY
          generalize l9[k] = x at *
          obtain ⟨⟨xp, ⟨kind, mode, uid, gid, time, attrs, data, link⟩⟩, av, dv⟩ := x
          obtain ⟨aa, la, ca, ad, ld, cd, e1, e2⟩ := hndx.shape
          dsimp only at hndx e1 e2 HDP HDS HDK HMY
          subst e1 e2
          unfold mcell mbC strV at hld
          dsimp only at hld
          rw [Nat.zero_add] at hld
          have HSMX : Keep (Sm (xp, ⟨kind, mode, uid, gid, time, attrs, data, link⟩)) := ⟨by
            have := HT10.out.sm _ (List.getElem_mem hk2)
            rw [← hxL] at this
            exact this⟩
          have HNDX := Keep.keep hndx
          have hxp : xp.length ≤ 1000000 := by have := HSMX.out.p; dsimp only at this; omega
          have HPR : Keep (∀ i, i + 1 = k → ∃ b : Tx, wr.cell? ⟨gb, i * 9, none⟩ = some (.string ⟨b.toArray⟩) ∧ Op.bytesLess b xp = true) := ⟨fun i hi => by
            subst hi
            refine ⟨(L9[i]'(by omega)).1, ?_, ?_⟩
            · have := hmx.cell (k := i) (by omega) 0 (by omega) rfl
              rw [Nat.zero_add, Nat.add_zero] at this
              rw [this]
              have h2 : (l9[i]'(by omega)).1 = L9[i]'(by omega) := by simp only [← HL9.out, List.getElem_map]
              rw [← h2]
              rfl
            · have := rise_at HW9.out.s (i := i) hk2
              rw [← hxL] at this
              exact this⟩
          obtain ⟨bx, hbx⟩ : ∃ b, wr.heap.size = b := ⟨_, rfl⟩
          clear hndx hxL hmx
          by_cases h0 : 0 < k
          focus
            obtain ⟨i, hi⟩ : ∃ i, i + 1 = k := ⟨k - 1, by omega⟩
            obtain ⟨pb, hpc, hpl⟩ := HPR.out i hi
            have hpc' : wr.cell? ⟨gb, (k - 1) * 9, none⟩ = some (.string ⟨pb.toArray⟩) := by rw [← hi]; exact hpc
            clear hi hpc
            go_upto_region 28 with ((with_reducible refine arm_loadM hld ?_ ?_); (focus rfl); simp only [Act.put, List.setIfInBounds_toArray, List.set_cons_succ, List.set_cons_zero])
            focus
                refine wp_world (R := fun w13 => Below bm w10 w13 ∧ MapS w13 9 bm (dirsM L9 k) ∧ Row w13 bx 32 #[.string ⟨xp.toArray⟩, .int .i64 kind, .int .u32 mode, .int .u32 uid, .int .u32 gid, .int .i64 time, .slice aa la ca, .slice ad ld cd, .string ⟨link.toArray⟩] ∧ Below bx wr w13) (by rw [← hbx]; exact ⟨HBK.out.alloc (by have := HBK.out.size; omega) _, HMK.out.loc (Below.heap_alloc _ _ _ HMK.out.lt), Row.new _ _ _, (Below.refl _ wr).alloc (Nat.le_refl _) _⟩) ?_
                intro w13 H13
                have hs13 := H13.out.2.2.2.size
                have HMAY : Keep (∀ w1, Below w13.heap.size w13 w1 → Calls Tryz.prog 17 #[.agg #[.string ⟨xp.toArray⟩, .int .i64 kind, .int .u32 mode, .int .u32 uid, .int .u32 gid, .int .i64 time, .slice aa la ca, .slice ad ld cd, .string ⟨link.toArray⟩]] w1 fun e w' => e = .returned (.bool true) ∧ Below w1.heap.size w1 w') := ⟨fun w1 hb => by
                  have hbb : Below bm w10 w1 := H13.out.1.trans (hb.mono (by have := H13.out.1.size; omega))
                  have ht := HT.out.on ((HB10.out.trans (hbb.mono (by have := HB10.out.size; omega))).mono HT.out.b)
                  have hbz := hb.size
                  have := tmay_any _ (.slice aa la ca) (.slice ad ld cd) HSMX.out B w1 ht.b ht.m ht.c ht.t (((HNDX.out.below H13.out.2.2.2 (fun b hb => by have := hb.2; have := HBK.out.size; omega)).below hb (fun b hb => by have := hb.2; have := HBK.out.size; omega)).mono (fun b hb => by have := hb.2; have := HBK.out.size; omega))
                  rw [HMY.out] at this
                  exact this⟩
                have HPAR : Keep (∀ w1, Below w13.heap.size w13 w1 → Calls Tryz.prog 18 #[.string ⟨xp.toArray⟩] w1 fun e w' => e = .returned (.string ⟨(parentP xp).toArray⟩) ∧ Below w1.heap.size w1 w') := ⟨fun w1 _ => (lparent_any xp hxp w1).mono (fun e w' h => ⟨h.1, h.2 ▸ Below.refl _ _⟩)⟩
                have HLK : Keep (∀ w1, Below w13.heap.size w13 w1 → (Instr.lookup 47 (.map (some bm)) (.string ⟨(parentP xp).toArray⟩) false).run Tryz.prog w1 = .ok (.int .i64 1) w1) := ⟨fun w1 hb => by
                  have hm := H13.out.2.1.loc (hb.block bm H13.out.2.1.lt)
                  have := hm.look1 Tryz.underlying9 Tryz.underlying47 (z := .int .i64 0) (w := w1) (by kernel_rfl) (p := parentP xp) (by have := parent_len xp; unfold maxLen; omega)
                  rw [HDP.out] at this
                  exact this⟩
                have HXC : Keep (∀ w1, Below w13.heap.size w13 w1 → w1.cell? ⟨bx, 0, none⟩ = some (.string ⟨xp.toArray⟩)) := ⟨fun w1 hb => (H13.out.2.2.1.below hb H13.out.2.2.1.lt).cell (i := 0) rfl⟩
                have HAG : Keep (∀ w1, Below w13.heap.size w13 w1 → ∀ (j : Nat) (v : Value), ([.string ⟨xp.toArray⟩, .int .i64 kind, .int .u32 mode, .int .u32 uid, .int .u32 gid, .int .i64 time, .slice aa la ca, .slice ad ld cd, .string ⟨link.toArray⟩] : List Value)[j]? = some v → w1.cell? ⟨bx, 0 + j, none⟩ = some v) := ⟨fun w1 hb j v hj => by rw [Nat.zero_add]; exact (H13.out.2.2.1.below hb H13.out.2.2.1.lt).cell (by simpa using hj)⟩
                have HAZ : Keep ((Tryz.prog.info? 32).map (·.size) = some ([.string ⟨xp.toArray⟩, .int .i64 kind, .int .u32 mode, .int .u32 uid, .int .u32 gid, .int .i64 time, .slice aa la ca, .slice ad ld cd, .string ⟨link.toArray⟩] : List Value).length) := ⟨aggM.i⟩
                have HIS : Keep (∀ w, (isAgg 9).run Tryz.prog w = .ok false w) := ⟨run_isAgg_plain Tryz.underlying9 rfl⟩
                have HPC : Keep (∀ w1, Below w13.heap.size w13 w1 → w1.cell? ⟨gb, (k - 1) * 9, none⟩ = some (.string ⟨pb.toArray⟩)) := ⟨fun w1 hb => by
                  have hgw : gb < wr.heap.size := by have := HBK.out.size; omega
                  rw [(hb.cell (p := ⟨gb, (k - 1) * 9, none⟩) (by show gb < _; omega)), (H13.out.2.2.2.cell (p := ⟨gb, (k - 1) * 9, none⟩) (by show gb < bx; omega))]
                  exact hpc'⟩
                clear hld hpc'
                refine wp_region_cls (fun w' => Below w13.heap.size w13 w') (by kernel_rfl) (by kernel_rfl) (Below.refl _ _).drew ?_
                repeat (first
                  | ((with_reducible refine cls_call (f := 17) ?_ (Go.Proofs.enters_of Tryz.func17 (by kernel_rfl) rfl) ?_ (fun w1 hw1 => (HMAY.out w1 hw1).mono (fun e w2 he => ⟨he.1, hw1.trans (he.2.mono hw1.size)⟩)) ?_); (focus rfl); (focus (first | exact Array.map_empty | (simp only [List.map_toArray, List.map_cons, List.map_nil]; rfl))); simp only [Act.put, List.setIfInBounds_toArray, List.set_cons_succ, List.set_cons_zero])
                  | ((with_reducible refine cls_call (f := 18) ?_ (Go.Proofs.enters_of Tryz.func18 (by kernel_rfl) rfl) ?_ (fun w1 hw1 => (HPAR.out w1 hw1).mono (fun e w2 he => ⟨he.1, hw1.trans (he.2.mono hw1.size)⟩)) ?_); (focus rfl); (focus (first | exact Array.map_empty | (simp only [List.map_toArray, List.map_cons, List.map_nil]; rfl))); simp only [Act.put, List.setIfInBounds_toArray, List.set_cons_succ, List.set_cons_zero])
                  | ((with_reducible refine cls_agg ?_ HAG.out Tryz.underlying32 rfl HAZ.out ?_ ?_); (focus rfl); (focus rfl); simp only [Act.put, List.setIfInBounds_toArray, List.set_cons_succ, List.set_cons_zero])
                  | ((with_reducible refine cls_cell ?_ HXC.out HIS.out ?_ ?_); (focus rfl); (focus rfl); simp only [Act.put, List.setIfInBounds_toArray, List.set_cons_succ, List.set_cons_zero])
                  | ((with_reducible refine cls_cell ?_ HPC.out HIS.out ?_ ?_); (focus rfl); (focus rfl); simp only [Act.put, List.setIfInBounds_toArray, List.set_cons_succ, List.set_cons_zero])
                  | ((with_reducible refine cls_look ?_ HLK.out ?_ ?_ ?_); (focus rfl); (focus rfl); (focus rfl); simp only [Act.put, List.setIfInBounds_toArray, List.set_cons_succ, List.set_cons_zero])
                  | (first | go_big_quiet_step (fail) | (go_big_quiet_want; go_big_quiet_op; (refine ⟨_, fun _ _ => rfl, ?_⟩); go_big_quiet_on)))
                (refine wpQuiet_nil ?_); intro w14 hw14
                have HB14 := Keep.keep hw14
                clear hw14

          rotate_left
          focus
            obtain rfl : k = 0 := by omega
            go_upto_region 28 with ((with_reducible refine arm_loadM hld ?_ ?_); (focus rfl); simp only [Act.put, List.setIfInBounds_toArray, List.set_cons_succ, List.set_cons_zero])
            focus
                refine wp_world (R := fun w13 => Below bm w10 w13 ∧ MapS w13 9 bm (dirsM L9 0) ∧ Row w13 bx 32 #[.string ⟨xp.toArray⟩, .int .i64 kind, .int .u32 mode, .int .u32 uid, .int .u32 gid, .int .i64 time, .slice aa la ca, .slice ad ld cd, .string ⟨link.toArray⟩] ∧ Below bx wr w13) (by rw [← hbx]; exact ⟨HBK.out.alloc (by have := HBK.out.size; omega) _, HMK.out.loc (Below.heap_alloc _ _ _ HMK.out.lt), Row.new _ _ _, (Below.refl _ wr).alloc (Nat.le_refl _) _⟩) ?_
                intro w13 H13
                have hs13 := H13.out.2.2.2.size
                have HMAY : Keep (∀ w1, Below w13.heap.size w13 w1 → Calls Tryz.prog 17 #[.agg #[.string ⟨xp.toArray⟩, .int .i64 kind, .int .u32 mode, .int .u32 uid, .int .u32 gid, .int .i64 time, .slice aa la ca, .slice ad ld cd, .string ⟨link.toArray⟩]] w1 fun e w' => e = .returned (.bool true) ∧ Below w1.heap.size w1 w') := ⟨fun w1 hb => by
                  have hbb : Below bm w10 w1 := H13.out.1.trans (hb.mono (by have := H13.out.1.size; omega))
                  have ht := HT.out.on ((HB10.out.trans (hbb.mono (by have := HB10.out.size; omega))).mono HT.out.b)
                  have hbz := hb.size
                  have := tmay_any _ (.slice aa la ca) (.slice ad ld cd) HSMX.out B w1 ht.b ht.m ht.c ht.t (((HNDX.out.below H13.out.2.2.2 (fun b hb => by have := hb.2; have := HBK.out.size; omega)).below hb (fun b hb => by have := hb.2; have := HBK.out.size; omega)).mono (fun b hb => by have := hb.2; have := HBK.out.size; omega))
                  rw [HMY.out] at this
                  exact this⟩
                have HPAR : Keep (∀ w1, Below w13.heap.size w13 w1 → Calls Tryz.prog 18 #[.string ⟨xp.toArray⟩] w1 fun e w' => e = .returned (.string ⟨(parentP xp).toArray⟩) ∧ Below w1.heap.size w1 w') := ⟨fun w1 _ => (lparent_any xp hxp w1).mono (fun e w' h => ⟨h.1, h.2 ▸ Below.refl _ _⟩)⟩
                have HLK : Keep (∀ w1, Below w13.heap.size w13 w1 → (Instr.lookup 47 (.map (some bm)) (.string ⟨(parentP xp).toArray⟩) false).run Tryz.prog w1 = .ok (.int .i64 1) w1) := ⟨fun w1 hb => by
                  have hm := H13.out.2.1.loc (hb.block bm H13.out.2.1.lt)
                  have := hm.look1 Tryz.underlying9 Tryz.underlying47 (z := .int .i64 0) (w := w1) (by kernel_rfl) (p := parentP xp) (by have := parent_len xp; unfold maxLen; omega)
                  rw [HDP.out] at this
                  exact this⟩
                have HXC : Keep (∀ w1, Below w13.heap.size w13 w1 → w1.cell? ⟨bx, 0, none⟩ = some (.string ⟨xp.toArray⟩)) := ⟨fun w1 hb => (H13.out.2.2.1.below hb H13.out.2.2.1.lt).cell (i := 0) rfl⟩
                have HAG : Keep (∀ w1, Below w13.heap.size w13 w1 → ∀ (j : Nat) (v : Value), ([.string ⟨xp.toArray⟩, .int .i64 kind, .int .u32 mode, .int .u32 uid, .int .u32 gid, .int .i64 time, .slice aa la ca, .slice ad ld cd, .string ⟨link.toArray⟩] : List Value)[j]? = some v → w1.cell? ⟨bx, 0 + j, none⟩ = some v) := ⟨fun w1 hb j v hj => by rw [Nat.zero_add]; exact (H13.out.2.2.1.below hb H13.out.2.2.1.lt).cell (by simpa using hj)⟩
                have HAZ : Keep ((Tryz.prog.info? 32).map (·.size) = some ([.string ⟨xp.toArray⟩, .int .i64 kind, .int .u32 mode, .int .u32 uid, .int .u32 gid, .int .i64 time, .slice aa la ca, .slice ad ld cd, .string ⟨link.toArray⟩] : List Value).length) := ⟨aggM.i⟩
                have HIS : Keep (∀ w, (isAgg 9).run Tryz.prog w = .ok false w) := ⟨run_isAgg_plain Tryz.underlying9 rfl⟩

                clear hld
                refine wp_region_cls (fun w' => Below w13.heap.size w13 w') (by kernel_rfl) (by kernel_rfl) (Below.refl _ _).drew ?_
                repeat (first
                  | ((with_reducible refine cls_call (f := 17) ?_ (Go.Proofs.enters_of Tryz.func17 (by kernel_rfl) rfl) ?_ (fun w1 hw1 => (HMAY.out w1 hw1).mono (fun e w2 he => ⟨he.1, hw1.trans (he.2.mono hw1.size)⟩)) ?_); (focus rfl); (focus (first | exact Array.map_empty | (simp only [List.map_toArray, List.map_cons, List.map_nil]; rfl))); simp only [Act.put, List.setIfInBounds_toArray, List.set_cons_succ, List.set_cons_zero])
                  | ((with_reducible refine cls_call (f := 18) ?_ (Go.Proofs.enters_of Tryz.func18 (by kernel_rfl) rfl) ?_ (fun w1 hw1 => (HPAR.out w1 hw1).mono (fun e w2 he => ⟨he.1, hw1.trans (he.2.mono hw1.size)⟩)) ?_); (focus rfl); (focus (first | exact Array.map_empty | (simp only [List.map_toArray, List.map_cons, List.map_nil]; rfl))); simp only [Act.put, List.setIfInBounds_toArray, List.set_cons_succ, List.set_cons_zero])
                  | ((with_reducible refine cls_agg ?_ HAG.out Tryz.underlying32 rfl HAZ.out ?_ ?_); (focus rfl); (focus rfl); simp only [Act.put, List.setIfInBounds_toArray, List.set_cons_succ, List.set_cons_zero])
                  | ((with_reducible refine cls_cell ?_ HXC.out HIS.out ?_ ?_); (focus rfl); (focus rfl); simp only [Act.put, List.setIfInBounds_toArray, List.set_cons_succ, List.set_cons_zero])
                  | ((with_reducible refine cls_look ?_ HLK.out ?_ ?_ ?_); (focus rfl); (focus rfl); (focus rfl); simp only [Act.put, List.setIfInBounds_toArray, List.set_cons_succ, List.set_cons_zero])
                  | (first | go_big_quiet_step (fail) | (go_big_quiet_want; go_big_quiet_op; (refine ⟨_, fun _ _ => rfl, ?_⟩); go_big_quiet_on)))
                (refine wpQuiet_nil ?_); intro w14 hw14
                have HB14 := Keep.keep hw14
                clear hw14

          all_goals
            have hm14 := H13.out.2.1.loc (HB14.out.block bm H13.out.2.1.lt)
            have HM14 := Keep.keep hm14
            have HR14 := H13.out.2.2.1.below HB14.out H13.out.2.2.1.lt
            have HBW := Keep.keep (H13.out.1.trans (HB14.out.mono (by have := HBK.out.size; omega)))
            have hb14s := HB14.out.size
            have hbm14 := HM14.out.lt
            have hdl := fun i => dirsM_len L9 i
            have cK := HR14.cell (i := 1) rfl
            have cX := HR14.cell (i := 0) rfl
            clear hm14 HR14 H13 HMAY HPAR HLK HXC HAG HAZ HPR
            by_cases hkd : kind = 1
            focus
              have he : (kind == 1) = true := by simp [hkd]
              have HST := Keep.keep (HDS.out hkd)
              clear hkd HDS HDK
              go_wp2_with (first | (with_reducible refine arm_sRange ?_) | (with_reducible refine arm_sNext ?_) | (with_reducible refine arm_sDel ?_) | (with_reducible refine arm_sPut ?_) | (with_reducible refine arm_sIns ?_))
              refine StM.out ?_
              refine arm_putS (u := .int .i64 1) Tryz.underlying9 Tryz.underlying47 HM14.out (p := xp) (by unfold maxLen; omega) (by have := hdl 0; first | (have := hdl k; unfold maxLen; omega) | (unfold maxLen; omega)) rfl rfl rfl ?_
              intro w15 hm15 hc15
              rw [HST.out] at hm15
              have HM15 := Keep.keep hm15
              have HB15 : Keep (Below bm w10 w15) := ⟨HBW.out.trans ((hc15.lower (by omega)).below (fun j hj e => by omega))⟩
              clear hm15 hc15 HM14 HBW HST cK cX
              simp only [Act.put]
              go_wp2_with fail
              go_roundg g
              case measure => omega
              case rel => exact ⟨_, by omega, by simp, HM15.out, HB15.out⟩
            focus
              have he : (kind == 1) = false := by simp [hkd]
              have HST := Keep.keep (HDK.out hkd)
              rw [← HST.out] at HM14
              clear hkd HDS HDK
              go_wp2_with fail
              go_roundg g
              case measure => omega
              case rel => exact ⟨_, by omega, by simp, HM14.out, HBW.out⟩
end Go.Proofs.YtphgmkhbhboklaaGreatDoor
/- ARGUMENTS WITH SLICES WITHIN SLICES, OPENED: what lies deeper has no word of its own on its blocks; its cells tell them. -/
namespace Go.Proofs.YtphgmkhbhboklaaGreatDoor
open Go.ChangeShapes Go.WideShapes Go.ChangeAt Go.RowKit
theorem cell_spot {w : World} {a : Addr} {v : Value} (h : w.cell? a = some v) : a.spot = none ∧ a.block < w.heap.size := by
  unfold World.cell? at h
  split at h
  · rename_i c e fr hb
    split at h
    · cases h
    · rename_i hs
      exact ⟨by simpa using hs, (Array.getElem?_eq_some_iff.1 hb).1⟩
  · cases h
/-- a []byte that lies anywhere within an argument -/
theorem reads_of_trod {P : Program} {H : Type} {enc : TypeId × Value → H} {t e : TypeId} {held : Bool} {fuel : Nat} (ht : P.underlying t = some (.slice e)) (he : P.underlying e = some (.int .u8)) (hc : P.cellsOf e = 1) {W : World} {v : Value} {x : DataW H × List MemPlace}
    (hf : DataW.trod enc P W 0 (fun _ => true) held fuel t [v] = some x) : ∃ l, Reads W (fun b => b < W.heap.size) v l := by
  rcases open_ints ht he hc hf with ⟨hcs, hx⟩ | ⟨⟨b, off, sp⟩, len, cap, zs, hcs, _, hl, hm, hz, hx, hcell, hwz⟩
  · injection hcs with hcs _
    subst hcs
    exact ⟨[], Reads.ofNil⟩
  · injection hcs with hcs _
    subst hcs
    simp only [if_true] at hz
    have hsp : cap = 0 ∨ (sp = none ∧ b < W.heap.size) := by
      rcases Nat.eq_zero_or_pos cap with h | h
      · exact .inl h
      · have := cell_spot (hcell 0 (by omega))
        exact .inr this
    refine ⟨(zs.take len).map fun x => UInt8.ofNat x.toNat, ⟨some ⟨b, off, sp⟩, cap, ?_, ?_, hm, ?_⟩, fun b' off' n' c' he' j hj => ?_⟩
    · congr 1; simp; omega
    · simp; omega
    · rcases hsp with h | ⟨rfl, h⟩
      · exact .inl h
      · exact .inr ⟨b, off, rfl, h⟩
    · injection he' with e1 _ _; injection e1 with e1; injection e1 with e1 e2 e3; subst e1 e2 e3
      have hj' : j < len := by simp at hj; omega
      have hjz : j < zs.length := by omega
      have hc := hcell j hjz
      rw [Addr.add_mid] at hc
      rw [hc]
      have hw := hwz _ (List.getElem_mem hjz)
      have hm1 : IntKind.u8.min = 0 := rfl
      have hm2 : IntKind.u8.max = 255 := rfl
      simp only [Lit.wf, Bool.and_eq_true, decide_eq_true_eq, hm1, hm2] at hw
      simp only [List.getElem_map, List.getElem_take, List.getD_eq_getElem?_getD, List.getElem?_eq_getElem hjz, Option.getD_some, UInt8.toNat_ofNat']
      congr 2
      omega
end Go.Proofs.YtphgmkhbhboklaaGreatDoor
/- ARGUMENTS THAT ARE WHOLE NUMBERS, OPENED. -/
namespace Go.Proofs.YtphgmkhbhboklaaGreatDoor
open Go.ChangeShapes Go.WideShapes Go.ChangeAt Go.RowKit
/-- an argument that is an int64 (or an int) -/
theorem okI64 {P : Program} {w : World} {r : Reach} {base : Nat} {t : TypeId} {v : Value} (ht : P.underlying t = some (.int .i64)) (h : Value.okWide P w r base t v) : ∃ n : Int, v = .int .i64 n ∧ -9223372036854775808 ≤ n ∧ n ≤ 9223372036854775807 := by
  simp only [Value.okWide, ht, Cell.okWide] at h
  have hm1 : IntKind.i64.min = -9223372036854775808 := rfl
  have hm2 : IntKind.i64.max = 9223372036854775807 := rfl
  cases v <;> simp only [Cell.ok, ht] at h
  rename_i k x
  obtain ⟨rfl, h1, h2⟩ := h
  rw [hm1] at h1; rw [hm2] at h2
  exact ⟨x, rfl, h1, h2⟩
theorem okU16 {P : Program} {w : World} {r : Reach} {base : Nat} {t : TypeId} {v : Value} (ht : P.underlying t = some (.int .u16)) (h : Value.okWide P w r base t v) : ∃ n : Nat, v = .int .u16 (n : Int) ∧ n < 65536 := by
  simp only [Value.okWide, ht, Cell.okWide] at h
  have hm1 : IntKind.u16.min = 0 := rfl
  have hm2 : IntKind.u16.max = 65535 := rfl
  cases v <;> simp only [Cell.ok, ht] at h
  rename_i k x
  obtain ⟨rfl, h1, h2⟩ := h
  rw [hm1] at h1; rw [hm2] at h2
  exact ⟨x.toNat, by congr 1; omega, by omega⟩
theorem okU8 {P : Program} {w : World} {r : Reach} {base : Nat} {t : TypeId} {v : Value} (ht : P.underlying t = some (.int .u8)) (h : Value.okWide P w r base t v) : ∃ n : Nat, v = .int .u8 (n : Int) ∧ n < 256 := by
  simp only [Value.okWide, ht, Cell.okWide] at h
  have hm1 : IntKind.u8.min = 0 := rfl
  have hm2 : IntKind.u8.max = 255 := rfl
  cases v <;> simp only [Cell.ok, ht] at h
  rename_i k x
  obtain ⟨rfl, h1, h2⟩ := h
  rw [hm1] at h1; rw [hm2] at h2
  exact ⟨x.toNat, by congr 1; omega, by omega⟩
end Go.Proofs.YtphgmkhbhboklaaGreatDoor
