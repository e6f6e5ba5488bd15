/- PARTS OF ONE PROOF, set in one file: LawParent, TreeTls, TreeSwap. Each part tells its own conditions. -/
import Derived.Test.YtphgmkhbhboklaaGreatDoorP3
import Derived.Test.YtphgmkhbhboklaaGreatDoorP4
import Derived.Test.YtphgmkhbhboklaaGreatDoorP5
import Derived.Test.YtphgmkhbhboklaaGreatDoorP8
import Derived.Test.YtphgmkhbhboklaaGreatDoorP10
/- portolanlaw18.parent: what stands ahead of a path's last slash. -/
namespace Go.Proofs.YtphgmkhbhboklaaGreatDoor
open Go.RowKit
set_option maxHeartbeats 1000000 in
set_option maxRecDepth 100000 in
theorem lparent_any (p : List UInt8) (hp : p.length ≤ 1000000) (w : World) : Calls Tryz.prog 18 #[.string ⟨p.toArray⟩] w fun e w' => e = .returned (.string ⟨(parentP p).toArray⟩) ∧ w = w' := by
  have HPP : Keep (∀ k, cutAt p = cutAt (p.take k) → parentP p = p.take (cutAt (p.take k) - 1)) := ⟨fun k h => by unfold parentP; rw [h]⟩
  obtain ⟨q, hq⟩ : ∃ q, parentP p = q := ⟨_, rfl⟩
  rw [hq] at HPP ⊢
  clear hq
  go_enter Tryz.func18, Tryz.ntmps18
  go_wp2_with fail
  go_loopg [3] p.length (fun g u3 wx => u3 = .int .i64 ((g : Int) - 1) ∧ g ≤ p.length ∧ cutAt p = cutAt (p.take g) ∧ wx = w)
  case atStart => exact ⟨rfl, Nat.le_refl _, by rw [List.take_length], rfl⟩
  case round =>
    obtain ⟨rfl, hg, hc, rfl⟩ := hrel
    have HC := Keep.keep hc
    clear hc
    cases gk with
    | zero =>
      have hd : decide ((0 : Int) ≤ ((0 : Nat) : Int) - 1) = false := by decide
      go_wp2_with fail
      go_ret
      refine ⟨?_, rfl⟩
      have := HPP.out 0 HC.out
      rw [this]; rfl
    | succ g =>
      have hgl : g < p.length := by omega
      have e1 : ((g + 1 : Nat) : Int) - 1 = (g : Int) := by omega
      rw [e1]
      have hd : decide ((0 : Int) ≤ (g : Int)) = true := decide_eq_true (by omega)
      have hct := cutAt_take p g hgl
      obtain ⟨c, hc⟩ : ∃ c, p[g] = c := ⟨_, rfl⟩
      have hgi : (⟨p.toArray⟩ : ByteArray)[g]'(by show g < p.toArray.size; simpa using hgl) = c := by rw [← hc]; rfl
      have hst := run_slice_to (P := Tryz.prog) Tryz.underlying9 p .i64 g (by omega)
      rw [hc] at hct
      clear hc
      by_cases h : c = 47
      · rw [if_pos h] at hct
        have HR : Keep (q = p.take g) := ⟨by
          have := HPP.out (g + 1) HC.out
          rw [hct] at this; exact this⟩
        have hb : ((c.toNat : Int) == 47) = true := by rw [h]; rfl
        clear h hct
        go_wp2_with fail
        go_ret
        exact ⟨by rw [HR.out]; rfl, rfl⟩
      · rw [if_neg h] at hct
        have HC2 := Keep.keep (HC.out.trans hct)
        have hb : ((c.toNat : Int) == 47) = false := by
          simp only [beq_eq_false_iff_ne, ne_eq]
          intro e
          exact h (UInt8.toNat_inj.1 (by have : (47 : UInt8).toNat = 47 := rfl; omega))
        clear h hct hst
        go_wp2_with fail
        go_roundg g
        case measure => omega
        case rel => exact ⟨rfl, by omega, HC2.out, rfl⟩
end Go.Proofs.YtphgmkhbhboklaaGreatDoor
/- portolanlaw18.tells: the chapter's rows. -/
namespace Go.Proofs.YtphgmkhbhboklaaGreatDoor
open Go.RowKit
def fileN : Nd := ⟨2, 0, 0, 0, 0, [], [], []⟩
def dirN : Nd := ⟨1, 0, 0, 0, 0, [], [], []⟩
set_option maxRecDepth 100000 in
theorem tls1 : newT [([97, 47, 98], fileN)] = (33, none) := by kernel_rfl
set_option maxRecDepth 100000 in
theorem tls2 : newT [([97, 47, 98], fileN), ([97], dirN)] = (0, some [([97], dirN), ([97, 47, 98], fileN)]) := by kernel_rfl
set_option maxRecDepth 100000 in
theorem tls3 : putT [([97], dirN), ([97, 47, 98], fileN)] ([97], fileN) = (0, [([97], fileN)]) := by kernel_rfl
set_option maxRecDepth 100000 in
theorem tls4 : getT [([97], fileN)] [97, 47, 98] = (nd0, false) := by kernel_rfl
set_option maxHeartbeats 2000000 in
set_option maxRecDepth 100000 in
theorem tells_any (B : Nat) (w : World) (hT : Tabs B w) : Calls Tryz.prog 20 #[] w fun e w' => e = .returned (.bool true) ∧ Below w.heap.size w w' := by
  have HT := Keep.keep hT
  clear hT
  have hbn1 : ∀ w, (Instr.build 30 #[(0, .int .i64 2)]).run Tryz.prog w = .ok (.agg #[.int .i64 2, .int .u32 0, .int .u32 0, .int .u32 0, .int .i64 0, .slice none 0 0, .slice none 0 0, .string ⟨#[]⟩]) w := fun w => by kernel_rfl
  have hbn2 : ∀ w, (Instr.build 30 #[(0, .int .i64 1)]).run Tryz.prog w = .ok (.agg #[.int .i64 1, .int .u32 0, .int .u32 0, .int .u32 0, .int .i64 0, .slice none 0 0, .slice none 0 0, .string ⟨#[]⟩]) w := fun w => by kernel_rfl
  go_enter Tryz.func20, Tryz.ntmps20
  go_upto_region 2 with fail
  refine wp_world (R := fun w1 => Hp NoM w w1 [rowA w.heap.size 30 #[.int .i64 2, .int .u32 0, .int .u32 0, .int .u32 0, .int .i64 0, .slice none 0 0, .slice none 0 0, .string ⟨#[]⟩], rowA (w.heap.size + 1) 30 #[.int .i64 1, .int .u32 0, .int .u32 0, .int .u32 0, .int .i64 0, .slice none 0 0, .slice none 0 0, .string ⟨#[]⟩]]) ?_ ?_
  · exact ((Hp.begin NoM w).newRow _ _).newRow' _ _ _ _ (by simp) rfl
  intro w1 H1
  obtain ⟨b0, hb0⟩ : ∃ b0, w.heap.size = b0 := ⟨_, rfl⟩
  rw [hb0] at H1 ⊢
  clear hbn1 hbn2
  have HR0 := Keep.keep (H1.out.row 0 rfl)
  have HSF : Keep ((#[.int .i64 2, .int .u32 0, .int .u32 0, .int .u32 0, .int .i64 0, .slice none 0 0, .slice none 0 0, .string ⟨#[]⟩] : Array Value).size = 8) := ⟨rfl⟩
  have hbm1 : ∀ w, (Instr.build 32 #[(0, .string ⟨#[97, 47, 98]⟩), (1, .agg #[.int .i64 2, .int .u32 0, .int .u32 0, .int .u32 0, .int .i64 0, .slice none 0 0, .slice none 0 0, .string ⟨#[]⟩])]).run Tryz.prog w = .ok (.agg #[.string ⟨#[97, 47, 98]⟩, .int .i64 2, .int .u32 0, .int .u32 0, .int .u32 0, .int .i64 0, .slice none 0 0, .slice none 0 0, .string ⟨#[]⟩]) w := fun w => by kernel_rfl
  go_wp2_with ((with_reducible refine arm_loadRow HR0.out aggN HSF.out ?_ ?_); (focus rfl); simp only [Act.put, List.setIfInBounds_toArray, List.set_cons_succ, List.set_cons_zero])
  have hlt1 := (H1.out.row 1 rfl).lt
  have hNf : ∀ (w : World) (N : Nat → Prop), NdR w N fileN nilV nilV := fun w N => ⟨RdV.ofNil, ⟨⟨none, 0, rfl, Nat.le_refl _, by unfold maxLen; omega, .inl rfl⟩, fun b off n cap e j hj => by cases e⟩⟩
  have hSf : ∀ p : Tx, p.length ≤ 400000 → Sm (p, fileN) := fun p hp => ⟨hp, by simp [fileN], by simp [fileN], by simp [fileN], fun x hx => by simp [fileN] at hx, by simp [fileN]⟩
  have hb1 : Below w.heap.size w w1 := by have := H1.out.below; exact this
  refine (new_tree (.slice (some ⟨w1.heap.size, 0, none⟩) 1 1) [(([97, 47, 98], fileN), nilV, nilV)] B _ (HT.out.on ((hb1.alloc hb1.size _).mono HT.out.b)) ⟨RdV.new 32 (mcells [(([97, 47, 98], fileN), nilV, nilV)]) 9 1 _ rfl rfl (by unfold maxLen; omega) (by simp), fun x hx => ?_⟩ (fun x hx => ?_) (by simp)).mono ?_
  · obtain rfl : x = (([97, 47, 98], fileN), nilV, nilV) := by simpa using hx
    exact hNf _ _
  · obtain rfl : x = (([97, 47, 98], fileN), nilV, nilV) := by simpa using hx
    exact hSf _ (by simp)
  rintro e w2 ⟨⟨pv, rfl, hnew⟩, hb2⟩
  simp only [List.map_cons, List.map_nil, tls1] at hnew ⊢
  have hpv : pv = .pointer none := hnew
  subst hpv
  have H2 := Keep.keep ((H1.out.alloc (.cells #[.string ⟨#[97, 47, 98]⟩, .int .i64 2, .int .u32 0, .int .u32 0, .int .u32 0, .int .i64 0, .slice none 0 0, .slice none 0 0, .string ⟨#[]⟩] 32)).call hb2)
  clear hb2 H1 HR0 hnew
  have HR0 := Keep.keep (H2.out.row 0 rfl)
  have HR1 := Keep.keep (H2.out.row 1 rfl)
  have HSD : Keep ((#[.int .i64 1, .int .u32 0, .int .u32 0, .int .u32 0, .int .i64 0, .slice none 0 0, .slice none 0 0, .string ⟨#[]⟩] : Array Value).size = 8) := ⟨rfl⟩
  have hbm2 : ∀ w, (Instr.build 32 #[(0, .string ⟨#[97]⟩), (1, .agg #[.int .i64 1, .int .u32 0, .int .u32 0, .int .u32 0, .int .i64 0, .slice none 0 0, .slice none 0 0, .string ⟨#[]⟩])]).run Tryz.prog w = .ok (.agg #[.string ⟨#[97]⟩, .int .i64 1, .int .u32 0, .int .u32 0, .int .u32 0, .int .i64 0, .slice none 0 0, .slice none 0 0, .string ⟨#[]⟩]) w := fun w => by kernel_rfl
  go_wp2_with (first
    | ((with_reducible refine arm_loadRow HR0.out aggN HSF.out ?_ ?_); (focus rfl); simp only [Act.put, List.setIfInBounds_toArray, List.set_cons_succ, List.set_cons_zero])
    | ((with_reducible refine arm_loadRow HR1.out aggN HSD.out ?_ ?_); (focus rfl); simp only [Act.put, List.setIfInBounds_toArray, List.set_cons_succ, List.set_cons_zero]))
  have hNd : ∀ (w : World) (N : Nat → Prop), NdR w N dirN nilV nilV := fun w N => ⟨RdV.ofNil, ⟨⟨none, 0, rfl, Nat.le_refl _, by unfold maxLen; omega, .inl rfl⟩, fun b off n cap e j hj => by cases e⟩⟩
  have hSd : ∀ p : Tx, p.length ≤ 400000 → Sm (p, dirN) := fun p hp => ⟨hp, by simp [dirN], by simp [dirN], by simp [dirN], fun x hx => by simp [dirN] at hx, by simp [dirN]⟩
  have hb2 := H2.out.below
  refine (new_tree (.slice (some ⟨w2.heap.size, 0, none⟩) 2 2) [(([97, 47, 98], fileN), nilV, nilV), (([97], dirN), nilV, nilV)] B _ (HT.out.on ((hb2.alloc hb2.size _).mono HT.out.b)) ⟨RdV.new 32 (mcells [(([97, 47, 98], fileN), nilV, nilV), (([97], dirN), nilV, nilV)]) 9 2 _ rfl rfl (by unfold maxLen; omega) (by simp), fun x hx => ?_⟩ (fun x hx => ?_) (by simp)).mono ?_
  · rcases List.mem_cons.1 hx with rfl | hx
    · exact hNf _ _
    · obtain rfl : x = (([97], dirN), nilV, nilV) := by simpa using hx
      exact hNd _ _
  · rcases List.mem_cons.1 hx with rfl | hx
    · exact hSf _ (by simp)
    · obtain rfl : x = (([97], dirN), nilV, nilV) := by simpa using hx
      exact hSd _ (by simp)
  rintro e w3 ⟨⟨pv, rfl, hnew⟩, hb3⟩
  simp only [List.map_cons, List.map_nil, tls2] at hnew ⊢
  obtain ⟨T, mb, Bk, f, rfl, hti, hTw, hmw, hBk⟩ := hnew
  have H3 := Keep.keep ((H2.out.alloc (.cells #[.string ⟨#[97, 47, 98]⟩, .int .i64 2, .int .u32 0, .int .u32 0, .int .u32 0, .int .i64 0, .slice none 0 0, .slice none 0 0, .string ⟨#[]⟩, .string ⟨#[97]⟩, .int .i64 1, .int .u32 0, .int .u32 0, .int .u32 0, .int .i64 0, .slice none 0 0, .slice none 0 0, .string ⟨#[]⟩] 32)).call hb3)
  have hs2 := hb2.size
  have HTI := Keep.keep hti; have HBK := Keep.keep hBk
  simp only [World.size_alloc] at hTw hmw
  have hFr : ∀ b, Bk b → w2.heap.size < b ∧ b < w3.heap.size := fun b hb => ⟨by have := (hBk b hb).1; simp at this; omega, (hBk b hb).2⟩
  clear hb2 hb3 hti hBk H2 HR0 HR1
  have HR0 := Keep.keep (H3.out.row 0 rfl)
  have hbm3 : ∀ w, (Instr.build 32 #[(0, .string ⟨#[97]⟩), (1, .agg #[.int .i64 2, .int .u32 0, .int .u32 0, .int .u32 0, .int .i64 0, .slice none 0 0, .slice none 0 0, .string ⟨#[]⟩])]).run Tryz.prog w = .ok (.agg #[.string ⟨#[97]⟩, .int .i64 2, .int .u32 0, .int .u32 0, .int .u32 0, .int .i64 0, .slice none 0 0, .slice none 0 0, .string ⟨#[]⟩]) w := fun w => by kernel_rfl
  go_wp2_with ((with_reducible refine arm_loadRow HR0.out aggN HSF.out ?_ ?_); (focus rfl); simp only [Act.put, List.setIfInBounds_toArray, List.set_cons_succ, List.set_cons_zero])
  refine (put_tree T mb Bk f _ B w3 HTI.out (fun b hb => (hFr b hb).2) (by simp) (HT.out.on (H3.out.below.mono HT.out.b)) ([97], fileN) nilV nilV (hSf _ (by simp)) (hNf _ _)).mono ?_
  rintro e w4 ⟨rfl, ⟨Bk4, f4, hti4, hbk4⟩, hch⟩
  simp only [tls3] at hti4 ⊢
  have hb3 := H3.out.below
  have HB4 := Keep.keep (hb3.trans ((hch.lower hb3.size).below (fun j hj e => by omega)))
  have hs4 := hch.size
  have hFr4 : ∀ b, Bk4 b → b < w4.heap.size := fun b hb => by
    rcases hbk4 b hb with h | h
    · have := (hFr b h).2; omega
    · exact h.2
  have HG := Keep.keep (get_tree T mb Bk4 f4 _ w4 hti4 hFr4 [97, 47, 98] (by simp))
  rw [tls4] at HG
  have HT4 := Keep.keep hti4
  clear hb3 hch hti4 hbk4
  go_wp2_with fail
  refine HG.out.mono ?_
  rintro e w5 ⟨av5, dv5, rfl, hn5, hb5⟩
  obtain ⟨aa, la, ca, ad, ld, cd, rfl, rfl⟩ := hn5.shape
  have HT5 : Keep (TreeIn w5 T mb Bk4 f4 [([97], fileN)]) := ⟨HT4.out.loc (fun b hb => hb5.block b (by
    rcases hb with rfl | rfl | h
    · exact HT4.out.row.lt
    · exact HT4.out.map.lt
    · exact hFr4 b h))⟩
  have HB5 := Keep.keep (HB4.out.trans (hb5.mono HB4.out.size))
  have hs5 := hb5.size
  clear hn5 hb5 HG HT4 HB4
  unfold ndC strV nd0
  dsimp only
  go_wp2_with fail
  refine (len_tree T mb Bk4 f4 _ _ (HT5.out.loc (fun b hb => Below.heap_alloc w5 _ b (by
    rcases hb with rfl | rfl | h
    · exact HT5.out.row.lt
    · exact HT5.out.map.lt
    · have := hFr4 b h; have := hs5; omega)))).mono ?_
  rintro e w6 ⟨rfl, rfl⟩
  go_wp2_with fail
  go_ret
  exact ⟨rfl, HB5.out.alloc HB5.out.size _⟩
end Go.Proofs.YtphgmkhbhboklaaGreatDoor
/- TreeSwap: two Members of a row are exchanged, in a region that draws its order. -/
namespace Go.Proofs.YtphgmkhbhboklaaGreatDoor
open Go.RowKit
/-- the list xs with cs laid over it from j on -/
def layAt : List Value → Nat → List Value → List Value
  | xs, _, [] => xs
  | xs, j, v :: r => layAt (xs.set j v) (j + 1) r
theorem layAt_length : ∀ (cs xs : List Value) (j : Nat), (layAt xs j cs).length = xs.length
  | [], _, _ => rfl
  | v :: r, xs, j => by rw [layAt, layAt_length r, List.length_set]
theorem layAt_get : ∀ (cs xs : List Value) (j i : Nat), j + cs.length ≤ xs.length → (layAt xs j cs)[i]? = if j ≤ i ∧ i < j + cs.length then cs[i - j]? else xs[i]?
  | [], xs, j, i, h => by
    rw [layAt, if_neg (by simp)]
  | v :: r, xs, j, i, h => by
    rw [List.length_cons] at h
    rw [layAt, layAt_get r _ _ _ (by rw [List.length_set]; omega)]
    by_cases h1 : j + 1 ≤ i ∧ i < j + 1 + r.length
    · rw [if_pos h1, if_pos (by rw [List.length_cons]; omega), show i - j = (i - (j + 1)) + 1 by omega, List.getElem?_cons_succ]
    · rw [if_neg h1]
      by_cases h2 : i = j
      · subst h2
        rw [if_pos (by rw [List.length_cons]; omega), Nat.sub_self, List.getElem?_cons_zero, List.getElem?_set_self (by omega)]
      · rw [if_neg (by rw [List.length_cons]; omega), List.getElem?_set_ne (Ne.symm h2)]
theorem owns_setCells {base size g cap n : Nat} {e : TypeId} : ∀ (cs xs : List Value) (w : World) (j : Nat), w.ownsRow base e size (.slice (some ⟨g, 0, none⟩) n cap) n xs →
    (w.setCells g j cs).ownsRow base e size (.slice (some ⟨g, 0, none⟩) n cap) n (layAt xs j cs) ∧ w.grownBy (w.setCells g j cs) (some g)
  | [], xs, w, j, h => ⟨h, rfl, rfl, rfl, Nat.le_refl _, fun _ _ _ => rfl⟩
  | v :: r, xs, w, j, h => by
    obtain ⟨h1, g1⟩ := h.stored j v
    obtain ⟨h2, g2⟩ := owns_setCells r _ _ (j + 1) h1
    rw [World.setCells, layAt]
    exact ⟨h2, g2.os.trans g1.os, g2.tape.trans g1.tape, g2.output.trans g1.output, Nat.le_trans g1.size g2.size, fun k hk hne => (g2.block k (Nat.lt_of_lt_of_le hk g1.size) hne).trans (g1.block k hk hne)⟩
theorem mcells_at (l : List Mv) (i j : Nat) (hj : j < 9) : (mcells l)[i * 9 + j]? = (l[i]?).bind fun x => (mcell x).toList[j]? := by
  induction l generalizing i with
  | nil => simp [mcells]
  | cons x l ih =>
    rw [mcells_cons]
    cases i with
    | zero =>
      rw [Nat.zero_mul, Nat.zero_add, List.getElem?_append_left (by rw [mcell_len]; omega)]
      rfl
    | succ i =>
      rw [List.getElem?_append_right (by rw [mcell_len]; omega), mcell_len, show (i + 1) * 9 + j - 9 = i * 9 + j by omega, ih]
      rfl
theorem layAt_mcells (l : List Mv) (k : Nat) (x : Mv) (hk : k < l.length) : layAt (mcells l) (k * 9) (mcell x).toList = mcells (l.set k x) := by
  have hlen : ∀ l : List Mv, (mcells l).length = l.length * 9 := fun l => by
    induction l with
    | nil => rfl
    | cons y l ih => rw [mcells_cons, List.length_append, ih, mcell_len, List.length_cons]; omega
  refine List.ext_getElem? fun i => ?_
  rw [layAt_get _ _ _ _ (by rw [hlen, mcell_len]; omega), mcell_len]
  have hi : i = i / 9 * 9 + i % 9 := by omega
  by_cases h : k * 9 ≤ i ∧ i < k * 9 + 9
  · rw [if_pos h]
    have hd : i / 9 = k := by omega
    conv => rhs; rw [hi, mcells_at _ _ _ (Nat.mod_lt _ (by omega)), hd]
    rw [List.getElem?_set_self hk, show i - k * 9 = i % 9 by omega]
    rfl
  · rw [if_neg h]
    conv => lhs; rw [hi, mcells_at _ _ _ (Nat.mod_lt _ (by omega))]
    conv => rhs; rw [hi, mcells_at _ _ _ (Nat.mod_lt _ (by omega))]
    rw [List.getElem?_set_ne (by omega)]
theorem owns_setMb {base g cap n k : Nat} {w : World} {l : List Mv} (h : w.ownsRow base 32 9 (.slice (some ⟨g, 0, none⟩) n cap) n (mcells l)) (x : Mv) (hk : k < l.length) :
    (w.setCells g (k * 9) (mcell x).toList).ownsRow base 32 9 (.slice (some ⟨g, 0, none⟩) n cap) n (mcells (l.set k x)) ∧ w.grownBy (w.setCells g (k * 9) (mcell x).toList) (some g) := by
  have := owns_setCells (mcell x).toList _ w (k * 9) h
  rw [layAt_mcells l k x hk] at this
  exact this
theorem owns_there {base g cap n k : Nat} {w : World} {l : List Mv} (h : w.ownsRow base 32 9 (.slice (some ⟨g, 0, none⟩) n cap) n (mcells l)) (hn : n = l.length) (hk : k < l.length) : w.there g (k * 9) 9 := fun j hj => by
  refine ⟨?_, h.frozenAt _⟩
  rw [h.cellAt _ (by omega), mcells_at _ _ _ hj, List.getElem?_eq_getElem hk]
  show ((mcell l[k]).toList[j]?).isSome = true
  rw [List.getElem?_eq_getElem (by rw [mcell_len]; omega)]
  rfl
theorem mcell_one {w : World} {N : Nat → Prop} {x : Mv} (h : NdR w N x.1.2 x.2.1 x.2.2) : (mcell x).all (·.oneCell') = true := by
  obtain ⟨aa, la, ca, ad, ld, cd, e1, e2⟩ := h.shape
  unfold mcell mbC strV
  rw [e1, e2]
  simp [Value.oneCell']
theorem run_index {ρ : Operand → Value} {d : Option Tmp} {x y : Operand} {t : TypeId} {pos : String} {af : Array Edge} {g : Option (Nat × Bool)} {w : World} {b n cap k : Nat} (hx : ρ x = .slice (some ⟨b, 0, none⟩) n cap) (hy : ρ y = .int .i64 (k : Int)) (hk : k < n) :
    (execOp ρ (⟨d, .indexAddr 33 x y, t, pos, af, g⟩ : Oper)).run Tryz.prog w = .ok (.value (.pointer (some ⟨b, k * 9, none⟩))) w := by
  have he : Tryz.prog.elem 33 = 32 := by simp [Program.elem, Tryz.underlying33]
  have hs : ∀ w, (sizeOf 32).run Tryz.prog w = .ok 9 w := fun w => by kernel_rfl
  have h1 : (k : Int) < n := by omega
  simp [execOp, hx, hy, run_indexAt_slice (P := Tryz.prog) (w := w) (t := 33) (a := ⟨b, 0, none⟩) (len := n) (cap := cap) (k := .i64) (i := (k : Int)) (h := by rw [he]; exact Tryz.underlying33), he, hs, h1, Addr.add]
  exact Eq.symm
theorem run_swap {ρ : Operand → Value} {d : Option Tmp} {x y : Operand} {t : TypeId} {pos : String} {af : Array Edge} {g : Option (Nat × Bool)} {w : World} {b o : Nat} {m : Mv} (hx : ρ x = .pointer (some ⟨b, o, none⟩)) (hy : ρ y = .agg (mcell m)) (ht : w.there b o 9) (h1 : (mcell m).all (·.oneCell') = true) :
    (execOp ρ (⟨d, .store 32 x y, t, pos, af, g⟩ : Oper)).run Tryz.prog w = .ok .skip (w.setCells b o (mcell m).toList) := by
  have := run_storeAt_mid (P := Tryz.prog) w b o 32 (mcell m) ht aggM.i h1
  simp [execOp, hx, hy, this]
/-- what is said of each operation of the exchange: slots 178 .. 191 -/
def swT (sl pk pj : Value) (k j : Nat) (ck cj : Array Value) : Nat → Value → Prop
  | 0, v => v = sl
  | 1, v => v = .int .i64 (k : Int)
  | 2, v => v = sl
  | 3, v => v = .int .i64 (j : Int)
  | 4, v => v = sl
  | 5, v => v = .int .i64 (j : Int)
  | 6, v => v = pj
  | 7, v => v = .agg cj
  | 8, v => v = sl
  | 9, v => v = .int .i64 (k : Int)
  | 10, v => v = pk
  | 11, v => v = .agg ck
  | 12, v => v = pk
  | 14, v => v = pj
  | _, _ => True
def swD (i : Nat) : Nat := if i < 13 then 178 + i else if i = 14 then 191 else 0
/-- .. and of the memory -/
def swI (sl pk pj : Value) (k j : Nat) (ck cj : Array Value) (W0 W1 W2 : World) (done : Array Bool) (s : Nat → Value) (w : World) : Prop :=
  (∀ i, i < 16 → done.getD i false = true → swT sl pk pj k j ck cj i (s (swD i))) ∧ w = if done.getD 15 false then W2 else if done.getD 13 false then W1 else W0
theorem swD_inj {i j : Nat} (hi : i < 13 ∨ i = 14) (hj : j < 13 ∨ j = 14) (h : swD i = swD j) : i = j := by
  unfold swD at h
  split at h <;> split at h <;> (try split at h) <;> (try split at h) <;> omega
theorem swI.put {sl pk pj : Value} {k j : Nat} {ck cj : Array Value} {W0 W1 W2 : World} {done : Array Bool} {s s' : Nat → Value} {w : World} (h : swI sl pk pj k j ck cj W0 W1 W2 done s w) (i : Nat) {v : Value} (hi : i < 13 ∨ i = 14) (hv : s' (swD i) = v) (hs : ∀ q, q ≠ swD i → s' q = s q) (hT : swT sl pk pj k j ck cj i v) :
    swI sl pk pj k j ck cj W0 W1 W2 (done.setIfInBounds i true) s' w := by
  have hne : ∀ q, q ≠ i → (done.setIfInBounds i true).getD q false = done.getD q false := fun q hq => by
    simp [Array.getD_eq_getD_getElem?, Array.getElem?_setIfInBounds_ne (Ne.symm hq)]
  refine ⟨fun q hq hd => ?_, ?_⟩
  · by_cases e : q = i
    · subst e; rw [hv]; exact hT
    · rw [hne q e] at hd
      have := h.1 q hq hd
      rcases (by omega : (q < 13 ∨ q = 14) ∨ q = 13 ∨ q = 15) with hc | rfl | rfl
      · rw [hs _ (fun e2 => e (swD_inj hc hi e2))]; exact this
      · trivial
      · trivial
  · rw [hne 15 (by omega), hne 13 (by omega)]; exact h.2
theorem swI.at {sl pk pj : Value} {k j : Nat} {ck cj : Array Value} {W0 W1 W2 : World} {done : Array Bool} {s : Nat → Value} {w : World} (h : swI sl pk pj k j ck cj W0 W1 W2 done s w) (i : Nat) (hi : i < 16) (hd : done.getD i false = true) : swT sl pk pj k j ck cj i (s (swD i)) := h.1 i hi hd
theorem swI.store {sl pk pj : Value} {k j : Nat} {ck cj : Array Value} {W0 W1 W2 : World} {done : Array Bool} {s : Nat → Value} {w w' : World} (h : swI sl pk pj k j ck cj W0 W1 W2 done s w) (i : Nat) (hi : i = 13 ∧ w' = W1 ∧ done.getD 15 false = false ∨ i = 15 ∧ w' = W2) (hz : done.size = 16) :
    swI sl pk pj k j ck cj W0 W1 W2 (done.setIfInBounds i true) s w' := by
  have hne : ∀ q, q ≠ i → (done.setIfInBounds i true).getD q false = done.getD q false := fun q hq => by
    simp [Array.getD_eq_getD_getElem?, Array.getElem?_setIfInBounds_ne (Ne.symm hq)]
  have hii : (done.setIfInBounds i true).getD i false = true := by
    have : i < done.size := by rcases hi with ⟨rfl, _⟩ | ⟨rfl, _⟩ <;> omega
    simp [Array.getD_eq_getD_getElem?, this]
  refine ⟨fun q hq hd => ?_, ?_⟩
  · by_cases e : q = i
    · rcases hi with ⟨rfl, _⟩ | ⟨rfl, _⟩ <;> subst e <;> trivial
    · rw [hne q e] at hd; exact h.1 q hq hd
  · rcases hi with ⟨rfl, rfl, h15⟩ | ⟨rfl, rfl⟩
    · rw [hne 15 (by omega), h15, hii]; rfl
    · rw [hii]; rfl
/-- an operation that yields no value, in a region seen by its frame -/
theorem fr_skip {P : Program} {ops : Array Oper} {Q : Exit → Act → World → Prop} {a a1 : Act} {ds : List Nat} {I : Array Bool → (Nat → Value) → World → Prop} {done : Array Bool} {w w' : World} {i : Nat} {op : Op} {tp : TypeId} {pos : String} {af : Array Edge}
    (hf : Fr a ds a1) (hi : ops[i]? = some ⟨none, op, tp, pos, af, none⟩) (hr : (execOp a1.eval (⟨none, op, tp, pos, af, none⟩ : Oper)).run P w = .ok .skip w') (hI : I (done.setIfInBounds i true) (slot a1) w') :
    wpOp P ops Q i (fun a2 w2 => Fr a ds a2 ∧ I (done.setIfInBounds i true) (slot a2) w2) a1 w := by
  unfold wpOp
  rw [hi]
  simp only
  rw [if_pos (by simp [Region.wanted])]
  refine .inl ?_
  unfold Oper.wp
  rw [hr]
  exact ⟨hf, hI⟩
theorem ready_wait {ops : Array Oper} {done : Array Bool} {i j : Nat} (hi : i ∈ Region.ready .any ops done) (h : Region.waitsFor .any ops i j = true) : done.getD j false = true := by
  have hlt := ready_lt hi
  obtain ⟨e, he1, he2, he3⟩ := waits_of (Array.getElem?_eq_getElem hlt) h
  have hdn := (ready_at hi (Array.getElem?_eq_getElem hlt)).2 e he1 he2
  rw [he3] at hdn
  exact hdn
theorem ready_un {ops : Array Oper} {done : Array Bool} {i : Nat} (hi : i ∈ Region.ready .any ops done) : done.getD i false = false :=
  getD_both (ready_at hi (Array.getElem?_eq_getElem (ready_lt hi))).1
/-- what waits for an operation that has not run has not run -/
theorem closed_un {ops : Array Oper} {done : Array Bool} {i j : Nat} (hc : Closed ops done) (hj : j < ops.size) (hi : done.getD i false = false) (h : Region.waitsFor .any ops j i = true) : done.getD j false = false := by
  cases hd : done.getD j false with
  | false => rfl
  | true =>
    obtain ⟨e, he1, he2, he3⟩ := waits_of (Array.getElem?_eq_getElem hj) h
    have := hc j _ (Array.getElem?_eq_getElem hj) hd e he1 he2
    rw [he3, hi] at this
    cases this
theorem own_load {ρ : Operand → Value} {d : Option Tmp} {x : Operand} {t : TypeId} {pos : String} {af : Array Edge} {gd : Option (Nat × Bool)} {base g cap n k : Nat} {w : World} {l : List Mv} (h : w.ownsRow base 32 9 (.slice (some ⟨g, 0, none⟩) n cap) n (mcells l)) (hn : n = l.length) (hk : k < l.length) (hx : ρ x = .pointer (some ⟨g, k * 9, none⟩)) :
    (execOp ρ (⟨d, .load 32 x, t, pos, af, gd⟩ : Oper)).run Tryz.prog w = .ok (.value (.agg (mcell l[k]))) w := by
  have := run_loadAt_mid (P := Tryz.prog) w g (k * 9) 32 (mcell l[k]).toList _ (fun j z hj => by
    have hlt := (List.getElem?_eq_some_iff.1 hj).1
    rw [mcell_len] at hlt
    rw [h.cellAt _ (by omega), mcells_at _ _ _ hlt, List.getElem?_eq_getElem hk]
    exact hj) Tryz.underlying32 rfl (by rw [mcell_len]; exact aggM.i)
  simp [execOp, hx, this]
end Go.Proofs.YtphgmkhbhboklaaGreatDoor
