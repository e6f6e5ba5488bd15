/- PARTS OF ONE PROOF, set in one file: FewA, FewB, Acts, Grown, TreeAll, PathPartsL, PathWh, PathWhiteL, PathRefL, PathKnownL, TreeLaw, DifL, DifM, DifT, DifN, DifP, FewL, Short, FewS1, DifS, GrS, CmpA, ChBare, PathFnC. Each part tells its own conditions. -/
import Derived.Test.YtplafpokgpolkaaGreatDoorP8
/- portolanlaw12.Few: what it cuts; single operations on texts. -/
namespace Go.Proofs.YtplafpokgpolkaaGreatDoor
open Go.RowKit
def cutA (x : R2) : R2 := (x.1.take 250, x.2.take 700)
def cutN (n : Nd) : Nd := { n with link := n.link.take 4100, data := n.data.take 1500, attrs := (n.attrs.take 20).map cutA }
def cutM (m : Mb) : Mb := (m.1.take 4100, cutN m.2)
section
variable {ρ : Operand → Value} {d : Option Tmp} {x y : Operand} {t : TypeId} {pos : String} {af : Array Edge} {g : Option (Nat × Bool)} {w : World}
theorem run_lenS {l : Tx} (hx : ρ x = .string ⟨l.toArray⟩) : (execOp ρ (⟨d, .call ⟨.builtin .len, #[x], #[9]⟩, t, pos, af, g⟩ : Oper)).run Tryz.prog w = .ok (.value (.int .i64 (l.length : Int))) w := by
  simp [execOp, resolve, invoke, builtin, Builtin.len_, hx, run_underlying Tryz.underlying9]
  rfl
theorem run_minC {n c : Int} (hx : ρ x = .int .i64 n) (hc : ρ y = .int .i64 c) : (execOp ρ (⟨d, .call ⟨.builtin .min, #[x, y], #[3, 3]⟩, 3, pos, af, g⟩ : Oper)).run Tryz.prog w = .ok (.value (.int .i64 (min n c))) w := by
  have h2 : (Builtin.min2 (.int .i64 n) (.int .i64 c)).run Tryz.prog w = .ok (.int .i64 (min n c)) w := by
    unfold Builtin.min2
    simp only [Int.min_def]
    split <;> split <;> first | rfl | omega
  simp [go_sem, Builtin.min_, hx, hc, h2]
theorem run_sliceS {l : Tx} {k : Nat} (hk : k ≤ l.length) (hx : ρ x = .string ⟨l.toArray⟩) (hy : ρ y = .int .i64 (k : Int)) : (execOp ρ (⟨d, .slice 9 x none (some y) none, t, pos, af, g⟩ : Oper)).run Tryz.prog w = .ok (.value (.string ⟨(l.take k).toArray⟩)) w := by
  simp [go_sem, execOp, hx, hy, Instr.sliceAt]
  rw [if_pos hk]
  have : ByteArray.extract ⟨l.toArray⟩ 0 k = ⟨(l.take k).toArray⟩ := by
    apply ByteArray.ext
    simp [ByteArray.data_extract]
  rw [this]
theorem run_storeS {s : Tx} {b off : Nat} (hc : ∃ v, w.cell? ⟨b, off, none⟩ = some v) (hf : w.frozen? ⟨b, off, none⟩ = false) (hx : ρ x = .pointer (some ⟨b, off, none⟩)) (hy : ρ y = .string ⟨s.toArray⟩) :
    (execOp ρ (⟨d, .store 9 x y, t, pos, af, g⟩ : Oper)).run Tryz.prog w = .ok .skip (w.setCell ⟨b, off, none⟩ (.string ⟨s.toArray⟩)) := by
  obtain ⟨v, hc⟩ := hc
  have hz : (sizeOf 9).run Tryz.prog w = .ok 1 w := by kernel_rfl
  simp [go_sem, execOp, hx, hy, hz, hc, hf, Instr.storeAt, storeCells]
end
end Go.Proofs.YtplafpokgpolkaaGreatDoor
/- portolanlaw12.Few. -/
namespace Go.Proofs.YtplafpokgpolkaaGreatDoor
open Go.RowKit
def Was (s q : Tx) : Prop := q = s ∨ q = s.take 4100
theorem Was.take {s q : Tx} (h : Was s q) : q.take 4100 = s.take 4100 := by rcases h with rfl | rfl <;> simp [List.take_take]
theorem Was.mn {s q : Tx} (h : Was s q) : min (q.length : Int) 4100 = min (s.length : Int) 4100 := by
  rcases h with rfl | rfl
  · rfl
  · rw [List.length_take]; omega
theorem Was.le {s q : Tx} (h : Was s q) : min s.length 4100 ≤ q.length := by
  rcases h with rfl | rfl
  · omega
  · rw [List.length_take]; omega
theorem Was.cut {s q : Tx} (h : Was s q) : q.take (min s.length 4100) = s.take 4100 := by
  rcases h with rfl | rfl
  · rw [List.take_eq_take_iff]; omega
  · rw [List.take_take, List.take_eq_take_iff]; omega
def fwS (B : Nat) (p k : Tx) (w w' : World) : Prop := (w.cell? ⟨B, 0, none⟩ = some (.string ⟨(p.take 4100).toArray⟩) → w'.cell? ⟨B, 0, none⟩ = some (.string ⟨(p.take 4100).toArray⟩)) ∧ (w.cell? ⟨B, 8, none⟩ = some (.string ⟨(k.take 4100).toArray⟩) → w'.cell? ⟨B, 8, none⟩ = some (.string ⟨(k.take 4100).toArray⟩))
theorem fwS.refl (B : Nat) (p k : Tx) (w : World) : fwS B p k w w := ⟨fun h => h, fun h => h⟩
theorem buildA (p q : Tx) (w : World) : (Instr.build 97 #[(0, .string ⟨p.toArray⟩), (1, .string ⟨q.toArray⟩)]).run Tryz.prog w = .ok (.agg #[.string ⟨p.toArray⟩, .string ⟨q.toArray⟩]) w := by kernel_rfl
theorem Hp.init {M : Nat → Prop} {w wr : World} {ls : List As} {A : As} (h : Hp M w wr (ls ++ [A])) : Hp M w wr ls :=
  ⟨h.c, fun B hB => h.p B (List.mem_append_left _ hB), fun i j B C hi hj b h1 h2 => h.d i j B C (by rw [List.getElem?_append_left (List.getElem?_eq_some_iff.1 hi).1]; exact hi) (by rw [List.getElem?_append_left (List.getElem?_eq_some_iff.1 hj).1]; exact hj) b h1 h2⟩
theorem slMbF : SlK Tryz.prog 35 32 (.agg (mbC ([], ⟨0, 0, 0, 0, 0, [], [], []⟩) (.slice none 0 0) (.slice none 0 0))) 9 112 := SlK.mk' Tryz.underlying35 (by kernel_rfl) rfl (by decide)
theorem Hp.first {M : Nat → Prop} {w wr : World} {ls : List As} {A : As} (h : Hp M w wr (A :: ls)) : Hp M w wr [A] :=
  ⟨h.c, fun B hB => h.p B (by have := List.mem_singleton.1 hB; subst this; exact List.mem_cons_self), fun i j B C hi hj b h1 h2 => by
    have e1 : i = 0 := by have := (List.getElem?_eq_some_iff.1 hi).1; simp at this; exact this
    have e2 : j = 0 := by have := (List.getElem?_eq_some_iff.1 hj).1; simp at this; exact this
    omega⟩
end Go.Proofs.YtplafpokgpolkaaGreatDoor
/- A SLICE OF ACTS in memory: a bool and a Member each. -/
namespace Go.Proofs.YtplafpokgpolkaaGreatDoor
open Go.RowKit
abbrev Av := Bool × Mv
def acell (x : Av) : List Value := .bool x.1 :: (mcell x.2).toList
def acells (l : List Av) : List Value := l.flatMap acell
theorem acells_cons (x : Av) (l : List Av) : acells (x :: l) = acell x ++ acells l := rfl
theorem acell_len (x : Av) : (acell x).length = 10 := rfl
theorem acells_get : ∀ (l : List Av) (k i : Nat) (hk : k < l.length), i < 10 → (acells l)[k * 10 + i]? = (acell l[k])[i]?
  | x :: l, 0, i, _, hi => by
    rw [acells_cons, Nat.zero_mul, Nat.zero_add, List.getElem?_append_left (by rw [acell_len]; exact hi)]
    rfl
  | x :: l, k + 1, i, h, hi => by
    have := acells_get l k i (by simpa using h) hi
    rw [acells_cons, List.getElem?_append_right (by rw [acell_len]; omega), acell_len]
    have e : (k + 1) * 10 + i - 10 = k * 10 + i := by omega
    rw [e, this]; rfl
/-- v, a []Act, reads as l -/
structure ActsR (w : World) (N N' : Nat → Prop) (v : Value) (l : List Av) : Prop where
  rd : RdV w N 10 v l.length (acells l)
  nd : ∀ x ∈ l, NdR w N' x.2.1.2 x.2.2.1 x.2.2.2
theorem ActsR.below {w w' : World} {B : Nat} {N N' : Nat → Prop} {v : Value} {l : List Av} (h : ActsR w N N' v l) (hb : Below B w w') (h1 : ∀ b, N b → b < B) (h2 : ∀ b, N' b → b < B) : ActsR w' N N' v l := ⟨h.rd.below hb h1, fun x hx => (h.nd x hx).below hb h2⟩
/-- the Member of an act is read -/
theorem ActsR.load {w : World} {N N' : Nat → Prop} {l : List Av} {b off n cap : Nat} (h : ActsR w N N' (.slice (some ⟨b, off, none⟩) n cap) l) {k : Nat} (hk : k < l.length) : (Instr.loadAt 32 (.pointer (some ⟨b, off + k * 10 + 1, none⟩))).run Tryz.prog w = .ok (.agg (mcell l[k].2)) w := by
  have := run_loadAt_mid (P := Tryz.prog) w b (off + k * 10 + 1) 32 (mcell l[k].2).toList _ (fun j z hj => by
    have hlt := (List.getElem?_eq_some_iff.1 hj).1
    rw [mcell_len] at hlt
    have hg := acells_get l k (j + 1) hk (by omega)
    have e : (acell l[k])[j + 1]? = some z := by
      show (mcell l[k].2).toList[j]? = some z
      simpa using hj
    rw [e] at hg
    have hc := h.rd.cell b off _ _ rfl _ _ hg
    rw [show off + k * 10 + 1 + j = off + (k * 10 + (j + 1)) by omega]
    exact hc) Tryz.underlying32 rfl (by rw [mcell_len]; exact aggM.i)
  simpa using this
end Go.Proofs.YtplafpokgpolkaaGreatDoor
/- portolanlaw18.Grown: a tree under calls. -/
namespace Go.Proofs.YtplafpokgpolkaaGreatDoor
open Go.RowKit
/-- the kind is an int -/
def Kb (m : Mb) : Prop := -9223372036854775808 ≤ m.2.kind ∧ m.2.kind ≤ 9223372036854775807
theorem Kb.cut {m : Mb} (h : Kb m) : Sm (cutM m) := by
  refine ⟨?_, ?_, ?_, ?_, fun x hx => ?_, h⟩
  · exact Nat.le_trans (List.length_take_le _ _) (by omega)
  · exact Nat.le_trans (List.length_take_le _ _) (by omega)
  · exact Nat.le_trans (List.length_take_le _ _) (by omega)
  · show ((m.2.attrs.take 20).map cutA).length ≤ _
    rw [List.length_map]
    exact Nat.le_trans (List.length_take_le _ _) (by omega)
  · obtain ⟨y, hy, rfl⟩ := List.mem_map.1 (show x ∈ (m.2.attrs.take 20).map cutA from hx)
    exact ⟨Nat.le_trans (List.length_take_le _ _) (by omega), Nat.le_trans (List.length_take_le _ _) (by omega)⟩
end Go.Proofs.YtplafpokgpolkaaGreatDoor
/- tree.All. -/
namespace Go.Proofs.YtplafpokgpolkaaGreatDoor
open Go.RowKit
theorem underL_all (L : List Mb) : underL [] L = L := by
  unfold underL
  refine List.filter_eq_self.2 (fun x _ => ?_)
  unfold hitU underP
  cases x.1 <;> simp
set_option maxHeartbeats 1000000 in
set_option maxRecDepth 100000 in
/-- tree.All, and the row is the call's own -/
theorem all_own (T mb : Nat) (Bk : Nat → Prop) (f : Tx → Value × Value) (L : List Mb) (w : World) (hL : L.length ≤ 100000) (hT : TreeIn w T mb Bk f L) (hlt : T < w.heap.size ∧ mb < w.heap.size ∧ ∀ b, Bk b → b < w.heap.size) :
    Calls Tryz.prog 38 #[.pointer (some ⟨T, 0, none⟩)] w fun e w' => ∃ v l, e = .returned v ∧ l.map (·.1) = L ∧ OwnMbs w.heap.size w' v l ∧ Below w.heap.size w w' := by
  have HU := Keep.keep (under_own T mb Bk f L [] w hL (by simp) hT hlt)
  rw [underL_all] at HU
  clear hT hlt
  go_enter Tryz.func38, Tryz.ntmps38
  go_wp2_with fail
  refine HU.out.mono ?_
  rintro e w1 ⟨v, l, rfl, hl, hm, hb⟩
  have HL := Keep.keep hl; have HM := Keep.keep hm; have HB := Keep.keep hb
  obtain ⟨a, cap, hv, -⟩ := hm.mbs.rd.shape
  clear hl hm hb
  subst hv
  go_wp2_with fail
  go_ret
  exact ⟨_, l, rfl, HL.out, HM.out, HB.out⟩
end Go.Proofs.YtplafpokgpolkaaGreatDoor
/- PATHS: plain facts on parents, bases and what is above. -/
namespace Go.Proofs.YtplafpokgpolkaaGreatDoor
theorem cutAt_noSl : ∀ {a : List UInt8}, (∀ x ∈ a, x ≠ 47) → cutAt a = 0
  | [], _ => rfl
  | c :: a, h => by
    rw [cutAt, cutAt_noSl (fun x hx => h x (by simp [hx])), if_neg (by omega), if_neg (h c (by simp))]
theorem cutAt_app : ∀ (a b : List UInt8), (∀ x ∈ b, x ≠ 47) → cutAt (a ++ 47 :: b) = a.length + 1
  | [], b, h => by rw [List.nil_append, cutAt, cutAt_noSl h, if_neg (by omega), if_pos rfl]; rfl
  | c :: a, b, h => by
    rw [List.cons_append, cutAt, cutAt_app a b h, if_pos (by omega)]; rfl
theorem joinS_snoc : ∀ (l : List (List UInt8)) (b : List UInt8), l ≠ [] → joinS (l ++ [b]) = joinS l ++ 47 :: b
  | [], _, h => absurd rfl h
  | [x], b, _ => rfl
  | x :: y :: r, b, _ => by
    have ih := joinS_snoc (y :: r) b (by simp)
    rw [List.cons_append] at ih
    show x ++ 47 :: joinS (y :: (r ++ [b])) = (x ++ 47 :: joinS (y :: r)) ++ 47 :: b
    rw [ih]; simp
theorem joinP_two (a b : List UInt8) : joinP [a, b] = if a = [] then b else if b = [] then a else a ++ 47 :: b := by
  cases a with
  | nil => cases b <;> rfl
  | cons c a => cases b <;> rfl
/-- names that a tree may have, none of them empty, no slash -/
theorem mayN_ne {s : List UInt8} (h : mayN s = true) : s ≠ [] ∧ ∀ c ∈ s, c ≠ 47 := by
  unfold mayN at h
  simp only [Bool.and_eq_true, Bool.not_eq_true', List.any_eq_false, Bool.or_eq_true, beq_iff_eq, not_or] at h
  refine ⟨fun e => ?_, fun c hc => (h.1.2 c hc).1⟩
  rw [e] at h
  simp at h
theorem filter_ne {l : List (List UInt8)} (h : l.all mayN = true) : l.filter (fun x => !x.isEmpty) = l := by
  rw [List.filter_eq_self]
  intro x hx
  have := (mayN_ne (List.all_eq_true.1 h x hx)).1
  cases x with
  | nil => exact absurd rfl this
  | cons c x => rfl
theorem joinP_may {l : List (List UInt8)} (h : l.all mayN = true) : joinP l = joinS l := by unfold joinP; rw [filter_ne h]
theorem under_nil (p : List UInt8) : underP [] p = !p.isEmpty := by unfold underP; simp
theorem joinS_take_len : ∀ (l : List (List UInt8)) (j : Nat), (joinS (l.take j)).length ≤ (joinS l).length
  | [], j => by simp [joinS]
  | [x], 0 => by simp [joinS]
  | [x], j + 1 => by simp
  | x :: y :: r, 0 => by simp [joinS]
  | x :: y :: r, 1 => by simp [joinS]
  | x :: y :: r, j + 2 => by
    have ih := joinS_take_len (y :: r) (j + 1)
    rw [List.take_succ_cons] at ih ⊢
    rw [List.take_succ_cons, joinS, joinS, List.length_append, List.length_append, List.length_cons, List.length_cons]
    omega
end Go.Proofs.YtplafpokgpolkaaGreatDoor
/- path.Whiteout, Opaque; portolanlaw11.wakes. -/
namespace Go.Proofs.YtplafpokgpolkaaGreatDoor
open Go.RowKit
def whiteoutP (p : List UInt8) : List UInt8 := if p.isEmpty || !mayP p then [] else joinP [parentP p, whiteB ++ baseP p]
def opaqueP (d : List UInt8) : List UInt8 := if !mayP d then [] else joinP [d, markB]
theorem joinP_two_len (a b : List UInt8) : (joinP [a, b]).length ≤ a.length + b.length + 1 := by
  have h1 := joinS_filter_len (fun x => !x.isEmpty) [a, b] (by simp)
  have h2 : (joinS [a, b]).length = a.length + b.length + 1 := by simp [joinS]; omega
  unfold joinP
  omega
theorem rdS_two (w : World) (a b : List UInt8) : RdS (w.alloc (.cells #[strV a, strV b] 9)) (· < (w.alloc (.cells #[strV a, strV b] 9)).heap.size) (.slice (some ⟨w.heap.size, 0, none⟩) 2 2) [a, b] :=
  RdV.new 9 [strV a, strV b] 1 2 _ rfl rfl (by unfold maxLen; omega) (by simp)
/-- two lists of names, compared -/
theorem sequal_any (v1 v2 : Value) (l1 l2 : List (List UInt8)) (w : World) (h1 : RdS w (· < w.heap.size) v1 l1) (h2 : RdS w (· < w.heap.size) v2 l2) (hn1 : l1.length ≤ 1000000000) (hn2 : l2.length ≤ 1000000000) :
    Calls Tryz.prog 16 #[v1, v2] w fun e w' => e = .returned (.bool (decide (l1 = l2))) ∧ Below w.heap.size w w' := by
  obtain ⟨a1, c1, rfl, hc1, -, g1⟩ := h1.shape
  obtain ⟨a2, c2, rfl, hc2, -, g2⟩ := h2.shape
  by_cases hl : l1.length = l2.length
  · rcases Nat.eq_zero_or_pos l1.length with h0 | h0
    · obtain rfl : l1 = [] := List.eq_nil_of_length_eq_zero h0
      obtain rfl : l2 = [] := List.eq_nil_of_length_eq_zero (by rw [← hl]; rfl)
      refine (Tryz.slices_Equal_string_empty a1 a2 c1 0 c2 w (by omega)).mono ?_
      rintro e w' ⟨rfl, rfl⟩
      exact ⟨rfl, Below.refl _ _⟩
    · rcases g1 with ⟨_, g1⟩ | ⟨b1, o1, rfl, -⟩
      · omega
      rcases g2 with ⟨_, g2⟩ | ⟨b2, o2, rfl, -⟩
      · omega
      have h := Tryz.slices_Equal_string b1 o1 l1.length c1 b2 o2 l2.length c2 (l1.map fun x => (⟨x.toArray⟩ : ByteArray)) (l2.map fun x => (⟨x.toArray⟩ : ByteArray)) w (by simp) (by simp) (by omega) (by omega)
        (fun j hj => by
          rw [List.length_map] at hj
          rw [h1.cell b1 o1 _ _ rfl j (strV l1[j]) (by simp [hj])]
          simp [List.getD_eq_getElem?_getD, hj, strV])
        (fun j hj => by
          rw [List.length_map] at hj
          rw [h2.cell b2 o2 _ _ rfl j (strV l2[j]) (by simp [hj])]
          simp [List.getD_eq_getElem?_getD, hj, strV])
      rw [List.take_of_length_le (by simp), List.take_of_length_le (by simp)] at h
      refine h.mono ?_
      rintro e w' ⟨rfl, q, rfl⟩
      refine ⟨?_, below_drewN' (Below.refl _ _) _⟩
      congr 2
      simp only [decide_eq_decide]
      constructor
      · intro e
        have := congrArg (List.map (fun b : ByteArray => b.data.toList)) e
        simpa [Function.comp_def] using this
      · rintro rfl; rfl
  · refine (Tryz.slices_Equal_string_lens a1 a2 l1.length c1 l2.length c2 w hl).mono ?_
    rintro e w' ⟨rfl, rfl⟩
    exact ⟨by rw [decide_eq_false (fun e => hl (by rw [e]))], Below.refl _ _⟩
end Go.Proofs.YtplafpokgpolkaaGreatDoor
/- PATHS: plain facts on classes, whiteouts and marks. -/
namespace Go.Proofs.YtplafpokgpolkaaGreatDoor
theorem cut_cases : ∀ p : List UInt8, (cutAt p = 0 ∧ ∀ x ∈ p, x ≠ 47) ∨ ∃ d b, p = d ++ 47 :: b ∧ (∀ x ∈ b, x ≠ 47) ∧ cutAt p = d.length + 1
  | [] => .inl ⟨rfl, fun x h => by cases h⟩
  | c :: l => by
    rcases cut_cases l with ⟨h1, h2⟩ | ⟨d, b, h1, h2, h3⟩
    · by_cases hc : c = 47
      · refine .inr ⟨[], l, by rw [hc]; rfl, h2, ?_⟩
        rw [cutAt, h1, if_neg (by omega), if_pos hc]; rfl
      · refine .inl ⟨?_, fun x hx => ?_⟩
        · rw [cutAt, h1, if_neg (by omega), if_neg hc]
        · rcases List.mem_cons.1 hx with rfl | hx
          · exact hc
          · exact h2 x hx
    · refine .inr ⟨c :: d, b, by rw [h1]; rfl, h2, ?_⟩
      rw [cutAt, h3, if_pos (by omega)]; rfl
/-- a path's dir and base -/
theorem path_cases (p : List UInt8) : (dirP p = [] ∧ baseP p = p ∧ parentP p = [] ∧ ∀ x ∈ p, x ≠ 47) ∨ ∃ d b, p = d ++ 47 :: b ∧ (∀ x ∈ b, x ≠ 47) ∧ dirP p = d ++ [47] ∧ baseP p = b ∧ parentP p = d := by
  rcases cut_cases p with ⟨h1, h2⟩ | ⟨d, b, h1, h2, h3⟩
  · exact .inl ⟨by unfold dirP; rw [h1]; rfl, by unfold baseP; rw [h1]; rfl, by unfold parentP; rw [h1]; rfl, h2⟩
  · have e1 : p = (d ++ [47]) ++ b := by rw [h1]; simp
    have e2 : d.length + 1 = (d ++ [(47 : UInt8)]).length := by simp
    refine .inr ⟨d, b, h1, h2, ?_, ?_, ?_⟩
    · unfold dirP; rw [h3, e1, e2, List.take_left]
    · unfold baseP; rw [h3, e1, e2, List.drop_left]
    · unfold parentP; rw [h3, h1, Nat.add_sub_cancel, List.take_left]
theorem dir_of {d b : List UInt8} (hb : ∀ x ∈ b, x ≠ 47) : dirP (d ++ 47 :: b) = d ++ [47] ∧ baseP (d ++ 47 :: b) = b ∧ parentP (d ++ 47 :: b) = d := by
  have h3 := cutAt_app d b hb
  have e1 : d ++ 47 :: b = (d ++ [47]) ++ b := by simp
  have e2 : d.length + 1 = (d ++ [(47 : UInt8)]).length := by simp
  refine ⟨?_, ?_, ?_⟩
  · unfold dirP; rw [h3, e1, e2, List.take_left]
  · unfold baseP; rw [h3, e1, e2, List.drop_left]
  · unfold parentP; rw [h3, Nat.add_sub_cancel, List.take_left]
theorem dir_none {b : List UInt8} (hb : ∀ x ∈ b, x ≠ 47) : dirP b = [] ∧ baseP b = b ∧ parentP b = [] := by
  have h := cutAt_noSl hb
  exact ⟨by unfold dirP; rw [h]; rfl, by unfold baseP; rw [h]; rfl, by unfold parentP; rw [h]; rfl⟩
theorem spl_app : ∀ (d b : List UInt8), (∀ x ∈ b, x ≠ 47) → spl (d ++ 47 :: b) = spl d ++ [b]
  | [], b, h => by
    have e : spl (47 :: b) = [] :: spl b := by rw [spl, if_pos rfl]
    rw [List.nil_append, e, spl_none h]; rfl
  | c :: d, b, h => by
    have ih := spl_app d b h
    have hne := spl_ne d
    have e1 : spl (c :: (d ++ 47 :: b)) = if c = 47 then [] :: spl (d ++ 47 :: b) else match spl (d ++ 47 :: b) with | [] => [[c]] | h :: t => (c :: h) :: t := rfl
    have e2 : spl (c :: d) = if c = 47 then [] :: spl d else match spl d with | [] => [[c]] | h :: t => (c :: h) :: t := rfl
    rw [List.cons_append, e1, ih, e2]
    by_cases hc : c = 47
    · rw [if_pos hc, if_pos hc]; rfl
    · rw [if_neg hc, if_neg hc]
      cases hs : spl d with
      | nil => exact absurd hs hne
      | cons x t => rfl
theorem may_parts {p : List UInt8} (h : mayP p = true) : p.length ≤ 4080 ∧ (splitP p).length < 255 ∧ (splitP p).all mayN = true := by
  unfold mayP at h
  simp only [Bool.and_eq_true, decide_eq_true_eq] at h
  exact ⟨h.1.1, h.1.2, h.2⟩
theorem splitP_app {d b : List UInt8} (hb : ∀ x ∈ b, x ≠ 47) : splitP (d ++ 47 :: b) = spl d ++ [b] := by
  unfold splitP
  rw [if_neg (by simp), spl_app d b hb]
theorem splitP_one {b : List UInt8} (hb : ∀ x ∈ b, x ≠ 47) (h0 : b ≠ []) : splitP b = [b] := by
  unfold splitP
  rw [if_neg h0, spl_none hb]
theorem mayN_nil : mayN [] = false := rfl
/-- the last name of a tree's path is a tree's; what stands ahead of the slash is not nothing -/
theorem may_base {p : List UInt8} (h : mayP p = true) (h0 : p ≠ []) : mayN (baseP p) = true := by
  obtain ⟨-, -, h3⟩ := may_parts h
  rcases path_cases p with ⟨-, hb, -, hn⟩ | ⟨d, b, rfl, hn, -, hb, -⟩
  · rw [hb]; rw [splitP_one hn h0] at h3; simpa using h3
  · rw [hb]; rw [splitP_app hn, List.all_append] at h3; simp only [Bool.and_eq_true] at h3; simpa using h3.2
theorem may_dir {d b : List UInt8} (hb : ∀ x ∈ b, x ≠ 47) (h : mayP (d ++ 47 :: b) = true) : d ≠ [] := by
  obtain ⟨-, -, h3⟩ := may_parts h
  rw [splitP_app hb, List.all_append] at h3
  simp only [Bool.and_eq_true] at h3
  rintro rfl
  have h4 := h3.1
  simp [spl, mayN_nil] at h4
theorem mayN_white {b : List UInt8} (h : mayN b = true) : whiteB.isPrefixOf b = false := by
  unfold mayN at h
  simp only [Bool.and_eq_true, Bool.not_eq_true'] at h
  exact h.2
theorem white_not_may (b : List UInt8) : mayN (whiteB ++ b) = false := by
  cases h : mayN (whiteB ++ b) with
  | false => rfl
  | true =>
    have h1 := mayN_white h
    have h2 : whiteB.isPrefixOf (whiteB ++ b) = true := by rw [List.isPrefixOf_iff_prefix]; exact List.prefix_append _ _
    rw [h2] at h1; cases h1
theorem markB_eq : markB = whiteB ++ [46, 119, 104, 46, 46, 111, 112, 113] := rfl
theorem tableB_eq : tableB = whiteB ++ [46, 119, 104, 46, 116, 111, 99] := rfl
theorem lastC_may {b : List UInt8} (h : mayN b = true) : lastC b = 1 := by
  have h1 := mayN_white h
  unfold lastC
  rw [h1]
  have : (b == markB) = false := by
    rw [beq_eq_false_iff_ne]; rintro rfl
    rw [markB_eq, white_not_may] at h; cases h
  rw [this]; rfl
theorem lastC_mark : lastC markB = 3 := by decide
theorem tab_noSl : ∀ x ∈ tableB, x ≠ 47 := by decide
theorem white_noSl {b : List UInt8} (h : ∀ x ∈ b, x ≠ 47) : ∀ x ∈ whiteB ++ b, x ≠ 47 := by
  intro x hx
  rcases List.mem_append.1 hx with hx | hx
  · exact (by decide : ∀ x ∈ whiteB, x ≠ 47) x hx
  · exact h x hx
theorem trimSl_app (d : List UInt8) : trimSl (d ++ [47]) = d := by
  unfold trimSl
  have : ([47] : List UInt8).isSuffixOf (d ++ [47]) = true := by rw [List.isSuffixOf_iff_suffix]; exact List.suffix_append _ _
  rw [if_pos this]; simp
theorem ne_slash {d : List UInt8} (h : d ≠ []) : (d ++ [47] == [(47 : UInt8)]) = false := by
  rw [beq_eq_false_iff_ne]
  intro e
  have := congrArg List.length e
  simp at this
  exact h this
/-- a tree's path is Plain, and its own target -/
theorem class_may {p : List UInt8} (h : mayP p = true) (h0 : p ≠ []) : classP p = (1, p) := by
  have hb := may_base h h0
  have hl := lastC_may hb
  have ht : (p == tableB) = false := by
    rw [beq_eq_false_iff_ne]; rintro rfl
    rw [(dir_none tab_noSl).2.1, tableB_eq, white_not_may] at hb; cases hb
  have hg : tgtC 1 (dirP p) (baseP p) = p := dir_base p
  have he : p.isEmpty = false := by cases p with | nil => exact absurd rfl h0 | cons c p => rfl
  have hd : (dirP p == [(47 : UInt8)]) = false := by
    rcases path_cases p with ⟨hd, -⟩ | ⟨d, b, rfl, hn, hd, -⟩
    · rw [hd]; rfl
    · rw [hd]; exact ne_slash (may_dir hn h)
  unfold classP
  rw [ht, hl, hg, h, he, hd]; rfl
/-- what a class tells -/
inductive Told (p : List UInt8) : Prop
  | none (h : classP p = (0, [])) (hn : ¬ (mayP p = true ∧ p ≠ []))
  | plain (h : classP p = (1, p)) (hm : mayP p = true) (h0 : p ≠ [])
  | gone (t : List UInt8) (h : classP p = (2, t)) (hw : whiteoutP t = p) (hm : mayP p = false) (hl : t.length ≤ p.length)
  | mark (t : List UInt8) (h : classP p = (3, t)) (ho : opaqueP t = p) (hm : mayP p = false) (hl : t.length ≤ p.length)
  | table (h : classP p = (4, [])) (ht : p = tableB) (hm : mayP p = false)
theorem told (p : List UInt8) : Told p := by
  by_cases hm : mayP p = true ∧ p ≠ []
  · exact .plain (class_may hm.1 hm.2) hm.1 hm.2
  cases ht : p == tableB with
  | true =>
    have ht' := beq_iff_eq.1 ht
    refine .table (by unfold classP; rw [ht]; rfl) ht' ?_
    rw [ht']; decide
  | false =>
    have hfalse : ∀ c, mayN (baseP p) = false → c = true → p ≠ [] → mayP p = false := fun _ hb _ h0 => by
      cases hmp : mayP p with
      | false => rfl
      | true => rw [may_base hmp h0] at hb; cases hb
    cases hc : (!mayP (tgtC (lastC (baseP p)) (dirP p) (baseP p)) || (lastC (baseP p) != 3 && (tgtC (lastC (baseP p)) (dirP p) (baseP p)).isEmpty) || (lastC (baseP p) == 2 && !mayN ((baseP p).drop 4)) || dirP p == [47]) with
    | true => exact .none (by unfold classP; rw [ht, hc]; rfl) hm
    | false =>
      have hcl : classP p = ((lastC (baseP p) : Int), tgtC (lastC (baseP p)) (dirP p) (baseP p)) := by unfold classP; rw [ht, hc]; rfl
      simp only [Bool.or_eq_false_iff, Bool.not_eq_false', Bool.and_eq_false_iff] at hc
      obtain ⟨⟨⟨c1, c2⟩, c3⟩, c4⟩ := hc
      have hk : lastC (baseP p) = 1 ∨ (lastC (baseP p) = 2 ∧ ∃ b, baseP p = whiteB ++ b) ∨ (lastC (baseP p) = 3 ∧ baseP p = markB) := by
        unfold lastC
        cases h1 : baseP p == markB with
        | true => exact .inr (.inr ⟨rfl, beq_iff_eq.1 h1⟩)
        | false =>
          cases h2 : whiteB.isPrefixOf (baseP p) with
          | true => exact .inr (.inl ⟨rfl, by obtain ⟨b, hb⟩ := List.isPrefixOf_iff_prefix.1 h2; exact ⟨b, hb.symm⟩⟩)
          | false => exact .inl rfl
      rcases hk with hk | ⟨hk, b, hb⟩ | ⟨hk, hb⟩
      · exfalso
        rw [hk] at c1 c2
        have hg : tgtC 1 (dirP p) (baseP p) = p := dir_base p
        rw [hg] at c1 c2
        refine hm ⟨c1, ?_⟩
        rintro rfl
        simp at c2
      · rw [hk] at hcl c1 c2 c3
        have hdr : (baseP p).drop 4 = b := by rw [hb]; exact List.drop_left (l₁ := whiteB)
        rw [hdr] at c3
        have hbm : mayN b = true := by simpa using c3
        have hg : tgtC 2 (dirP p) (baseP p) = dirP p ++ b := by show dirP p ++ (baseP p).drop 4 = _; rw [hdr]
        rw [hg] at hcl c1 c2
        have hbn := mayN_ne hbm
        have hte : dirP p ++ b ≠ [] := fun e => hbn.1 (List.append_eq_nil_iff.1 e).2
        have hee : (dirP p ++ b).isEmpty = false := by cases hx : dirP p ++ b with | nil => exact absurd hx hte | cons c l => rfl
        have hp0 : p ≠ [] := by
          rintro rfl
          have : baseP [] = [] := rfl
          rw [this] at hb
          simp [whiteB] at hb
        have hfm := hfalse true (by rw [hb]; exact white_not_may b) rfl hp0
        have hlen : (dirP p ++ b).length ≤ p.length := by
          have : (dirP p ++ baseP p).length = p.length := by rw [dir_base]
          rw [hb] at this
          simp at this ⊢
          omega
        refine .gone _ hcl ?_ hfm hlen
        have hwo : whiteoutP (dirP p ++ b) = joinP [parentP (dirP p ++ b), whiteB ++ baseP (dirP p ++ b)] := by unfold whiteoutP; rw [c1, hee]; rfl
        rw [hwo, joinP_two]
        rcases path_cases p with ⟨hd, hbe, hpa, hn⟩ | ⟨d, b', hpe, hn, hd, hbe, hpa⟩
        · rw [hd, List.nil_append, (dir_none hbn.2).2.2, (dir_none hbn.2).2.1, if_pos rfl, ← hb, hbe]
        · have hdn : d ≠ [] := by
            rintro rfl
            rw [hd] at c4; simp at c4
          have e1 : dirP p ++ b = d ++ 47 :: b := by rw [hd]; simp
          rw [e1, (dir_of hbn.2).2.2, (dir_of hbn.2).2.1, if_neg hdn, if_neg (by simp [whiteB]), ← hb, hbe, ← hpe]
      · rw [hk] at hcl c1
        have hg : tgtC 3 (dirP p) (baseP p) = trimSl (dirP p) := rfl
        rw [hg] at hcl c1
        have hp0 : p ≠ [] := by
          rintro rfl
          have : baseP [] = [] := rfl
          rw [this] at hb
          simp [markB] at hb
        have hfm := hfalse true (by rw [hb, markB_eq]; exact white_not_may _) rfl hp0
        rcases path_cases p with ⟨hd, hbe, hpa, hn⟩ | ⟨d, b', hpe, hn, hd, hbe, hpa⟩
        · have hts : trimSl (dirP p) = [] := by rw [hd]; rfl
          rw [hts] at hcl c1
          refine .mark [] hcl ?_ hfm (by simp)
          unfold opaqueP
          rw [c1]
          show joinP [[], markB] = p
          rw [joinP_two, if_pos rfl, ← hb, hbe]
        · have hts : trimSl (dirP p) = d := by rw [hd]; exact trimSl_app d
          have hdn : d ≠ [] := by
            rintro rfl
            rw [hd] at c4; simp at c4
          rw [hts] at hcl c1
          refine .mark d hcl ?_ hfm (by rw [hpe]; simp)
          unfold opaqueP
          rw [c1]
          show joinP [d, markB] = p
          rw [joinP_two, if_neg hdn, if_neg (by decide), ← hb, hbe, ← hpe]
end Go.Proofs.YtplafpokgpolkaaGreatDoor
/- what the document says a class is, and what the program's class is: the same. -/
namespace Go.Proofs.YtplafpokgpolkaaGreatDoor
def refT (p base dir : List UInt8) : Int × List UInt8 := if mayN base then (1, p) else if base == markB then (3, dir) else if whiteB.isPrefixOf base && mayN (base.drop 4) then (2, joinP [dir, base.drop 4]) else (0, [])
def refF (ct : Int × List UInt8) : Int × List UInt8 := if ct.1 == 0 || !mayP ct.2 then (0, []) else ct
def refC (p : List UInt8) (init : List (List UInt8)) (base : List UInt8) : Int × List UInt8 := if init.all mayN then refF (refT p base (joinP init)) else (0, [])
theorem split_parts {p : List UInt8} (h0 : p ≠ []) : ∃ init base, splitP p = init ++ [base] ∧ (∀ x ∈ base, x ≠ 47) ∧ ((init = [] ∧ p = base) ∨ ∃ d, init = spl d ∧ p = d ++ 47 :: base) := by
  rcases path_cases p with ⟨-, -, -, hn⟩ | ⟨d, b, rfl, hn, -⟩
  · exact ⟨[], p, splitP_one hn h0, hn, .inl ⟨rfl, rfl⟩⟩
  · exact ⟨spl d, b, splitP_app hn, hn, .inr ⟨d, rfl, rfl⟩⟩
theorem may_app {d b : List UInt8} (hb : ∀ x ∈ b, x ≠ 47) (h : mayP (d ++ 47 :: b) = true) : (spl d).all mayN = true ∧ mayN b = true := by
  obtain ⟨-, -, h3⟩ := may_parts h
  rw [splitP_app hb, List.all_append] at h3
  simp only [Bool.and_eq_true] at h3
  exact ⟨h3.1, by simpa using h3.2⟩
theorem join_spl {d : List UInt8} (h : (spl d).all mayN = true) : joinP (spl d) = d := by rw [joinP_may h, joinS_spl]
theorem class_ref {p base : List UInt8} {init : List (List UInt8)} (h0 : p ≠ []) (ht : (p == tableB) = false) (hb : ∀ x ∈ base, x ≠ 47) (hc : (init = [] ∧ p = base) ∨ ∃ d, init = spl d ∧ p = d ++ 47 :: base) : classP p = refC p init base := by
  rcases hc with ⟨rfl, rfl⟩ | ⟨d, rfl, rfl⟩
  · obtain ⟨g1, g2, -⟩ := dir_none hb
    unfold classP refC
    rw [ht, g1, g2, show joinP [] = ([] : List UInt8) from rfl]
    cases h1 : p == markB with
    | true => have := beq_iff_eq.1 h1; subst this; decide
    | false =>
      cases h2 : whiteB.isPrefixOf p with
      | true =>
        obtain ⟨b, rfl⟩ := List.isPrefixOf_iff_prefix.1 h2
        have hl : lastC (whiteB ++ b) = 2 := by unfold lastC; rw [h1, h2]; rfl
        have hdr : (whiteB ++ b).drop 4 = b := List.drop_left (l₁ := whiteB)
        have hg : tgtC 2 [] (whiteB ++ b) = b := by show [] ++ (whiteB ++ b).drop 4 = b; rw [hdr]; rfl
        have hj : joinP [[], b] = b := by rw [joinP_two, if_pos rfl]
        unfold refT
        rw [hl, hg, hdr, white_not_may, h1, h2, hj]
        cases hn : mayN b with
        | false => simp [refF]
        | true =>
          have he : b.isEmpty = false := by cases b with | nil => cases hn | cons c b => rfl
          rw [he]
          unfold refF
          cases hm : mayP b <;> simp [hm]
      | false =>
        have hl : lastC p = 1 := by unfold lastC; rw [h1, h2]; rfl
        have hg : tgtC 1 [] p = p := rfl
        have he : p.isEmpty = false := by cases p with | nil => exact absurd rfl h0 | cons c b => rfl
        unfold refT
        rw [hl, hg, h1, h2, he]
        cases hm : mayP p with
        | true =>
          have hn := may_base hm h0
          rw [g2] at hn
          rw [hn]; simp [refF, hm]
        | false =>
          cases hn : mayN p <;> simp [refF, hm]
  · obtain ⟨g1, g2, -⟩ := dir_of (d := d) hb
    unfold classP refC
    rw [ht, g1, g2]
    by_cases hd : d = []
    · subst hd
      have : (spl []).all mayN = false := rfl
      rw [this]; simp
    · rw [ne_slash hd]
      cases h1 : base == markB with
      | true =>
        have := beq_iff_eq.1 h1; subst this
        have hg : tgtC 3 (d ++ [47]) markB = d := trimSl_app d
        rw [lastC_mark, hg]
        have hn : mayN markB = false := by decide
        unfold refT
        rw [hn, h1]
        cases hm : mayP d with
        | true =>
          obtain ⟨-, -, ha⟩ := may_parts hm
          rw [show splitP d = spl d by unfold splitP; rw [if_neg hd]] at ha
          rw [ha, join_spl ha]
          simp [refF, hm]
        | false =>
          cases ha : (spl d).all mayN with
          | false => simp
          | true => rw [join_spl ha]; simp [refF, hm]
      | false =>
        cases h2 : whiteB.isPrefixOf base with
        | true =>
          obtain ⟨b, rfl⟩ := List.isPrefixOf_iff_prefix.1 h2
          have hbb : ∀ x ∈ b, x ≠ 47 := fun x hx => hb x (List.mem_append_right _ hx)
          have hl : lastC (whiteB ++ b) = 2 := by unfold lastC; rw [h1, h2]; rfl
          have hdr : (whiteB ++ b).drop 4 = b := List.drop_left (l₁ := whiteB)
          have hg : tgtC 2 (d ++ [47]) (whiteB ++ b) = d ++ 47 :: b := by show (d ++ [47]) ++ (whiteB ++ b).drop 4 = _; rw [hdr]; simp
          unfold refT
          rw [hl, hg, hdr, white_not_may, h1, h2]
          have he : (d ++ 47 :: b).isEmpty = false := by simp
          rw [he]
          cases hn : mayN b with
          | false => cases ha : (spl d).all mayN <;> simp [refF]
          | true =>
            have hbn : b ≠ [] := by rintro rfl; cases hn
            cases ha : (spl d).all mayN with
            | true =>
              rw [join_spl ha, joinP_two, if_neg hd, if_neg hbn]
              cases hm : mayP (d ++ 47 :: b) <;> simp [refF, hm]
            | false =>
              have hm : mayP (d ++ 47 :: b) = false := by
                cases hm : mayP (d ++ 47 :: b) with
                | false => rfl
                | true => rw [(may_app hbb hm).1] at ha; cases ha
              rw [hm]; simp
        | false =>
          have hl : lastC base = 1 := by unfold lastC; rw [h1, h2]; rfl
          have hg : tgtC 1 (d ++ [47]) base = d ++ 47 :: base := by show (d ++ [47]) ++ base = _; simp
          unfold refT
          rw [hl, hg, h1, h2]
          have he : (d ++ 47 :: base).isEmpty = false := by simp
          rw [he]
          cases hm : mayP (d ++ 47 :: base) with
          | true =>
            obtain ⟨ha, hn⟩ := may_app hb hm
            rw [ha, hn]; simp [refF, hm]
          | false =>
            cases ha : (spl d).all mayN with
            | false => simp
            | true => cases hn : mayN base <;> simp [refF, hm]
end Go.Proofs.YtplafpokgpolkaaGreatDoor
/- PathKnown: closed facts about long texts (kernel). -/
namespace Go.Proofs.YtplafpokgpolkaaGreatDoor
theorem kn_c4 : (classP []).1 = 0 := by decide +kernel
theorem kn_c5 : classP tableB = (4, []) := by decide +kernel
end Go.Proofs.YtplafpokgpolkaaGreatDoor
/- TREES, plainly: what stays so under calls; whose parent, what is under. -/
namespace Go.Proofs.YtplafpokgpolkaaGreatDoor
theorem class_one {p : Tx} (h : (classP p).1 = 1) : mayP p = true ∧ p ≠ [] := by
  have h0 : p ≠ [] := by
    rintro rfl
    rw [kn_c4] at h; cases h
  by_cases ht : (p == tableB) = true
  · have : p = tableB := by simpa using ht
    subst this
    rw [kn_c5] at h; cases h
  · obtain ⟨init, base, _, hb, hc⟩ := split_parts h0
    rw [class_ref h0 (by simpa using ht) hb hc] at h
    unfold refC at h
    split at h
    · unfold refF at h
      split at h
      · cases h
      · rename_i hn
        unfold refT at h hn
        split at h
        · rename_i hm
          rw [if_pos hm] at hn
          exact ⟨by simpa using hn, h0⟩
        · split at h
          · cases h
          · split at h <;> cases h
    · cases h
theorem parent_lt {q : Tx} (h0 : q ≠ []) : (parentP q).length < q.length := by
  rcases path_cases q with ⟨_, _, hp, _⟩ | ⟨e, b, rfl, _, _, _, hp⟩
  · rw [hp]; exact List.length_pos_iff.2 h0
  · rw [hp]; simp
theorem under_len {d q : Tx} (h : underP d q = true) : d.length < q.length := by
  unfold underP at h
  by_cases hd : d = []
  · subst hd
    simp at h
    exact List.length_pos_iff.2 h
  · simp [hd] at h
    have := h.2.length_le
    simp at this; omega
theorem under_rec {q d : Tx} (hq : mayP q = true) (h0 : q ≠ []) : underP d q = (parentP q == d || underP d (parentP q)) := by
  rcases path_cases q with ⟨_, _, hp, hns⟩ | ⟨e, b, rfl, hb, _, _, hp⟩
  · rw [hp]
    by_cases hd : d = []
    · subst hd; rw [under_nil]; simp [h0]
    · have h1 : underP d q = false := by
        rw [Bool.eq_false_iff]; intro h
        unfold underP at h
        simp [hd] at h
        obtain ⟨r, hr⟩ := h.2
        exact hns 47 (by rw [← hr]; simp) rfl
      have h2 : underP d [] = false := rfl
      rw [h1, h2]
      simpa using hd
  · rw [hp]
    have he : e ≠ [] := may_dir hb hq
    by_cases hd : d = []
    · subst hd; rw [under_nil, under_nil]; simp [he]
    · have key : (d ++ [47] <+: e ++ 47 :: b) ↔ e = d ∨ d ++ [47] <+: e := by
        constructor
        · rintro ⟨r, hr⟩
          have hr : d ++ (47 :: r) = e ++ 47 :: b := by simpa using hr
          rcases List.append_eq_append_iff.1 hr with ⟨a, h1, h2⟩ | ⟨a, h1, h2⟩
          · cases a with
            | nil => exact .inl (by simpa using h1)
            | cons x t =>
              simp at h2
              obtain ⟨rfl, _⟩ := h2
              exact .inr ⟨t, by rw [h1]; simp⟩
          · cases a with
            | nil => exact .inl (by simpa using h1.symm)
            | cons x t =>
              simp at h2
              exact (hb 47 (by rw [h2.2]; simp) rfl).elim
        · rintro (rfl | ⟨r, hr⟩)
          · exact ⟨b, by simp⟩
          · exact ⟨r ++ 47 :: b, by rw [← hr]; simp⟩
      unfold underP
      rw [Bool.eq_iff_iff]
      simp [hd, he, key]
theorem path_join {q : Tx} (hq : mayP q = true) (h0 : q ≠ []) : q = if parentP q = [] then baseP q else parentP q ++ 47 :: baseP q := by
  rcases path_cases q with ⟨_, hb, hp, _⟩ | ⟨e, b, rfl, hb, _, hb2, hp⟩
  · rw [hp, hb, if_pos rfl]
  · rw [hp, hb2, if_neg (may_dir hb hq)]
/-- WHAT STAYS SO of a tree -/
structure WellL (L : List Mb) : Prop where
  s : SM.Srt L
  m : ∀ x ∈ L, mayM x = true
  p : ∀ x ∈ L, dirT L (parentP x.1) = true
theorem mayM_path {x : Mb} (h : mayM x = true) : mayP x.1 = true ∧ x.1 ≠ [] := by
  unfold mayM at h
  simp only [Bool.and_eq_true, decide_eq_true_eq] at h
  exact class_one h.1
theorem WellL.path {L : List Mb} (h : WellL L) {x : Mb} (hx : x ∈ L) : mayP x.1 = true ∧ x.1 ≠ [] := mayM_path (h.m x hx)
theorem dirT_iff {L : List Mb} {p : Tx} : dirT L p = true ↔ p = [] ∨ ∃ n, SM.look L p = some n ∧ n.kind = 1 := by
  unfold dirT
  cases h : SM.look L p with
  | none => simp
  | some n => simp
theorem WellL.nil : WellL [] := ⟨SM.Srt.nil, fun _ h => (List.not_mem_nil h).elim, fun _ h => (List.not_mem_nil h).elim⟩
theorem look_clear {L : List Mb} (h : SM.Srt L) (p q : Tx) : SM.look (clearT L p) q = if underP p q = true then none else SM.look L q := by
  unfold clearT
  rw [h.look_filter (fun k => !underP p k)]
  cases underP p q <;> simp
theorem put_well {L : List Mb} (h : WellL L) (m : Mb) : WellL (putT L m).2 := by
  unfold putT
  split
  · exact h
  · rename_i hm
    split
    · exact h
    · rename_i hd
      split
      · exact h
      · have hm : mayM m = true := by simpa using hm
        have hd : dirT L (parentP m.1) = true := by simpa using hd
        obtain ⟨hmp, hm0⟩ := mayM_path hm
        have hpl := parent_lt hm0
        by_cases hk : m.2.kind = 1
        · rw [if_pos hk]
          refine ⟨h.s.put m, fun x hx => ?_, fun x hx => ?_⟩
          · rcases SM.mem_put.1 hx with rfl | ⟨hx, _⟩
            · exact hm
            · exact h.m x hx
          · have key : ∀ q, dirT L q = true → dirT (SM.put L m) q = true := by
              intro q hq
              rcases dirT_iff.1 hq with rfl | ⟨n, hn, hnk⟩
              · rfl
              · rw [dirT_iff, h.s.look_put]
                split
                · exact .inr ⟨_, rfl, hk⟩
                · exact .inr ⟨n, hn, hnk⟩
            rcases SM.mem_put.1 hx with rfl | ⟨hx, _⟩
            · exact key _ hd
            · exact key _ (h.p x hx)
        · rw [if_neg hk]
          have hs : SM.Srt (clearT L m.1) := h.s.filter _
          have key : ∀ q, dirT L q = true → underP m.1 q = false → q ≠ m.1 → dirT (SM.put (clearT L m.1) m) q = true := by
            intro q hq hu hne
            rcases dirT_iff.1 hq with rfl | ⟨n, hn, hnk⟩
            · rfl
            · rw [dirT_iff, hs.look_put, if_neg hne, look_clear h.s, if_neg (by rw [hu]; decide)]
              exact .inr ⟨n, hn, hnk⟩
          refine ⟨hs.put m, fun x hx => ?_, fun x hx => ?_⟩
          · rcases SM.mem_put.1 hx with rfl | ⟨hx, _⟩
            · exact hm
            · exact h.m x (List.mem_filter.1 hx).1
          · rcases SM.mem_put.1 hx with rfl | ⟨hx, hne⟩
            · refine key _ hd ?_ (fun e => by rw [e] at hpl; omega)
              rw [Bool.eq_false_iff]; intro hu
              have := under_len hu; omega
            · obtain ⟨hx, hu⟩ := List.mem_filter.1 hx
              obtain ⟨hxp, hx0⟩ := h.path hx
              have hu : underP m.1 x.1 = false := by simpa using hu
              rw [under_rec hxp hx0] at hu
              simp only [Bool.or_eq_false_iff] at hu
              exact key _ (h.p x hx) hu.2 (by simpa using hu.1)
end Go.Proofs.YtplafpokgpolkaaGreatDoor
/- CHANGESETS, plainly: what Members do, what is told of two trees; nothing less leads there. -/
namespace Go.Proofs.YtplafpokgpolkaaGreatDoor
def cls (m : Mb) : Int := (classP m.1).1
def tgt (m : Mb) : Tx := (classP m.1).2
/-- does a Member take away what is at p -/
def hits (m : Mb) (p : Tx) : Bool := (decide (cls m = 1) && (tgt m == p || (decide (m.2.kind ≠ 1) && underP (tgt m) p))) || (decide (cls m = 2) && (tgt m == p || underP (tgt m) p)) || (decide (cls m = 3) && underP (tgt m) p)
def staysC (S : List Mb) (p : Tx) : Bool := p != [] && S.all (fun m => !hits m p)
def plainC (S : List Mb) : List Mb := S.filter (fun m => decide (cls m = 1))
/-- a node that is an empty File, all else zero -/
def bareN : Nd := ⟨2, 0, 0, 0, 0, [], [], []⟩
def bareB (n : Nd) : Bool := decide (n.kind = 2) && decide (n.mode = 0) && decide (n.uid = 0) && decide (n.gid = 0) && decide (n.time = 0) && decide (n.attrs.length = 0) && decide (n.data.length = 0) && n.link == []
/-- does the Member ahead of k stand at m's path, or behind -/
def notUp (S : List Mb) (k : Nat) (m : Mb) : Bool := match k with | 0 => false | j + 1 => (match S[j]? with | some x => decide (m.1 ≤ x.1) | none => false)
/-- what is wrong with the Member at k -/
def errC (S : List Mb) (k : Nat) (m : Mb) : Int :=
  if (!mayT ([97], m.2) || notUp S k m) = true then 1
  else if cls m < 1 ∨ 3 < cls m then 32
  else if cls m ≠ 1 ∧ bareB m.2 = false then 31
  else if (aboveP m.1).any (fun q => !(S.take k).any (fun x => x.1 == q && decide (x.2.kind = 1))) = true then 33 else 0
/-- change.May, from k -/
def mayFrom (S : List Mb) : Nat → List Mb → Int
  | _, [] => if 4096 < S.length then 42 else 0
  | k, m :: r => if errC S k m ≠ 0 then errC S k m else mayFrom S (k + 1) r
def mayC (S : List Mb) : Int := mayFrom S 0 S
def applyC (A S : List Mb) : Int × Option (List Mb) := if mayC S ≠ 0 then (mayC S, none) else newT (A.filter (fun m => staysC S m.1) ++ plainC S)
/-- what a changeset is -/
structure ValidC (S : List Mb) : Prop where
  cl : ∀ m ∈ S, cls m = 1 ∨ cls m = 2 ∨ cls m = 3
  br : ∀ m ∈ S, cls m ≠ 1 → m.2 = bareN
  ab : ∀ m ∈ S, ∀ q ∈ aboveP m.1, ∃ x ∈ S, x.1 = q ∧ x.2.kind = 1
theorem mem_above {q p : Tx} : q ∈ aboveP p ↔ q ++ [47] <+: p := by
  unfold aboveP
  rw [List.mem_filterMap]
  constructor
  · rintro ⟨i, hi, h⟩
    split at h
    · rename_i hc
      injection h with h
      obtain ⟨hl, hg⟩ := List.getElem?_eq_some_iff.1 hc
      refine ⟨p.drop (i + 1), ?_⟩
      rw [← h, ← hg]
      rw [List.append_assoc]
      conv => rhs; rw [← List.take_append_drop i p, List.drop_eq_getElem_cons hl]
      rfl
    · cases h
  · rintro ⟨r, rfl⟩
    refine ⟨q.length, by simp, ?_⟩
    rw [if_pos (by simp)]
    simp
theorem under_above {q p : Tx} (h0 : q ≠ []) : underP q p = true ↔ q ∈ aboveP p := by
  rw [mem_above]
  unfold underP
  simp only [Bool.and_eq_true, Bool.or_eq_true, Bool.not_eq_true', List.isEmpty_eq_false_iff, List.isEmpty_iff, h0, false_or, List.isPrefixOf_iff_prefix]
  constructor
  · exact fun h => h.2
  · exact fun h => ⟨fun e => by subst e; have := h.length_le; simp at this, h⟩
end Go.Proofs.YtplafpokgpolkaaGreatDoor
/- CHANGESETS, plainly: what leads from a tree to another one; members' places; counting. -/
namespace Go.Proofs.YtplafpokgpolkaaGreatDoor
theorem under_join {e b d : Tx} (hb : ∀ x ∈ b, x ≠ 47) (h0 : b ≠ []) : underP d (if e = [] then b else e ++ 47 :: b) = (e == d || underP d e) := by
  by_cases he : e = []
  · subst he
    rw [if_pos rfl]
    by_cases hd : d = []
    · subst hd; rw [under_nil]; simp [h0]
    · have h1 : underP d b = false := by
        rw [Bool.eq_false_iff]; intro h
        unfold underP at h
        simp [hd] at h
        obtain ⟨r, hr⟩ := h.2
        exact hb 47 (by rw [← hr]; simp) rfl
      have h2 : underP d [] = false := rfl
      rw [h1, h2]
      simpa using fun e : [] = d => hd e.symm
  · rw [if_neg he]
    by_cases hd : d = []
    · subst hd; rw [under_nil, under_nil]; simp [he]
    · have key : (d ++ [47] <+: e ++ 47 :: b) ↔ e = d ∨ d ++ [47] <+: e := by
        constructor
        · rintro ⟨r, hr⟩
          have hr : d ++ (47 :: r) = e ++ 47 :: b := by simpa using hr
          rcases List.append_eq_append_iff.1 hr with ⟨a, h1, h2⟩ | ⟨a, h1, h2⟩
          · cases a with
            | nil => exact .inl (by simpa using h1)
            | cons x t =>
              simp at h2
              obtain ⟨rfl, _⟩ := h2
              exact .inr ⟨t, by rw [h1]; simp⟩
          · cases a with
            | nil => exact .inl (by simpa using h1.symm)
            | cons x t =>
              simp at h2
              exact (hb 47 (by rw [h2.2]; simp) rfl).elim
        · rintro (rfl | ⟨r, hr⟩)
          · exact ⟨b, by simp⟩
          · exact ⟨r ++ 47 :: b, by rw [← hr]; simp⟩
      unfold underP
      rw [Bool.eq_iff_iff]
      simp [hd, he, key]
theorem markB_ne : markB ≠ [] ∧ ∀ x ∈ markB, x ≠ 47 := by decide
/-- where a Member stands -/
inductive At (m : Mb) : Prop
  | plain (hc : cls m = 1) (ht : tgt m = m.1) (hm : mayP m.1 = true) (h0 : m.1 ≠ [])
  | gone (hc : cls m = 2) (hm : mayP (tgt m) = true) (h0 : tgt m ≠ []) (hu : ∀ d, underP d m.1 = underP d (tgt m))
  | mark (hc : cls m = 3) (hm : mayP (tgt m) = true) (hu : ∀ d, underP d m.1 = (tgt m == d || underP d (tgt m)))
theorem at_of {m : Mb} (h : cls m = 1 ∨ cls m = 2 ∨ cls m = 3) : At m := by
  rcases told m.1 with ⟨hc, _⟩ | ⟨hc, hm, h0⟩ | ⟨t, hc, hw, hm, _⟩ | ⟨t, hc, ho, hm, _⟩ | ⟨hc, _, _⟩
  · unfold cls at h; rw [hc] at h; omega
  · exact .plain (by unfold cls; rw [hc]) (by unfold tgt; rw [hc]) hm h0
  · have ht : tgt m = t := by unfold tgt; rw [hc]
    have h1 : cls m = 2 := by unfold cls; rw [hc]
    have hp0 : m.1 ≠ [] := by
      intro e; rw [e] at hc; have h4 := kn_c4; rw [hc] at h4; cases h4
    have hg : ¬ (t.isEmpty || !mayP t) = true := by
      intro e
      unfold whiteoutP at hw
      rw [if_pos e] at hw
      exact hp0 hw.symm
    have h2 : mayP t = true ∧ t ≠ [] := by simpa [and_comm] using hg
    refine .gone h1 (by rw [ht]; exact h2.1) (by rw [ht]; exact h2.2) (fun d => ?_)
    have hbm := may_base h2.1 h2.2
    have hbn := mayN_ne hbm
    rw [ht, path_join h2.1 h2.2, under_join hbn.2 hbn.1]
    unfold whiteoutP at hw
    rw [if_neg hg, joinP_two] at hw
    rw [← hw]
    have e1 : (if parentP t = [] then whiteB ++ baseP t else if whiteB ++ baseP t = [] then parentP t else parentP t ++ 47 :: (whiteB ++ baseP t)) = if parentP t = [] then whiteB ++ baseP t else parentP t ++ 47 :: (whiteB ++ baseP t) := by
      rw [if_neg (c := whiteB ++ baseP t = []) (by simp [whiteB])]
    rw [e1, under_join (white_noSl hbn.2) (by simp [whiteB])]
  · have ht : tgt m = t := by unfold tgt; rw [hc]
    have h1 : cls m = 3 := by unfold cls; rw [hc]
    have hp0 : m.1 ≠ [] := by
      intro e; rw [e] at hc; have h4 := kn_c4; rw [hc] at h4; cases h4
    have hg : ¬ (!mayP t) = true := by
      intro e
      unfold opaqueP at ho
      rw [if_pos e] at ho
      exact hp0 ho.symm
    have h2 : mayP t = true := by simpa using hg
    refine .mark h1 (by rw [ht]; exact h2) (fun d => ?_)
    unfold opaqueP at ho
    rw [if_neg hg, joinP_two] at ho
    rw [ht, ← ho]
    have e1 : (if t = [] then markB else if markB = [] then t else t ++ 47 :: markB) = if t = [] then markB else t ++ 47 :: markB := by
      rw [if_neg (c := markB = []) markB_ne.1]
    rw [e1, under_join markB_ne.2 markB_ne.1]
  · unfold cls at h; rw [hc] at h; omega
/-- S LEADS from A to B -/
structure Leads (A B S : List Mb) : Prop where
  v : ValidC S
  res : ∀ x, x ∈ B ↔ (x ∈ A ∧ staysC S x.1 = true) ∨ x ∈ plainC S
end Go.Proofs.YtplafpokgpolkaaGreatDoor
/- CHANGESETS, plainly: what is told of two trees; nothing that leads there has fewer Members. -/
namespace Go.Proofs.YtplafpokgpolkaaGreatDoor
/-- what is in each Dir of either tree, each once -/
structure KidsOf (A B : List Mb) (ks : Tx → List Tx) : Prop where
  nd : ∀ d, (ks d).Nodup
  mem : ∀ d p, p ∈ ks d ↔ parentP p = d ∧ ((SM.look A p).isSome = true ∨ (SM.look B p).isSome = true)
theorem KidsOf.path {A B : List Mb} {ks : Tx → List Tx} (hk : KidsOf A B ks) (hA : WellL A) (hB : WellL B) {d c : Tx} (hc : c ∈ ks d) : mayP c = true ∧ c ≠ [] ∧ parentP c = d := by
  obtain ⟨h1, h2⟩ := (hk.mem d c).1 hc
  rcases h2 with h2 | h2
  · obtain ⟨v, hv⟩ := Option.isSome_iff_exists.1 h2
    obtain ⟨g1, g2⟩ := hA.path (SM.look_mem hv)
    exact ⟨g1, g2, h1⟩
  · obtain ⟨v, hv⟩ := Option.isSome_iff_exists.1 h2
    obtain ⟨g1, g2⟩ := hB.path (SM.look_mem hv)
    exact ⟨g1, g2, h1⟩
end Go.Proofs.YtplafpokgpolkaaGreatDoor
/- CHANGESETS, plainly: nothing that leads there has fewer Members than what is told. -/
namespace Go.Proofs.YtplafpokgpolkaaGreatDoor
theorem Leads.told {A B S : List Mb} (h : Leads A B S) {y : Mb} (hy : y ∈ B) (hn : ¬ (y ∈ A ∧ staysC S y.1 = true)) : y ∈ plainC S := ((h.res y).1 hy).resolve_left hn
end Go.Proofs.YtplafpokgpolkaaGreatDoor
/- CHANGESETS, plainly: what is told leads there. -/
namespace Go.Proofs.YtplafpokgpolkaaGreatDoor
/-- WHAT IS TOLD of a region: of paths p with R p -/
structure Good (A B l : List Mb) (R : Tx → Bool) (Q : Mb → Prop) : Prop where
  cl : ∀ m ∈ l, (cls m = 1 ∧ m ∈ B) ∨ (m.2 = bareN ∧ (cls m = 2 ∨ cls m = 3))
  rg : ∀ m ∈ l, Q m
  ab : ∀ m ∈ l, ∀ q ∈ aboveP m.1, R q = true → ∃ x ∈ l, x.1 = q ∧ x.2.kind = 1
  nd : l.Pairwise (fun x y => x.1 ≠ y.1)
  inn : ∀ p y, R p = true → (p, y) ∈ B → (p, y) ∈ l ∨ ((p, y) ∈ A ∧ ∀ m ∈ l, hits m p = false)
  out : ∀ p, R p = true → SM.look B p = none → SM.look A p = none ∨ ∃ m ∈ l, hits m p = true
theorem Good.at {A B l : List Mb} {R : Tx → Bool} {Q : Mb → Prop} (h : Good A B l R Q) {m : Mb} (hm : m ∈ l) : At m := at_of (by rcases h.cl m hm with ⟨e, _⟩ | ⟨_, e | e⟩ <;> omega)
end Go.Proofs.YtplafpokgpolkaaGreatDoor
/- portolanlaw19.Few: what it cuts, plainly. -/
namespace Go.Proofs.YtplafpokgpolkaaGreatDoor
/-- at most 19 slashes -/
def shortG : Tx → Nat → Tx
  | [], _ => []
  | c :: r, n => if c = 47 then (if n + 1 = 20 then [] else c :: shortG r (n + 1)) else c :: shortG r n
def shortS (p : Tx) : Tx := shortG (p.take 300) 0
def cutB (x : R2) : R2 := (x.1.take 40, x.2.take 200)
def cut19 (m : Mb) : Mb := (shortS m.1, { m.2 with link := m.2.link.take 40, data := m.2.data.take 40, attrs := (m.2.attrs.take 4).map cutB })
def few19 (l : List Mb) : List Mb := (l.take 14).map cut19
theorem shortG_len : ∀ (p : Tx) (n : Nat), (shortG p n).length ≤ p.length
  | [], _ => Nat.le_refl _
  | c :: r, n => by
    unfold shortG
    have h1 := shortG_len r (n + 1)
    have h2 := shortG_len r n
    split
    · split
      · simp
      · simp; exact h1
    · simp; exact h2
theorem shortG_cnt : ∀ (p : Tx) (n : Nat), n < 20 → (shortG p n).countP (· == 47) + n < 20
  | [], n, h => by unfold shortG; simpa using h
  | c :: r, n, h => by
    unfold shortG
    split
    · rename_i hc
      split
      · simpa using h
      · have h1 := shortG_cnt r (n + 1) (by omega)
        rw [List.countP_cons_of_pos (by simpa using hc)]
        omega
    · rename_i hc
      have h2 := shortG_cnt r n h
      rw [List.countP_cons_of_neg (by simpa using hc)]
      exact h2
theorem shortS_len (p : Tx) : (shortS p).length ≤ 300 := Nat.le_trans (shortG_len _ _) (List.length_take_le _ _)
theorem shortS_cnt (p : Tx) : (shortS p).countP (· == 47) < 20 := by have := shortG_cnt (p.take 300) 0 (by omega); unfold shortS; omega
/-- the walk's round: i letters are seen, n slashes among them -/
def ShAt (p : Tx) (i n : Nat) : Prop := n < 20 ∧ shortG p 0 = p.take i ++ shortG (p.drop i) n
theorem ShAt.start (p : Tx) : ShAt p 0 0 := ⟨by omega, by simp⟩
theorem ShAt.done {p : Tx} {n : Nat} (h : ShAt p p.length n) : shortG p 0 = p := by
  have := h.2
  rw [List.drop_length, List.take_length] at this
  rw [this]; unfold shortG; simp
theorem ShAt.next {p : Tx} {i n : Nat} (h : ShAt p i n) (hi : i < p.length) (hc : p[i] ≠ 47) : ShAt p (i + 1) n := by
  refine ⟨h.1, ?_⟩
  rw [h.2, List.drop_eq_getElem_cons hi, List.take_succ_eq_append_getElem hi]
  conv => lhs; unfold shortG
  rw [if_neg hc, List.append_assoc]; rfl
theorem ShAt.slash {p : Tx} {i n : Nat} (h : ShAt p i n) (hi : i < p.length) (hc : p[i] = 47) (hn : n + 1 ≠ 20) : ShAt p (i + 1) (n + 1) := by
  refine ⟨by have := h.1; omega, ?_⟩
  rw [h.2, List.drop_eq_getElem_cons hi, List.take_succ_eq_append_getElem hi]
  conv => lhs; unfold shortG
  rw [if_pos hc, if_neg hn, List.append_assoc]; rfl
theorem ShAt.stop {p : Tx} {i n : Nat} (h : ShAt p i n) (hi : i < p.length) (hc : p[i] = 47) (hn : n + 1 = 20) : shortG p 0 = p.take i := by
  rw [h.2, List.drop_eq_getElem_cons hi]
  conv => lhs; unfold shortG
  rw [if_pos hc, if_pos hn]; simp
theorem Kb.cutS {m : Mb} (h : Kb m) : Sm (cut19 m) := by
  refine ⟨?_, ?_, ?_, ?_, fun x hx => ?_, h⟩
  · exact Nat.le_trans (shortS_len _) (by omega)
  · exact Nat.le_trans (List.length_take_le _ _) (by omega)
  · exact Nat.le_trans (List.length_take_le _ _) (by omega)
  · show ((m.2.attrs.take 4).map cutB).length ≤ _
    rw [List.length_map]
    exact Nat.le_trans (List.length_take_le _ _) (by omega)
  · obtain ⟨y, hy, rfl⟩ := List.mem_map.1 (show x ∈ (m.2.attrs.take 4).map cutB from hx)
    exact ⟨Nat.le_trans (List.length_take_le _ _) (by omega), Nat.le_trans (List.length_take_le _ _) (by omega)⟩
theorem few19_sm {l : List Mb} (h : ∀ x ∈ l, Kb x) : ∀ x ∈ few19 l, Sm x := fun x hx => by
  obtain ⟨y, hy, rfl⟩ := List.mem_map.1 hx
  exact (h y ((List.take_sublist 14 l).subset hy)).cutS
theorem few19_len (l : List Mb) : (few19 l).length ≤ 14 := by
  unfold few19
  rw [List.length_map]
  exact List.length_take_le _ _
end Go.Proofs.YtplafpokgpolkaaGreatDoor
/- portolanlaw19.short: a path cut short. -/
namespace Go.Proofs.YtplafpokgpolkaaGreatDoor
open Go.RowKit
set_option maxHeartbeats 2000000 in
set_option maxRecDepth 100000 in
theorem short_any (p0 : Tx) (w : World) : Calls Tryz.prog 66 #[.string ⟨p0.toArray⟩] w fun e w' => e = .returned (.string ⟨(shortS p0).toArray⟩) ∧ w = w' := by
  obtain ⟨p, hpp⟩ : ∃ p, p = p0.take 300 := ⟨_, rfl⟩
  have hlen : min (p0.length : Int) 300 = ((min p0.length 300 : Nat) : Int) := by omega
  have hcut := run_slice_to (P := Tryz.prog) Tryz.underlying9 p0 .i64 (min p0.length 300) (Nat.min_le_left _ _)
  have htk : p0.take (min p0.length 300) = p := by rw [hpp, List.take_eq_take_iff]; omega
  rw [htk] at hcut
  have hps : p.length ≤ 300 := by rw [hpp]; exact List.length_take_le _ _
  have HS : Keep (shortS p0 = shortG p 0) := ⟨by unfold shortS; rw [hpp]⟩
  clear hpp htk
  generalize min p0.length 300 = m0 at *
  go_enter Tryz.func66, Tryz.ntmps66
  go_wp2_with fail
  go_loopg [3, 4] p.length (fun g u3 u4 wx => ∃ k n : Nat, k + g = p.length ∧ u3 = .int .i64 (n : Int) ∧ u4 = .int .i64 (k : Int) ∧ ShAt p k n ∧ w = wx)
  case atStart => exact ⟨0, 0, by omega, rfl, rfl, ShAt.start p, rfl⟩
  case round =>
    obtain ⟨k, n, hkg, rfl, rfl, hsh, rfl⟩ := hrel
    have HSH := Keep.keep hsh
    have hn20 : n < 20 := hsh.1
    clear hsh hcut hlen
    cases gk with
    | zero =>
      obtain rfl : k = p.length := by omega
      have HE : Keep (shortS p0 = p) := ⟨by rw [HS.out]; exact HSH.out.done⟩
      go_wp2_with fail
      go_ret
      exact ⟨by rw [HE.out]; rfl, rfl⟩
    | succ g =>
      have hk : k < p.length := by omega
      have hidx := run_index_str (P := Tryz.prog) Tryz.underlying9 ⟨p.toArray⟩ .i64 k p[k] (by simp [hk])
      have hgi : (⟨p.toArray⟩ : ByteArray)[k]'(hk) = p[k] := rfl
      by_cases h47 : p[k] = 47
      · by_cases hq : n + 1 = 20
        · have HE : Keep (shortS p0 = p.take k) := ⟨by rw [HS.out]; exact HSH.out.stop hk h47 hq⟩
          have hsl := run_slice_to (P := Tryz.prog) Tryz.underlying9 p .i64 k (by omega)
          obtain rfl : n = 19 := by omega
          rw [h47] at hidx hgi
          clear h47 hq
          go_wp2_with fail
          go_ret
          exact ⟨by rw [HE.out]; rfl, rfl⟩
        · have HST := Keep.keep (HSH.out.slash hk h47 hq)
          have hq2 : (((n : Int) + 1) == 20) = false := by rw [beq_eq_false_iff_ne]; omega
          rw [h47] at hidx hgi
          clear h47 hq
          go_wp2_with fail
          go_roundg g
          case measure => omega
          case rel => exact ⟨k + 1, n + 1, by omega, by simp, by simp, HST.out, rfl⟩
      · have HST := Keep.keep (HSH.out.next hk h47)
        have hn47 : ((p[k].toNat : Int) == 47) = false := by
          rw [beq_eq_false_iff_ne]; intro e; exact h47 (UInt8.toNat_inj.1 (by show p[k].toNat = 47; omega))
        have hq2 : ((n : Int) == 20) = false := by rw [beq_eq_false_iff_ne]; omega
        clear h47
        generalize p[k] = c at *
        go_wp2_with fail
        go_roundg g
        case measure => omega
        case rel => exact ⟨k + 1, n, by omega, by simp, by simp, HST.out, rfl⟩
end Go.Proofs.YtplafpokgpolkaaGreatDoor
/- portolanlaw19.Few: single operations. -/
namespace Go.Proofs.YtplafpokgpolkaaGreatDoor
open Go.RowKit
theorem shortG_idem : ∀ (p : Tx) (n : Nat), shortG (shortG p n) n = shortG p n
  | [], n => by unfold shortG; rfl
  | c :: r, n => by
    have h1 := shortG_idem r (n + 1)
    have h2 := shortG_idem r n
    by_cases hc : c = 47
    · by_cases hn : n + 1 = 20
      · have e : shortG (c :: r) n = [] := by unfold shortG; rw [if_pos hc, if_pos hn]
        rw [e]; unfold shortG; rfl
      · have e : ∀ s, shortG (c :: s) n = c :: shortG s (n + 1) := fun s => by
          conv => lhs; unfold shortG
          rw [if_pos hc, if_neg hn]
        rw [e, e, h1]
    · have e : ∀ s, shortG (c :: s) n = c :: shortG s n := fun s => by
        conv => lhs; unfold shortG
        rw [if_neg hc]
      rw [e, e, h2]
theorem shortS_idem (p : Tx) : shortS (shortS p) = shortS p := by
  have h := shortS_len p
  unfold shortS at h ⊢
  rw [List.take_of_length_le h, shortG_idem]
def WasP (p q : Tx) : Prop := q = p ∨ q = shortS p
theorem WasP.cut {p q : Tx} (h : WasP p q) : shortS q = shortS p := by
  rcases h with rfl | rfl
  · rfl
  · exact shortS_idem p
def WasK (s q : Tx) : Prop := q = s ∨ q = s.take 40
theorem WasK.mn {s q : Tx} (h : WasK s q) : min (q.length : Int) 40 = min (s.length : Int) 40 := by
  rcases h with rfl | rfl
  · rfl
  · rw [List.length_take]; omega
theorem WasK.le {s q : Tx} (h : WasK s q) : min s.length 40 ≤ q.length := by
  rcases h with rfl | rfl
  · omega
  · rw [List.length_take]; omega
theorem WasK.cut {s q : Tx} (h : WasK s q) : q.take (min s.length 40) = s.take 40 := by
  rcases h with rfl | rfl
  · rw [List.take_eq_take_iff]; omega
  · rw [List.take_take, List.take_eq_take_iff]; omega
def WasM (n m : Nat) : Prop := m = n ∨ m = min n 40
theorem WasM.mn {n m : Nat} (h : WasM n m) : min (m : Int) 40 = ((min n 40 : Nat) : Int) := by rcases h with rfl | rfl <;> omega
section
variable {ρ : Operand → Value} {d : Option Tmp} {x y : Operand} {t : TypeId} {pos : String} {af : Array Edge} {g : Option (Nat × Bool)} {w : World}
theorem run_lenV {a : Option Addr} {n cap : Nat} (hx : ρ x = .slice a n cap) : (execOp ρ (⟨d, .call ⟨.builtin .len, #[x], #[28]⟩, t, pos, af, g⟩ : Oper)).run Tryz.prog w = .ok (.value (.int .i64 (n : Int))) w := by
  simp [execOp, resolve, invoke, builtin, Builtin.len_, hx, run_underlying Tryz.underlying28]
  rfl
theorem run_sliceV {a : Option Addr} {n cap i : Nat} (hi : i ≤ cap) (hx : ρ x = .slice a n cap) (hy : ρ y = .int .i64 (i : Int)) : (execOp ρ (⟨d, .slice 28 x none (some y) none, t, pos, af, g⟩ : Oper)).run Tryz.prog w = .ok (.value (.slice a i cap)) w := by
  have := slice_to (P := Tryz.prog) slBy a n cap i .i64 hi w
  simp [execOp, Instr.sliceAt, hx, hy, this]
theorem run_storeV {a : Option Addr} {n cap : Nat} {b off : Nat} (hc : ∃ v, w.cell? ⟨b, off, none⟩ = some v) (hf : w.frozen? ⟨b, off, none⟩ = false) (hx : ρ x = .pointer (some ⟨b, off, none⟩)) (hy : ρ y = .slice a n cap) :
    (execOp ρ (⟨d, .store 28 x y, t, pos, af, g⟩ : Oper)).run Tryz.prog w = .ok .skip (w.setCell ⟨b, off, none⟩ (.slice a n cap)) := by
  obtain ⟨v, hc⟩ := hc
  have hz : (sizeOf 28).run Tryz.prog w = .ok 1 w := by kernel_rfl
  simp [go_sem, execOp, hx, hy, hz, hc, hf, Instr.storeAt, storeCells]
end
/-- the row of m, whose path, Data and link are under way -/
def fsR (kind mode uid gid time : Int) (av : Value) (ad : Option Addr) (m cd : Nat) (q k : Tx) : Array Value := #[.string ⟨q.toArray⟩, .int .i64 kind, .int .u32 mode, .int .u32 uid, .int .u32 gid, .int .i64 time, av, .slice ad m cd, .string ⟨k.toArray⟩]
def fsT (B : Nat) (p k : Tx) (ad : Option Addr) (ld cd : Nat) : Nat → Value → World → Prop
  | 1, v, _ => ∃ q, v = .string ⟨q.toArray⟩ ∧ WasP p q
  | 2, v, _ => v = .string ⟨(shortS p).toArray⟩
  | 5, v, _ => ∃ q, v = .string ⟨q.toArray⟩ ∧ WasK k q
  | 8, v, _ => ∃ q, v = .string ⟨q.toArray⟩ ∧ WasK k q
  | 9, v, _ => ∃ q, v = .int .i64 (q.length : Int) ∧ WasK k q
  | 10, v, _ => v = .int .i64 ((min k.length 40 : Nat) : Int)
  | 11, v, _ => v = .string ⟨(k.take 40).toArray⟩
  | 14, v, _ => ∃ m, v = .slice ad m cd ∧ WasM ld m
  | 17, v, _ => ∃ m, v = .slice ad m cd ∧ WasM ld m
  | 18, v, _ => ∃ m : Nat, v = .int .i64 (m : Int) ∧ WasM ld m
  | 19, v, _ => v = .int .i64 ((min ld 40 : Nat) : Int)
  | 20, v, _ => v = .slice ad (min ld 40) cd
  | 22, _, w => w.cell? ⟨B, 0, none⟩ = some (.string ⟨(shortS p).toArray⟩)
  | 25, _, w => w.cell? ⟨B, 8, none⟩ = some (.string ⟨(k.take 40).toArray⟩)
  | 28, _, w => w.cell? ⟨B, 7, none⟩ = some (.slice ad (min ld 40) cd)
  | 0, v, _ => v = .pointer (some ⟨B, 0, none⟩)
  | 21, v, _ => v = .pointer (some ⟨B, 0, none⟩)
  | 3, v, _ => v = .pointer (some ⟨B, 1, none⟩)
  | 6, v, _ => v = .pointer (some ⟨B, 1, none⟩)
  | 12, v, _ => v = .pointer (some ⟨B, 1, none⟩)
  | 15, v, _ => v = .pointer (some ⟨B, 1, none⟩)
  | 23, v, _ => v = .pointer (some ⟨B, 1, none⟩)
  | 26, v, _ => v = .pointer (some ⟨B, 1, none⟩)
  | 4, v, _ => v = .pointer (some ⟨B, 8, none⟩)
  | 7, v, _ => v = .pointer (some ⟨B, 8, none⟩)
  | 24, v, _ => v = .pointer (some ⟨B, 8, none⟩)
  | _, v, _ => v = .pointer (some ⟨B, 7, none⟩)
def fsS (B : Nat) (p k : Tx) (ad : Option Addr) (ld cd : Nat) (w w' : World) : Prop :=
  (w.cell? ⟨B, 0, none⟩ = some (.string ⟨(shortS p).toArray⟩) → w'.cell? ⟨B, 0, none⟩ = some (.string ⟨(shortS p).toArray⟩)) ∧ (w.cell? ⟨B, 8, none⟩ = some (.string ⟨(k.take 40).toArray⟩) → w'.cell? ⟨B, 8, none⟩ = some (.string ⟨(k.take 40).toArray⟩)) ∧
  (w.cell? ⟨B, 7, none⟩ = some (.slice ad (min ld 40) cd) → w'.cell? ⟨B, 7, none⟩ = some (.slice ad (min ld 40) cd))
theorem fsS.refl (B : Nat) (p k : Tx) (ad : Option Addr) (ld cd : Nat) (w : World) : fsS B p k ad ld cd w w := ⟨fun h => h, fun h => h, fun h => h⟩
theorem fsT_stays {B : Nat} {p k : Tx} {ad : Option Addr} {ld cd : Nat} (i : Nat) (v : Value) (w w' : World) (h : fsT B p k ad ld cd i v w) (hs : fsS B p k ad ld cd w w') : fsT B p k ad ld cd i v w' := by
  by_cases e : i = 22
  · subst e; exact hs.1 h
  · by_cases e2 : i = 25
    · subst e2; exact hs.2.1 h
    · by_cases e3 : i = 28
      · subst e3; exact hs.2.2 h
      · unfold fsT at h ⊢
        split at h <;> first | exact h | omega
def fsC (W : World) (B : Nat) (kind mode uid gid time : Int) (av : Value) (ad : Option Addr) (ld cd : Nat) (p k : Tx) (w : World) : Prop :=
  Chg (fun b => b = B) W.heap.size W w ∧ ∃ q j m, WasP p q ∧ WasK k j ∧ WasM ld m ∧ Row w B 32 (fsR kind mode uid gid time av ad m cd q j)
/-- attributes, cut -/
theorem slice_ato (a : Option Addr) (n cap i : Nat) (k : IntKind) (hi : i ≤ cap) (w : World) : (Instr.slice 27 (.slice a n cap) none (some (.int k (i : Int))) none).run Tryz.prog w = .ok (.slice a i cap) w := by
  have he : Tryz.prog.elem 27 = 97 := by simp [Program.elem, Tryz.underlying27]
  have hs : ∀ w, (sizeOf 97).run Tryz.prog w = .ok 2 w := fun w => by kernel_rfl
  rw [run_slice_h w 27 a n cap (by rw [he]; exact Tryz.underlying27) k (i : Int) (by omega) (by omega), he, hs]
  have ha : a.map (·.add 0) = a := by
    cases a <;> simp [Addr.add]
  simp [Result.andThen, sliced, ha]
set_option maxRecDepth 100000 in
theorem rcells_take (l : List R2) (i : Nat) : rcells (l.take i) = (rcells l).take (i * 2) := by
  induction l generalizing i with
  | nil => simp [rcells]
  | cons x l ih =>
    cases i with
    | zero => simp [rcells]
    | succ i => rw [List.take_succ_cons, rcells_cons, rcells_cons, ih, show (i + 1) * 2 = i * 2 + 1 + 1 by omega, List.take_succ_cons, List.take_succ_cons]
theorem RdV.take2 {w : World} {N : Nat → Prop} {a : Option Addr} {n cap : Nat} {l : List R2} (h : RdV w N 2 (.slice a n cap) l.length (rcells l)) (i : Nat) (hi : i ≤ l.length) : RdV w N 2 (.slice a i cap) (l.take i).length (rcells (l.take i)) := by
  obtain ⟨hl, ⟨a0, cap0, he0, g1, g2, g3⟩, hc⟩ := h
  injection he0 with e1 e2 e3
  subst e1 e2 e3
  have hl' : (l.take i).length = i := by rw [List.length_take]; omega
  refine ⟨rcells_length _, ⟨a, cap, by rw [hl'], by omega, g2, g3⟩, fun b off m c he1 j u hj => ?_⟩
  injection he1 with e1 e2 e3
  subst e1 e3
  refine hc b off _ _ rfl j u ?_
  rw [rcells_take] at hj
  have hlt := (List.getElem?_eq_some_iff.1 hj).1
  rw [List.getElem?_take_of_lt (by simp at hlt; omega)] at hj
  exact hj
theorem rcells_at (l : List R2) (i j : Nat) (hj : j < 2) : (rcells l)[i * 2 + j]? = (l[i]?).bind fun x => [strV x.1, strV x.2][j]? := by
  induction l generalizing i with
  | nil => simp [rcells]
  | cons x l ih =>
    rw [rcells_cons]
    cases i with
    | zero =>
      rcases (by omega : j = 0 ∨ j = 1) with rfl | rfl <;> rfl
    | succ i =>
      rw [show (i + 1) * 2 + j = (i * 2 + j) + 1 + 1 by omega, List.getElem?_cons_succ, List.getElem?_cons_succ, ih]
      rfl
theorem layAt_rcells (l : List R2) (k : Nat) (x : R2) (hk : k < l.length) : layAt (rcells l) (k * 2) [strV x.1, strV x.2] = rcells (l.set k x) := by
  refine List.ext_getElem? fun i => ?_
  rw [layAt_get _ _ _ _ (by rw [rcells_length]; simp; omega)]
  have hi : i = i / 2 * 2 + i % 2 := by omega
  by_cases h : k * 2 ≤ i ∧ i < k * 2 + [strV x.1, strV x.2].length
  · rw [if_pos h]
    have hl : [strV x.1, strV x.2].length = 2 := rfl
    have hd : i / 2 = k := by omega
    conv => rhs; rw [hi, rcells_at _ _ _ (Nat.mod_lt _ (by omega)), hd]
    rw [List.getElem?_set_self hk, show i - k * 2 = i % 2 by omega]
    rfl
  · rw [if_neg h]
    have hl : [strV x.1, strV x.2].length = 2 := rfl
    conv => lhs; rw [hi, rcells_at _ _ _ (Nat.mod_lt _ (by omega))]
    conv => rhs; rw [hi, rcells_at _ _ _ (Nat.mod_lt _ (by omega))]
    rw [List.getElem?_set_ne (by omega)]
/-- ARM: an attribute laid into a row of one's own -/
theorem arm_setAt {ops : Array Oper} {rest : List Oper} {a : Act} {w : World} {Q : Exit → Act → World → Prop} {tp : TypeId} {dst : Option Tmp} {x y : Operand} {pos : String} {after : Array Edge} {base g cap n k : Nat} {l : List R2} (m : R2)
    (ho : w.ownsRow base 97 2 (.slice (some ⟨g, 0, none⟩) n cap) n (rcells l)) (hn : n = l.length) (hk : k < l.length) (hx : a.eval x = .pointer (some ⟨g, k * 2, none⟩)) (hy : a.eval y = .agg #[strV m.1, strV m.2])
    (h : ∀ w', w'.ownsRow base 97 2 (.slice (some ⟨g, 0, none⟩) n cap) n (rcells (l.set k m)) → w.grownBy w' (some g) → wpList Tryz.prog ops Q rest (a.put dst undef) w') :
    wpList Tryz.prog ops Q (⟨dst, .store 97 x y, tp, pos, after, none⟩ :: rest) a w := by
  have ht : w.there g (k * 2) 2 := fun j hj => by
    refine ⟨?_, ho.frozenAt _⟩
    rw [ho.cellAt _ (by omega), rcells_at _ _ _ hj, List.getElem?_eq_getElem hk]
    rcases (by omega : j = 0 ∨ j = 1) with rfl | rfl <;> rfl
  have hst := run_storeAt_mid (P := Tryz.prog) w g (k * 2) 97 #[strV m.1, strV m.2] ht (by kernel_rfl) (by simp [strV, Value.oneCell'])
  have h2 := owns_setCells [strV m.1, strV m.2] _ w (k * 2) ho
  rw [layAt_rcells l k m hk] at h2
  refine wpList_skip rfl ?_ (h _ h2.1 h2.2)
  simp [execOp, hx, hy, hst]
theorem own_loadAtA {base g cap n k : Nat} {w : World} {l : List R2} (h : w.ownsRow base 97 2 (.slice (some ⟨g, 0, none⟩) n cap) n (rcells l)) (hn : n = l.length) {x : R2} (hx : l[k]? = some x) : (Instr.loadAt 97 (.pointer (some ⟨g, k * 2, none⟩))).run Tryz.prog w = .ok (.agg #[strV x.1, strV x.2]) w := by
  have hk := (List.getElem?_eq_some_iff.1 hx).1
  have := run_loadAt_mid (P := Tryz.prog) w g (k * 2) 97 [strV x.1, strV x.2] _ (fun j z hj => by
    have hlt := (List.getElem?_eq_some_iff.1 hj).1
    have hlt : j < 2 := hlt
    rw [h.cellAt _ (by omega), rcells_at _ _ _ hlt, hx]
    exact hj) Tryz.underlying97 rfl (by kernel_rfl)
  simpa using this
end Go.Proofs.YtplafpokgpolkaaGreatDoor
/- MEMBERS SORTED by rising paths, of one path the first one: the law's own sorting, plainly. -/
namespace Go.Proofs.YtplafpokgpolkaaGreatDoor
def insS (out : List Mb) (m : Mb) : List Mb := if (SM.look out m.1).isSome = true then out else SM.put out m
def sortedS (l : List Mb) : List Mb := l.foldl insS []
theorem insS_srt {out : List Mb} (h : SM.Srt out) (m : Mb) : SM.Srt (insS out m) := by
  unfold insS
  split
  · exact h
  · exact h.put m
theorem insS_len {out : List Mb} (h : SM.Srt out) (m : Mb) : (insS out m).length ≤ out.length + 1 := by
  unfold insS
  split
  · omega
  · rw [h.length_put]
    split <;> omega
theorem insS_mem {out : List Mb} {m x : Mb} (h : x ∈ insS out m) : x ∈ out ∨ x = m := by
  unfold insS at h
  split at h
  · exact .inl h
  · rcases SM.mem_put.1 h with h | h
    · exact .inr h
    · exact .inl h.1
theorem foldS (l : List Mb) : ∀ t : List Mb, SM.Srt t → SM.Srt (l.foldl insS t) ∧ (l.foldl insS t).length ≤ t.length + l.length ∧ ∀ x ∈ l.foldl insS t, x ∈ t ∨ x ∈ l := by
  induction l with
  | nil => intro t h; exact ⟨h, Nat.le_refl _, fun x hx => .inl hx⟩
  | cons m l ih =>
    intro t h
    obtain ⟨h1, h2, h3⟩ := ih (insS t m) (insS_srt h m)
    have := insS_len h m
    refine ⟨h1, by rw [List.length_cons, List.foldl_cons]; omega, fun x hx => ?_⟩
    rcases h3 x hx with h4 | h4
    · rcases insS_mem h4 with h5 | h5
      · exact .inl h5
      · exact .inr (by simp [h5])
    · exact .inr (by simp [h4])
theorem sortedS_srt (l : List Mb) : SM.Srt (sortedS l) := (foldS l [] SM.Srt.nil).1
end Go.Proofs.YtplafpokgpolkaaGreatDoor
/- MEMBERS GROWN, plainly: sorted by a stable sort, of one path the first one: as if each were put where it belongs unless its path is there. -/
namespace Go.Proofs.YtplafpokgpolkaaGreatDoor
/-- of neighbours of one path the first one -/
def compK : List Mb → List Mb
  | [] => []
  | [x] => [x]
  | x :: y :: r => if x.1 = y.1 then compK (x :: r) else x :: compK (y :: r)
termination_by l => l.length
theorem look_cons (x : Mb) (L : List Mb) (p : Tx) : SM.look (x :: L) p = if x.1 = p then some x.2 else SM.look L p := by
  unfold SM.look
  by_cases h : x.1 = p
  · rw [List.find?_cons_of_pos (by simpa using h), if_pos h]; rfl
  · rw [List.find?_cons_of_neg (by simpa using h), if_neg h]
theorem look_comp : ∀ (n : Nat) (L : List Mb), L.length ≤ n → ∀ p, SM.look (compK L) p = SM.look L p
  | _, [], _, _ => by unfold compK; rfl
  | _, [x], _, _ => by unfold compK; rfl
  | 0, _ :: _ :: _, h, _ => by simp at h
  | n + 1, x :: y :: r, h, p => by
    have hl : (x :: r).length ≤ n := by simp at h ⊢; omega
    have hl2 : (y :: r).length ≤ n := by simp at h ⊢; omega
    unfold compK
    split
    · rename_i e
      rw [look_comp n (x :: r) hl p, look_cons, look_cons x (y :: r), look_cons y r]
      by_cases hp : x.1 = p
      · rw [if_pos hp, if_pos hp]
      · rw [if_neg hp, if_neg hp, if_neg (fun h2 => hp (e.trans h2))]
    · rw [look_cons, look_cons x (y :: r), look_comp n (y :: r) hl2 p]
theorem comp_sub : ∀ (n : Nat) (L : List Mb), L.length ≤ n → (compK L).Sublist L
  | _, [], _ => by unfold compK; exact List.Sublist.refl _
  | _, [x], _ => by unfold compK; exact List.Sublist.refl _
  | 0, _ :: _ :: _, h => by simp at h
  | n + 1, x :: y :: r, h => by
    have hl : (x :: r).length ≤ n := by simp at h ⊢; omega
    have hl2 : (y :: r).length ≤ n := by simp at h ⊢; omega
    unfold compK
    split
    · exact (comp_sub n (x :: r) hl).trans (List.Sublist.cons_cons x (List.sublist_cons_self y r))
    · exact List.Sublist.cons_cons x (comp_sub n (y :: r) hl2)
theorem comp_srt : ∀ (n : Nat) (L : List Mb), L.length ≤ n → L.Pairwise (fun a b => a.1 ≤ b.1) → SM.Srt (compK L)
  | _, [], _, _ => by unfold compK; exact SM.Srt.nil
  | _, [x], _, _ => by unfold compK; exact List.pairwise_singleton _ _
  | 0, _ :: _ :: _, h, _ => by simp at h
  | n + 1, x :: y :: r, h, hs => by
    have hl : (x :: r).length ≤ n := by simp at h ⊢; omega
    have hl2 : (y :: r).length ≤ n := by simp at h ⊢; omega
    obtain ⟨h1, h2⟩ := List.pairwise_cons.1 hs
    obtain ⟨h3, h4⟩ := List.pairwise_cons.1 h2
    unfold compK
    split
    · exact comp_srt n (x :: r) hl (List.pairwise_cons.2 ⟨fun z hz => h1 z (List.mem_cons_of_mem _ hz), h4⟩)
    · rename_i e
      refine List.pairwise_cons.2 ⟨fun z hz => ?_, comp_srt n (y :: r) hl2 h2⟩
      have hz := (comp_sub n (y :: r) hl2).subset hz
      have hxy : x.1 < y.1 := by
        rcases tx_tri x.1 y.1 with g | g | g
        · exact g
        · exact (e g).elim
        · exact (List.not_le.2 g (h1 y List.mem_cons_self)).elim
      rcases List.mem_cons.1 hz with rfl | hz
      · exact hxy
      · rcases tx_tri y.1 z.1 with g | g | g
        · exact tx_trans hxy g
        · exact g ▸ hxy
        · exact (List.not_le.2 g (h3 z hz)).elim
/-- the stable sort by paths -/
def sortM (L : List Mb) : List Mb := L.mergeSort (leK fun x : Mb => x.1)
theorem sortM_le (L : List Mb) : (sortM L).Pairwise (fun a b => a.1 ≤ b.1) := by
  have := List.pairwise_mergeSort (le := leK fun x : Mb => x.1) (fun a b c h1 h2 => decide_eq_true (List.le_trans (of_decide_eq_true h1) (of_decide_eq_true h2))) (fun a b => by
    rcases List.le_total a.1 b.1 with e | e
    · simp [leK, e]
    · simp [leK, e]) L
  exact List.Pairwise.imp (fun h => of_decide_eq_true h) this
theorem look_sortM (L : List Mb) (p : Tx) : SM.look (sortM L) p = SM.look L p := by
  have h1 : (L.filter fun x => x.1 == p).Sublist (sortM L) := by
    refine List.sublist_mergeSort (le := leK fun x : Mb => x.1) (fun a b c h1 h2 => decide_eq_true (List.le_trans (of_decide_eq_true h1) (of_decide_eq_true h2))) (fun a b => by
      rcases List.le_total a.1 b.1 with e | e
      · simp [leK, e]
      · simp [leK, e]) ?_ List.filter_sublist
    refine List.Pairwise.imp_of_mem (R := fun _ _ => True) (fun {a b} ha hb _ => ?_) (by simp [List.pairwise_iff_getElem])
    have ea : a.1 = p := by simpa using (List.mem_filter.1 ha).2
    have eb : b.1 = p := by simpa using (List.mem_filter.1 hb).2
    show decide (a.1 ≤ b.1) = true
    rw [ea, eb]
    simp
  have h2 : (L.filter fun x => x.1 == p) = (sortM L).filter fun x => x.1 == p := by
    have h3 := h1.filter (fun x => x.1 == p)
    rw [List.filter_filter] at h3
    simp only [Bool.and_self] at h3
    refine h3.eq_of_length ?_
    have := (List.mergeSort_perm L (leK fun x : Mb => x.1)).countP_eq (fun x => x.1 == p)
    rw [List.countP_eq_length_filter, List.countP_eq_length_filter] at this
    exact this.symm
  have h4 : ∀ K : List Mb, SM.look K p = ((K.filter fun x => x.1 == p).head?).map (·.2) := fun K => by
    unfold SM.look
    rw [List.head?_filter]
  rw [h4, h4, h2]
theorem look_app (L K : List Mb) (p : Tx) : SM.look (L ++ K) p = (SM.look L p).or (SM.look K p) := by
  unfold SM.look
  rw [List.find?_append]
  cases L.find? (fun x => x.1 == p) <;> simp
theorem look_insS {out : List Mb} (h : SM.Srt out) (m : Mb) (p : Tx) : SM.look (insS out m) p = (SM.look out p).or (SM.look [m] p) := by
  have h1 : SM.look [m] p = if m.1 = p then some m.2 else none := by rw [look_cons]; rfl
  rw [h1]
  unfold insS
  split
  · rename_i hi
    by_cases e : m.1 = p
    · rw [e] at hi
      obtain ⟨v, hv⟩ := Option.isSome_iff_exists.1 hi
      rw [hv]; rfl
    · rw [if_neg e]; simp
  · rename_i hi
    rw [h.look_put]
    by_cases e : m.1 = p
    · rw [if_pos e.symm, if_pos e]
      have : SM.look out p = none := by
        rw [e] at hi
        cases hx : SM.look out p with
        | none => rfl
        | some v => rw [hx] at hi; exact (hi rfl).elim
      rw [this]; rfl
    · rw [if_neg (fun e2 => e e2.symm), if_neg e]; simp
theorem look_foldS : ∀ (l t : List Mb), SM.Srt t → ∀ p, SM.look (l.foldl insS t) p = (SM.look t p).or (SM.look l p)
  | [], t, _, p => by simp [SM.look]
  | m :: l, t, h, p => by
    rw [List.foldl_cons, look_foldS l (insS t m) (insS_srt h m) p, look_insS h, Option.or_assoc]
    congr 1
    exact (look_app [m] l p).symm
theorem look_sortedS (l : List Mb) (p : Tx) : SM.look (sortedS l) p = SM.look l p := by
  unfold sortedS
  rw [look_foldS l [] SM.Srt.nil p]
  rfl
/-- GROWN -/
theorem comp_sorted (L : List Mb) : compK (sortM L) = sortedS L :=
  (comp_srt _ _ (Nat.le_refl _) (sortM_le L)).ext (sortedS_srt L) (fun p => by rw [look_comp _ _ (Nat.le_refl _), look_sortM, look_sortedS])
end Go.Proofs.YtplafpokgpolkaaGreatDoor
/- slices.CompactFunc, plainly: what differs from what stands ahead of it. -/
namespace Go.Proofs.YtplafpokgpolkaaGreatDoor
section
variable {α : Type} (k : α → Tx)
/-- what stays behind one of key p -/
def keepA (p : Tx) : List α → List α
  | [] => []
  | y :: r => if k y = p then keepA (k y) r else y :: keepA (k y) r
def compA : List α → List α
  | [] => []
  | x :: r => x :: keepA k (k x) r
variable {k}
theorem compA_cons (x : α) (r : List α) : compA k (x :: r) = x :: keepA k (k x) r := rfl
theorem keepA_cons (p : Tx) (y : α) (r : List α) : keepA k p (y :: r) = if k y = p then keepA k (k y) r else y :: keepA k (k y) r := rfl
theorem keepA_snoc : ∀ (l : List α) (p : Tx) (y : α), keepA k p (l ++ [y]) = keepA k p l ++ (if k y = ((l.getLast?.map k).getD p) then [] else [y])
  | [], p, y => by
    rw [List.nil_append, keepA_cons]
    show _ = [] ++ (if k y = p then [] else [y])
    by_cases h : k y = p
    · rw [if_pos h, if_pos h]; rfl
    · rw [if_neg h, if_neg h]; rfl
  | x :: r, p, y => by
    rw [List.cons_append, keepA_cons, keepA_cons]
    have e : (((x :: r).getLast?).map k).getD p = ((r.getLast?).map k).getD (k x) := by
      cases r with
      | nil => rfl
      | cons z s => rw [List.getLast?_cons_cons, List.getLast?_eq_some_getLast (List.cons_ne_nil z s)]; rfl
    rw [keepA_snoc r (k x) y, e]
    split
    · rfl
    · rfl
/-- one more -/
theorem compA_snoc (l : List α) (x y : α) : compA k ((l ++ [x]) ++ [y]) = compA k (l ++ [x]) ++ (if k y = k x then [] else [y]) := by
  cases l with
  | nil => simp [compA, keepA]
  | cons z r =>
    rw [List.cons_append, List.cons_append]
    rw [compA_cons, compA_cons, keepA_snoc, List.getLast?_append]
    rfl
theorem compA_take (l : List α) (j : Nat) (h0 : 0 < j) (hj : j < l.length) : compA k (l.take (j + 1)) = compA k (l.take j) ++ (if k l[j] = k l[j - 1] then [] else [l[j]]) := by
  obtain ⟨i, rfl⟩ : ∃ i, j = i + 1 := ⟨j - 1, by omega⟩
  rw [List.take_succ_eq_append_getElem hj, List.take_succ_eq_append_getElem (i := i) (by omega), compA_snoc]
  rfl
theorem compA_one (l : List α) : compA k (l.take 1) = l.take 1 := by
  cases l with
  | nil => rfl
  | cons x r => rfl
theorem compA_map {β : Type} (f : β → α) (l : List β) : (compA (fun x => k (f x)) l).map f = compA k (l.map f) := by
  have h : ∀ (r : List β) (p : Tx), (keepA (fun x => k (f x)) p r).map f = keepA k p (r.map f) := by
    intro r
    induction r with
    | nil => intro p; rfl
    | cons y r ih =>
      intro p
      rw [List.map_cons, keepA_cons, keepA_cons]
      split
      · exact ih _
      · rw [List.map_cons, ih]
  cases l with
  | nil => rfl
  | cons x r => rw [compA_cons, List.map_cons, List.map_cons, compA_cons, h]
end
/-- of neighbours of one path the first one -/
theorem compA_is : ∀ (n : Nat) (L : List Mb), L.length ≤ n → compA (·.1) L = compK L
  | _, [], _ => by unfold compK; rfl
  | _, [x], _ => by unfold compK; rfl
  | 0, _ :: _ :: _, h => by simp at h
  | n + 1, x :: y :: r, h => by
    have h1 := compA_is n (x :: r) (by simp at h ⊢; omega)
    have h2 := compA_is n (y :: r) (by simp at h ⊢; omega)
    unfold compK
    split
    · rename_i e
      rw [← h1]
      rw [compA_cons, compA_cons, keepA_cons, if_pos e.symm, e]
    · rename_i e
      rw [← h2]
      rw [compA_cons, compA_cons, keepA_cons, if_neg (fun g => e g.symm)]
end Go.Proofs.YtplafpokgpolkaaGreatDoor
/- change.bare. -/
namespace Go.Proofs.YtplafpokgpolkaaGreatDoor
open Go.RowKit
set_option maxHeartbeats 4000000 in
set_option maxRecDepth 100000 in
theorem bare_any (n : Nd) (av dv : Value) (w : World) (hr : NdR w (· < w.heap.size) n av dv) : Calls Tryz.prog 76 #[.agg (ndC n av dv)] w fun e w' => e = .returned (.bool (bareB n)) ∧ Below w.heap.size w w' := by
  obtain ⟨aa, ca, e1, -⟩ := hr.at_.shape
  obtain ⟨ad, cd, e2, -⟩ := hr.dt.shape
  subst e1 e2
  clear hr
  obtain ⟨kind, mode, uid, gid, time, attrs, data, link⟩ := n
  have HX : Keep (bareB ⟨kind, mode, uid, gid, time, attrs, data, link⟩ = ((kind == 2) && (mode == 0) && (uid == 0) && (gid == 0) && (time == 0) && ((attrs.length : Int) == 0) && ((data.length : Int) == 0) && (link == []))) := ⟨by
    unfold bareB
    have g : ∀ x : Nat, ((x : Int) == 0) = decide (x = 0) := fun x => by
      rw [Bool.eq_iff_iff, beq_iff_eq, decide_eq_true_eq]; omega
    rw [g, g]
    rfl⟩
  generalize bareB ⟨kind, mode, uid, gid, time, attrs, data, link⟩ = out at *
  have HNC : Keep (ndC ⟨kind, mode, uid, gid, time, attrs, data, link⟩ (.slice aa attrs.length ca) (.slice ad data.length cd) = #[.int .i64 kind, .int .u32 mode, .int .u32 uid, .int .u32 gid, .int .i64 time, .slice aa attrs.length ca, .slice ad data.length cd, .string ⟨link.toArray⟩]) := ⟨rfl⟩
  simp only
  rw [HNC.out]
  generalize attrs.length = la at *
  generalize data.length = ld at *
  obtain ⟨b0, h0⟩ : ∃ b, (kind == 2) = b := ⟨_, rfl⟩
  obtain ⟨b1, h1⟩ : ∃ b, (mode == 0) = b := ⟨_, rfl⟩
  obtain ⟨b2, h2⟩ : ∃ b, (uid == 0) = b := ⟨_, rfl⟩
  obtain ⟨b3, h3⟩ : ∃ b, (gid == 0) = b := ⟨_, rfl⟩
  obtain ⟨b4, h4⟩ : ∃ b, (time == 0) = b := ⟨_, rfl⟩
  obtain ⟨b5, h5⟩ : ∃ b, ((la : Int) == 0) = b := ⟨_, rfl⟩
  obtain ⟨b6, h6⟩ : ∃ b, ((ld : Int) == 0) = b := ⟨_, rfl⟩
  obtain ⟨b7, h7⟩ : ∃ b, (link == []) = b := ⟨_, rfl⟩
  rw [h0, h1, h2, h3, h4, h5, h6, h7] at HX
  have HB : Keep (∀ c, Below w.heap.size w (w.alloc (.cells c 30))) := ⟨fun c => (Below.refl _ _).alloc (Nat.le_refl _) _⟩
  cases b0
  case false =>
    go_enter Tryz.func76, Tryz.ntmps76
    go_wp2_with fail
    go_ret
    exact ⟨by rw [HX.out]; rfl, HB.out _⟩
  cases b1
  case false =>
    go_enter Tryz.func76, Tryz.ntmps76
    go_wp2_with fail
    go_ret
    exact ⟨by rw [HX.out]; rfl, HB.out _⟩
  cases b2
  case false =>
    go_enter Tryz.func76, Tryz.ntmps76
    go_wp2_with fail
    go_ret
    exact ⟨by rw [HX.out]; rfl, HB.out _⟩
  cases b3
  case false =>
    go_enter Tryz.func76, Tryz.ntmps76
    go_wp2_with fail
    go_ret
    exact ⟨by rw [HX.out]; rfl, HB.out _⟩
  cases b4
  case false =>
    go_enter Tryz.func76, Tryz.ntmps76
    go_wp2_with fail
    go_ret
    exact ⟨by rw [HX.out]; rfl, HB.out _⟩
  cases b5
  case false =>
    go_enter Tryz.func76, Tryz.ntmps76
    go_wp2_with fail
    go_ret
    exact ⟨by rw [HX.out]; rfl, HB.out _⟩
  cases b6
  case false =>
    go_enter Tryz.func76, Tryz.ntmps76
    go_wp2_with fail
    go_ret
    exact ⟨by rw [HX.out]; rfl, HB.out _⟩
  cases b7
  case false =>
    go_enter Tryz.func76, Tryz.ntmps76
    go_wp2_with fail
    go_ret
    exact ⟨by rw [HX.out]; rfl, HB.out _⟩
  go_enter Tryz.func76, Tryz.ntmps76
  go_wp2_with fail
  go_ret
  exact ⟨by rw [HX.out]; rfl, HB.out _⟩
end Go.Proofs.YtplafpokgpolkaaGreatDoor
/- slices.IndexFunc, ContainsFunc over names; the predicate is a closure (values ahead, captures behind). -/
namespace Go.Proofs.YtplafpokgpolkaaGreatDoor
open Go.RowKit
set_option maxHeartbeats 1000000 in
set_option maxRecDepth 100000 in
theorem ifuncC (f : FuncId) (fi cs : Array Value) (p : List UInt8 → Bool) (v : Value) (l : List (List UInt8)) (w : World) (hent : ∀ args w, (callFunc f args).run Tryz.prog w = .ok (.enter f args) w)
    (hf : ∀ wx, Below w.heap.size w wx → ∀ x ∈ l, Calls Tryz.prog f (fi ++ #[.string ⟨x.toArray⟩] ++ cs) wx fun e w' => e = .returned (.bool (p x)) ∧ Below wx.heap.size wx w') (hr : RdS w (· < w.heap.size) v l) :
    Calls Tryz.prog 118 #[v, .func (.func f) fi cs] w fun e w' => e = .returned (.int .i64 (idxF p l)) ∧ Below w.heap.size w w' := by
  obtain ⟨a, cap, rfl, hcap, hmx, h3⟩ := hr.shape
  have HR := Keep.keep hr; have HF := Keep.keep hf; have H3 := Keep.keep h3
  unfold maxLen at hmx
  clear hr hf h3
  go_enter Tryz.func118, Tryz.ntmps118
  go_wp2_with fail
  go_loopg [5, 8] l.length (fun g _ u8 wx => ∃ k : Nat, k + g = l.length ∧ u8 = .int .i64 (k : Int) ∧ (∀ j, (hj : j < k) → (hl : j < l.length) → p l[j] = false) ∧ Below w.heap.size w wx)
  case atStart => exact ⟨0, by omega, rfl, fun j hj => by omega, Below.refl _ _⟩
  case round =>
    obtain ⟨k, hkg, rfl, hno, hb⟩ := hrel
    have HNO := Keep.keep hno; have HB := Keep.keep hb
    clear hno hb
    cases gk with
    | zero =>
      obtain rfl : k = l.length := by omega
      have hx : Keep (idxF p l = -1) := ⟨idxF_none (fun j hj => HNO.out j hj hj)⟩
      go_wp2_with fail
      go_ret
      exact ⟨by rw [hx.out]; rfl, HB.out⟩
    | succ g =>
      have hk : k < l.length := by omega
      rcases H3.out with h3 | ⟨b, off, rfl, hbl⟩
      · omega
      have hcell := (HR.out.below HB.out (fun b hb => hb)).cell b off _ _ rfl k (strV l[k]) (by simp [hk])
      have HC := Keep.keep (HF.out wr HB.out l[k] (List.getElem_mem hk))
      have HSTEP : Keep (p l[k] = false → ∀ j, (hj : j < k + 1) → (hl : j < l.length) → p l[j] = false) := ⟨fun he j hj hl => by
        rcases Nat.lt_succ_iff_lt_or_eq.1 hj with h | rfl
        · exact HNO.out j h hl
        · exact he⟩
      have HHIT : Keep (p l[k] = true → idxF p l = (k : Int)) := ⟨fun he => idxF_hit hk he (fun j hj => HNO.out j hj (by omega))⟩
      generalize p l[k] = pk at *
      generalize l[k] = x at *
      unfold strV at hcell
      go_wp2_with fail
      refine HC.out.mono ?_
      rintro e w2 ⟨rfl, hb2⟩
      have HB2 := Keep.keep (HB.out.trans (hb2.mono HB.out.size))
      clear hb2
      cases pk with
      | true =>
        have hi := HHIT.out rfl
        go_wp2_with fail
        go_ret
        exact ⟨by rw [hi]; rfl, HB2.out⟩
      | false =>
        have HST2 := Keep.keep (HSTEP.out rfl)
        go_wp2_with fail
        go_roundg g
        case measure => omega
        case rel => exact ⟨k + 1, by omega, by simp, HST2.out, HB2.out⟩
set_option maxHeartbeats 1000000 in
theorem cfuncC (f : FuncId) (fi cs : Array Value) (p : List UInt8 → Bool) (v : Value) (l : List (List UInt8)) (w : World) (hent : ∀ args w, (callFunc f args).run Tryz.prog w = .ok (.enter f args) w)
    (hf : ∀ wx, Below w.heap.size w wx → ∀ x ∈ l, Calls Tryz.prog f (fi ++ #[.string ⟨x.toArray⟩] ++ cs) wx fun e w' => e = .returned (.bool (p x)) ∧ Below wx.heap.size wx w') (hr : RdS w (· < w.heap.size) v l) :
    Calls Tryz.prog 77 #[v, .func (.func f) fi cs] w fun e w' => e = .returned (.bool (l.any p)) ∧ Below w.heap.size w w' := by
  have HI := Keep.keep (ifuncC f fi cs p v l w hent hf hr)
  obtain ⟨a, cap, rfl, -⟩ := hr.shape
  have hx : decide (0 ≤ idxF p l) = l.any p := by
    unfold idxF
    cases h : l.findIdx? p with
    | none =>
      have := List.findIdx?_eq_none_iff.1 h
      have : l.any p = false := by rw [List.any_eq_false]; intro x hx; simpa using this x hx
      rw [this]; rfl
    | some i =>
      obtain ⟨hi, hp, -⟩ := List.findIdx?_eq_some_iff_getElem.1 h
      have : l.any p = true := List.any_eq_true.2 ⟨_, List.getElem_mem hi, hp⟩
      rw [this]
      exact decide_eq_true (by simp)
  clear hr hf
  generalize idxF p l = i at *
  generalize l.any p = b at *
  go_enter Tryz.func77, Tryz.ntmps77
  go_wp2_with fail
  refine HI.out.mono ?_
  rintro e w1 ⟨rfl, hb⟩
  go_wp2_with fail
  go_ret
  exact ⟨rfl, hb⟩
end Go.Proofs.YtplafpokgpolkaaGreatDoor
