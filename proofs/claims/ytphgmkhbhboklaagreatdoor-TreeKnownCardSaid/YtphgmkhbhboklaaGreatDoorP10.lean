/- PARTS OF ONE PROOF, set in one file: RTree, RTreeB, Iter, TreeEach, SpcIn. Each part tells its own conditions. -/
import Derived.Shelf.SlIter.Nil
import Derived.Shelf.SortM.Plain
import Derived.Shelf.SortM.SortNone
import Derived.Ground.GgzProg
import Derived.Ground.SlgmProg
import Derived.Test.YtphgmkhbhboklaaGreatDoorProg
import Derived.RangeFuncNested
import Derived.RangeFuncBound
import Derived.RangeFuncCalls
import Derived.RangeFuncLeaves
import Derived.Shelf.Abstract
import Derived.Shelf.RegionOpen
import Derived.WalkKit
import Derived.OwnWalkIn
import Derived.TacticsInMore
import Derived.LoopNIn
import Derived.LoopIn
import Derived.OrdersIn
import Derived.Test.YtphgmkhbhboklaaGreatDoorP5
import Derived.Test.YtphgmkhbhboklaaGreatDoorP7
import Derived.Test.YtphgmkhbhboklaaGreatDoorP8
import Derived.Test.YtphgmkhbhboklaaGreatDoorP9
/- portolanref18's tree, a sorted row of Members: how it lies; Place, dir, set. -/
namespace Go.Proofs.YtphgmkhbhboklaaGreatDoor
open Go.RowKit
/-- block R is the document's tree: its row is v, which reads as l -/
structure RefIn (w : World) (R : Nat) (N : Nat → Prop) (v : Value) (l : List Mv) : Prop where
  row : Row w R 80 #[v]
  mbs : Mbs w N N v l
  srt : SM.Srt (l.map (·.1))
  sm : ∀ x ∈ l, Sm x.1
  ne : ¬ N R
theorem RefIn.loc {w w' : World} {R : Nat} {N : Nat → Prop} {v : Value} {l : List Mv} (h : RefIn w R N v l) (hb : ∀ b, b = R ∨ N b → w'.heap[b]? = w.heap[b]?) : RefIn w' R N v l :=
  ⟨by unfold Row; rw [hb R (.inl rfl)]; exact h.row, h.mbs.loc (fun b hb' => hb b (.inr hb')) (fun b hb' => hb b (.inr hb')), h.srt, h.sm, h.ne⟩
theorem RefIn.below {w w' : World} {R B : Nat} {N : Nat → Prop} {v : Value} {l : List Mv} (h : RefIn w R N v l) (hb : Below B w w') (hR : R < B) (hN : ∀ b, N b → b < B) : RefIn w' R N v l :=
  h.loc (fun b hb' => hb.block b (by rcases hb' with rfl | h; exact hR; exact hN b h))
theorem RefIn.mono {w : World} {R : Nat} {N N' : Nat → Prop} {v : Value} {l : List Mv} (h : RefIn w R N v l) (hN : ∀ b, N b → N' b) (hR : ¬ N' R) : RefIn w R N' v l := ⟨h.row, h.mbs.mono hN hN, h.srt, h.sm, hR⟩
/-- a part of a slice of Members -/
theorem slice_mto (a : Option Addr) (n cap i : Nat) (k : IntKind) (hi : i ≤ cap) (w : World) : (Instr.slice 33 (.slice a n cap) none (some (.int k (i : Int))) none).run Tryz.prog w = .ok (.slice a i cap) w := by
  have he : Tryz.prog.elem 33 = 32 := by simp [Program.elem, Tryz.underlying33]
  have hs : ∀ w, (sizeOf 32).run Tryz.prog w = .ok 9 w := fun w => by kernel_rfl
  rw [run_slice_h w 33 a n cap (by rw [he]; exact Tryz.underlying33) k (i : Int) (by omega) (by omega), he, hs]
  have ha : a.map (·.add 0) = a := by
    cases a <;> simp [Addr.add]
  simp [Result.andThen, sliced, ha]
set_option maxRecDepth 100000 in
theorem mcells_take (l : List Mv) (i : Nat) : mcells (l.take i) = (mcells l).take (i * 9) := by
  induction l generalizing i with
  | nil => simp [mcells]
  | cons x l ih =>
    cases i with
    | zero => simp [mcells]
    | succ i =>
      rw [List.take_succ_cons, mcells_cons, mcells_cons, ih, show (i + 1) * 9 = (mcell x).toList.length + i * 9 by rw [mcell_len]; omega, List.take_append, List.take_of_length_le (l := (mcell x).toList) (by omega), Nat.add_sub_cancel_left]
set_option maxRecDepth 100000 in
theorem mcells_drop (l : List Mv) (i : Nat) : mcells (l.drop i) = (mcells l).drop (i * 9) := by
  induction l generalizing i with
  | nil => simp [mcells]
  | cons x l ih =>
    cases i with
    | zero => simp [mcells]
    | succ i =>
      rw [List.drop_succ_cons, mcells_cons, ih, show (i + 1) * 9 = (mcell x).toList.length + i * 9 by rw [mcell_len]; omega, List.drop_append, List.drop_of_length_le (l := (mcell x).toList) (by omega), List.nil_append, Nat.add_sub_cancel_left]
theorem Mbs.take {w : World} {N N' : Nat → Prop} {a : Option Addr} {n cap : Nat} {l : List Mv} (h : Mbs w N N' (.slice a n cap) l) (i : Nat) (hi : i ≤ l.length) : Mbs w N N' (.slice a i cap) (l.take i) := by
  obtain ⟨⟨hl, ⟨a0, cap0, he0, g1, g2, g3⟩, hc⟩, hn⟩ := h
  injection he0 with e1 e2 e3
  subst e1 e2 e3
  have hl' : (l.take i).length = i := by rw [List.length_take]; omega
  refine ⟨⟨mcells_length _, ⟨a, cap, by rw [hl'], by omega, g2, g3⟩, fun b off m c he1 j u hj => ?_⟩, fun x hx => hn x (List.mem_of_mem_take hx)⟩
  injection he1 with e1 e2 e3
  subst e1 e3
  refine hc b off _ _ rfl j u ?_
  rw [mcells_take] at hj
  have hlt := (List.getElem?_eq_some_iff.1 hj).1
  rw [List.getElem?_take_of_lt (by simp at hlt; omega)] at hj
  exact hj
set_option maxRecDepth 100000 in
theorem slice_mfrom (a : Option Addr) (n cap i : Nat) (k : IntKind) (hi : i ≤ n) (hn : n ≤ cap) :
    ∃ a', (∀ w, (Instr.slice 33 (.slice a n cap) (some (.int k (i : Int))) none none).run Tryz.prog w = .ok (.slice a' (n - i) (cap - i)) w) ∧
      (∀ w N N' (l : List Mv), Mbs w N N' (.slice a n cap) l → Mbs w N N' (.slice a' (n - i) (cap - i)) (l.drop i)) := by
  have he : Tryz.prog.elem 33 = 32 := by simp [Program.elem, Tryz.underlying33]
  have hs : ∀ w, (sizeOf 32).run Tryz.prog w = .ok 9 w := fun w => by kernel_rfl
  refine ⟨if cap = i then a else a.map (·.add (i * 9)), fun w => ?_, fun w N N' l hr => ?_⟩
  · rw [run_slice_l w 33 a n cap (by rw [he]; exact Tryz.underlying33) k (i : Int) (by omega) (by omega), he, hs]
    simp [Result.andThen, sliced]
  · obtain ⟨⟨hl, ⟨a0, cap0, he0, g1, g2, g3⟩, hc⟩, hn'⟩ := hr
    injection he0 with e1 e2 e3
    subst e1 e2 e3
    refine ⟨⟨mcells_length _, ⟨_, _, by rw [List.length_drop], by rw [List.length_drop]; omega, by omega, ?_⟩, fun b off m c he1 j u hj => ?_⟩, fun x hx => hn' x (List.mem_of_mem_drop hx)⟩
    · rcases g3 with h0 | ⟨b, off, rfl, hN⟩
      · exact .inl (by omega)
      · refine .inr ?_
        by_cases hci : cap = i
        · rw [if_pos hci]; exact ⟨b, off, rfl, hN⟩
        · rw [if_neg hci]; exact ⟨b, off + i * 9, by simp [Addr.add_mid], hN⟩
    · injection he1 with e1 e2 e3
      rw [mcells_drop] at hj
      have hlt := (List.getElem?_eq_some_iff.1 hj).1
      rw [List.length_drop, mcells_length] at hlt
      rw [if_neg (by omega)] at e1
      rcases g3 with h0 | ⟨b', off', rfl, hN⟩
      · omega
      · simp only [Option.map_some, Addr.add_mid, Option.some.injEq] at e1
        injection e1 with e1 e4 _
        subst e1 e4
        rw [Nat.add_assoc]
        refine hc b' off' _ _ rfl _ u ?_
        rw [List.getElem?_drop] at hj
        exact hj
theorem mcells_one {l : List Mv} (h : ∀ x ∈ l, NdS x) : ∀ u ∈ mcells l, u.oneCell' = true := by
  intro u hu
  simp only [mcells, List.mem_flatMap] at hu
  obtain ⟨x, hx, hu⟩ := hu
  obtain ⟨aa, la, ca, ad, ld, cd, h1, h2⟩ := h x hx
  obtain ⟨⟨xp, xn⟩, xv, xd⟩ := x
  dsimp only at h1 h2
  subst h1 h2
  simp [mcell, mbC, strV] at hu
  rcases hu with rfl | rfl | rfl | rfl | rfl | rfl | rfl | rfl | rfl <;> rfl
theorem Mbs.one {w : World} {N N' : Nat → Prop} {v : Value} {l : List Mv} (h : Mbs w N N' v l) : ∀ u ∈ mcells l, u.oneCell' = true := mcells_one (fun x hx => (h.nd x hx).shape)
theorem is_len {l : List Mv} {p : Tx} (hs : SM.Srt (l.map (·.1))) (h : SM.plc (l.map (·.1)) p = l.length) : (SM.look (l.map (·.1)) p).isSome = false := by
  rw [← hs.is_at p, List.getElem?_eq_none (by rw [List.length_map]; omega)]
theorem is_here {l : List Mv} {p : Tx} (hs : SM.Srt (l.map (·.1))) {k : Nat} (hk : k < l.length) (h : SM.plc (l.map (·.1)) p = k) : (SM.look (l.map (·.1)) p).isSome = (l[k].1.1 == p) := by
  rw [← hs.is_at p, h, List.getElem?_eq_getElem (by rw [List.length_map]; exact hk)]
  simp
set_option maxHeartbeats 1000000 in
set_option maxRecDepth 100000 in
theorem place_any (R : Nat) (N : Nat → Prop) (v : Value) (l : List Mv) (w : World) (h : RefIn w R N v l) (p : Tx) :
    Calls Tryz.prog 49 #[.pointer (some ⟨R, 0, none⟩), .string ⟨p.toArray⟩] w fun e w' => e = .returned (.tuple #[.int .i64 (SM.plc (l.map (·.1)) p : Int), .bool (SM.look (l.map (·.1)) p).isSome]) ∧ Below w.heap.size w w' := by
  have c0 := h.row.cell (i := 0) rfl
  obtain ⟨a, cap, rfl, hcap, hmx, h3⟩ := h.mbs.rd.shape
  have HR := Keep.keep h.mbs; have H3 := Keep.keep h3; have HS := Keep.keep h.srt
  unfold maxLen at hmx
  have HIL := Keep.keep (fun e => is_len (l := l) (p := p) h.srt e)
  have HIH := Keep.keep (fun k hk e => is_here (l := l) (p := p) h.srt (k := k) hk e)
  have HPA := Keep.keep (fun k (hk : k ≤ l.length) (h1 : ∀ j, (hj : j < k) → (hl : j < l.length) → l[j].1.1 < p) (h2 : ∀ hl : k < l.length, ¬ l[k].1.1 < p) => h.srt.plc_at (p := p) (k := k) (by rw [List.length_map]; exact hk) (fun j hj hl => by have := h1 j hj (by simpa using hl); simpa using this) (fun hl => by have := h2 (by simpa using hl); simpa using this))
  clear h h3 HS
  generalize SM.plc (l.map (·.1)) p = pl at *
  generalize (SM.look (l.map (·.1)) p).isSome = is at *
  go_enter Tryz.func49, Tryz.ntmps49
  go_wp2_with fail
  go_loopg [6] l.length (fun g u6 wx => ∃ k : Nat, k + g = l.length ∧ u6 = .int .i64 (k : Int) ∧ (∀ j, (hj : j < k) → (hl : j < l.length) → l[j].1.1 < p) ∧ w = wx)
  case atStart => exact ⟨0, by omega, rfl, fun j hj => by omega, rfl⟩
  case round =>
    obtain ⟨k, hkg, rfl, hno, rfl⟩ := hrel
    have HNO := Keep.keep hno
    clear hno
    cases gk with
    | zero =>
      obtain rfl : k = l.length := by omega
      have HK : Keep (l.length = pl) := ⟨HPA.out l.length (Nat.le_refl _) (fun j hj hl => HNO.out j hj hl) (fun hl => by omega)⟩
      have HI : Keep (is = false) := ⟨HIL.out HK.out.symm⟩
      go_upto_region 4 with fail
      (refine wp_region_quiet_lit (by kernel_rfl) (by kernel_rfl) ?_); (repeat (first | (fail) | go_big_quiet_step (fail))); (refine wpQuiet_nil ?_); (intro _ hwq); (obtain ⟨nq, hwq⟩ := hwq); (subst hwq)
      go_wp2_with fail
      go_ret2
      exact ⟨by (rw [HI.out, ← HK.out]) <;> rfl, below_drewN' (Below.refl _ _) _⟩
    | succ g =>
      have hk : k < l.length := by omega
      obtain ⟨b, off, rfl, hbl⟩ : ∃ b off, a = some ⟨b, off, none⟩ ∧ N b := by
        rcases H3.out with h | ⟨b, off, h, hb⟩
        · omega
        · exact ⟨b, off, h, hb⟩
      have hc := HR.out.cell hk 0 (by omega) (u := strV l[k].1.1) rfl
      have hls := less_lt l[k].1.1 p
      have hd : decide ((k : Int) < (l.length : Int)) = true := decide_eq_true (by omega)
      have HST : Keep (l[k].1.1 < p → ∀ j, (hj : j < k + 1) → (hl : j < l.length) → l[j].1.1 < p) := ⟨fun he j hj hl => by
        rcases Nat.lt_succ_iff_lt_or_eq.1 hj with h | rfl
        · exact HNO.out j h hl
        · exact he⟩
      have HK : Keep (¬ l[k].1.1 < p → k = pl) := ⟨fun hh => HPA.out k (by omega) HNO.out (fun _ => hh)⟩
      have HI : Keep (k = pl → is = (l[k].1.1 == p)) := ⟨fun e => HIH.out k hk e.symm⟩
      generalize l[k].1.1 = xp at *
      unfold strV at hc
      rw [Nat.add_zero] at hc
      by_cases hlt : xp < p
      · rw [decide_eq_true hlt] at hls
        have HST2 := Keep.keep (HST.out hlt)
        clear hlt HK HI HST HIL HIH HPA
        go_wp2_with fail
        go_roundg g
        case measure => omega
        case rel => exact ⟨k + 1, by omega, by simp, HST2.out, rfl⟩
      · rw [decide_eq_false hlt] at hls
        have HK2 := Keep.keep (HK.out hlt)
        have HI2 := Keep.keep (HI.out HK2.out)
        clear hlt HK HI HST HIL HIH HPA HNO
        go_upto_region 4 with fail
        (refine wp_region_quiet_lit (by kernel_rfl) (by kernel_rfl) ?_); (repeat (first | (fail) | go_big_quiet_step (fail))); (refine wpQuiet_nil ?_); (intro _ hwq); (obtain ⟨nq, hwq⟩ := hwq); (subst hwq)
        go_wp2_with fail
        go_ret2
        exact ⟨by (rw [HI2.out, ← HK2.out]) <;> rfl, below_drewN' (Below.refl _ _) _⟩
set_option maxHeartbeats 1000000 in
set_option maxRecDepth 100000 in
theorem rdir_any (R : Nat) (N : Nat → Prop) (v : Value) (l : List Mv) (w : World) (h : RefIn w R N v l) (hR : R < w.heap.size) (hN : ∀ b, N b → b < w.heap.size) (p : Tx) :
    Calls Tryz.prog 45 #[.pointer (some ⟨R, 0, none⟩), .string ⟨p.toArray⟩] w fun e w' => e = .returned (.bool (dirT (l.map (·.1)) p)) ∧ Below w.heap.size w w' := by
  have HPL := Keep.keep (place_any R N v l w h p)
  have HON : Keep (∀ wx, Below w.heap.size w wx → RefIn wx R N v l) := ⟨fun wx hb => h.below hb hR hN⟩
  have hbe : (p == []) = p.isEmpty := by cases p <;> rfl
  obtain ⟨pe, hpe⟩ : ∃ b, p.isEmpty = b := ⟨_, rfl⟩
  have HD : Keep (dirT (l.map (·.1)) p = (pe || (match SM.look (l.map (·.1)) p with | some n => n.kind == 1 | none => false))) := ⟨by rw [← hpe]; rfl⟩
  rw [hpe] at hbe
  clear hpe
  cases pe with
  | true =>
    go_enter Tryz.func45, Tryz.ntmps45
    go_wp2_with fail
    go_ret
    exact ⟨by rw [HD.out]; rfl, Below.refl _ _⟩
  | false =>
    have HAT : Keep (∀ n, SM.look (l.map (·.1)) p = some n → ∃ hk : SM.plc (l.map (·.1)) p < l.length, (l[SM.plc (l.map (·.1)) p]'hk).1 = (p, n)) := ⟨fun n hl => by
      have := h.srt.at_some hl
      obtain ⟨hk, e⟩ := List.getElem?_eq_some_iff.1 this
      rw [List.length_map] at hk
      exact ⟨hk, by rw [List.getElem_map] at e; exact e⟩⟩
    obtain ⟨a, cap, rfl, hcap, hmx, h3⟩ := h.mbs.rd.shape
    have H3 := Keep.keep h3
    unfold maxLen at hmx
    clear h h3
    generalize SM.plc (l.map (·.1)) p = pl at *
    cases hl : SM.look (l.map (·.1)) p with
    | none =>
      rw [hl] at HD HPL
      have HX : Keep (dirT (l.map (·.1)) p = false) := ⟨HD.out⟩
      clear hl HAT
      go_enter Tryz.func45, Tryz.ntmps45
      go_wp2_with fail
      refine HPL.out.mono ?_
      rintro e w1 ⟨rfl, hb1⟩
      have HB1 := Keep.keep hb1
      clear hb1
      go_wp2_with fail
      go_ret
      exact ⟨by (rw [HX.out]) <;> rfl, HB1.out⟩
    | some n =>
      obtain ⟨hk, he⟩ := HAT.out n hl
      rw [hl] at HD HPL
      have HX : Keep (dirT (l.map (·.1)) p = (n.kind == 1)) := ⟨HD.out⟩
      obtain ⟨b, off, rfl, hbl⟩ : ∃ b off, a = some ⟨b, off, none⟩ ∧ N b := by
        rcases H3.out with h | ⟨b, off, h, hb⟩
        · omega
        · exact ⟨b, off, h, hb⟩
      have HCL : Keep (∀ wx, Below w.heap.size w wx → wx.cell? ⟨R, 0, none⟩ = some (.slice (some ⟨b, off, none⟩) l.length cap) ∧ wx.cell? ⟨b, off + pl * 9 + 1, none⟩ = some (.int .i64 n.kind)) := ⟨fun wx hb => by
        have hx := HON.out wx hb
        exact ⟨hx.row.cell (i := 0) rfl, by
          refine hx.mbs.cell hk 1 (by omega) ?_
          unfold mcell
          rw [he]; rfl⟩⟩
      clear hl he HAT HON HD
      go_enter Tryz.func45, Tryz.ntmps45
      go_wp2_with fail
      refine HPL.out.mono ?_
      rintro e w1 ⟨rfl, hb1⟩
      have HB1 := Keep.keep hb1
      obtain ⟨c0, c1⟩ := HCL.out w1 hb1
      clear hb1
      go_wp2_with fail
      go_ret
      exact ⟨by (rw [HX.out]) <;> rfl, HB1.out⟩
theorem Mbs.ofOwn {w : World} {base : Nat} {N : Nat → Prop} {v : Value} {l : List Mv} (ho : w.ownsRow base 32 9 v l.length (mcells l)) (hn : ∀ x ∈ l, NdR w N x.1.2 x.2.1 x.2.2) (hN : ∀ b, base ≤ b → b < w.heap.size → N b) : Mbs w N N v l :=
  ⟨(ownsV_reads ho).mono (fun b hb => hN b hb.1 hb.2.1), hn⟩
set_option maxHeartbeats 4000000 in
set_option maxRecDepth 100000 in
theorem rset_any (R : Nat) (N : Nat → Prop) (v : Value) (l : List Mv) (w : World) (h : RefIn w R N v l) (hR : R < w.heap.size) (hN : ∀ b, N b → b < w.heap.size) (m : Mb) (av dv : Value) (hs : Sm m) (hm : NdR w N m.2 av dv) (hl : l.length ≤ 100000) :
    Calls Tryz.prog 44 #[.pointer (some ⟨R, 0, none⟩), .agg (mbC m av dv)] w fun e w' => e = .returned (.tuple #[]) ∧ (∃ v' l', RefIn w' R (fun b => N b ∨ Fresh w.heap.size w' b) v' l' ∧ l'.map (·.1) = SM.put (l.map (·.1)) m) ∧ Chg (fun k => k = R) w.heap.size w w' := by
  have HON : Keep (∀ wx, Below w.heap.size w wx → RefIn wx R N v l) := ⟨fun wx hb => h.below hb hR hN⟩
  have HPL : Keep (∀ wx, Below w.heap.size w wx → Calls Tryz.prog 49 #[.pointer (some ⟨R, 0, none⟩), .string ⟨m.1.toArray⟩] wx fun e w' => e = .returned (.tuple #[.int .i64 (SM.plc (l.map (·.1)) m.1 : Int), .bool (SM.look (l.map (·.1)) m.1).isSome]) ∧ Below wx.heap.size wx w') := ⟨fun wx hb => place_any R N v l wx (HON.out wx hb) m.1⟩
  have HPE := Keep.keep (h.srt.put_eq m)
  have HSP := Keep.keep (h.srt.put m)
  have hple := SM.plc_le (l.map (·.1)) m.1
  rw [List.length_map] at hple
  have HSL : Keep ((SM.look (l.map (·.1)) m.1).isSome = true → SM.plc (l.map (·.1)) m.1 < l.length) := ⟨fun e => by
    obtain ⟨n, hn⟩ := Option.isSome_iff_exists.1 e
    obtain ⟨hk, -⟩ := List.getElem?_eq_some_iff.1 (h.srt.at_some hn)
    rw [List.length_map] at hk; exact hk⟩
  have HSM := Keep.keep h.sm; have HND := Keep.keep h.mbs.nd; have HM := Keep.keep hm; have HS := Keep.keep hs; have HNE := Keep.keep h.ne; have HNN := Keep.keep hN
  obtain ⟨a, cap, hv, hcap, hmx, -⟩ := h.mbs.rd.shape
  obtain ⟨aa, la, ca, ad, ld, cd, e1, e2⟩ := hm.shape
  unfold maxLen at hmx
  subst e1 e2 hv
  have hone := mcells_one (l := [((m, .slice aa la ca, .slice ad ld cd) : Mv)]) (fun x hx => by
    have hx : x = (m, .slice aa la ca, .slice ad ld cd) := by simpa using hx
    subst hx
    exact ⟨_, _, _, _, _, _, rfl, rfl⟩)
  have HONE := Keep.keep hone
  have HMC : Keep (mbC m (.slice aa la ca) (.slice ad ld cd) = #[.string ⟨m.1.toArray⟩, .int .i64 m.2.kind, .int .u32 m.2.mode, .int .u32 m.2.uid, .int .u32 m.2.gid, .int .i64 m.2.time, .slice aa la ca, .slice ad ld cd, .string ⟨m.2.link.toArray⟩]) := ⟨rfl⟩
  have HMCL : Keep (mcells [((m, .slice aa la ca, .slice ad ld cd) : Mv)] = [.string ⟨m.1.toArray⟩, .int .i64 m.2.kind, .int .u32 m.2.mode, .int .u32 m.2.uid, .int .u32 m.2.gid, .int .i64 m.2.time, .slice aa la ca, .slice ad ld cd, .string ⟨m.2.link.toArray⟩]) := ⟨rfl⟩
  rw [HMC.out]
  generalize SM.plc (l.map (·.1)) m.1 = pl at *
  generalize (SM.look (l.map (·.1)) m.1).isSome = is at *
  clear h hm hs hN hone
  go_enter Tryz.func44, Tryz.ntmps44
  go_wp2_with fail
  refine calls_at (R := fun w1 => Hp NoM w w1 [rowA w.heap.size 32 #[.string ⟨m.1.toArray⟩, .int .i64 m.2.kind, .int .u32 m.2.mode, .int .u32 m.2.uid, .int .u32 m.2.gid, .int .i64 m.2.time, .slice aa la ca, .slice ad ld cd, .string ⟨m.2.link.toArray⟩]]) ((Hp.begin NoM w).newRow _ _) ?_
  intro w1 H1
  refine (HPL.out w1 H1.out.below).mono ?_
  rintro e w2 ⟨rfl, hb2⟩
  have H2 := Keep.keep (((H1.out.call hb2)).nilS w.heap.size 32 9)
  have c0 := (HON.out w2 H2.out.below).row.cell (i := 0) rfl
  have hsl := fun wx => slice_mto a l.length cap pl .i64 (by omega) wx
  have HRD := Keep.keep ((HON.out w2 H2.out.below).mbs.take pl hple)
  clear hb2 H1 HPL
  go_wp2_with (with_reducible refine arm_stop ?_)
  refine Stopped.out ?_
  refine arm_appendV slMbF (m := (l.take pl).length) (H2.out.sl 1 rfl) (HRD.out.rd) HRD.out.one (by unfold maxLen; rw [List.length_take]; omega) (by rw [List.length_take]; omega) H2.out.size rfl rfl ?_
  intro v3 w3 ho hg hov _
  have hlt : (l.take pl).length = pl := by rw [List.length_take]; omega
  rw [hlt, Nat.zero_add, List.nil_append] at ho
  have H3 := Keep.keep (H2.out.grow 1 rfl hg ho hov)
  obtain ⟨a3, c3, rfl, -⟩ := (ownsV_reads ho).shape
  clear ho hg hov H2 c0 hsl HRD
  simp only [Act.put, List.setIfInBounds_toArray, List.set_cons_succ, List.set_cons_zero]
  have HRW := Keep.keep (H3.out.row 0 rfl)
  have HSZ : Keep ((#[.string ⟨m.1.toArray⟩, .int .i64 m.2.kind, .int .u32 m.2.mode, .int .u32 m.2.uid, .int .u32 m.2.gid, .int .i64 m.2.time, .slice aa la ca, .slice ad ld cd, .string ⟨m.2.link.toArray⟩] : Array Value).size = 9) := ⟨rfl⟩
  go_wp2_with (first
    | ((with_reducible refine arm_loadRow HRW.out aggM HSZ.out ?_ ?_); (focus rfl); simp only [Act.put, List.setIfInBounds_toArray, List.set_cons_succ, List.set_cons_zero])
    | (with_reducible refine arm_stop ?_))
  refine Stopped.out ?_
  refine arm_appendV slMbF ((H3.out.alloc _).sl 1 rfl) (RdV.new (N := fun _ => True) 32 [.string ⟨m.1.toArray⟩, .int .i64 m.2.kind, .int .u32 m.2.mode, .int .u32 m.2.uid, .int .u32 m.2.gid, .int .i64 m.2.time, .slice aa la ca, .slice ad ld cd, .string ⟨m.2.link.toArray⟩] 9 1 _ rfl rfl (by unfold maxLen; omega) trivial) (by simp [Value.oneCell']) (by unfold maxLen; omega) (by omega) (H3.out.alloc _).size rfl rfl ?_
  intro v4 w4 ho hg hov _
  have hcl : mcells (l.take pl) ++ [.string ⟨m.1.toArray⟩, .int .i64 m.2.kind, .int .u32 m.2.mode, .int .u32 m.2.uid, .int .u32 m.2.gid, .int .i64 m.2.time, .slice aa la ca, .slice ad ld cd, .string ⟨m.2.link.toArray⟩] = mcells (l.take pl ++ [((m, .slice aa la ca, .slice ad ld cd) : Mv)]) := by rw [mcells_append, HMCL.out]
  rw [hcl] at ho
  have H4 := Keep.keep ((H3.out.alloc _).grow 1 rfl hg ho hov)
  obtain ⟨a4, c4, rfl, -⟩ := (ownsV_reads ho).shape
  clear ho hg hov H3 HRW hcl
  simp only [Act.put, List.setIfInBounds_toArray, List.set_cons_succ, List.set_cons_zero]
  have HFIN : Keep (∀ (q n5 : Nat) w5 v5 (l5 : List Mv), l5.length = n5 → l5 = l.take pl ++ [((m, .slice aa la ca, .slice ad ld cd) : Mv)] ++ l.drop q → q = (if is then pl + 1 else pl) → Hp NoM w w5 [rowA w.heap.size 32 #[.string ⟨m.1.toArray⟩, .int .i64 m.2.kind, .int .u32 m.2.mode, .int .u32 m.2.uid, .int .u32 m.2.gid, .int .i64 m.2.time, .slice aa la ca, .slice ad ld cd, .string ⟨m.2.link.toArray⟩], slA w.heap.size 32 9 v5 n5 (mcells l5)] → v5.oneCell' = true →
      (∃ v' l', RefIn (w5.setCell ⟨R, 0, none⟩ v5) R (fun b => N b ∨ Fresh w.heap.size (w5.setCell ⟨R, 0, none⟩ v5) b) v' l' ∧ l'.map (·.1) = SM.put (l.map (·.1)) m) ∧ Chg (fun k => k = R) w.heap.size w (w5.setCell ⟨R, 0, none⟩ v5)) := ⟨fun q n5 w5 v5 l5 hln hl5 hq H5 hv5 => by
    subst hln
    have hmap : l5.map (·.1) = SM.put (l.map (·.1)) m := by
      rw [HPE.out, hl5, hq]
      simp [List.map_take, List.map_drop]
    have hb5 := H5.below
    have hmem : ∀ x ∈ l5, x ∈ l ∨ x = ((m, .slice aa la ca, .slice ad ld cd) : Mv) := fun x hx => by
      rw [hl5] at hx
      rcases List.mem_append.1 hx with hx | hx
      · rcases List.mem_append.1 hx with hx | hx
        · exact .inl (List.mem_of_mem_take hx)
        · exact .inr (by simpa using hx)
      · exact .inl (List.mem_of_mem_drop hx)
    have hsz : (w5.setCell ⟨R, 0, none⟩ v5).heap.size = w5.heap.size := by simp [World.setCell]
    have hle := H5.size
    have hoth : ∀ b, b ≠ R → (w5.setCell ⟨R, 0, none⟩ v5).heap[b]? = w5.heap[b]? := fun b hb => heap_setCell_other w5 ⟨R, 0, none⟩ b v5 hb
    have hnd : ∀ x ∈ l5, NdR (w5.setCell ⟨R, 0, none⟩ v5) (fun b => N b ∨ Fresh w.heap.size (w5.setCell ⟨R, 0, none⟩ v5) b) x.1.2 x.2.1 x.2.2 := fun x hx => by
      have h0 : NdR w N x.1.2 x.2.1 x.2.2 := by
        rcases hmem x hx with hx | rfl
        · exact HND.out x hx
        · exact HM.out
      exact ((h0.below hb5 HNN.out).loc (fun b hb => hoth b (fun e => HNE.out (e ▸ hb)))).mono (fun b hb => .inl hb)
    have ho := H5.sl 1 rfl
    have hr5 : RdV (w5.setCell ⟨R, 0, none⟩ v5) (fun b => N b ∨ Fresh w.heap.size (w5.setCell ⟨R, 0, none⟩ v5) b) 9 v5 l5.length (mcells l5) :=
      ((ownsV_reads ho).loc (fun b hb => hoth b (by have := hb.1; omega))).mono (fun b hb => .inr ⟨hb.1, by rw [hsz]; exact hb.2.1⟩)
    refine ⟨⟨v5, l5, ⟨?_, ⟨hr5, hnd⟩, by rw [hmap]; exact HSP.out, fun x hx => ?_, fun h => ?_⟩, hmap⟩, (Chg.of_below hb5).setCell (M := fun k => k = R) (p := ⟨R, 0, none⟩) (.inr rfl) _⟩
    · exact ((HON.out w5 hb5).row).set' 0 v5 rfl
    · rcases hmem x hx with hx | rfl
      · exact HSM.out x hx
      · exact HS.out
    · rcases h with h | h
      · exact HNE.out h
      · have := h.1; omega⟩
  have c0 := (HON.out w4 H4.out.below).row.cell (i := 0) rfl
  have f0 := (HON.out w4 H4.out.below).row.frozen 0
  cases is with
  | true =>
    have hpl := HSL.out rfl
    obtain ⟨a6, hsl, hrd⟩ := slice_mfrom a l.length cap (pl + 1) .i64 (by omega) hcap
    have HRD := Keep.keep (hrd _ _ _ _ (HON.out w4 H4.out.below).mbs)
    clear hrd
    have hpi : (((pl + 1 : Nat)) : Int) = (pl : Int) + 1 := by omega
    simp only [hpi] at hsl
    go_wp2_with (with_reducible refine arm_stop ?_)
    refine Stopped.out ?_
    refine arm_appendV slMbF (m := l.length - (pl + 1)) (H4.out.sl 1 rfl) (by have := HRD.out.rd; rw [List.length_drop] at this; exact this) HRD.out.one (by unfold maxLen; omega) (by omega) H4.out.size rfl rfl ?_
    intro v5 w5 ho hg hov _
    obtain ⟨n5, hn5⟩ : ∃ n5, pl + 1 + (l.length - (pl + 1)) = n5 := ⟨_, rfl⟩
    have hlen5 : (l.take pl ++ [((m, .slice aa la ca, .slice ad ld cd) : Mv)] ++ l.drop (pl + 1)).length = n5 := by rw [← hn5]; simp; omega
    rw [← mcells_append, hn5] at ho
    have H5 := Keep.keep (H4.out.grow 1 rfl hg ho hov)
    obtain ⟨a5, c5, rfl, -⟩ := (ownsV_reads ho).shape
    have HE := Keep.keep (HFIN.out (pl + 1) n5 w5 _ _ hlen5 rfl rfl H5.out rfl)
    have c1 := (HON.out w5 H5.out.below).row.cell (i := 0) rfl
    have f1 := (HON.out w5 H5.out.below).row.frozen 0
    clear ho hg hov H4 c0 f0 hsl HRD HFIN
    simp only [Act.put, List.setIfInBounds_toArray, List.set_cons_succ, List.set_cons_zero]
    go_wp2_with fail
    go_end0
    exact ⟨rfl, HE.out⟩
  | false =>
    obtain ⟨a6, hsl, hrd⟩ := slice_mfrom a l.length cap pl .i64 (by omega) hcap
    have HRD := Keep.keep (hrd _ _ _ _ (HON.out w4 H4.out.below).mbs)
    clear hrd
    go_wp2_with (with_reducible refine arm_stop ?_)
    refine Stopped.out ?_
    refine arm_appendV slMbF (m := l.length - pl) (H4.out.sl 1 rfl) (by have := HRD.out.rd; rw [List.length_drop] at this; exact this) HRD.out.one (by unfold maxLen; omega) (by omega) H4.out.size rfl rfl ?_
    intro v5 w5 ho hg hov _
    obtain ⟨n5, hn5⟩ : ∃ n5, pl + 1 + (l.length - pl) = n5 := ⟨_, rfl⟩
    have hlen5 : (l.take pl ++ [((m, .slice aa la ca, .slice ad ld cd) : Mv)] ++ l.drop pl).length = n5 := by rw [← hn5]; simp; omega
    rw [← mcells_append, hn5] at ho
    have H5 := Keep.keep (H4.out.grow 1 rfl hg ho hov)
    obtain ⟨a5, c5, rfl, -⟩ := (ownsV_reads ho).shape
    have HE := Keep.keep (HFIN.out pl n5 w5 _ _ hlen5 rfl rfl H5.out rfl)
    have c1 := (HON.out w5 H5.out.below).row.cell (i := 0) rfl
    have f1 := (HON.out w5 H5.out.below).row.frozen 0
    clear ho hg hov H4 c0 f0 hsl HRD HFIN
    simp only [Act.put, List.setIfInBounds_toArray, List.set_cons_succ, List.set_cons_zero]
    go_wp2_with fail
    go_end0
    exact ⟨rfl, HE.out⟩
end Go.Proofs.YtphgmkhbhboklaaGreatDoor
/- portolanref18's tree: clear, Put, Remove. -/
namespace Go.Proofs.YtphgmkhbhboklaaGreatDoor
open Go.RowKit
/-- the document's tree behind a call: what it leads to is old, or new -/
def RefTo (w w' : World) (R : Nat) (N : Nat → Prop) (L : List Mb) : Prop := ∃ v' l', RefIn w' R (fun b => N b ∨ Fresh w.heap.size w' b) v' l' ∧ l'.map (·.1) = L
theorem RefTo.of {w w' : World} {R : Nat} {N : Nat → Prop} {v : Value} {l : List Mv} (h : RefIn w R N v l) (hR : R < w.heap.size) (hN : ∀ b, N b → b < w.heap.size) (hb : Below w.heap.size w w') : RefTo w w' R N (l.map (·.1)) :=
  ⟨v, l, (h.below hb hR hN).mono (fun b hb => .inl hb) (fun e => by
    rcases e with e | e
    · exact h.ne e
    · have := e.1; omega), rfl⟩
/-- upon a tree that the call itself left there -/
theorem RefTo.trans {w w1 w' : World} {R : Nat} {N : Nat → Prop} {L : List Mb} (h : RefTo w1 w' R (fun b => N b ∨ Fresh w.heap.size w1 b) L) (h1 : w.heap.size ≤ w1.heap.size) (h2 : w1.heap.size ≤ w'.heap.size) (hR : R < w.heap.size) (hNR : ¬ N R) : RefTo w w' R N L := by
  obtain ⟨v', l', h, e⟩ := h
  refine ⟨v', l', h.mono (fun b hb => ?_) (fun e => ?_), e⟩
  · rcases hb with (hb | hb) | hb
    · exact .inl hb
    · exact .inr ⟨hb.1, by have := hb.2; omega⟩
    · exact .inr ⟨by have := hb.1; omega, hb.2⟩
  · rcases e with e | e
    · exact hNR e
    · have := e.1; omega
theorem fit_set {w w5 : World} {R : Nat} {N : Nat → Prop} {v v5 : Value} {l l5 : List Mv} (h : RefIn w R N v l) (hR : R < w.heap.size) (hN : ∀ b, N b → b < w.heap.size) (hb5 : Below w.heap.size w w5) (hmem : ∀ x ∈ l5, x ∈ l) (ho : w5.ownsRow w.heap.size 32 9 v5 l5.length (mcells l5)) (hs : SM.Srt (l5.map (·.1))) :
    RefTo w (w5.setCell ⟨R, 0, none⟩ v5) R N (l5.map (·.1)) ∧ Chg (fun k => k = R) w.heap.size w (w5.setCell ⟨R, 0, none⟩ v5) := by
  have hsz : (w5.setCell ⟨R, 0, none⟩ v5).heap.size = w5.heap.size := by simp [World.setCell]
  have hoth : ∀ b, b ≠ R → (w5.setCell ⟨R, 0, none⟩ v5).heap[b]? = w5.heap[b]? := fun b hb => heap_setCell_other w5 ⟨R, 0, none⟩ b v5 hb
  have hnd : ∀ x ∈ l5, NdR (w5.setCell ⟨R, 0, none⟩ v5) (fun b => N b ∨ Fresh w.heap.size (w5.setCell ⟨R, 0, none⟩ v5) b) x.1.2 x.2.1 x.2.2 := fun x hx =>
    (((h.mbs.nd x (hmem x hx)).below hb5 hN).loc (fun b hb => hoth b (fun e => h.ne (e ▸ hb)))).mono (fun b hb => .inl hb)
  have hr5 : RdV (w5.setCell ⟨R, 0, none⟩ v5) (fun b => N b ∨ Fresh w.heap.size (w5.setCell ⟨R, 0, none⟩ v5) b) 9 v5 l5.length (mcells l5) :=
    ((ownsV_reads ho).loc (fun b hb => hoth b (by have := hb.1; omega))).mono (fun b hb => .inr ⟨hb.1, by rw [hsz]; exact hb.2.1⟩)
  refine ⟨⟨v5, l5, ⟨?_, ⟨hr5, hnd⟩, hs, fun x hx => h.sm x (hmem x hx), fun e => ?_⟩, rfl⟩, (Chg.of_below hb5).setCell (M := fun k => k = R) (p := ⟨R, 0, none⟩) (.inr rfl) _⟩
  · exact ((h.below hb5 hR hN).row).set' 0 v5 rfl
  · rcases e with e | e
    · exact h.ne e
    · have := e.1; omega
abbrev unk (p : Tx) (l : List Mv) : List Mv := l.filter (fun x => !underP p x.1.1)
theorem unk_map (p : Tx) (l : List Mv) : (unk p l).map (·.1) = clearT (l.map (·.1)) p := by
  unfold clearT
  rw [List.filter_map]; rfl
theorem unk_take {p : Tx} {l : List Mv} {k : Nat} (hk : k < l.length) : unk p (l.take (k + 1)) = if underP p l[k].1.1 then unk p (l.take k) else unk p (l.take k) ++ [l[k]] := by
  rw [List.take_succ_eq_append_getElem hk, unk, List.filter_append]
  cases h : underP p l[k].1.1 with
  | true => rw [List.filter_cons_of_neg (by simp [h])]; simp
  | false => rw [List.filter_cons_of_pos (by simp [h])]; simp
set_option maxHeartbeats 2000000 in
set_option maxRecDepth 100000 in
theorem rclear_any (R : Nat) (N : Nat → Prop) (v : Value) (l : List Mv) (w : World) (h : RefIn w R N v l) (hR : R < w.heap.size) (hN : ∀ b, N b → b < w.heap.size) (p : Tx) (hp : p.length ≤ 1000000) (hl : l.length ≤ 100000) :
    Calls Tryz.prog 50 #[.pointer (some ⟨R, 0, none⟩), .string ⟨p.toArray⟩] w fun e w' => e = .returned (.tuple #[]) ∧ RefTo w w' R N (clearT (l.map (·.1)) p) ∧ Chg (fun k => k = R) w.heap.size w w' := by
  have HON : Keep (∀ wx, Below w.heap.size w wx → RefIn wx R N v l) := ⟨fun wx hb => h.below hb hR hN⟩
  have HFS := Keep.keep (fun w5 v5 l5 hb hm ho hs => fit_set (w5 := w5) (v5 := v5) (l5 := l5) h hR hN hb hm ho hs)
  obtain ⟨a, cap, rfl, hcap, hmx, h3⟩ := h.mbs.rd.shape
  have H3 := Keep.keep h3; have HNE := Keep.keep h.ne; have HSR := Keep.keep h.srt
  unfold maxLen at hmx
  clear h h3 hN
  go_enter Tryz.func50, Tryz.ntmps50
  go_wp2_with fail
  go_loopg [4, 5] l.length (fun g u4 u5 wx => ∃ k : Nat, k + g = l.length ∧ u5 = .int .i64 (k : Int) ∧ Hp NoM w wx [slA w.heap.size 32 9 u4 (unk p (l.take k)).length (mcells (unk p (l.take k)))])
  case atStart => exact ⟨0, by omega, rfl, (Hp.begin NoM w).nilS _ _ _⟩
  case round =>
    obtain ⟨k, hkg, rfl, HP⟩ := hrel
    have HH := Keep.keep HP
    obtain ⟨a3, c3, rfl, -⟩ := (ownsV_reads (HP.sl 0 rfl)).shape
    have hR2 := HON.out wr HP.below
    have c0 := hR2.row.cell (i := 0) rfl
    have f0 := hR2.row.frozen 0
    clear HP
    cases gk with
    | zero =>
      obtain rfl : k = l.length := by omega
      have hd : decide ((l.length : Int) < (l.length : Int)) = false := decide_eq_false (by omega)
      have HE := Keep.keep (HFS.out wr _ (unk p l) HH.out.below (fun x hx => (List.mem_filter.1 hx).1) (by have := HH.out.sl 0 rfl; rw [List.take_length] at this; exact this) (by rw [unk_map]; exact HSR.out.filter _))
      clear hR2
      go_wp2_with fail
      go_end0
      refine ⟨rfl, ?_⟩
      have := HE.out
      rw [unk_map] at this
      simpa only [List.take_length] using this
    | succ g =>
      have hk : k < l.length := by omega
      have hd : decide ((k : Int) < (l.length : Int)) = true := decide_eq_true (by omega)
      obtain ⟨b, off, rfl, hbl⟩ : ∃ b off, a = some ⟨b, off, none⟩ ∧ N b := by
        rcases H3.out with h | ⟨b, off, h, hb⟩
        · omega
        · exact ⟨b, off, h, hb⟩
      have hld := hR2.mbs.load hk
      have hc := hR2.mbs.cell hk 0 (by omega) (u := strV l[k].1.1) rfl
      have HU := Keep.keep (fun wx => runder_any p l[k].1.1 hp wx)
      have HTK := Keep.keep (unk_take (p := p) hk)
      have hshape := (hR2.mbs.nd _ (List.getElem_mem hk)).shape
      have hle : (unk p (l.take k)).length ≤ k := by
        have := List.length_filter_le (fun x : Mv => !underP p x.1.1) (l.take k)
        rw [List.length_take] at this
        simp only [unk]; omega
      generalize l[k] = x at *
      unfold strV at hc
      rw [Nat.add_zero] at hc
      clear hR2
      obtain ⟨aa, la, ca, ad, ld, cd, e1, e2⟩ := hshape
      obtain ⟨⟨xp, xn⟩, xv, xd⟩ := x
      dsimp only at e1 e2 hc HU HTK
      subst e1 e2
      obtain ⟨un, hun⟩ : ∃ b, underP p xp = b := ⟨_, rfl⟩
      simp only [hun] at HU HTK
      clear hun
      have HMC : Keep (mcell ((xp, xn), .slice aa la ca, .slice ad ld cd) = #[.string ⟨xp.toArray⟩, .int .i64 xn.kind, .int .u32 xn.mode, .int .u32 xn.uid, .int .u32 xn.gid, .int .i64 xn.time, .slice aa la ca, .slice ad ld cd, .string ⟨xn.link.toArray⟩]) := ⟨rfl⟩
      rw [HMC.out] at hld
      cases un with
      | true =>
        have HT2 : Keep (unk p (l.take (k + 1)) = unk p (l.take k)) := ⟨HTK.out⟩
        go_wp2_with fail
        refine (HU.out _).mono ?_
        rintro e w2 ⟨rfl, rfl⟩
        go_wp2_with fail
        go_roundg g
        case measure => omega
        case rel => exact ⟨k + 1, by omega, by simp, by rw [HT2.out]; exact HH.out⟩
      | false =>
        have HT2 : Keep (unk p (l.take (k + 1)) = unk p (l.take k) ++ [((xp, xn), .slice aa la ca, .slice ad ld cd)]) := ⟨HTK.out⟩
        generalize hak : unk p (l.take k) = acc at *
        clear hak
        go_wp2_with fail
        refine (HU.out _).mono ?_
        rintro e w2 ⟨rfl, rfl⟩
        go_wp2_with (first
          | ((with_reducible refine arm_loadM hld ?_ ?_); (focus rfl); simp only [Act.put, List.setIfInBounds_toArray, List.set_cons_succ, List.set_cons_zero])
          | (with_reducible refine arm_stop ?_))
        refine Stopped.out ?_
        refine arm_appendV slMbF ((HH.out.alloc _).sl 0 rfl) (RdV.new (N := fun _ => True) 32 (mcells [((xp, xn), .slice aa la ca, .slice ad ld cd)]) 9 1 _ rfl rfl (by unfold maxLen; omega) trivial) (by simp [mcells, mcell, mbC, strV, Value.oneCell']) (by unfold maxLen; omega) (by omega) (HH.out.alloc _).size rfl rfl ?_
        intro v3 w3 ho hg hov _
        rw [← mcells_append] at ho
        have HG := Keep.keep ((HH.out.alloc _).grow 0 rfl hg ho hov)
        obtain ⟨a4, c4, rfl, -⟩ := (ownsV_reads ho).shape
        clear ho hg hov hld hc c0 f0
        simp only [Act.put, List.setIfInBounds_toArray, List.set_cons_succ, List.set_cons_zero]
        go_wp2_with fail
        go_roundg g
        case measure => omega
        case rel => exact ⟨k + 1, by omega, by simp, by rw [HT2.out, List.length_append]; exact HG.out⟩
theorem clear_len (L : List Mb) (p : Tx) : (clearT L p).length ≤ L.length := List.length_filter_le _ _
theorem clear_srt {L : List Mb} (h : SM.Srt L) (p : Tx) : SM.Srt (clearT L p) := h.filter _
theorem look_clear1 {L : List Mb} (h : SM.Srt L) (p : Tx) : SM.look (clearT L p) p = SM.look L p := by
  have := h.look_filter (fun k => !underP p k) p
  rw [under_self] at this
  exact this
set_option maxHeartbeats 4000000 in
set_option maxRecDepth 100000 in
theorem rput_any (R : Nat) (N : Nat → Prop) (v : Value) (l : List Mv) (w : World) (h : RefIn w R N v l) (hR : R < w.heap.size) (hN : ∀ b, N b → b < w.heap.size) (m : Mb) (av dv : Value) (hs : Sm m) (hm : NdR w N m.2 av dv) (hl : l.length ≤ 100000) :
    Calls Tryz.prog 23 #[.pointer (some ⟨R, 0, none⟩), .agg (mbC m av dv)] w fun e w' => e = .returned (.int .i64 (putT (l.map (·.1)) m).1) ∧ RefTo w w' R N (putT (l.map (·.1)) m).2 ∧ Chg (fun k => k = R) w.heap.size w w' := by
  have HON : Keep (∀ wx, Below w.heap.size w wx → RefIn wx R N v l) := ⟨fun wx hb => h.below hb hR hN⟩
  have HOF : Keep (∀ wx, Below w.heap.size w wx → RefTo w wx R N (l.map (·.1))) := ⟨fun wx hb => RefTo.of h hR hN hb⟩
  have HNN : Keep (∀ wx : World, w.heap.size ≤ wx.heap.size → ∀ b, N b → b < wx.heap.size) := ⟨fun wx hb b hb' => Nat.lt_of_lt_of_le (hN b hb') hb⟩
  have HMN : Keep (∀ wx, Below w.heap.size w wx → NdR wx N m.2 av dv) := ⟨fun wx hb => hm.below hb hN⟩
  have HMY : Keep (∀ wx, Below w.heap.size w wx → Calls Tryz.prog 22 #[.agg (mbC m av dv)] wx fun e w' => e = .returned (.bool (mayM m)) ∧ Below wx.heap.size wx w') := ⟨fun wx hb => rmay18_any m av dv hs wx ((hm.below hb hN).mono (fun b hb' => Nat.lt_of_lt_of_le (hN b hb') hb.size))⟩
  have hpp := hs.p
  have HPA : Keep (∀ wx, Calls Tryz.prog 46 #[.string ⟨m.1.toArray⟩] wx fun e w' => e = .returned (.string ⟨(parentP m.1).toArray⟩) ∧ wx = w') := ⟨fun wx => rparent_any m.1 (by omega) wx⟩
  have HDR : Keep (∀ wx, Below w.heap.size w wx → Calls Tryz.prog 45 #[.pointer (some ⟨R, 0, none⟩), .string ⟨(parentP m.1).toArray⟩] wx fun e w' => e = .returned (.bool (dirT (l.map (·.1)) (parentP m.1))) ∧ Below wx.heap.size wx w') := ⟨fun wx hb => rdir_any R N v l wx (h.below hb hR hN) (Nat.lt_of_lt_of_le hR hb.size) (fun b hb' => Nat.lt_of_lt_of_le (hN b hb') hb.size) _⟩
  have HPL : Keep (∀ wx, Below w.heap.size w wx → Calls Tryz.prog 49 #[.pointer (some ⟨R, 0, none⟩), .string ⟨m.1.toArray⟩] wx fun e w' => e = .returned (.tuple #[.int .i64 (SM.plc (l.map (·.1)) m.1 : Int), .bool (SM.look (l.map (·.1)) m.1).isSome]) ∧ Below wx.heap.size wx w') := ⟨fun wx hb => place_any R N v l wx (h.below hb hR hN) m.1⟩
  have HCL : Keep (∀ wx, Below w.heap.size w wx → Calls Tryz.prog 50 #[.pointer (some ⟨R, 0, none⟩), .string ⟨m.1.toArray⟩] wx fun e w' => e = .returned (.tuple #[]) ∧ RefTo wx w' R N (clearT (l.map (·.1)) m.1) ∧ Chg (fun k => k = R) wx.heap.size wx w') := ⟨fun wx hb => rclear_any R N v l wx (h.below hb hR hN) (Nat.lt_of_lt_of_le hR hb.size) (fun b hb' => Nat.lt_of_lt_of_le (hN b hb') hb.size) _ (by omega) hl⟩
  have HSET := Keep.keep (fun (N' : Nat → Prop) v' (l' : List Mv) wx (h : RefIn wx R N' v' l') (hR : R < wx.heap.size) (hN : ∀ b, N' b → b < wx.heap.size) (hm : NdR wx N' m.2 av dv) (hl : l'.length ≤ 100000) => rset_any R N' v' l' wx h hR hN m av dv hs hm hl)
  have HPT : Keep (putT (l.map (·.1)) m = if !mayM m then (1, l.map (·.1)) else if !dirT (l.map (·.1)) (parentP m.1) then (33, l.map (·.1)) else if !(SM.look (l.map (·.1)) m.1).isSome && decide (4096 ≤ l.length) then (42, l.map (·.1)) else (0, SM.put (if m.2.kind = 1 then l.map (·.1) else clearT (l.map (·.1)) m.1) m)) := ⟨by
    unfold putT
    rw [List.length_map, show (SM.look (l.map (·.1)) m.1).isNone = !(SM.look (l.map (·.1)) m.1).isSome by cases SM.look (l.map (·.1)) m.1 <;> rfl]⟩
  have HCLN : Keep ((clearT (l.map (·.1)) m.1).length ≤ 100000) := ⟨by have := clear_len (l.map (·.1)) m.1; rw [List.length_map] at this; omega⟩
  obtain ⟨a, cap, hv, hcap, hmx, -⟩ := h.mbs.rd.shape
  obtain ⟨aa, la, ca, ad, ld, cd, e1, e2⟩ := hm.shape
  have HNE := Keep.keep h.ne
  have HMC : Keep (mbC m av dv = #[.string ⟨m.1.toArray⟩, .int .i64 m.2.kind, .int .u32 m.2.mode, .int .u32 m.2.uid, .int .u32 m.2.gid, .int .i64 m.2.time, .slice aa la ca, .slice ad ld cd, .string ⟨m.2.link.toArray⟩]) := ⟨by rw [e1, e2]; rfl⟩
  rw [HMC.out] at HMY ⊢
  simp only [HMC.out] at HSET
  generalize putT (l.map (·.1)) m = res at *
  generalize mayM m = my at *
  generalize dirT (l.map (·.1)) (parentP m.1) = dr at *
  generalize parentP m.1 = pp at *
  generalize SM.plc (l.map (·.1)) m.1 = pl at *
  generalize (SM.look (l.map (·.1)) m.1).isSome = is at *
  clear h hm hs hN e1 e2
  subst hv
  go_enter Tryz.func23, Tryz.ntmps23
  go_upto_region 1 with fail
  refine wp_world (R := fun w1 => Hp NoM w w1 [rowA w.heap.size 32 #[.string ⟨m.1.toArray⟩, .int .i64 m.2.kind, .int .u32 m.2.mode, .int .u32 m.2.uid, .int .u32 m.2.gid, .int .i64 m.2.time, .slice aa la ca, .slice ad ld cd, .string ⟨m.2.link.toArray⟩]]) ((Hp.begin NoM w).newRow _ _) ?_
  intro w1 H1
  obtain ⟨b3, hb3⟩ : ∃ b3, w.heap.size = b3 := ⟨_, rfl⟩
  have HB3 := Keep.keep hb3
  rw [hb3] at H1 ⊢
  have HRW := Keep.keep (H1.out.row 0 rfl)
  have HSZ : Keep ((#[.string ⟨m.1.toArray⟩, .int .i64 m.2.kind, .int .u32 m.2.mode, .int .u32 m.2.uid, .int .u32 m.2.gid, .int .i64 m.2.time, .slice aa la ca, .slice ad ld cd, .string ⟨m.2.link.toArray⟩] : Array Value).size = 9) := ⟨rfl⟩
  clear hb3
  go_wp2_with ((with_reducible refine arm_loadRow HRW.out aggM HSZ.out ?_ ?_); (focus rfl); simp only [Act.put, List.setIfInBounds_toArray, List.set_cons_succ, List.set_cons_zero])
  refine (HMY.out w1 H1.out.below).mono ?_
  rintro e w2 ⟨rfl, hb2⟩
  have H2 := Keep.keep (H1.out.call hb2)
  clear hb2 H1 HRW
  cases my with
  | false =>
    have HRE : Keep (res = (1, l.map (·.1))) := ⟨HPT.out⟩
    go_wp2_with fail
    go_ret
    rw [HRE.out]
    exact ⟨rfl, HOF.out w2 H2.out.below, .of_below H2.out.below⟩
  | true =>
    have c0 := (H2.out.row 0 rfl).cell (i := 0) rfl
    go_wp2_with fail
    refine (HPA.out w2).mono ?_
    rintro e w' ⟨rfl, rfl⟩
    go_wp2_with fail
    refine (HDR.out w2 H2.out.below).mono ?_
    rintro e w3 ⟨rfl, hb3⟩
    have H3 := Keep.keep (H2.out.call hb3)
    clear hb3 H2 c0
    cases dr with
    | false =>
      have HRE : Keep (res = (33, l.map (·.1))) := ⟨HPT.out⟩
      go_wp2_with fail
      go_ret
      rw [HRE.out]
      exact ⟨rfl, HOF.out w3 H3.out.below, .of_below H3.out.below⟩
    | true =>
      have c0 := (H3.out.row 0 rfl).cell (i := 0) rfl
      go_wp2_with fail
      refine (HPL.out w3 H3.out.below).mono ?_
      rintro e w4 ⟨rfl, hb4⟩
      have H4 := Keep.keep (H3.out.call hb4)
      clear hb4 H3 c0
      have hrw := H4.out.row 0 rfl
      have c0 := hrw.cell (i := 0) rfl
      have c1 := hrw.cell (i := 1) rfl
      clear hrw
      have cR := (HON.out w4 H4.out.below).row.cell (i := 0) rfl
      have HRW := Keep.keep (H4.out.row 0 rfl)
      obtain ⟨full, hfull⟩ : ∃ b, decide (4096 ≤ l.length) = b := ⟨_, rfl⟩
      have hfi : decide ((4096 : Int) ≤ (l.length : Int)) = full := by rw [← hfull, Bool.eq_iff_iff]; simp; omega
      have HPI : Keep (res = if !is && full then (42, l.map (·.1)) else (0, SM.put (if m.2.kind = 1 then l.map (·.1) else clearT (l.map (·.1)) m.1) m)) := ⟨by rw [HPT.out, hfull]; rfl⟩
      clear hfull HPT
      -- what is done when there is room
      have HGO : Keep (is = true ∨ full = false → res = (0, SM.put (if m.2.kind = 1 then l.map (·.1) else clearT (l.map (·.1)) m.1) m)) := ⟨fun hh => by
        rw [HPI.out]
        rcases hh with rfl | rfl
        · rfl
        · cases is <;> rfl⟩
      have HNO : Keep (is = false → full = true → res = (42, l.map (·.1))) := ⟨fun h1 h2 => by rw [HPI.out, h1, h2]; rfl⟩
      clear HPI
      by_cases hroom : is = false ∧ full = true
      · obtain ⟨rfl, rfl⟩ := hroom
        have HRE := Keep.keep (HNO.out rfl rfl)
        go_wp2_with fail
        go_ret
        rw [HRE.out]
        exact ⟨rfl, HOF.out w4 H4.out.below, .of_below H4.out.below⟩
      · have HRE := Keep.keep (HGO.out (by cases is <;> cases full <;> simp_all))
        have hkn : (m.2.kind != 1) = !decide (m.2.kind = 1) := by rw [Bool.eq_iff_iff]; simp
        by_cases hk1 : m.2.kind = 1
        · rw [if_pos hk1] at HRE
          rw [decide_eq_true hk1] at hkn
          clear hk1
          cases is <;> cases full
          rotate_left
          focus exact absurd ⟨rfl, rfl⟩ hroom
          all_goals
            go_wp2_with ((with_reducible refine arm_loadRow HRW.out aggM HSZ.out ?_ ?_); (focus rfl); simp only [Act.put, List.setIfInBounds_toArray, List.set_cons_succ, List.set_cons_zero])
            refine (HSET.out N _ l w4 (HON.out w4 H4.out.below) (Nat.lt_of_lt_of_le hR H4.out.size) (HNN.out w4 H4.out.size) (HMN.out w4 H4.out.below) hl).mono ?_
            rintro e w5 ⟨rfl, hto, hch⟩
            have HT5 : Keep (RefTo w w5 R N (SM.put (l.map (·.1)) m)) := ⟨RefTo.trans (w1 := w4) (by
              obtain ⟨v', l', h1, h2⟩ := hto
              exact ⟨v', l', h1.mono (fun b hb => by
                rcases hb with hb | hb
                · exact .inl (.inl hb)
                · exact .inr hb) (fun e => by
                rcases e with (e | e) | e
                · exact HNE.out e
                · have := e.1; omega
                · have := e.1; have := H4.out.size; omega), h2⟩) H4.out.size hch.size hR HNE.out⟩
            have HC5 : Keep (Chg (fun k => k = R) w.heap.size w w5) := ⟨(Chg.of_below H4.out.below).trans (hch.lower H4.out.size)⟩
            clear hto hch
            go_wp2_with fail
            go_ret
            rw [HRE.out]
            exact ⟨rfl, HT5.out, HC5.out⟩
        · rw [if_neg hk1] at HRE
          rw [decide_eq_false hk1] at hkn
          clear hk1
          cases is <;> cases full
          rotate_left
          focus exact absurd ⟨rfl, rfl⟩ hroom
          all_goals
            go_wp2_with fail
            refine (HCL.out w4 H4.out.below).mono ?_
            rintro e w5 ⟨rfl, ⟨v5, l5, hr5, he5⟩, hch5⟩
            have HL5 : Keep (l5.length ≤ 100000) := ⟨by
              have h1 := congrArg List.length he5
              rw [List.length_map] at h1
              rw [h1]; exact HCLN.out⟩
            have HC5 : Keep (Chg (fun k => k = R) w.heap.size w w5) := ⟨(Chg.of_below H4.out.below).trans (hch5.lower H4.out.size)⟩
            have hrw5 : Row w5 b3 32 _ := (H4.out.row 0 rfl).chg hch5 (H4.out.row 0 rfl).lt (by have := HB3.out; omega)
            have HRW5 := Keep.keep hrw5
            have hs5 := hch5.size
            have hs4 := H4.out.size
            have HR5 := Keep.keep hr5
            have HMN5 : Keep (NdR w5 (fun b => N b ∨ Fresh w4.heap.size w5 b) m.2 av dv) := ⟨((HMN.out w4 H4.out.below).loc (fun b hb => hch5.block b (HNN.out w4 hs4 b hb) (fun e => HNE.out (e ▸ hb)))).mono (fun b hb => .inl hb)⟩
            have HE5 := Keep.keep he5
            have HN5 : Keep (∀ b, N b ∨ Fresh w4.heap.size w5 b → b < w5.heap.size) := ⟨fun b hb => by
              rcases hb with hb | hb
              · exact HNN.out w5 (by omega) b hb
              · exact hb.2⟩
            clear hr5 he5 hch5 hrw5 c0 c1 cR HRW
            go_wp2_with ((with_reducible refine arm_loadRow HRW5.out aggM HSZ.out ?_ ?_); (focus rfl); simp only [Act.put, List.setIfInBounds_toArray, List.set_cons_succ, List.set_cons_zero])
            refine (HSET.out _ _ l5 w5 HR5.out (by omega) HN5.out HMN5.out HL5.out).mono ?_
            rintro e w6 ⟨rfl, hto, hch⟩
            have HT6 : Keep (RefTo w w6 R N (SM.put (clearT (l.map (·.1)) m.1) m)) := ⟨by
              rw [← HE5.out]
              refine RefTo.trans (w1 := w5) ?_ (by omega) hch.size hR HNE.out
              obtain ⟨v', l', h1, h2⟩ := hto
              refine ⟨v', l', h1.mono (fun b hb => ?_) (fun e => ?_), h2⟩
              · rcases hb with (hb | hb) | hb
                · exact .inl (.inl hb)
                · exact .inl (.inr ⟨by have := hb.1; omega, hb.2⟩)
                · exact .inr hb
              · rcases e with (e | e) | e
                · exact HNE.out e
                · have := e.1; omega
                · have := e.1; omega⟩
            have HC6 : Keep (Chg (fun k => k = R) w.heap.size w w6) := ⟨HC5.out.trans (hch.lower (by omega))⟩
            clear hto hch
            go_wp2_with fail
            go_ret
            rw [HRE.out]
            exact ⟨rfl, HT6.out, HC6.out⟩
set_option maxHeartbeats 4000000 in
set_option maxRecDepth 100000 in
theorem rremove_any (R : Nat) (N : Nat → Prop) (v : Value) (l : List Mv) (w : World) (h : RefIn w R N v l) (hR : R < w.heap.size) (hN : ∀ b, N b → b < w.heap.size) (p : Tx) (hp : p.length ≤ 1000000) (hl : l.length ≤ 100000) :
    Calls Tryz.prog 24 #[.pointer (some ⟨R, 0, none⟩), .string ⟨p.toArray⟩] w fun e w' => e = .returned (.int .i64 (removeT (l.map (·.1)) p).1) ∧ RefTo w w' R N (removeT (l.map (·.1)) p).2 ∧ Chg (fun k => k = R) w.heap.size w w' := by
  have HPL := Keep.keep (place_any R N v l w h p)
  have HOF : Keep (∀ wx, Below w.heap.size w wx → RefTo w wx R N (l.map (·.1))) := ⟨fun wx hb => RefTo.of h hR hN hb⟩
  have HCL : Keep (∀ wx, Below w.heap.size w wx → Calls Tryz.prog 50 #[.pointer (some ⟨R, 0, none⟩), .string ⟨p.toArray⟩] wx fun e w' => e = .returned (.tuple #[]) ∧ RefTo wx w' R N (clearT (l.map (·.1)) p) ∧ Chg (fun k => k = R) wx.heap.size wx w') := ⟨fun wx hb => rclear_any R N v l wx (h.below hb hR hN) (Nat.lt_of_lt_of_le hR hb.size) (fun b hb' => Nat.lt_of_lt_of_le (hN b hb') hb.size) _ hp hl⟩
  have HLC := Keep.keep (look_clear1 h.srt p)
  have HNE := Keep.keep h.ne
  have HNN := Keep.keep hN
  have HRT : Keep (removeT (l.map (·.1)) p = match SM.look (l.map (·.1)) p with | none => (6, l.map (·.1)) | some _ => (0, (clearT (l.map (·.1)) p).filter (fun m => m.1 != p))) := ⟨rfl⟩
  generalize removeT (l.map (·.1)) p = res at *
  generalize SM.plc (l.map (·.1)) p = pl0 at *
  clear h hN
  cases hlk : SM.look (l.map (·.1)) p with
  | none =>
    have HRE : Keep (res = (6, l.map (·.1))) := ⟨by rw [HRT.out, hlk]⟩
    rw [hlk] at HPL
    clear hlk HRT HLC
    go_enter Tryz.func24, Tryz.ntmps24
    go_wp2_with fail
    refine HPL.out.mono ?_
    rintro e w1 ⟨rfl, hb1⟩
    have HB1 := Keep.keep hb1
    clear hb1
    go_wp2_with fail
    go_ret
    rw [HRE.out]
    exact ⟨rfl, HOF.out _ HB1.out, .of_below HB1.out⟩
  | some n =>
    have HRE : Keep (res = (0, (clearT (l.map (·.1)) p).filter (fun m => m.1 != p))) := ⟨by rw [HRT.out, hlk]⟩
    have HLN : Keep (SM.look (clearT (l.map (·.1)) p) p = some n) := ⟨by rw [HLC.out, hlk]⟩
    rw [hlk] at HPL
    clear hlk HRT HLC HOF
    go_enter Tryz.func24, Tryz.ntmps24
    go_wp2_with fail
    refine HPL.out.mono ?_
    rintro e w1 ⟨rfl, hb1⟩
    have HB1 := Keep.keep hb1
    have hs1 := hb1.size
    clear hb1
    go_wp2_with fail
    refine (HCL.out w1 HB1.out).mono ?_
    rintro e w2 ⟨rfl, ⟨v2, l2, hr2, he2⟩, hch2⟩
    have hs2 := hch2.size
    have HC2 : Keep (Chg (fun k => k = R) w.heap.size w w2) := ⟨(Chg.of_below HB1.out).trans (hch2.lower hs1)⟩
    have HL2 : Keep (l2.length ≤ 100000) := ⟨by
      have h1 := congrArg List.length he2
      have h2 := clear_len (l.map (·.1)) p
      rw [List.length_map] at h1 h2
      omega⟩
    obtain ⟨N2, hN2⟩ : ∃ N2 : Nat → Prop, (fun b => N b ∨ Fresh w1.heap.size w2 b) = N2 := ⟨_, rfl⟩
    have HNB : Keep (∀ b, N2 b → b < w2.heap.size) := ⟨fun b hb => by
      rw [← hN2] at hb
      rcases hb with hb | hb
      · have := HNN.out b hb; omega
      · exact hb.2⟩
    have HTR : Keep (∀ w' L, RefTo w2 w' R N2 L → w2.heap.size ≤ w'.heap.size → RefTo w w' R N L) := ⟨fun w' L hto hsz => by
      rw [← hN2] at hto
      refine RefTo.trans (w1 := w2) ?_ (by omega) hsz hR HNE.out
      obtain ⟨v', l', h1, h2⟩ := hto
      refine ⟨v', l', h1.mono (fun b hb => ?_) (fun e => ?_), h2⟩
      · rcases hb with (hb | hb) | hb
        · exact .inl (.inl hb)
        · exact .inl (.inr ⟨by have := hb.1; omega, hb.2⟩)
        · exact .inr hb
      · rcases e with (e | e) | e
        · exact HNE.out e
        · have := e.1; omega
        · have := e.1; omega⟩
    rw [hN2] at hr2
    rw [← he2] at HRE HLN
    have hR2 : R < w2.heap.size := by omega
    have HPL2 := Keep.keep (place_any R N2 v2 l2 w2 hr2 p)
    have HON : Keep (∀ wx, Below w2.heap.size w2 wx → RefIn wx R N2 v2 l2) := ⟨fun wx hb => hr2.below hb hR2 HNB.out⟩
    have HDE := Keep.keep (hr2.srt.del_eq HLN.out)
    have hple : SM.plc (l2.map (·.1)) p < l2.length := by
      obtain ⟨hk, -⟩ := List.getElem?_eq_some_iff.1 (hr2.srt.at_some HLN.out)
      rw [List.length_map] at hk; exact hk
    have HFS := Keep.keep (fun w5 v5 l5 hb hm ho hs => fit_set (w5 := w5) (v5 := v5) (l5 := l5) hr2 hR2 HNB.out hb hm ho hs)
    have HSR := Keep.keep (hr2.srt.filter (fun m => m.1 != p))
    rw [HLN.out] at HPL2
    generalize SM.plc (l2.map (·.1)) p = pl at *
    obtain ⟨a, cap, rfl, hcap, hmx, -⟩ := hr2.mbs.rd.shape
    unfold maxLen at hmx
    clear hr2 he2 hch2 hN2
    go_wp2_with fail
    refine HPL2.out.mono ?_
    rintro e w3 ⟨rfl, hb3⟩
    have H3 := Keep.keep (((Hp.begin NoM w2).call hb3).nilS w2.heap.size 32 9)
    have c0 := (HON.out w3 H3.out.below).row.cell (i := 0) rfl
    have hsl := fun wx => slice_mto a l2.length cap pl .i64 (by omega) wx
    have HRD := Keep.keep ((HON.out w3 H3.out.below).mbs.take pl (by omega))
    have hll := HL2.out
    clear hb3 HPL2
    go_wp2_with (with_reducible refine arm_stop ?_)
    refine Stopped.out ?_
    refine arm_appendV slMbF (m := pl) (H3.out.sl 0 rfl) (by have := HRD.out.rd; rw [List.length_take, Nat.min_eq_left (by omega)] at this; exact this) HRD.out.one (by unfold maxLen; omega) (by omega) H3.out.size rfl rfl ?_
    intro v4 w4 ho hg hov _
    have hlt : (l2.take pl).length = pl := by rw [List.length_take]; omega
    rw [Nat.zero_add, List.nil_append] at ho
    have H4 := Keep.keep (H3.out.grow 0 rfl hg ho hov)
    obtain ⟨a3, c3, rfl, -⟩ := (ownsV_reads ho).shape
    clear ho hg hov H3 c0 hsl HRD
    simp only [Act.put, List.setIfInBounds_toArray, List.set_cons_succ, List.set_cons_zero]
    obtain ⟨a6, hsl, hrd⟩ := slice_mfrom a l2.length cap (pl + 1) .i64 (by omega) hcap
    have HRD := Keep.keep (hrd _ _ _ _ (HON.out w4 H4.out.below).mbs)
    have hpi : (((pl + 1 : Nat)) : Int) = (pl : Int) + 1 := by omega
    simp only [hpi] at hsl
    have c0 := (HON.out w4 H4.out.below).row.cell (i := 0) rfl
    clear hrd
    go_wp2_with (with_reducible refine arm_stop ?_)
    refine Stopped.out ?_
    refine arm_appendV slMbF (m := l2.length - (pl + 1)) (H4.out.sl 0 rfl) (by have := HRD.out.rd; rw [List.length_drop] at this; exact this) HRD.out.one (by unfold maxLen; omega) (by omega) H4.out.size rfl rfl ?_
    intro v5 w5 ho hg hov _
    obtain ⟨n5, hn5⟩ : ∃ n5, pl + (l2.length - (pl + 1)) = n5 := ⟨_, rfl⟩
    have hlen5 : (l2.take pl ++ l2.drop (pl + 1)).length = n5 := by rw [← hn5]; simp; omega
    rw [← mcells_append, hn5] at ho
    have H5 := Keep.keep (H4.out.grow 0 rfl hg ho hov)
    obtain ⟨a5, c5, rfl, -⟩ := (ownsV_reads ho).shape
    have hmapE : (l2.take pl ++ l2.drop (pl + 1)).map (·.1) = (l2.map (·.1)).filter (fun m => m.1 != p) := by
      rw [HDE.out]; simp [List.map_take, List.map_drop]
    have HE := Keep.keep (HFS.out w5 _ (l2.take pl ++ l2.drop (pl + 1)) H5.out.below (fun x hx => by
      rcases List.mem_append.1 hx with hx | hx
      · exact List.mem_of_mem_take hx
      · exact List.mem_of_mem_drop hx) (by rw [hlen5]; exact ho) (by rw [hmapE]; exact HSR.out))
    rw [hmapE] at HE
    have c1 := (HON.out w5 H5.out.below).row.cell (i := 0) rfl
    have f1 := (HON.out w5 H5.out.below).row.frozen 0
    clear ho hg hov H4 c0 hsl HRD HFS hmapE
    simp only [Act.put, List.setIfInBounds_toArray, List.set_cons_succ, List.set_cons_zero]
    go_wp2_with fail
    go_ret
    rw [HRE.out]
    refine ⟨rfl, HTR.out _ _ HE.out.1 HE.out.2.size, HC2.out.trans (HE.out.2.lower (by omega))⟩
end Go.Proofs.YtphgmkhbhboklaaGreatDoor
/- THE LIBRARY CONTRACTS on sorted keys, laid at this translation by the shelf's own programs (lay-iter, lay-plain). -/
namespace Go.Proofs
open Go.RowKit Go.Maps Go.Sort Go.Shelf
def Tryz.keys58_ren : Go.Shelf.Ren := ⟨fun | 7 => 58 | 10 => 86 | n => n, fun | 23 => 63 | 26 => 9 | 3 => 30 | 28 => 91 | 0 => 0 | 27 => 90 | 33 => 72 | 4 => 4 | n => n, fun | n => n⟩
theorem Tryz.keys58 : Go.Proofs.SlLaysZ.n7 Tryz.prog Tryz.keys58_ren := {
  mixed := by kernel_rfl
  f7 := ⟨Tryz.f58.name, by decide, Tryz.func58.trans (congrArg some (by kernel_rfl))⟩
  f10 := ⟨Tryz.f86.name, by decide, Tryz.func86.trans (congrArg some (by kernel_rfl))⟩
  t0 := Tryz.underlying0
  a0 := Tryz.isAgg0
  z0 := Tryz.sizeOf0
  v0 := Tryz.zeroValue0
  t4 := Tryz.underlying4
  a4 := Tryz.isAgg4
  z4 := Tryz.sizeOf4
  v4 := Tryz.zeroValue4
  t23 := Tryz.underlying63
  a23 := Tryz.isAgg63
  z23 := Tryz.sizeOf63
  v23 := Tryz.zeroValue63
  t26 := Tryz.underlying9
  a26 := Tryz.isAgg9
  z26 := Tryz.sizeOf9
  v26 := Tryz.zeroValue9
  t27 := Tryz.underlying90
  a27 := Tryz.isAgg90
  z27 := Tryz.sizeOf90
  v27 := Tryz.zeroValue90
  t28 := Tryz.underlying91
  a28 := Tryz.isAgg91
  z28 := Tryz.sizeOf91
  v28 := Tryz.zeroValue91
  t33 := Tryz.underlying72
  a33 := Tryz.isAgg72
  z33 := Tryz.sizeOf72
  v33 := Tryz.zeroValue72 }
def Tryz.sorted57_ren : Go.Shelf.Ren := ⟨fun | 6 => 57 | 8 => 85 | 9 => 55 | 11 => 107 | 13 => 84 | 12 => 83 | 23 => 105 | 24 => 106 | 14 => 96 | 15 => 97 | 16 => 98 | 17 => 99 | 18 => 100 | 19 => 101 | 20 => 102 | 21 => 103 | 22 => 104 | 25 => 113 | 26 => 114 | 27 => 115 | 28 => 116 | 29 => 117 | 30 => 118 | 31 => 125 | n => n, fun | 26 => 9 | 28 => 91 | 24 => 54 | 0 => 0 | 3 => 3 | 37 => 111 | 48 => 27 | 50 => 122 | 4 => 4 | 40 => 115 | 39 => 114 | 45 => 82 | 5 => 5 | 9 => 9 | 51 => 127 | 55 => 131 | 57 => 141 | 58 => 142 | 33 => 72 | n => n, fun | n => n⟩
theorem Tryz.sorted57 : Go.Proofs.SlLaysZ.n6 Tryz.prog Tryz.sorted57_ren := {
  mixed := by kernel_rfl
  f6 := ⟨Tryz.f57.name, by decide, Tryz.func57.trans (congrArg some (by kernel_rfl))⟩
  f8 := ⟨Tryz.f85.name, by decide, Tryz.func85.trans (congrArg some (by kernel_rfl))⟩
  f11 := ⟨Tryz.f107.name, by decide, Tryz.func107.trans (congrArg some (by kernel_rfl))⟩
  t0 := Tryz.underlying0
  a0 := Tryz.isAgg0
  z0 := Tryz.sizeOf0
  v0 := Tryz.zeroValue0
  t24 := Tryz.underlying54
  a24 := Tryz.isAgg54
  z24 := Tryz.sizeOf54
  v24 := Tryz.zeroValue54
  t26 := Tryz.underlying9
  a26 := Tryz.isAgg9
  z26 := Tryz.sizeOf9
  v26 := Tryz.zeroValue9
  t28 := Tryz.underlying91
  a28 := Tryz.isAgg91
  z28 := Tryz.sizeOf91
  v28 := Tryz.zeroValue91
  i26 := by kernel_rfl }
def Tryz.sort55_ren : Go.Shelf.Ren := ⟨fun | 6 => 55 | 8 => 84 | 9 => 83 | 19 => 105 | 20 => 106 | 21 => 96 | 22 => 97 | 23 => 98 | 24 => 99 | 25 => 100 | 26 => 101 | 27 => 102 | 28 => 103 | 29 => 104 | 36 => 113 | 31 => 114 | 32 => 115 | 37 => 116 | 38 => 117 | 39 => 118 | 41 => 125 | n => n, fun | 27 => 54 | 29 => 9 | 3 => 3 | 32 => 111 | 26 => 54 | 0 => 0 | 44 => 27 | 46 => 122 | 4 => 4 | 36 => 115 | 35 => 114 | 41 => 82 | 5 => 5 | 9 => 9 | 53 => 127 | 57 => 131 | 63 => 141 | 64 => 142 | n => n, fun | n => n⟩
theorem Tryz.sort55 : Go.Proofs.SlLaysM.n6 Tryz.prog Tryz.sort55_ren := {
  mixed := by kernel_rfl
  f6 := ⟨Tryz.f55.name, by decide, Tryz.func55.trans (congrArg some (by kernel_rfl))⟩
  f8 := Tryz.func84.trans (congrArg some (by kernel_rfl))
  f9 := ⟨Tryz.f83.name, by decide, Tryz.func83.trans (congrArg some (by kernel_rfl))⟩
  f19 := Tryz.func105.trans (congrArg some (by kernel_rfl))
  f20 := Tryz.func106.trans (congrArg some (by kernel_rfl))
  f21 := ⟨Tryz.f96.name, by decide, Tryz.func96.trans (congrArg some (by kernel_rfl))⟩
  f22 := ⟨Tryz.f97.name, by decide, Tryz.func97.trans (congrArg some (by kernel_rfl))⟩
  f23 := ⟨Tryz.f98.name, by decide, Tryz.func98.trans (congrArg some (by kernel_rfl))⟩
  f24 := ⟨Tryz.f99.name, by decide, Tryz.func99.trans (congrArg some (by kernel_rfl))⟩
  f25 := ⟨Tryz.f100.name, by decide, Tryz.func100.trans (congrArg some (by kernel_rfl))⟩
  f26 := ⟨Tryz.f101.name, by decide, Tryz.func101.trans (congrArg some (by kernel_rfl))⟩
  f27 := ⟨Tryz.f102.name, by decide, Tryz.func102.trans (congrArg some (by kernel_rfl))⟩
  f28 := ⟨Tryz.f103.name, by decide, Tryz.func103.trans (congrArg some (by kernel_rfl))⟩
  f29 := ⟨Tryz.f104.name, by decide, Tryz.func104.trans (congrArg some (by kernel_rfl))⟩
  f31 := Tryz.func114.trans (congrArg some (by kernel_rfl))
  f32 := Tryz.func115.trans (congrArg some (by kernel_rfl))
  f36 := ⟨Tryz.f113.name, by decide, Tryz.func113.trans (congrArg some (by kernel_rfl))⟩
  f37 := ⟨Tryz.f116.name, by decide, Tryz.func116.trans (congrArg some (by kernel_rfl))⟩
  f38 := ⟨Tryz.f117.name, by decide, Tryz.func117.trans (congrArg some (by kernel_rfl))⟩
  f39 := ⟨Tryz.f118.name, by decide, Tryz.func118.trans (congrArg some (by kernel_rfl))⟩
  f41 := ⟨Tryz.f125.name, by decide, Tryz.func125.trans (congrArg some (by kernel_rfl))⟩
  t0 := Tryz.underlying0
  a0 := Tryz.isAgg0
  z0 := Tryz.sizeOf0
  v0 := Tryz.zeroValue0
  t3 := Tryz.underlying3
  a3 := Tryz.isAgg3
  z3 := Tryz.sizeOf3
  v3 := Tryz.zeroValue3
  t4 := Tryz.underlying4
  a4 := Tryz.isAgg4
  z4 := Tryz.sizeOf4
  v4 := Tryz.zeroValue4
  t5 := Tryz.underlying5
  a5 := Tryz.isAgg5
  z5 := Tryz.sizeOf5
  v5 := Tryz.zeroValue5
  t9 := Tryz.underlying9
  a9 := Tryz.isAgg9
  z9 := Tryz.sizeOf9
  v9 := Tryz.zeroValue9
  t26 := Tryz.underlying54
  a26 := Tryz.isAgg54
  z26 := Tryz.sizeOf54
  v26 := Tryz.zeroValue54
  t27 := Tryz.underlying54
  a27 := Tryz.isAgg54
  z27 := Tryz.sizeOf54
  v27 := Tryz.zeroValue54
  t29 := Tryz.underlying9
  a29 := Tryz.isAgg9
  z29 := Tryz.sizeOf9
  v29 := Tryz.zeroValue9
  t32 := Tryz.underlying111
  a32 := Tryz.isAgg111
  z32 := Tryz.sizeOf111
  v32 := Tryz.zeroValue111
  t35 := Tryz.underlying114
  a35 := Tryz.isAgg114
  z35 := Tryz.sizeOf114
  v35 := Tryz.zeroValue114
  t36 := Tryz.underlying115
  a36 := Tryz.isAgg115
  z36 := Tryz.sizeOf115
  v36 := Tryz.zeroValue115
  t41 := Tryz.underlying82
  a41 := Tryz.isAgg82
  z41 := Tryz.sizeOf82
  v41 := Tryz.zeroValue82
  t44 := Tryz.underlying27
  a44 := Tryz.isAgg27
  z44 := Tryz.sizeOf27
  v44 := Tryz.zeroValue27
  t46 := Tryz.underlying122
  a46 := Tryz.isAgg122
  z46 := Tryz.sizeOf122
  v46 := Tryz.zeroValue122
  t53 := Tryz.underlying127
  a53 := Tryz.isAgg127
  z53 := Tryz.sizeOf127
  v53 := Tryz.zeroValue127
  t57 := Tryz.underlying131
  a57 := Tryz.isAgg131
  z57 := Tryz.sizeOf131
  v57 := Tryz.zeroValue131
  t63 := Tryz.underlying141
  a63 := Tryz.isAgg141
  z63 := Tryz.sizeOf141
  v63 := Tryz.zeroValue141
  t64 := Tryz.underlying142
  a64 := Tryz.isAgg142
  z64 := Tryz.sizeOf142
  v64 := Tryz.zeroValue142 }


theorem Tryz.sorts57 (m : Nat) : AnyZ.SortsIn Tryz.prog Tryz.sorted57_ren Fence.wide m :=
  ⟨fun blk off cap ss W hH hblk hsz => callsIn_wide.2 (AnyM.slices_Sort_string Tryz.sort55 blk off cap ss W hH hblk hsz),
   fun p cap W => callsIn_wide.2 (AnyM.slices_Sort_string_none Tryz.sort55 p cap W)⟩

theorem Tryz.maps_Keys_58 (mb : Option Nat) (W : World) : CallsIn Fence.wide 5 Tryz.prog 58 #[.map mb] W fun e w' => e = .returned (.func (.func 86) #[] #[.pointer (some ⟨W.heap.size, 0, none⟩)]) ∧ w' = W.alloc (.cells #[.map mb] 63) :=
  AnyZ.keys_in Tryz.keys58 Fence.wide 5 trivial rfl mb W

set_option maxHeartbeats 1000000 in
theorem Tryz.slices_Sorted_keys_57_58 {H : Type} (b nn : Nat) (D0 : DataW H) (R : Value → Option (DataW H × List MemPlace)) (w : World) (hown : w.ownsMap Tryz.prog 9 R b nn D0) (hmax : Maps.size D0 ≤ maxLen) (hbytes : Maps.size D0 * 16 ≤ 140737488355328) :
    CallsIn Fence.wide 5 Tryz.prog 57 #[.func (.func 86) #[] #[.pointer (some ⟨w.heap.size, 0, none⟩)]] (w.alloc (.cells #[.map (some b)] 63)) fun e w' => ∃ (v : Value) (ss : List (List UInt8)), e = .returned v ∧ ss.Perm (strKeys D0) ∧
      w'.ownsRow (w.alloc (.cells #[.map (some b)] 63)).heap.size 9 1 v ss.length ((ss.mergeSort (fun x y => decide (x ≤ y))).map encStr) ∧ (v = .slice none 0 0 ↔ ss = []) ∧ Below (w.alloc (.cells #[.map (some b)] 63)).heap.size (w.alloc (.cells #[.map (some b)] 63)) w' := by
  have hbl := hown.lt
  have hseq : SeqGives Fence.wide 2 Tryz.prog 86 #[.pointer (some ⟨w.heap.size, 0, none⟩)] encStr (fun ss => ss.Perm (strKeys D0)) (Maps.size D0) (w.alloc (.cells #[.map (some b)] 63)) :=
    AnyZ.keys_gives (ρ := Tryz.keys58_ren) { Tryz.keys58 with } Fence.wide _ trivial rfl (by omega) w.heap.size b nn D0 _ (by simp) (by simp) (by
      obtain ⟨es, clock, hb, Ft, hs, hD⟩ := hown
      exact ⟨es, clock, (Below.heap_alloc _ _ b hbl).trans hb, Ft, hs, hD⟩)
  exact AnyZ.sorted_in Tryz.sorted57 Fence.wide 5 trivial trivial trivial trivial rfl (by omega) (Tryz.sorts57 _) (enters_of Tryz.func55 (by kernel_rfl) rfl) 86 #[.pointer (some ⟨w.heap.size, 0, none⟩)] trivial (enters_of Tryz.func86 (by kernel_rfl) rfl) _ _ hmax hbytes _ hseq

set_option maxHeartbeats 1000000 in
theorem Tryz.slices_Sorted_keys_nil_57_58 (w : World) :
    CallsIn Fence.wide 5 Tryz.prog 57 #[.func (.func 86) #[] #[.pointer (some ⟨w.heap.size, 0, none⟩)]] (w.alloc (.cells #[.map none] 63)) fun e w' => ∃ (v : Value) (ss : List (List UInt8)), e = .returned v ∧ ss = [] ∧
      w'.ownsRow (w.alloc (.cells #[.map none] 63)).heap.size 9 1 v ss.length ((ss.mergeSort (fun x y => decide (x ≤ y))).map encStr) ∧ (v = .slice none 0 0 ↔ ss = []) ∧ Below (w.alloc (.cells #[.map none] 63)).heap.size (w.alloc (.cells #[.map none] 63)) w' := by
  have hseq : SeqGives Fence.wide 2 Tryz.prog 86 #[.pointer (some ⟨w.heap.size, 0, none⟩)] encStr (fun ss : List (List UInt8) => ss = []) 0 (w.alloc (.cells #[.map none] 63)) :=
    AnyZ.keys_gives_nil (ρ := Tryz.keys58_ren) { Tryz.keys58 with } Fence.wide _ trivial rfl w.heap.size _ (by simp) (by simp)
  exact AnyZ.sorted_in Tryz.sorted57 Fence.wide 5 trivial trivial trivial trivial rfl (by omega) (Tryz.sorts57 _) (enters_of Tryz.func55 (by kernel_rfl) rfl) 86 #[.pointer (some ⟨w.heap.size, 0, none⟩)] trivial (enters_of Tryz.func86 (by kernel_rfl) rfl) _ 0 (Nat.zero_le _) (by omega) _ hseq



end Go.Proofs
/- tree.Each: what it hands out. -/
namespace Go.Proofs.YtphgmkhbhboklaaGreatDoor
open Go.RowKit Go.Shelf
attribute [local go_sem] Oper.semAt_some
/-- what a round keeps: what lay below n₀, and each row of texts -/
def KE (M : Nat → Prop) (n₀ : Nat) (W W' : World) : Prop := Chg M n₀ W W' ∧ ∀ (b : Nat) (c : Array Value), W.heap[b]? = some (Obj.cells c 9 (0, 0)) → W'.heap[b]? = some (Obj.cells c 9 (0, 0))
theorem KE.refl (M : Nat → Prop) (n₀ : Nat) (W : World) : KE M n₀ W W := ⟨Chg.refl _ _ _, fun _ _ h => h⟩
theorem KE.trans {M : Nat → Prop} {n₀ : Nat} {A B C : World} (h : KE M n₀ A B) (k : KE M n₀ B C) : KE M n₀ A C := ⟨h.1.trans k.1, fun b c hb => k.2 b c (h.2 b c hb)⟩
theorem KE.of_below {M : Nat → Prop} {n₀ : Nat} {A B : World} (h : Below A.heap.size A B) (hn : n₀ ≤ A.heap.size) : KE M n₀ A B := ⟨.of_below (h.mono hn), fun b c hb => by rw [h.block b (Array.getElem?_eq_some_iff.1 hb).1]; exact hb⟩
theorem KE.b {M : Nat → Prop} {n₀ : Nat} {w : World} (hn : n₀ ≤ w.heap.size) (W : World) (l : Nat) (o o' : Obj) (hl : w.heap.size ≤ l) (h : W.heap[l]? = some o) (hc : o.isCells = false) (hw : o.isWalk = false) : KE M n₀ W (W.putObj l o') :=
  ⟨.of_below (belowK_b hn W l o o' hl h hc hw), fun b c hb => by
    have hne : b ≠ l := by rintro rfl; rw [h] at hb; injection hb with hb; subst hb; cases hc
    rw [World.putObj_heap_other hne]; exact hb⟩
theorem strKeys_dS (M : List (Tx × Value)) : strKeys (dS M) = M.map (·.1) := by
  show (M.map dSe).map (fun p => strOf p.1) = M.map (·.1)
  rw [List.map_map]
  rfl
theorem sort_srt {α : Type} {M : List (Tx × α)} (h : SM.Srt M) {ss : List Tx} (hp : ss.Perm (M.map (·.1))) : ss.mergeSort (fun x y => decide (x ≤ y)) = M.map (·.1) := by
  have := mergeSort_of_perm hp
  rw [show (fun x y => decide (x ≤ y)) = leB from rfl, this]
  refine List.mergeSort_of_pairwise (le := leB) ?_
  rw [List.pairwise_map]
  exact List.Pairwise.imp (R := fun a b : Tx × α => a.1 < b.1) (fun {a b} hab => by simpa [leB] using List.le_of_lt hab) h
theorem buildM (m : Mb) (av dv : Value) (w : World) : (Instr.build 32 #[(0, .string ⟨m.1.toArray⟩), (1, .agg (ndC m.2 av dv))]).run Tryz.prog w = .ok (.agg (mbC m av dv)) w := by kernel_rfl
/-- a row of the names -/
theorem names_row {w : World} {base : Nat} {v : Value} {ss : List Tx} {L : List Mb} (hss : ss.mergeSort (fun x y => decide (x ≤ y)) = L.map (·.1)) (h : w.ownsRow base 9 1 v ss.length ((ss.mergeSort (fun x y => decide (x ≤ y))).map encStr)) :
    ∃ av cv, v = .slice av ss.length cv ∧ (L = [] ∨ ∃ g cur, av = some ⟨g, 0, none⟩ ∧ w.heap[g]? = some (Obj.cells cur 9 (0, 0)) ∧ ∀ k (hk : k < L.length), cur[k]? = some (encStr L[k].1)) := by
  rw [hss] at h
  obtain ⟨hl, h⟩ := h
  rw [List.map_map, List.length_map, Nat.mul_one] at hl
  rcases h with ⟨rfl, h0⟩ | ⟨g, cap, cur, rfl, hb, hh, hn, hm, hs, ht⟩
  · exact ⟨none, 0, by rw [h0], .inl (List.eq_nil_of_length_eq_zero (by omega))⟩
  · refine ⟨_, cap, rfl, .inr ⟨g, cur, rfl, hh, fun k hk => ?_⟩⟩
    have : (cur.toList.take (ss.length * 1))[k]? = some (encStr L[k].1) := by
      rw [ht]; simp [hk]
    rw [List.getElem?_take] at this
    split at this
    · simpa using this
    · cases this
def encM (f : Tx → Value × Value) (x : Mb) : Array Value := #[.agg (mbC x (f x.1).1 (f x.1).2)]
set_option maxRecDepth 100000 in
set_option maxHeartbeats 4000000 in
theorem each1_in (M : Nat → Prop) (n : Nat) (hn : 6 ≤ n) (lo Bt n₀ T mb : Nat) (Bk : Nat → Prop) (f : Tx → Value × Value) (L : List Mb) (hL : L.length ≤ 1000000) (J Jx : List Mb → World → Prop)
    (hY : ∀ pre x W, x ∈ L → J pre W → pre.length < L.length → YieldAt Fence.wide (n - 1) Tryz.prog lo (encM f x) W fun e W' =>
      (e = .returned (.bool true) ∧ J (pre ++ [x]) W' ∧ KE M n₀ W W') ∨ (e = .returned (.bool false) ∧ Jx (pre ++ [x]) W'))
    (W : World) (hJ : AbidesFrom W.heap.size J) (hBt : W.cell? ⟨Bt, 0, none⟩ = some (.pointer (some ⟨T, 0, none⟩))) (hBt0 : Bt < n₀ ∧ ¬ M Bt) (hT : TreeIn W T mb Bk f L) (hlt : T < n₀ ∧ mb < n₀ ∧ ∀ b, Bk b → b < n₀) (hM : ¬ M T ∧ ¬ M mb ∧ ∀ b, Bk b → ¬ M b) (hn0 : n₀ ≤ W.heap.size) (h0 : J [] W) :
    CallsIn Fence.wide n Tryz.prog 56 #[.func (.yield lo) #[] #[], .pointer (some ⟨Bt, 0, none⟩)] W fun e W' => (∃ v, e = .returned v) ∧
      ((∃ ys, ys = L ∧ J ys W') ∨ (∃ pre, (∃ k, k ≤ L.length ∧ pre = L.take k) ∧ Jx pre W')) := by
  have hn1 : 1 ≤ n := by omega
  have HT := Keep.keep hT
  have HNN := Keep.keep (none_ok T mb W hT.row)
  have c0 := hT.row.cell (i := 0) rfl
  have hsz : Maps.size (dS (entries f L)) = L.length := by rw [size_dS]; simp [entries]
  have HSO := Keep.keep (Tryz.slices_Sorted_keys_57_58 mb _ (dS (entries f L)) rawE W hT.map.o (by rw [hsz]; unfold maxLen; omega) (by rw [hsz]; omega))
  have HSK : Keep (∀ ss : List Tx, ss.Perm (strKeys (dS (entries f L))) → ss.mergeSort (fun x y => decide (x ≤ y)) = L.map (·.1)) := ⟨fun ss hp => by
    rw [strKeys_dS] at hp
    have := sort_srt hT.map.s hp
    rw [this]; simp [entries, Function.comp_def]⟩
  have HON : Keep (∀ wx, Chg M n₀ W wx → TreeIn wx T mb Bk f L) := ⟨fun wx hb => hT.loc (fun b hb' => hb.block b (by rcases hb' with h | h | h; omega; omega; exact hlt.2.2 b h) (by rcases hb' with rfl | rfl | h; exact hM.1; exact hM.2.1; exact hM.2.2 b h))⟩
  have HBT : Keep (∀ wx, Chg M n₀ W wx → wx.cell? ⟨Bt, 0, none⟩ = some (.pointer (some ⟨T, 0, none⟩))) := ⟨fun wx hb => by rw [hb.cell (p := ⟨Bt, 0, none⟩) hBt0.1 hBt0.2]; exact hBt⟩
  clear hsz
  have hf1 : Fence.wide.fn 30 := trivial
  have hf2 : Fence.wide.fn 58 := trivial
  have hf3 : Fence.wide.fn 57 := trivial
  refine callsIn_of_wp Tryz.func56 rfl trivial ?_ rfl
  simp only [Tryz.ntmps56, List.size_toArray, List.length_cons, List.length_nil, Nat.reduceAdd, Nat.reduceSub, Array.replicate_succ, Array.replicate_zero, List.push_toArray, List.append_toArray, List.nil_append, List.cons_append]
  gi_wp2_with (first
    | (gi_at_call 30; refine (callsIn_wide.2 HNN.out).mono ?_; rintro e w' ⟨rfl, rfl⟩)
    | (gi_at_call 58; refine (callsIn_wide.2 (callsIn_wide.1 (Tryz.maps_Keys_58 _ _))).mono ?_; rintro e w' ⟨rfl, rfl⟩)
    | (gi_at_call 57; refine (callsIn_wide.2 (callsIn_wide.1 HSO.out)).mono ?_; rintro e w' ⟨v, ss, rfl, hS, hrow, hnil, hb⟩
       have hss := HSK.out ss hS
       obtain ⟨av, cv, hv, HNR⟩ := names_row hss hrow
       have HLS : Keep (ss.length = L.length) := ⟨by have := congrArg List.length hss; rw [List.length_mergeSort, List.length_map] at this; exact this⟩
       rw [HLS.out] at hv
       have HB := Keep.keep (((Below.refl W.heap.size W).alloc (Nat.le_refl _) _).trans (hb.mono (by simp)))
       have HNR := Keep.keep HNR
       clear hS hrow hnil hb hss HLS
       subst hv))
  gi_loopw [4, 14] (fun _ u14 wr => ∃ k : Nat, k ≤ L.length ∧ u14 = .int .i64 (k : Int) ∧ J (L.take k) wr ∧ Chg M n₀ W wr ∧ (L = [] ∨ ∃ g cur, av = some ⟨g, 0, none⟩ ∧ wr.heap[g]? = some (Obj.cells cur 9 (0, 0)) ∧ ∀ k (hk : k < L.length), cur[k]? = some (encStr L[k].1)))
    (fun _ u14 _ => L.length - (intOf u14).toNat)
  case atStart => exact ⟨0, Nat.zero_le _, rfl, hJ [] W _ none h0 ⟨HB.out.os, HB.out.tape, HB.out.output, HB.out.size, fun i hi _ => HB.out.block i hi⟩ (fun r e => by cases e), .of_below (HB.out.mono hn0), HNR.out⟩
  case round =>
    obtain ⟨k, hkL, rfl, hJs, hbl, hnr⟩ := hrel
    have HJS := Keep.keep hJs; have HBL := Keep.keep hbl; have HNR2 := Keep.keep hnr
    clear hJs hbl hnr HB HNR HSO
    by_cases hk : k < L.length
    · have hd : decide ((k : Int) < (L.length : Int)) = true := decide_eq_true (by omega)
      obtain ⟨g, cur, rfl, hg, hcs⟩ : ∃ g cur, av = some ⟨g, 0, none⟩ ∧ wr.heap[g]? = some (Obj.cells cur 9 (0, 0)) ∧ ∀ k (hk : k < L.length), cur[k]? = some (encStr L[k].1) := by
        rcases HNR2.out with h | h
        · rw [h] at hk; simp at hk
        · exact h
      have HG := Keep.keep hg; have HCS := Keep.keep hcs
      have hnm : wr.cell? ⟨g, k, none⟩ = some (encStr L[k].1) := by simp [World.cell?, hg, hcs k hk]
      have hTI := HON.out wr HBL.out
      have hTc := hTI.row.cell (i := 0) rfl
      have hBc := HBT.out wr HBL.out
      have hlk : SM.look L L[k].1 = some L[k].2 := (hTI.srt.look).2 (List.getElem_mem hk)
      have hsm := hTI.sm _ (List.getElem_mem hk)
      have hl1 := hTI.map.look1 Tryz.underlying9 Tryz.underlying63 (zeroN wr) (p := L[k].1) (by have := hsm.p; unfold maxLen; omega)
      rw [look_entries, hlk] at hl1
      simp only [Option.map_some, Option.getD_some] at hl1
      have HTK : Keep (L.take (k + 1) = L.take k ++ [L[k]]) := ⟨List.take_succ_eq_append_getElem hk⟩
      have htl : (L.take k).length < L.length := by rw [List.length_take]; omega
      obtain ⟨fn, tmps, assign, body, hy, hR⟩ := hY _ L[k] wr (List.getElem_mem hk) HJS.out htl
      unfold encM mbC strV at hy
      unfold ndC strV at hl1
      have HR := Keep.keep hR
      clear hR hlk hsm hTI htl hg hcs
      generalize L[k] = x at *
      unfold encStr at hnm
      gi_wp2
      refine HR.out.mono ?_
      rintro e W3 (⟨rfl, hJ3, hk3⟩ | ⟨rfl, hJx3⟩)
      · rw [← HTK.out] at hJ3
        have HJ3 := Keep.keep hJ3
        have HB3 : Keep (Chg M n₀ W W3) := ⟨HBL.out.trans hk3.1⟩
        have HN3 : Keep (L = [] ∨ ∃ g2 cur, some (Addr.mk g 0 none) = some ⟨g2, 0, none⟩ ∧ W3.heap[g2]? = some (Obj.cells cur 9 (0, 0)) ∧ ∀ k (hk : k < L.length), cur[k]? = some (encStr L[k].1)) := ⟨.inr ⟨g, cur, rfl, hk3.2 g cur HG.out, HCS.out⟩⟩
        clear hJ3 hk3
        gi_wp2
        go_roundw
        case rel => exact ⟨k + 1, by omega, by simp, HJ3.out, HB3.out, HN3.out⟩
        case measure => simp [intOf]; omega
      · rw [← HTK.out] at hJx3
        have HJ3 := Keep.keep hJx3
        clear hJx3
        gi_wp2
        refine bodyPost_ret (results_none rfl _ _ _) rfl ?_
        exact ⟨⟨_, rfl⟩, .inr ⟨_, ⟨k + 1, by omega, rfl⟩, HJ3.out⟩⟩
    · have hd : decide ((k : Int) < (L.length : Int)) = false := decide_eq_false (by omega)
      have hkl : k = L.length := by omega
      have HF : Keep (J L wr) := ⟨by have h := HJS.out; rw [hkl, List.take_length] at h; exact h⟩
      gi_wp2
      go_end0
      exact ⟨⟨_, rfl⟩, .inl ⟨L, rfl, HF.out⟩⟩
/-- tree.Each hands back a value that stops -/
theorem each_stops (M : Nat → Prop) (n : Nat) (hn : 6 ≤ n) (Bt n₀ T mb : Nat) (Bk : Nat → Prop) (f : Tx → Value × Value) (L : List Mb) (hL : L.length ≤ 1000000) (w : World) (hBt : w.cell? ⟨Bt, 0, none⟩ = some (.pointer (some ⟨T, 0, none⟩))) (hBt0 : Bt < n₀ ∧ ¬ M Bt) (hT : TreeIn w T mb Bk f L) (hlt : T < n₀ ∧ mb < n₀ ∧ ∀ b, Bk b → b < n₀) (hM : ¬ M T ∧ ¬ M mb ∧ ∀ b, Bk b → ¬ M b) (hn0 : n₀ ≤ w.heap.size) :
    SeqStopsK Fence.wide n Tryz.prog 56 #[.pointer (some ⟨Bt, 0, none⟩)] (fun x : {x : Mb // x ∈ L} => encM f x.1) (KE M n₀) (fun ys => ys.map (·.1) = L) (fun pre => ∃ k, k ≤ L.length ∧ pre.map (·.1) = L.take k) L.length w := fun lo J Jx W hW hJ _ hY h0 => by
  have hlt' : ∀ b, b < n₀ → W.heap[b]? = w.heap[b]? := fun b hb => hW.block b (Nat.lt_of_lt_of_le hb hn0)
  refine (each1_in M n hn lo Bt n₀ T mb Bk f L hL (fun pre W => ∃ q : List {x : Mb // x ∈ L}, q.map (·.1) = pre ∧ J q W) (fun pre W => ∃ q : List {x : Mb // x ∈ L}, q.map (·.1) = pre ∧ Jx q W) ?_ W ?_ (by rw [cell_loc (hlt' Bt hBt0.1)]; exact hBt) hBt0 (hT.loc (fun b hb' => hlt' b (by rcases hb' with h | h | h; omega; omega; exact hlt.2.2 b h))) hlt hM (Nat.le_trans hn0 hW.size) ⟨[], rfl, h0⟩).mono ?_
  · rintro pre x W1 hx ⟨q, rfl, hq⟩ hl
    obtain ⟨fn, tmps, assign, body, hy, hR⟩ := hY q ⟨x, hx⟩ W1 hq (by simpa using hl)
    refine ⟨fn, tmps, assign, body, hy, hR.mono ?_⟩
    rintro e W2 (⟨h1, h2, h3⟩ | ⟨h1, h2⟩)
    · exact .inl ⟨h1, ⟨_, by simp, h2⟩, h3⟩
    · exact .inr ⟨h1, _, by simp, h2⟩
  · intro q W1 W2 row hq h1 h2
    obtain ⟨q', e, hq'⟩ := hq
    exact ⟨q', e, hJ _ _ _ _ hq' h1 h2⟩
  · rintro e W2 ⟨hv, ⟨ys, rfl, q, e, hq⟩ | ⟨pre, ⟨k, hk, rfl⟩, q, e, hq⟩⟩
    · exact ⟨hv, .inl ⟨q, e, hq⟩⟩
    · exact ⟨hv, .inr ⟨q, ⟨k, hk, e⟩, hq⟩⟩
set_option maxHeartbeats 400000 in
set_option maxRecDepth 100000 in
/-- tree.Each -/
theorem each_any (a : Option Addr) (w : World) : Calls Tryz.prog 28 #[.pointer a] w fun e w' => e = .returned (.func (.func 56) #[] #[.pointer (some ⟨w.heap.size, 0, none⟩)]) ∧ w' = w.alloc (.cells #[.pointer a] 24) := by
  go_enter Tryz.func28, Tryz.ntmps28
  go_wp2_with fail
  go_ret
  exact ⟨rfl, rfl⟩
end Go.Proofs.YtphgmkhbhboklaaGreatDoor
/- A REGION THAT DRAWS ITS ORDER, in the body of a range over a function: what is shown of its orders without a fence holds within the wide fence. -/
namespace Go.Proofs.YtphgmkhbhboklaaGreatDoor
open Go.RowKit
def noDefer (ops : Array Oper) : Bool := ops.all fun o => match o.op with | .defer _ => false | _ => true
theorem noDefer_at {ops : Array Oper} (h : noDefer ops = true) {i : Nat} {o : Oper} (hi : ops[i]? = some o) {r : Nat} (ρ : Operand → Value) : Oper.semAt (some r) ρ o = execOp ρ o := by
  refine Oper.semAt_eq _ _ _ (fun c => ?_)
  obtain ⟨hlt, rfl⟩ := Array.getElem?_eq_some_iff.1 hi
  intro e
  have := (Array.all_eq_true.1 h) i hlt
  rw [e] at this
  cases this
theorem uponIn_of {r n : Nat} {P : Program} {o : Oper} {a : Act} {next : Act → World → Prop} {Q : Exit → Act → World → Prop} {x : Result Next} (h : o.upon P a next Q x) : o.uponIn (Fence.wide.inRound r) n P a next Q x := by
  cases x with
  | ok x w' =>
    cases x with
    | enter f args => exact ⟨(fun h => by cases h), (CallsIn.inRound r (callsIn_wide.2 h))⟩
    | row row args => exact ⟨(fun h => by cases h), fun c cs _ => let ⟨v, w', q, s⟩ := h c cs; ⟨v, w', q, stepsIn_wide.2 s⟩⟩
    | _ => first | exact h | exact h.elim
  | halt x w' => cases x <;> first | exact h | exact h.elim
theorem wpOpIn_of {r n : Nat} {P : Program} {ops : Array Oper} {Q : Exit → Act → World → Prop} {K : Act → World → Prop} {i : Nat} {a : Act} {w : World} (hd : noDefer ops = true) (hq : ¬ LetsOut Q) (h : wpOp P ops Q i K a w) : wpOpIn (Fence.wide.inRound r) n P ops Q i K a w := by
  unfold wpOp at h
  unfold wpOpIn
  cases hi : ops[i]? with
  | none => rw [hi] at h; exact h
  | some o =>
    rw [hi] at h
    simp only at h ⊢
    split
    · rename_i hw
      rw [if_pos hw] at h
      refine ⟨fun _ _ => trivial, ?_⟩
      rw [Fence.inRound_round, noDefer_at hd hi]
      exact uponIn_of (h.resolve_right (fun h => hq h.2))
    · rename_i hw
      rw [if_neg hw] at h
      exact ⟨fun _ _ => trivial, h⟩
theorem wpAnyIn_of {r n : Nat} {P : Program} {md : Region.Mode} {ops : Array Oper} {Q : Exit → Act → World → Prop} (hd : noDefer ops = true) (hq : ¬ LetsOut Q) : ∀ (f : Nat) (listed : Array Bool) (a : Act) (w : World), wpAny P md ops Q f listed a w → wpAnyIn (Fence.wide.inRound r) n P md ops Q f listed a w
  | 0, _, _, _, h => h
  | f + 1, _, _, _, h => ⟨h.1, fun i hi => wpOpIn_mono (fun a w h2 => wpAnyIn_of hd hq f _ a w h2) (wpOpIn_of hd hq (h.2 i hi))⟩
theorem wpIn_region_wide {r n id : Nat} {P : Program} {ops : Array Oper} {Q : Exit → Act → World → Prop} {a : Act} {w : World} (hm : P.follows .mixedOrders = true) (hd : noDefer ops = true) (hq : ¬ LetsOut Q) (h : wpAny P .any ops Q ops.size (Array.replicate ops.size false) a w.drew) : (Code.region id ops true).wpIn (Fence.wide.inRound r) n P Q a w :=
  wpIn_region_any hm (wpAnyIn_of hd hq _ _ _ _ h)
theorem any_spcT {P : Program} {l : List Oper} {Q : Exit → Act → World → Prop} {a : Act} {w : World} (n : Nat) (D : List Nat) (C : World → Prop) (T : Nat → Value → World → Prop) (St : World → World → Prop)
    (hD : (l.take n).map (·.dst) = D.map some) (hnd : D.Nodup) (hds : ∀ d ∈ D, d < a.tmps.size) (hio : inOrderB l.toArray = true) (hn : n < l.length) (hsk : Region.sinkB .any l.toArray n = true) (hch : Region.chainB .any l.toArray n = true)
    (hsq : Region.seqB .any l.toArray (l.length - n) n (headDone n l.length) = true) (h0 : C w.drew)
    (hst : ∀ i v w w', T i v w → C w → St w w' → T i v w')
    (hs : ∀ i, i < n → ∀ a1 w1, Fr a D a1 → C w1 → (∀ j, j < n → Region.waitsFor .any l.toArray i j = true → T j (slot a1 (D.getD j 0)) w1) →
      wpOp P l.toArray Q i (fun a2 w2 => ∃ v, a2 = a1.put (some (D.getD i 0)) v ∧ C w2 ∧ St w1 w2 ∧ T i v w2) a1 w1)
    (he : ∀ a1 w1, a1 = D.foldl (fun b d => b.put (some d) (slot a1 d)) a → C w1 → (∀ j, j < n → T j (slot a1 (D.getD j 0)) w1) → wpList P l.toArray Q (l.drop n) a1 w1) : wpAny P .any l.toArray Q l.toArray.size (Array.replicate l.toArray.size false) a w.drew := by
  have hlen : D.length = n := by have := congrArg List.length hD; simp at this; omega
  have hmem : ∀ i, i < n → D.getD i 0 ∈ D := fun i hi => by
    rw [List.getD_eq_getElem?_getD, List.getElem?_eq_getElem (by omega)]
    exact List.getElem_mem _
  have hinj : ∀ i j, i < n → j < n → D.getD i 0 = D.getD j 0 → i = j := fun i j hi hj h => by
    rw [List.getD_eq_getElem?_getD, List.getD_eq_getElem?_getD, List.getElem?_eq_getElem (by omega), List.getElem?_eq_getElem (by omega)] at h
    exact (List.getElem_inj hnd).1 h
  have hsz : l.toArray.size = l.length := by simp
  have key : ∀ (f : Nat) (done : Array Bool) (a1 : Act) (w1 : World), HeadInv .any l.toArray n done → Fr a D a1 → C w1 → (∀ j, j < n → done.getD j false = true → T j (slot a1 (D.getD j 0)) w1) →
      (List.range n).countP (fun j => !done.getD j false) = f → wpAny P .any l.toArray Q (f + (l.length - n)) done a1 w1 := by
    intro f
    induction f with
    | zero =>
      intro done a1 w1 inv hF hC hT hc
      have hall : ∀ j, j < n → done.getD j false = true := fun j hj => by
        have := List.countP_eq_zero.1 hc j (List.mem_range.2 hj)
        simpa using this
      have hdn : done = headDone n l.length := by
        have hs1 : done.size = l.length := by rw [inv.size, hsz]
        refine Array.ext (by simp [headDone, hs1]; omega) (fun j h1 h2 => ?_)
        have hj2 : j < l.length := by omega
        by_cases hj : j < n
        · have := hall j hj
          rw [Array.getD_eq_getD_getElem?, Array.getElem?_eq_getElem h1] at this
          simp only [Option.getD_some] at this
          rw [this]
          simp [headDone, List.getElem_append, hj]
        · have := inv.tail j (by omega) (by omega)
          rw [Array.getD_eq_getD_getElem?, Array.getElem?_eq_getElem h1] at this
          simp only [Option.getD_some] at this
          rw [this]
          simp [headDone, List.getElem_append, hj]
      have hw := he a1 w1 hF.eq hC (fun j hj => hT j hj (hall j hj))
      have hdl : (l.drop n).length = l.length - n := by simp
      have := wpAny_of_seq (md := .any) (ops := l.toArray) (Q' := Q) (l.drop n) n done a1 w1 (fun j => by simp [List.getElem?_drop]) (by rw [hdl, hdn]; exact hsq) hw
      rw [hdl] at this
      rwa [Nat.zero_add]
    | succ f ih =>
      intro done a1 w1 inv hF hC hT hc
      obtain ⟨j0, hj0, hu0⟩ : ∃ j0, j0 < n ∧ done.getD j0 false = false := by
        have : 0 < (List.range n).countP (fun j => !done.getD j false) := by omega
        obtain ⟨j, hj, hp⟩ := List.countP_pos_iff.1 this
        exact ⟨j, List.mem_range.1 hj, by simpa using hp⟩
      have e : f + 1 + (l.length - n) = (f + (l.length - n)) + 1 := by omega
      rw [e]
      refine ⟨fun hr => ?_, fun i hi => ?_⟩
      · have := all_done hio inv.size hr j0 (by rw [hsz]; omega)
        rw [hu0] at this; cases this
      · have hin : i < n := Nat.lt_of_not_le fun hle => tail_waits hsk hch (by rw [hsz]; exact hn) inv _ j0 rfl hj0 (getD_in (by rw [inv.size, hsz]; omega) hu0) i hle hi
        obtain ⟨hun, oi, hoi, hall⟩ := mem_ready.1 hi
        refine wpOp_mono ?_ (hs i hin a1 w1 hF hC (fun j hjn hj => ?_))
        · rintro a2 w2 ⟨v, rfl, hC2, hb, hTi⟩
          refine ih _ _ _ (inv.set hi hin) (hF.put _ (hmem i hin) v) hC2 (fun j hj hd => ?_) ?_
          · by_cases e : i = j
            · subst e
              rw [slot_put_same _ _ _ (by rw [hF.size]; exact hds _ (hmem i hin))]
              exact hTi
            · have hd' := (getD_set_iff hd).resolve_left e
              rw [slot_put_ne _ _ _ _ (fun e2 => e (hinj i j hin hj e2))]
              exact hst j _ _ _ (hT j hj hd') hC hb
          · have hisz : i < done.size := by rw [inv.size, hsz]; omega
            have := cnt_set n i hin (fun j => !done.getD j false) (fun j => !(done.setIfInBounds i true).getD j false) (by
              have := getD_both hun
              simp [this]) (by simp [Array.getD_eq_getD_getElem?, hisz]) (fun j hj => by
              have : i ≠ j := fun e => hj e.symm
              simp [Array.getD_eq_getD_getElem?, Array.getElem?_setIfInBounds_ne this])
            omega
        · obtain ⟨ed, he1, he2, he3⟩ := waits_of hoi hj
          have hdn := hall ed he1 he2
          rw [he3] at hdn
          exact hT j hjn hdn
  have inv : HeadInv .any l.toArray n (Array.replicate l.toArray.size false) := by
    refine ⟨by simp, fun j oj _ hl => ?_, fun t _ ht => getD_in (by simpa using ht) (getD_replicate_false _ _)⟩
    rw [getD_replicate_false] at hl; cases hl
  have hcn : (List.range n).countP (fun j => !(Array.replicate l.toArray.size false).getD j false) = n := by
    rw [List.countP_eq_length.2 (fun j _ => by rw [getD_replicate_false]; rfl), List.length_range]
  have := key n _ a w.drew inv (Fr.refl a D) h0 (fun j hj hd => by rw [getD_replicate_false] at hd; cases hd) hcn
  rw [show n + (l.length - n) = l.toArray.size by rw [hsz]; omega] at this
  exact this
end Go.Proofs.YtphgmkhbhboklaaGreatDoor
