/- PARTS OF ONE PROOF, set in one file: PathRef4, RMay, RTree, SpcTwo, ChBare, PathFnC. Each part tells its own conditions. -/
import Derived.Test.YtmnknmpfkjhgbaaGreatDoorP3
import Derived.Test.YtmnknmpfkjhgbaaGreatDoorP4
import Derived.Test.YtmnknmpfkjhgbaaGreatDoorP5
import Derived.Test.YtmnknmpfkjhgbaaGreatDoorP7
import Derived.Test.YtmnknmpfkjhgbaaGreatDoorP9
import Derived.Test.YtmnknmpfkjhgbaaGreatDoorP10
import Derived.Test.YtmnknmpfkjhgbaaGreatDoorP11
/- portolanref11.Class. -/
namespace Go.Proofs.YtmnknmpfkjhgbaaGreatDoor
open Go.RowKit
end Go.Proofs.YtmnknmpfkjhgbaaGreatDoor
/- portolanref12.has, May; portolanref18.May. -/
namespace Go.Proofs.YtmnknmpfkjhgbaaGreatDoor
open Go.RowKit
end Go.Proofs.YtmnknmpfkjhgbaaGreatDoor
/- portolanref18's tree, a sorted row of Members: how it lies; Place, dir, set. -/
namespace Go.Proofs.YtmnknmpfkjhgbaaGreatDoor
open Go.RowKit
/-- block R is the document's tree: its row is v, which reads as l -/
structure RefIn (w : World) (R : Nat) (N : Nat → Prop) (v : Value) (l : List Mv) : Prop where
  row : Row w R 99 #[v]
  mbs : Mbs w N N v l
  srt : SM.Srt (l.map (·.1))
  sm : ∀ x ∈ l, Sm x.1
  ne : ¬ N R
theorem RefIn.loc {w w' : World} {R : Nat} {N : Nat → Prop} {v : Value} {l : List Mv} (h : RefIn w R N v l) (hb : ∀ b, b = R ∨ N b → w'.heap[b]? = w.heap[b]?) : RefIn w' R N v l :=
  ⟨by unfold Row; rw [hb R (.inl rfl)]; exact h.row, h.mbs.loc (fun b hb' => hb b (.inr hb')) (fun b hb' => hb b (.inr hb')), h.srt, h.sm, h.ne⟩
theorem RefIn.below {w w' : World} {R B : Nat} {N : Nat → Prop} {v : Value} {l : List Mv} (h : RefIn w R N v l) (hb : Below B w w') (hR : R < B) (hN : ∀ b, N b → b < B) : RefIn w' R N v l :=
  h.loc (fun b hb' => hb.block b (by rcases hb' with rfl | h; exact hR; exact hN b h))
theorem RefIn.mono {w : World} {R : Nat} {N N' : Nat → Prop} {v : Value} {l : List Mv} (h : RefIn w R N v l) (hN : ∀ b, N b → N' b) (hR : ¬ N' R) : RefIn w R N' v l := ⟨h.row, h.mbs.mono hN hN, h.srt, h.sm, hR⟩
/-- a part of a slice of Members -/
theorem is_len {l : List Mv} {p : Tx} (hs : SM.Srt (l.map (·.1))) (h : SM.plc (l.map (·.1)) p = l.length) : (SM.look (l.map (·.1)) p).isSome = false := by
  rw [← hs.is_at p, List.getElem?_eq_none (by rw [List.length_map]; omega)]
theorem is_here {l : List Mv} {p : Tx} (hs : SM.Srt (l.map (·.1))) {k : Nat} (hk : k < l.length) (h : SM.plc (l.map (·.1)) p = k) : (SM.look (l.map (·.1)) p).isSome = (l[k].1.1 == p) := by
  rw [← hs.is_at p, h, List.getElem?_eq_getElem (by rw [List.length_map]; exact hk)]
  simp
theorem Mbs.ofOwn {w : World} {base : Nat} {N : Nat → Prop} {v : Value} {l : List Mv} (ho : w.ownsRow base 41 9 v l.length (mcells l)) (hn : ∀ x ∈ l, NdR w N x.1.2 x.2.1 x.2.2) (hN : ∀ b, base ≤ b → b < w.heap.size → N b) : Mbs w N N v l :=
  ⟨(ownsV_reads ho).mono (fun b hb => hN b hb.1 hb.2.1), hn⟩
end Go.Proofs.YtmnknmpfkjhgbaaGreatDoor
/- A REGION THAT DRAWS ITS ORDER, TWO OF WHOSE CALLS CHANGE THE MEMORY, the second behind the first: one fact an operation, and what is known of the memory by how many of the two are done. -/
namespace Go.Proofs.YtmnknmpfkjhgbaaGreatDoor
open Go.RowKit
theorem run_loadRowG {P : Program} {ρ : Operand → Value} {d : Option Tmp} {x : Operand} {ty t e : TypeId} {n : Nat} {pos : String} {af : Array Edge} {g : Option (Nat × Bool)} {w : World} {b : Nat} {c : Array Value}
    (hrow : Row w b e c) (hA : AggTy P ty n) (hs : c.size = n) (hx : ρ x = .pointer (some ⟨b, 0, none⟩)) :
    (execOp ρ (⟨d, .load ty x, t, pos, af, g⟩ : Oper)).run P w = .ok (.value (.agg c)) w := by
  obtain ⟨de, hu, hd⟩ := hA.u
  have hl := hrow.loadAt (P := P) ty de hu hd (by rw [hs]; exact hA.i)
  unfold execOp
  simp only [hx, Sem.run_bind, Sem.run_pure, Result.andThen_ok, hl]
end Go.Proofs.YtmnknmpfkjhgbaaGreatDoor
/- change.bare. -/
namespace Go.Proofs.YtmnknmpfkjhgbaaGreatDoor
open Go.RowKit
set_option maxHeartbeats 4000000 in
set_option maxRecDepth 100000 in
theorem bare_any (n : Nd) (av dv : Value) (w : World) (hr : NdR w (· < w.heap.size) n av dv) : Calls Tryz.prog 43 #[.agg (ndC n av dv)] w fun e w' => e = .returned (.bool (bareB n)) ∧ Below w.heap.size w w' := by
  obtain ⟨aa, ca, e1, -⟩ := hr.at_.shape
  obtain ⟨ad, cd, e2, -⟩ := hr.dt.shape
  subst e1 e2
  clear hr
  obtain ⟨kind, mode, uid, gid, time, attrs, data, link⟩ := n
  have HX : Keep (bareB ⟨kind, mode, uid, gid, time, attrs, data, link⟩ = ((kind == 2) && (mode == 0) && (uid == 0) && (gid == 0) && (time == 0) && ((attrs.length : Int) == 0) && ((data.length : Int) == 0) && (link == []))) := ⟨by
    unfold bareB
    have g : ∀ x : Nat, ((x : Int) == 0) = decide (x = 0) := fun x => by
      rw [Bool.eq_iff_iff, beq_iff_eq, decide_eq_true_eq]; omega
    rw [g, g]
    rfl⟩
  generalize bareB ⟨kind, mode, uid, gid, time, attrs, data, link⟩ = out at *
  have HNC : Keep (ndC ⟨kind, mode, uid, gid, time, attrs, data, link⟩ (.slice aa attrs.length ca) (.slice ad data.length cd) = #[.int .i64 kind, .int .u32 mode, .int .u32 uid, .int .u32 gid, .int .i64 time, .slice aa attrs.length ca, .slice ad data.length cd, .string ⟨link.toArray⟩]) := ⟨rfl⟩
  simp only
  rw [HNC.out]
  generalize attrs.length = la at *
  generalize data.length = ld at *
  obtain ⟨b0, h0⟩ : ∃ b, (kind == 2) = b := ⟨_, rfl⟩
  obtain ⟨b1, h1⟩ : ∃ b, (mode == 0) = b := ⟨_, rfl⟩
  obtain ⟨b2, h2⟩ : ∃ b, (uid == 0) = b := ⟨_, rfl⟩
  obtain ⟨b3, h3⟩ : ∃ b, (gid == 0) = b := ⟨_, rfl⟩
  obtain ⟨b4, h4⟩ : ∃ b, (time == 0) = b := ⟨_, rfl⟩
  obtain ⟨b5, h5⟩ : ∃ b, ((la : Int) == 0) = b := ⟨_, rfl⟩
  obtain ⟨b6, h6⟩ : ∃ b, ((ld : Int) == 0) = b := ⟨_, rfl⟩
  obtain ⟨b7, h7⟩ : ∃ b, (link == []) = b := ⟨_, rfl⟩
  rw [h0, h1, h2, h3, h4, h5, h6, h7] at HX
  have HB : Keep (∀ c, Below w.heap.size w (w.alloc (.cells c 39))) := ⟨fun c => (Below.refl _ _).alloc (Nat.le_refl _) _⟩
  cases b0
  case false =>
    go_enter Tryz.func43, Tryz.ntmps43
    go_wp2_with fail
    go_ret
    exact ⟨by rw [HX.out]; rfl, HB.out _⟩
  cases b1
  case false =>
    go_enter Tryz.func43, Tryz.ntmps43
    go_wp2_with fail
    go_ret
    exact ⟨by rw [HX.out]; rfl, HB.out _⟩
  cases b2
  case false =>
    go_enter Tryz.func43, Tryz.ntmps43
    go_wp2_with fail
    go_ret
    exact ⟨by rw [HX.out]; rfl, HB.out _⟩
  cases b3
  case false =>
    go_enter Tryz.func43, Tryz.ntmps43
    go_wp2_with fail
    go_ret
    exact ⟨by rw [HX.out]; rfl, HB.out _⟩
  cases b4
  case false =>
    go_enter Tryz.func43, Tryz.ntmps43
    go_wp2_with fail
    go_ret
    exact ⟨by rw [HX.out]; rfl, HB.out _⟩
  cases b5
  case false =>
    go_enter Tryz.func43, Tryz.ntmps43
    go_wp2_with fail
    go_ret
    exact ⟨by rw [HX.out]; rfl, HB.out _⟩
  cases b6
  case false =>
    go_enter Tryz.func43, Tryz.ntmps43
    go_wp2_with fail
    go_ret
    exact ⟨by rw [HX.out]; rfl, HB.out _⟩
  cases b7
  case false =>
    go_enter Tryz.func43, Tryz.ntmps43
    go_wp2_with fail
    go_ret
    exact ⟨by rw [HX.out]; rfl, HB.out _⟩
  go_enter Tryz.func43, Tryz.ntmps43
  go_wp2_with fail
  go_ret
  exact ⟨by rw [HX.out]; rfl, HB.out _⟩
end Go.Proofs.YtmnknmpfkjhgbaaGreatDoor
/- slices.IndexFunc, ContainsFunc over names; the predicate is a closure (values ahead, captures behind). -/
namespace Go.Proofs.YtmnknmpfkjhgbaaGreatDoor
open Go.RowKit
set_option maxHeartbeats 1000000 in
set_option maxRecDepth 100000 in
theorem ifuncC (f : FuncId) (fi cs : Array Value) (p : List UInt8 → Bool) (v : Value) (l : List (List UInt8)) (w : World) (hent : ∀ args w, (callFunc f args).run Tryz.prog w = .ok (.enter f args) w)
    (hf : ∀ wx, Below w.heap.size w wx → ∀ x ∈ l, Calls Tryz.prog f (fi ++ #[.string ⟨x.toArray⟩] ++ cs) wx fun e w' => e = .returned (.bool (p x)) ∧ Below wx.heap.size wx w') (hr : RdS w (· < w.heap.size) v l) :
    Calls Tryz.prog 91 #[v, .func (.func f) fi cs] w fun e w' => e = .returned (.int .i64 (idxF p l)) ∧ Below w.heap.size w w' := by
  obtain ⟨a, cap, rfl, hcap, hmx, h3⟩ := hr.shape
  have HR := Keep.keep hr; have HF := Keep.keep hf; have H3 := Keep.keep h3
  unfold maxLen at hmx
  clear hr hf h3
  go_enter Tryz.func91, Tryz.ntmps91
  go_wp2_with fail
  go_loopg [5, 8] l.length (fun g _ u8 wx => ∃ k : Nat, k + g = l.length ∧ u8 = .int .i64 (k : Int) ∧ (∀ j, (hj : j < k) → (hl : j < l.length) → p l[j] = false) ∧ Below w.heap.size w wx)
  case atStart => exact ⟨0, by omega, rfl, fun j hj => by omega, Below.refl _ _⟩
  case round =>
    obtain ⟨k, hkg, rfl, hno, hb⟩ := hrel
    have HNO := Keep.keep hno; have HB := Keep.keep hb
    clear hno hb
    cases gk with
    | zero =>
      obtain rfl : k = l.length := by omega
      have hx : Keep (idxF p l = -1) := ⟨idxF_none (fun j hj => HNO.out j hj hj)⟩
      go_wp2_with fail
      go_ret
      exact ⟨by rw [hx.out]; rfl, HB.out⟩
    | succ g =>
      have hk : k < l.length := by omega
      rcases H3.out with h3 | ⟨b, off, rfl, hbl⟩
      · omega
      have hcell := (HR.out.below HB.out (fun b hb => hb)).cell b off _ _ rfl k (strV l[k]) (by simp [hk])
      have HC := Keep.keep (HF.out wr HB.out l[k] (List.getElem_mem hk))
      have HSTEP : Keep (p l[k] = false → ∀ j, (hj : j < k + 1) → (hl : j < l.length) → p l[j] = false) := ⟨fun he j hj hl => by
        rcases Nat.lt_succ_iff_lt_or_eq.1 hj with h | rfl
        · exact HNO.out j h hl
        · exact he⟩
      have HHIT : Keep (p l[k] = true → idxF p l = (k : Int)) := ⟨fun he => idxF_hit hk he (fun j hj => HNO.out j hj (by omega))⟩
      generalize p l[k] = pk at *
      generalize l[k] = x at *
      unfold strV at hcell
      go_wp2_with fail
      refine HC.out.mono ?_
      rintro e w2 ⟨rfl, hb2⟩
      have HB2 := Keep.keep (HB.out.trans (hb2.mono HB.out.size))
      clear hb2
      cases pk with
      | true =>
        have hi := HHIT.out rfl
        go_wp2_with fail
        go_ret
        exact ⟨by rw [hi]; rfl, HB2.out⟩
      | false =>
        have HST2 := Keep.keep (HSTEP.out rfl)
        go_wp2_with fail
        go_roundg g
        case measure => omega
        case rel => exact ⟨k + 1, by omega, by simp, HST2.out, HB2.out⟩
set_option maxHeartbeats 1000000 in
theorem cfuncC (f : FuncId) (fi cs : Array Value) (p : List UInt8 → Bool) (v : Value) (l : List (List UInt8)) (w : World) (hent : ∀ args w, (callFunc f args).run Tryz.prog w = .ok (.enter f args) w)
    (hf : ∀ wx, Below w.heap.size w wx → ∀ x ∈ l, Calls Tryz.prog f (fi ++ #[.string ⟨x.toArray⟩] ++ cs) wx fun e w' => e = .returned (.bool (p x)) ∧ Below wx.heap.size wx w') (hr : RdS w (· < w.heap.size) v l) :
    Calls Tryz.prog 44 #[v, .func (.func f) fi cs] w fun e w' => e = .returned (.bool (l.any p)) ∧ Below w.heap.size w w' := by
  have HI := Keep.keep (ifuncC f fi cs p v l w hent hf hr)
  obtain ⟨a, cap, rfl, -⟩ := hr.shape
  have hx : decide (0 ≤ idxF p l) = l.any p := by
    unfold idxF
    cases h : l.findIdx? p with
    | none =>
      have := List.findIdx?_eq_none_iff.1 h
      have : l.any p = false := by rw [List.any_eq_false]; intro x hx; simpa using this x hx
      rw [this]; rfl
    | some i =>
      obtain ⟨hi, hp, -⟩ := List.findIdx?_eq_some_iff_getElem.1 h
      have : l.any p = true := List.any_eq_true.2 ⟨_, List.getElem_mem hi, hp⟩
      rw [this]
      exact decide_eq_true (by simp)
  clear hr hf
  generalize idxF p l = i at *
  generalize l.any p = b at *
  go_enter Tryz.func44, Tryz.ntmps44
  go_wp2_with fail
  refine HI.out.mono ?_
  rintro e w1 ⟨rfl, hb⟩
  go_wp2_with fail
  go_ret
  exact ⟨rfl, hb⟩
end Go.Proofs.YtmnknmpfkjhgbaaGreatDoor

