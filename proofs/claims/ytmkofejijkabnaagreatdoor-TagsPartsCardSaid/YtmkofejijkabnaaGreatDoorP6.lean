/- PARTS OF ONE PROOF, set in one file: SpcN, DkSet, DkStp, DkAp2, Iter, SKeys, AppRd, TgA, DkGet. Each part tells its own conditions. -/
import Derived.Shelf.SlMaps.Clone
import Derived.Shelf.SlIter.Nil
import Derived.Shelf.SortM.Plain
import Derived.Shelf.SortM.SortNone
import Derived.Ground.GgzProg
import Derived.Ground.SlgmProg
import Derived.Test.YtmkofejijkabnaaGreatDoorProg
import Derived.RangeFuncBound
import Derived.RangeFuncCalls
import Derived.RangeFuncLeaves
import Derived.ArgAppend
import Derived.Test.YtmkofejijkabnaaGreatDoorP2
import Derived.Test.YtmkofejijkabnaaGreatDoorP3
import Derived.Test.YtmkofejijkabnaaGreatDoorP4
import Derived.Test.YtmkofejijkabnaaGreatDoorP5
/- A REGION THAT DRAWS ITS ORDER, as in SpcM; stores (operations without a slot of their own) among the first n. -/
namespace Go.Proofs.YtmkofejijkabnaaGreatDoor
open Go.RowKit
theorem wp_region_spcN {P : Program} {l : List Oper} {id : Nat} {Q : Exit → Act → World → Prop} {a : Act} {w : World} (n c : Nat) (D : List (Option Nat)) (C : Bool → World → Prop) (T : Nat → Value → World → Prop) (St : World → World → Prop) (hm : P.follows .mixedOrders = true)
    (hD : (l.take n).map (·.dst) = D) (hnd : ∀ i, i < D.length → ∀ j, j < D.length → D.getD i none = D.getD j none → D.getD i none ≠ none → i = j) (hds : ∀ d, some d ∈ D → d < a.tmps.size) (hio : inOrderB l.toArray = true) (hn : n < l.length) (hcn : c < n) (hsk : Region.sinkB .any l.toArray n = true) (hch : Region.chainB .any l.toArray n = true)
    (hsq : Region.seqB .any l.toArray (l.length - n) n (headDone n l.length) = true) (h0 : C false w.drew)
    (hst : ∀ i v w w', i ≠ c → T i v w → St w w' → T i v w')
    (hs : ∀ i, i < n → i ≠ c → ∀ b a1 w1, (b = true → Region.waitsFor .any l.toArray c i = false) → Fr a (D.filterMap (·)) a1 → C b w1 → (∀ j, j < n → Region.waitsFor .any l.toArray i j = true → T j (slO a1 (D.getD j none)) w1) →
      wpOp P l.toArray Q i (fun a2 w2 => ∃ v, a2 = a1.put (D.getD i none) v ∧ C b w2 ∧ (if b then w2 = w1 else St w1 w2) ∧ T i (valO (D.getD i none) v) w2) a1 w1)
    (h1 : ∀ a1 w1, Fr a (D.filterMap (·)) a1 → C false w1 → (∀ j, j < n → Region.waitsFor .any l.toArray c j = true → T j (slO a1 (D.getD j none)) w1) →
      wpOp P l.toArray Q c (fun a2 w2 => ∃ v, a2 = a1.put (D.getD c none) v ∧ C true w2 ∧ St w1 w2 ∧ T c (valO (D.getD c none) v) w2) a1 w1)
    (he : ∀ a1 w1, a1 = (D.filterMap (·)).foldl (fun b d => b.put (some d) (slot a1 d)) a → C true w1 → (∀ j, j < n → T j (slO a1 (D.getD j none)) w1) → wpList P l.toArray Q (l.drop n) a1 w1) : (Code.region id l.toArray true).wp P Q a w := by
  have hlen : D.length = n := by have := congrArg List.length hD; simp at this; omega
  have hget : ∀ i, i < n → D.getD i none ∈ D := fun i hi => by
    rw [List.getD_eq_getElem?_getD, List.getElem?_eq_getElem (by omega)]
    exact List.getElem_mem _
  have hput : ∀ (i : Nat) (a1 : Act) (v : Value), i < n → Fr a (D.filterMap (·)) a1 → Fr a (D.filterMap (·)) (a1.put (D.getD i none) v) := fun i a1 v hi hF => by
    cases hd : D.getD i none with
    | none => exact hF
    | some d =>
      refine hF.put d ?_ v
      rw [List.mem_filterMap]
      exact ⟨some d, hd ▸ hget i hi, rfl⟩
  have hown : ∀ (i : Nat) (a1 : Act) (v : Value), i < n → Fr a (D.filterMap (·)) a1 → slO (a1.put (D.getD i none) v) (D.getD i none) = valO (D.getD i none) v := fun i a1 v hi hF => by
    cases hd : D.getD i none with
    | none => rfl
    | some d => exact slot_put_same _ _ _ (by rw [hF.size]; exact hds d (hd ▸ hget i hi))
  have hoth : ∀ (i j : Nat) (a1 : Act) (v : Value), i < n → j < n → i ≠ j → slO (a1.put (D.getD i none) v) (D.getD j none) = slO a1 (D.getD j none) := fun i j a1 v hi hj e => by
    cases hdj : D.getD j none with
    | none => rfl
    | some d =>
      cases hdi : D.getD i none with
      | none => rfl
      | some d' => exact slot_put_ne _ _ _ _ (fun e2 => e (hnd i (by omega) j (by omega) (by rw [hdi, hdj, e2]) (by rw [hdi]; exact fun h => by cases h)))
  have hsz : l.toArray.size = l.length := by simp
  have key : ∀ (f : Nat) (done : Array Bool) (a1 : Act) (w1 : World), HeadInv .any l.toArray n done → Fr a (D.filterMap (·)) a1 → C (done.getD c false) w1 → (∀ j, j < n → done.getD j false = true → T j (slO a1 (D.getD j none)) w1) →
      (List.range n).countP (fun j => !done.getD j false) = f → wpAny P .any l.toArray Q (f + (l.length - n)) done a1 w1 := by
    intro f
    induction f with
    | zero =>
      intro done a1 w1 inv hF hC hT hc
      have hall : ∀ j, j < n → done.getD j false = true := fun j hj => by
        have := List.countP_eq_zero.1 hc j (List.mem_range.2 hj)
        simpa using this
      have hdn : done = headDone n l.length := by
        have hs1 : done.size = l.length := by rw [inv.size, hsz]
        refine Array.ext (by simp [headDone, hs1]; omega) (fun j h1 h2 => ?_)
        have hj2 : j < l.length := by omega
        by_cases hj : j < n
        · have := hall j hj
          rw [Array.getD_eq_getD_getElem?, Array.getElem?_eq_getElem h1] at this
          simp only [Option.getD_some] at this
          rw [this]
          simp [headDone, hj]
        · have := inv.tail j (by omega) (by omega)
          rw [Array.getD_eq_getD_getElem?, Array.getElem?_eq_getElem h1] at this
          simp only [Option.getD_some] at this
          rw [this]
          simp [headDone, List.getElem_append, hj]
      rw [hall c hcn] at hC
      have hw := he a1 w1 hF.eq hC (fun j hj => hT j hj (hall j hj))
      have hdl : (l.drop n).length = l.length - n := by simp
      have := wpAny_of_seq (md := .any) (ops := l.toArray) (Q' := Q) (l.drop n) n done a1 w1 (fun j => by simp [List.getElem?_drop]) (by rw [hdl, hdn]; exact hsq) hw
      rw [hdl] at this
      rwa [Nat.zero_add]
    | succ f ih =>
      intro done a1 w1 inv hF hC hT hc
      obtain ⟨j0, hj0, hu0⟩ : ∃ j0, j0 < n ∧ done.getD j0 false = false := by
        have : 0 < (List.range n).countP (fun j => !done.getD j false) := by omega
        obtain ⟨j, hj, hp⟩ := List.countP_pos_iff.1 this
        exact ⟨j, List.mem_range.1 hj, by simpa using hp⟩
      have e : f + 1 + (l.length - n) = (f + (l.length - n)) + 1 := by omega
      rw [e]
      refine ⟨fun hr => ?_, fun i hi => ?_⟩
      · have := all_done hio inv.size hr j0 (by rw [hsz]; omega)
        rw [hu0] at this; cases this
      · have hin : i < n := Nat.lt_of_not_le fun hle => tail_waits hsk hch (by rw [hsz]; exact hn) inv _ j0 rfl hj0 (getD_in (by rw [inv.size, hsz]; omega) hu0) i hle hi
        obtain ⟨hun, oi, hoi, hall⟩ := mem_ready.1 hi
        have hui : done.getD i false = false := getD_both hun
        have hisz : i < done.size := by rw [inv.size, hsz]; omega
        have hwt : ∀ j, j < n → Region.waitsFor .any l.toArray i j = true → T j (slO a1 (D.getD j none)) w1 := fun j hjn hj => by
          obtain ⟨ed, he1, he2, he3⟩ := waits_of hoi hj
          have hdn := hall ed he1 he2
          rw [he3] at hdn
          exact hT j hjn hdn
        have hcnt := cnt_set n i hin (fun j => !done.getD j false) (fun j => !(done.setIfInBounds i true).getD j false) (by simp [hui]) (by simp [Array.getD_eq_getD_getElem?, hisz]) (fun j hj => by
          have : i ≠ j := fun e => hj e.symm
          simp [Array.getD_eq_getD_getElem?, Array.getElem?_setIfInBounds_ne this])
        have hset : ∀ q, q ≠ i → (done.setIfInBounds i true).getD q false = done.getD q false := fun q hq => by
          simp [Array.getD_eq_getD_getElem?, Array.getElem?_setIfInBounds_ne (Ne.symm hq)]
        have hself : (done.setIfInBounds i true).getD i false = true := by simp [Array.getD_eq_getD_getElem?, hisz]
        by_cases hic : i = c
        · subst hic
          rw [hui] at hC
          refine wpOp_mono ?_ (h1 a1 w1 hF hC hwt)
          rintro a2 w2 ⟨v, rfl, hC2, hb, hTi⟩
          refine ih _ _ _ (inv.set hi hin) (hput i a1 v hin hF) (by rw [hself]; exact hC2) (fun j hj hd => ?_) (by omega)
          by_cases e : i = j
          · subst e
            rw [hown i a1 v hin hF]
            exact hTi
          · have hd' := (getD_set_iff hd).resolve_left e
            rw [hoth i j a1 v hin hj e]
            exact hst j _ _ _ (Ne.symm e) (hT j hj hd') hb
        · refine wpOp_mono ?_ (hs i hin hic (done.getD c false) a1 w1 (fun hb => ?_) hF hC hwt)
          · rintro a2 w2 ⟨v, rfl, hC2, hb, hTi⟩
            refine ih _ _ _ (inv.set hi hin) (hput i a1 v hin hF) (by rw [hset c (Ne.symm hic)]; exact hC2) (fun j hj hd => ?_) (by omega)
            by_cases e : i = j
            · subst e
              rw [hown i a1 v hin hF]
              exact hTi
            · have hd' := (getD_set_iff hd).resolve_left e
              rw [hoth i j a1 v hin hj e]
              cases hcd : done.getD c false with
              | true =>
                rw [hcd] at hb
                simp only [if_true] at hb
                rw [hb]
                exact hT j hj hd'
              | false =>
                rw [hcd] at hb
                simp only [Bool.false_eq_true, if_false] at hb
                exact hst j _ _ _ (fun e2 => by rw [e2, hcd] at hd'; cases hd') (hT j hj hd') hb
          · rw [Bool.eq_false_iff]
            intro hw
            obtain ⟨oc, hoc⟩ : ∃ oc, l.toArray[c]? = some oc := ⟨_, Array.getElem?_eq_getElem (by rw [hsz]; omega)⟩
            obtain ⟨ed, he1, he2, he3⟩ := waits_of hoc hw
            have := inv.closed c oc hoc hb ed he1 he2
            rw [he3, hui] at this
            cases this
  refine wp_region_any hm ?_
  have inv : HeadInv .any l.toArray n (Array.replicate l.toArray.size false) := by
    refine ⟨by simp, fun j oj _ hl => ?_, fun t _ ht => getD_in (by simpa using ht) (getD_replicate_false _ _)⟩
    rw [getD_replicate_false] at hl; cases hl
  have hcn' : (List.range n).countP (fun j => !(Array.replicate l.toArray.size false).getD j false) = n := by
    rw [List.countP_eq_length.2 (fun j _ => by rw [getD_replicate_false]; rfl), List.length_range]
  have := key n _ a w.drew inv (Fr.refl a _) (by rw [getD_replicate_false]; exact h0) (fun j hj hd => by rw [getD_replicate_false] at hd; cases hd) hcn'
  rw [show n + (l.length - n) = l.toArray.size by rw [hsz]; omega] at this
  exact this
section
variable {P : Program} {ops : Array Oper} {Q : Exit → Act → World → Prop} {C : Bool → World → Prop} {T : Nat → Value → World → Prop} {St : World → World → Prop} {i d : Nat} {b : Bool} {a1 : Act} {w1 w2 : World} {op : Op} {tp : TypeId} {pos : String} {af : Array Edge} {v : Value}
theorem spcN_read (hi : ops[i]? = some ⟨some d, op, tp, pos, af, none⟩) (hr : (execOp a1.eval (⟨some d, op, tp, pos, af, none⟩ : Oper)).run P w1 = .ok (.value v) w1) (hC : C b w1) (hrf : ∀ w, St w w) (hT : T i v w1) :
    wpOp P ops Q i (fun a2 w2 => ∃ v, a2 = a1.put (some d) v ∧ C b w2 ∧ (if b then w2 = w1 else St w1 w2) ∧ T i (valO (some d) v) w2) a1 w1 := spcM_read hi hr hC hrf hT
/-- the one is a store -/
theorem spcN_skip (hi : ops[i]? = some ⟨none, op, tp, pos, af, none⟩) (hr : (execOp a1.eval (⟨none, op, tp, pos, af, none⟩ : Oper)).run P w1 = .ok .skip w2) (hC : C true w2) (hS : St w1 w2) (hT : T i undef w2) :
    wpOp P ops Q i (fun a2 w2 => ∃ v, a2 = a1.put none v ∧ C true w2 ∧ St w1 w2 ∧ T i (valO none v) w2) a1 w1 := by
  unfold wpOp
  rw [hi]
  simp only
  rw [if_pos (wanted_none rfl)]
  refine .inl ?_
  unfold Oper.wp
  rw [hr]
  exact ⟨undef, rfl, hC, hS, hT⟩
/-- a call ahead of the one -/
theorem spcN_call {f : FuncId} {args : Array Operand} {ts : Array TypeId} {vs : Array Value} (hi : ops[i]? = some ⟨some d, .call ⟨.value (.func f), args, ts⟩, tp, pos, af, none⟩) (hb : b = false)
    (hent : Enters P f) (hargs : args.map a1.eval = vs) (hc : Calls P f vs w1 fun e w2 => ∃ v, e = .returned v ∧ C false w2 ∧ St w1 w2 ∧ T i v w2) :
    wpOp P ops Q i (fun a2 w2 => ∃ v, a2 = a1.put (some d) v ∧ C b w2 ∧ (if b then w2 = w1 else St w1 w2) ∧ T i (valO (some d) v) w2) a1 w1 := by
  subst hb
  refine wpOp_mono ?_ (spcS_call (C := C false) (T := T) (St := St) hi (wanted_none rfl) hent hargs hc)
  rintro a2 w2 ⟨v, h1, h2, h3, h4⟩
  exact ⟨v, h1, h2, by simpa using h3, h4⟩
end
end Go.Proofs.YtmkofejijkabnaaGreatDoor
/- maps.Clone of a folder; Settle's closure. -/
namespace Go.Proofs.YtmkofejijkabnaaGreatDoor
open Go.RowKit
theorem clone_ent : Tryz.prog.funcs[109]? = some Tryz.f109 := by kernel_rfl
set_option maxHeartbeats 1000000 in
set_option maxRecDepth 100000 in
theorem mclone_any {b : Nat} {M : List (Tx × Value)} {w : World} (h : MapS w 9 b M) :
    Calls Tryz.prog 61 #[.map (some b)] w fun e w' => e = .returned (.map (some w.heap.size)) ∧ MapS w' 9 w.heap.size M ∧ Below w.heap.size w w' := by
  obtain ⟨es, clock, hb, F, hs, hD⟩ := h.o
  have HRES : Keep (MapS (w.alloc (.map es clock)) 9 w.heap.size M) := ⟨h.s, h.l, es, clock, heap_alloc_new w _, F, hs, hD⟩
  have hrun : (callFunc 109 #[.iface 105 (.map (some b))]).run Tryz.prog w = .ok (.value (.iface 105 (.map (some w.heap.size)))) (w.alloc (.map es clock)) := by
    rw [run_callFunc_extern clone_ent (by kernel_rfl) (by kernel_rfl) (by kernel_rfl) (e := Extern.MapsClone.clone) (by kernel_rfl), run_maps_clone_sl w 105 hb]
    rfl
  have htA : ∀ (w : World) (xT : TypeId) (r : Nat), (Instr.typeAssert (.iface 105 (.map (some r))) xT 105 false).run Tryz.prog w = .ok (.map (some r)) w := fun w xT r => run_typeAssert_map_sl w 105 xT _ _ _ Tryz.underlying105
  have hmn : ∀ w, (Go.binOp .eql 105 (.map (some b)) (.map none)).run Tryz.prog w = .ok (.bool false) w := fun w => by kernel_rfl
  have HRUN := Keep.keep hrun
  clear h hb hs hD hrun
  go_enter Tryz.func61, Tryz.ntmps61
  go_wp2_with fail
  rw [HRUN.out, Oper.upon_value]
  go_wp2_with fail
  go_ret
  exact ⟨rfl, HRES.out, (Below.refl _ _).alloc (Nat.le_refl _) _⟩
theorem run_storeMap {P : Program} {ρ : Operand → Value} {d : Option Tmp} {x y : Operand} {ty t : TypeId} {pos : String} {af : Array Edge} {g : Option (Nat × Bool)} {w : World} {b off s : Nat} {v : Value}
    (hi : (P.info? ty).map (·.size) = some 1) (hc : w.cell? ⟨b, off, none⟩ = some v) (hf : w.frozen? ⟨b, off, none⟩ = false) (hx : ρ x = .pointer (some ⟨b, off, none⟩)) (hy : ρ y = .map (some s)) :
    (execOp ρ (⟨d, .store ty x y, t, pos, af, g⟩ : Oper)).run P w = .ok .skip (w.setCell ⟨b, off, none⟩ (.map (some s))) := by
  have hz : (sizeOf ty).run P w = .ok 1 w := by
    cases hi' : P.info? ty with
    | none => simp [hi'] at hi
    | some i => simp [hi'] at hi; simp [sizeOf, typeInfo, hi', hi]
  simp [go_sem, execOp, hx, hy, Instr.storeAt, hz, hc, hf, stored]
def s1T (W : World) (D nb : Nat) (loc : Nat → Nat) (F : Fol) : Nat → Value → World → Prop
  | 0, v, _ => v = .pointer (some ⟨D, 0, none⟩)
  | 1, v, _ => v = .pointer (some ⟨D, 0, none⟩)
  | 2, v, _ => v = .pointer (some ⟨D, 0, none⟩)
  | 3, v, _ => v = .pointer (some ⟨D, 0, none⟩)
  | 4, v, _ => v = .pointer (some ⟨D, 0, none⟩)
  | 5, v, _ => v = .map (some nb)
  | 6, v, w => ∃ s, v = .map (some s) ∧ W.heap.size ≤ s ∧ s ≠ D ∧ FolIn w 9 s loc F
  | 7, v, _ => v = .pointer (some ⟨D, 0, none⟩)
  | 8, v, _ => v = .pointer (some ⟨D, 1, none⟩)
  | _, _, _ => True
def s1S (D : Nat) (w w' : World) : Prop := Chg (fun j => j = D) w.heap.size w w'
theorem s1T_stays {W : World} {D nb : Nat} {loc : Nat → Nat} {F : Fol} (i : Nat) (v : Value) (w w' : World) (h : s1T W D nb loc F i v w) (hs : s1S D w w') : s1T W D nb loc F i v w' := by
  rcases (by omega : i = 0 ∨ i = 1 ∨ i = 2 ∨ i = 3 ∨ i = 4 ∨ i = 5 ∨ i = 6 ∨ i = 7 ∨ i = 8 ∨ 9 ≤ i) with rfl | rfl | rfl | rfl | rfl | rfl | rfl | rfl | rfl | h8
  · exact h
  · exact h
  · exact h
  · exact h
  · exact h
  · exact h
  · obtain ⟨s, h1, h2, h3, h4⟩ := h
    exact ⟨s, h1, h2, h3, h4.loc (hs.block s h4.lt h3)⟩
  · exact h
  · exact h
  · obtain ⟨k, rfl⟩ : ∃ k, i = k + 9 := ⟨i - 9, by omega⟩
    trivial
def s1C (W : World) (D nb : Nat) (vd : Value) (loc : Nat → Nat) (d : DkS) : Bool → World → Prop
  | false, wx => Below W.heap.size W wx
  | true, wx => ∃ s, Chg (fun j => j = D) W.heap.size W wx ∧ Row wx D 108 (dkC nb s vd d) ∧ W.heap.size ≤ s ∧ FolIn wx 9 s loc d.now
theorem s1C_chg {W : World} {D nb : Nat} {vd : Value} {loc : Nat → Nat} {d : DkS} : ∀ {b : Bool} {wx : World}, s1C W D nb vd loc d b wx → Chg (fun j => j = D) W.heap.size W wx
  | false, _, h => Chg.of_below h
  | true, _, ⟨_, h, _⟩ => h
set_option maxHeartbeats 2000000 in
set_option maxRecDepth 100000 in
theorem settle1_any {w : World} {ow : Own} {D nb sb : Nat} {loc : Nat → Nat} {bv : Nat → Value} {vd : Value} {dl : List Value} {d : DkS} (h : DkIn w ow D nb sb loc bv vd dl d) (b1 : Nat) (hb1 : BoxAt w ow b1 (.pointer (some ⟨D, 0, none⟩))) :
    Calls Tryz.prog 63 #[.pointer (some ⟨b1, 0, none⟩)] w fun e w' => e = .returned (.tuple #[]) ∧ ∃ ow' sb', DkIn w' ow' D nb sb' loc bv (.slice none 0 0) [] { d with settled := d.now, deeds := [] } ∧ Chg (fun j => (ow j).isSome = true) w.heap.size w w' ∧ (∀ j, j < w.heap.size → ow' j = ow j) := by
  have HH := Keep.keep h; have HB1 := Keep.keep hb1
  have hbD : b1 ≠ D := fun e => by have := hb1.2; rw [e, h.tD] at this; cases this
  clear h hb1
  go_enter Tryz.func63, Tryz.ntmps63
  go_upto_region 0 with fail
  refine wp_region_spcN 10 9 [some 1, some 2, some 3, some 4, some 5, some 6, some 7, some 8, some 9, none] (s1C w D nb vd loc d) (s1T w D nb loc d.now) (s1S D) (by kernel_rfl) rfl (by decide) (by intro d hd; simp at hd; show d < 12; omega) (by kernel_rfl) (by decide) (by decide) (by kernel_rfl) (by kernel_rfl) (by kernel_rfl) (Below.refl _ _).drew (fun i v w w' _ h hs => s1T_stays i v w w' h hs) ?_ ?_ ?_
  · intro i hi hi7 b a1 wx hw7 hFr hC hT
    have hrf : ∀ w : World, s1S D w w := fun w => Chg.refl _ _ _
    have t0 : a1.eval (.tmp 0) = .pointer (some ⟨b1, 0, none⟩) := (hFr.same 0 (by decide)).trans rfl
    have k1 : wx.cell? ⟨b1, 0, none⟩ = some (.pointer (some ⟨D, 0, none⟩)) := by rw [(s1C_chg hC).cell (p := ⟨b1, 0, none⟩) HB1.out.lt hbD]; exact HB1.out.1
    rcases (by omega : i = 0 ∨ i = 1 ∨ i = 2 ∨ i = 3 ∨ i = 4 ∨ i = 5 ∨ i = 6 ∨ i = 7 ∨ i = 8) with rfl | rfl | rfl | rfl | rfl | rfl | rfl | rfl | rfl
    · exact spcN_read (d := 1) rfl (run_loadCell (run_isAgg_plain Tryz.underlying24 rfl) k1 t0) hC hrf rfl
    · exact spcN_read (d := 2) rfl (run_loadCell (run_isAgg_plain Tryz.underlying24 rfl) k1 t0) hC hrf rfl
    · exact spcN_read (d := 3) rfl (run_loadCell (run_isAgg_plain Tryz.underlying24 rfl) k1 t0) hC hrf rfl
    · have hx : a1.eval (.tmp 3) = .pointer (some ⟨D, 0, none⟩) := hT 2 (by decide) (by kernel_rfl)
      exact spcN_read (d := 4) rfl (by simp [execOp, hx]) hC hrf rfl
    · have hx : a1.eval (.tmp 4) = .pointer (some ⟨D, 0, none⟩) := hT 3 (by decide) (by kernel_rfl)
      exact spcN_read (d := 5) rfl (run_fieldAddr (m := 0) Tryz.underlying108 rfl (by kernel_rfl) hx) hC hrf rfl
    · have hx : a1.eval (.tmp 5) = .pointer (some ⟨D, 0, none⟩) := hT 4 (by decide) (by kernel_rfl)
      have hb : b = false := by
        cases b with
        | false => rfl
        | true => exact (Bool.false_ne_true ((hw7 rfl).symm.trans (by kernel_rfl))).elim
      subst hb
      exact spcN_read (d := 6) rfl (run_loadCell (run_isAgg_plain Tryz.underlying105 rfl) ((HH.out.row.below hC HH.out.row.lt).cell (i := 0) rfl) hx) hC hrf rfl
    · have hx : a1.eval (.tmp 6) = .map (some nb) := hT 5 (by decide) (by kernel_rfl)
      have hb : b = false := by
        cases b with
        | false => rfl
        | true => exact (Bool.false_ne_true ((hw7 rfl).symm.trans (by kernel_rfl))).elim
      subst hb
      have hC' : Below w.heap.size w wx := hC
      refine spcN_call (d := 7) (vs := #[.map (some nb)]) rfl rfl (enters_of Tryz.func61 (by kernel_rfl) rfl) (by simp only [List.map_toArray, List.map_cons, List.map_nil, hx]) ((mclone_any (HH.out.now.loc (hC'.block nb HH.out.now.lt))).mono ?_)
      rintro e w2 ⟨rfl, r1, r2⟩
      have hDl := HH.out.row.lt
      have hsz := hC'.size
      exact ⟨_, rfl, hC'.trans (r2.mono hC'.size), Chg.of_below r2, _, rfl, hsz, by omega, r1⟩
    · have hx : a1.eval (.tmp 1) = .pointer (some ⟨D, 0, none⟩) := hT 0 (by decide) (by kernel_rfl)
      exact spcN_read (d := 8) rfl (by simp [execOp, hx]) hC hrf rfl
    · have hx : a1.eval (.tmp 8) = .pointer (some ⟨D, 0, none⟩) := hT 7 (by decide) (by kernel_rfl)
      exact spcN_read (d := 9) rfl (run_fieldAddr (m := 0) Tryz.underlying108 rfl (by kernel_rfl) hx) hC hrf rfl
  · intro a1 wx hFr hC hT
    have hx : a1.eval (.tmp 9) = .pointer (some ⟨D, 1, none⟩) := hT 8 (by decide) (by kernel_rfl)
    obtain ⟨s, hy, hs1, hs2, hs3⟩ : ∃ s, a1.eval (.tmp 7) = .map (some s) ∧ w.heap.size ≤ s ∧ s ≠ D ∧ FolIn wx 9 s loc d.now := hT 6 (by decide) (by kernel_rfl)
    have hC' : Below w.heap.size w wx := hC
    have hrow := HH.out.row.below hC' HH.out.row.lt
    have hcs : Chg (fun j => j = D) wx.heap.size wx (wx.setCell ⟨D, 1, none⟩ (.map (some s))) := (Chg.refl (fun j => j = D) wx.heap.size wx).setCell (p := ⟨D, 1, none⟩) (.inr rfl) _
    exact spcN_skip rfl (run_storeMap (by kernel_rfl) (hrow.cell (i := 1) rfl) (hrow.frozen 1) hx hy) ⟨s, (Chg.of_below hC').trans (hcs.lower hC'.size), hrow.set' 1 _ rfl, hs1, hs3.loc (hcs.block s hs3.lt hs2)⟩ hcs trivial
  · intro a1 w2 ha hC hT
    have t2 : slot a1 2 = .pointer (some ⟨D, 0, none⟩) := hT 1 (by decide)
    obtain ⟨s, hch, hrow, hs, hF⟩ := hC
    simp only [List.filterMap_cons, List.filterMap_nil, List.foldl_cons, List.foldl_nil, t2] at ha
    have HC := Keep.keep hch; have HS := Keep.keep hs; have HF := Keep.keep hF
    clear hT t2 hch hs hF
    generalize slot a1 1 = x1 at *
    generalize slot a1 3 = x3 at *
    generalize slot a1 4 = x4 at *
    generalize slot a1 5 = x5 at *
    generalize slot a1 6 = x6 at *
    generalize slot a1 7 = x7 at *
    generalize slot a1 8 = x8 at *
    generalize slot a1 9 = x9 at *
    subst ha
    simp only [Act.put, List.setIfInBounds_toArray, List.set_cons_succ, List.set_cons_zero]
    have f2 := hrow.frozen 2
    have m2 : w2.cell? ⟨D, 2, none⟩ = some vd := hrow.cell (i := 2) rfl
    have HK := Keep.keep hrow
    clear hrow
    simp only [List.drop_succ_cons, List.drop_zero]
    go_wp2_with fail
    refine bodyPost_end (results_none rfl _ _ _) rfl ?_
    have hcs : Chg (fun j => j = D) w2.heap.size w2 (w2.setCell ⟨D, 2, none⟩ (.slice none 0 0)) := (Chg.refl (fun j => j = D) w2.heap.size w2).setCell (p := ⟨D, 2, none⟩) (.inr rfl) _
    have hcw := HC.out.trans (hcs.lower HC.out.size)
    refine ⟨rfl, _, s, HH.out.setl hcw HS.out (HK.out.set' 2 _ rfl) (HF.out.loc (hcs.block s HF.out.lt (fun e => ?_))) rfl rfl rfl rfl, hcw.mono (Nat.le_refl _) (fun j hj => by rw [hj, HH.out.tD]; rfl), fun j hj => if_neg ?_⟩
    · have := HH.out.row.lt; have := HS.out; omega
    · have := HS.out; omega
end Go.Proofs.YtmkofejijkabnaaGreatDoor
/- (*Disk).Append, Sync, Settle. -/
namespace Go.Proofs.YtmkofejijkabnaaGreatDoor
open Go.RowKit
theorem step_to {w wq : World} {O : Nat → Prop} {ow : Own} {D nb sb : Nat} {loc : Nat → Nat} {bv : Nat → Value} {vd : Value} {dl : List Value} {d : DkS} (h : DkIn w ow D nb sb loc bv vd dl d) (h2 : ∀ j, (ow j).isSome = true → O j) (h3 : ∀ v ∈ dl, ∀ j, capB v j → O j) (h4 : ∀ j, O j → j < w.heap.size) (hb : Below w.heap.size w wq) (hz : FuseOk d) (g : Nat) (caps : Array Value) (f : DkS → DkS)
    (hent : ∀ args w, (callFunc g args).run Tryz.prog w = .ok (.enter g args) w)
    (hdo : ∀ w1, DkIn w1 ow D nb sb loc bv vd dl d.burn → Chg (fun j => j = D) wq.heap.size wq w1 → Calls Tryz.prog g caps w1 fun e w2 => e = .returned (.tuple #[]) ∧ ∃ ow' sb' bv' vd' dl', DkIn w2 ow' D nb sb' loc bv' vd' dl' (f d.burn) ∧ Chg (fun j => (ow j).isSome = true) w1.heap.size w1 w2 ∧ (∀ j, j < w1.heap.size → ow' j = ow j) ∧ ∀ v ∈ dl', v ∈ dl) :
    Calls Tryz.prog 62 #[.pointer (some ⟨D, 0, none⟩), .func (.func g) #[] caps] wq fun e w' => e = .returned (.int .i64 (d.step f).1) ∧ DkTo w O D (d.step f).2 w' := by
  rw [k_step_on hz.1]
  refine dkstep_dk (h.on hb) hz g caps hent _ (fun w1 hd hc => ?_)
  refine (hdo w1 hd hc).mono ?_
  rintro e w2 ⟨rfl, ow', sb', bv', vd', dl', r1, r2, r3, r4⟩
  have hc1 : Chg (fun j => (ow j).isSome = true) w.heap.size w w1 := (Chg.of_below hb).trans ((hc.lower hb.size).mono (Nat.le_refl _) (fun j hj => by rw [hj, h.tD]; rfl))
  exact ⟨rfl, DkTo.mk r1 h2 h4 (hc1.trans (r2.lower hc1.size)) (fun j hj => r3 j (Nat.lt_of_lt_of_le hj hc1.size)) (fun v hv j hj => .inl (h3 v (r4 v hv) j hj))⟩
theorem ent_append1 : ∀ args w, (callFunc 127 args).run Tryz.prog w = .ok (.enter 127 args) w := enters_of Tryz.func127 (by kernel_rfl) rfl
theorem ent_sync1 : ∀ args w, (callFunc 133 args).run Tryz.prog w = .ok (.enter 133 args) w := enters_of Tryz.func133 (by kernel_rfl) rfl
theorem ent_settle1 : ∀ args w, (callFunc 63 args).run Tryz.prog w = .ok (.enter 63 args) w := enters_of Tryz.func63 (by kernel_rfl) rfl
set_option maxHeartbeats 1000000 in
set_option maxRecDepth 100000 in
theorem sync_any (hm : MayOk) {w : World} {O : Nat → Prop} {D : Nat} {d : DkS} (h : DkAt w O D d) (hz : FuseOk d) (p : Tx) (hp : p.length ≤ 1000000) :
    Calls Tryz.prog 90 #[.pointer (some ⟨D, 0, none⟩), .string ⟨p.toArray⟩] w fun e w' => e = .returned (.int .i64 (d.sync p).1) ∧ DkTo w O D (d.sync p).2 w' := by
  have HAT := Keep.keep h
  obtain ⟨ow, nb, sb, loc, bv, vd, dl, h1, h2, h3, h4⟩ := h
  have HFD : Keep (∀ wq, Below w.heap.size w wq → Calls Tryz.prog 37 #[.pointer (some ⟨D, 0, none⟩), .string ⟨p.toArray⟩] wq fun e w' => e = .returned (.tuple #[.pointer ((d.find p).1.map fun f => ⟨loc f, 0, none⟩), .int .i64 (d.find p).2]) ∧ Below wq.heap.size wq w') := ⟨fun wq hb => dkfind_any hm (h1.on hb) p hp⟩
  have HDO : Keep (∀ wq (b k : Nat), Below w.heap.size w wq → w.heap.size ≤ b → k < d.many → wq.cell? ⟨b, 0, none⟩ = some (.pointer (some ⟨loc k, 0, none⟩)) →
      Calls Tryz.prog 62 #[.pointer (some ⟨D, 0, none⟩), .func (.func 133) #[] #[.pointer (some ⟨b, 0, none⟩)]] wq fun e w' => e = .returned (.int .i64 (d.step fun x => x.setFile k ⟨(x.files k).bytes, (x.files k).bytes.length⟩).1) ∧ DkTo w O D (d.step fun x => x.setFile k ⟨(x.files k).bytes, (x.files k).bytes.length⟩).2 w') := ⟨fun wq b k hb hbs hk hcell => by
    have hbn := h1.none hbs
    have hblt : b < wq.heap.size := World.block_lt_of_cell? wq _ hcell
    refine step_to h1 h2 h3 h4 hb hz 133 _ (fun x => x.setFile k ⟨(x.files k).bytes, (x.files k).bytes.length⟩) ent_sync1 (fun w1 hd hc => ?_)
    refine (sync1_any hd k hk b ⟨by rw [hc.cell (p := ⟨b, 0, none⟩) hblt (fun e => by have e : b = D := e; rw [e, h1.tD] at hbn; cases hbn)]; exact hcell, hbn⟩).mono ?_
    rintro e w2 ⟨rfl, ow', bv', r1, r2, r3⟩
    exact ⟨rfl, ow', sb, bv', vd, dl, r1, r2, r3, fun v hv => hv⟩⟩
  have HRM : Keep (d.sync p = match d.find p with | (some f, _) => d.step fun x => x.setFile f ⟨(x.files f).bytes, (x.files f).bytes.length⟩ | (none, e) => (e, d)) := ⟨rfl⟩
  rcases find_cases d p with ⟨f, hf, hl, -⟩ | ⟨er, hf, he, -⟩
  · rw [hf] at HFD HRM
    have hfm := h1.num (p, f) (.inl (SM.look_mem hl))
    have HD2 := Keep.keep (fun wq b hb hbs hc => HDO.out wq b f hb hbs hfm hc)
    have HRM2 : Keep (d.sync p = d.step fun x => x.setFile f ⟨(x.files f).bytes, (x.files f).bytes.length⟩) := ⟨HRM.out⟩
    generalize (d.step fun x => x.setFile f ⟨(x.files f).bytes, (x.files f).bytes.length⟩) = r at *
    clear h1 h2 h3 h4 hf hl HRM HDO hz hfm
    go_enter Tryz.func90, Tryz.ntmps90
    go_wp2_with fail
    refine (HFD.out w (Below.refl _ _)).mono ?_
    rintro e w2 ⟨rfl, hb⟩
    have HB := Keep.keep hb
    clear hb HFD
    go_wp2_with fail
    refine calls_at (R := fun wq => Below w.heap.size w wq ∧ wq.cell? ⟨w2.heap.size, 0, none⟩ = some (.pointer (some ⟨loc f, 0, none⟩))) ⟨HB.out.alloc HB.out.size _, cell_new _ _ _⟩ ?_
    intro wq HQ
    refine (HD2.out wq w2.heap.size HQ.out.1 HB.out.size HQ.out.2).mono ?_
    rintro e w' ⟨rfl, hr⟩
    have HR := Keep.keep hr
    clear hr
    go_wp2_with fail
    go_ret
    rw [HRM2.out]
    exact ⟨rfl, HR.out⟩
  · rw [hf] at HFD HRM
    have HRM2 : Keep (d.sync p = (er, d)) := ⟨HRM.out⟩
    have hz1 : (er == 0) = false := by rw [beq_eq_false_iff_ne]; exact he
    have hz2 : (er != 0) = true := by rw [bne, hz1]; rfl
    clear h1 h2 h3 h4 hf HRM HDO hz
    go_enter Tryz.func90, Tryz.ntmps90
    go_wp2_with fail
    refine (HFD.out w (Below.refl _ _)).mono ?_
    rintro e w2 ⟨rfl, hb⟩
    have HB := Keep.keep (hb.alloc hb.size (.cells #[Value.pointer none] 80))
    clear hb HFD
    go_wp2_with fail
    go_ret
    rw [HRM2.out]
    exact ⟨rfl, DkTo.of HAT.out HB.out⟩
set_option maxHeartbeats 1000000 in
set_option maxRecDepth 100000 in
theorem settle_any (hm : MayOk) {w : World} {O : Nat → Prop} {D : Nat} {d : DkS} (h : DkAt w O D d) (hz : FuseOk d) :
    Calls Tryz.prog 28 #[.pointer (some ⟨D, 0, none⟩)] w fun e w' => e = .returned (.int .i64 d.settle.1) ∧ DkTo w O D d.settle.2 w' := by
  have HAT := Keep.keep h
  obtain ⟨ow, nb, sb, loc, bv, vd, dl, h1, h2, h3, h4⟩ := h
  have HAS : Keep (∀ wq, Below w.heap.size w wq → Calls Tryz.prog 56 #[.pointer (some ⟨D, 0, none⟩), .slice none 0 0] wq fun e w' => e = .returned (.int .i64 (d.asks [])) ∧ Below wq.heap.size wq w') := ⟨fun wq hb => dkasks_any hm (h1.on hb) (.slice none 0 0) [] ⟨rfl, ⟨none, 0, rfl, Nat.le_refl _, by decide, .inl rfl⟩, fun b off m cap he j u hu => by cases he⟩ (fun s hs => by simp at hs)⟩
  have HDO : Keep (∀ wq (b : Nat), Below w.heap.size w wq → w.heap.size ≤ b → wq.cell? ⟨b, 0, none⟩ = some (.pointer (some ⟨D, 0, none⟩)) →
      Calls Tryz.prog 62 #[.pointer (some ⟨D, 0, none⟩), .func (.func 63) #[] #[.pointer (some ⟨b, 0, none⟩)]] wq fun e w' => e = .returned (.int .i64 (d.step fun x => { x with settled := x.now, deeds := [] }).1) ∧ DkTo w O D (d.step fun x => { x with settled := x.now, deeds := [] }).2 w') := ⟨fun wq b hb hbs hcell => by
    have hbn := h1.none hbs
    have hblt : b < wq.heap.size := World.block_lt_of_cell? wq _ hcell
    refine step_to h1 h2 h3 h4 hb hz 63 _ (fun x => { x with settled := x.now, deeds := [] }) ent_settle1 (fun w1 hd hc => ?_)
    refine (settle1_any hd b ⟨by rw [hc.cell (p := ⟨b, 0, none⟩) hblt (fun e => by have e : b = D := e; rw [e, h1.tD] at hbn; cases hbn)]; exact hcell, hbn⟩).mono ?_
    rintro e w2 ⟨rfl, ow', sb', r1, r2, r3⟩
    exact ⟨rfl, ow', sb', bv, .slice none 0 0, [], r1, r2, r3, fun v hv => by simp at hv⟩⟩
  have HRM : Keep (d.settle = if d.asks [] ≠ 0 then (d.asks [], d) else d.step fun x => { x with settled := x.now, deeds := [] }) := ⟨rfl⟩
  generalize d.asks [] = a0 at *
  clear h1 h2 h3 h4 hz
  go_enter Tryz.func28, Tryz.ntmps28
  go_wp2_with fail
  refine calls_at (R := fun wq => Below w.heap.size w wq ∧ wq.cell? ⟨w.heap.size, 0, none⟩ = some (.pointer (some ⟨D, 0, none⟩))) ⟨(Below.refl _ _).alloc (Nat.le_refl _) _, cell_new _ _ _⟩ ?_
  intro wq HQ
  refine (HAS.out wq HQ.out.1).mono ?_
  rintro e w2 ⟨rfl, hb⟩
  have HB := Keep.keep (HQ.out.1.trans (hb.mono HQ.out.1.size))
  have c1 := later_cell hb HQ.out.2
  clear hb HQ HAS
  by_cases ha : a0 = 0
  rotate_left
  focus
    have hz1 : (a0 == 0) = false := by rw [beq_eq_false_iff_ne]; exact ha
    have hz2 : (a0 != 0) = true := by rw [bne, hz1]; rfl
    have HR : Keep (d.settle = (a0, d)) := ⟨by rw [HRM.out, if_pos ha]⟩
    clear ha HRM HDO
    go_wp2_with fail
    go_ret
    rw [HR.out]
    exact ⟨rfl, DkTo.of HAT.out HB.out⟩
  subst ha
  have HRM2 : Keep (d.settle = d.step fun x => { x with settled := x.now, deeds := [] }) := ⟨by rw [HRM.out, if_neg (by decide)]⟩
  have HC := Keep.keep (HDO.out w2 w.heap.size HB.out (Nat.le_refl _) c1)
  generalize (d.step fun x => { x with settled := x.now, deeds := [] }) = r at *
  clear HRM HDO
  go_wp2_with fail
  refine HC.out.mono ?_
  rintro e w' ⟨rfl, hr⟩
  have HR := Keep.keep hr
  clear hr
  go_wp2_with fail
  go_ret
  rw [HRM2.out]
  exact ⟨rfl, HR.out⟩
end Go.Proofs.YtmkofejijkabnaaGreatDoor
/- (*Disk).Append. -/
namespace Go.Proofs.YtmkofejijkabnaaGreatDoor
open Go.RowKit
theorem append_eq {d : DkS} {p : Tx} {f : Nat} (b : List UInt8) (hf : d.find p = (some f, 0)) : d.append p b = if d.quota - (d.used : Int) < (b.length : Int) then (26, d) else d.step fun x => x.setFile f ⟨(x.files f).bytes ++ b, (x.files f).safe⟩ := by
  unfold DkS.append
  rw [hf]
set_option maxHeartbeats 2000000 in
set_option maxRecDepth 100000 in
theorem append_any (hm : MayOk) {w : World} {O : Nat → Prop} {D : Nat} {d : DkS} (h : DkAt w O D d) (hz : FuseOk d) (hu : d.used ≤ 1000000000) (hq0 : 0 ≤ d.quota) (hq1 : d.quota ≤ 268435456) (hfl : ∀ k, k < d.many → (d.files k).bytes.length ≤ 1000000000) (p : Tx) (hp : p.length ≤ 1000000) (v : Value) (ps : List (List UInt8)) (vs : List Value) (hr : RdB w v ps vs) (hn : ps.flatten.length ≤ 1000000000) :
    Calls Tryz.prog 73 #[.pointer (some ⟨D, 0, none⟩), .string ⟨p.toArray⟩, v] w fun e w' => e = .returned (.int .i64 (d.append p ps.flatten).1) ∧ DkTo w O D (d.append p ps.flatten).2 w' := by
  have HAT := Keep.keep h
  obtain ⟨ow, nb, sb, loc, bv, vd, dl, h1, h2, h3, h4⟩ := h
  have HFD : Keep (∀ wq, Below w.heap.size w wq → Calls Tryz.prog 37 #[.pointer (some ⟨D, 0, none⟩), .string ⟨p.toArray⟩] wq fun e w' => e = .returned (.tuple #[.pointer ((d.find p).1.map fun f => ⟨loc f, 0, none⟩), .int .i64 (d.find p).2]) ∧ Below wq.heap.size wq w') := ⟨fun wq hb => dkfind_any hm (h1.on hb) p hp⟩
  have HUS : Keep (∀ wq, Below w.heap.size w wq → Calls Tryz.prog 25 #[.pointer (some ⟨D, 0, none⟩)] wq fun e w' => e = .returned (.int .i64 (d.used : Int)) ∧ Below wq.heap.size wq w') := ⟨fun wq hb => dkused_any (h1.on hb) hu⟩
  have HQC : Keep (∀ wq, Below w.heap.size w wq → wq.cell? ⟨D, 4, none⟩ = some (.int .i64 d.quota)) := ⟨fun wq hb => (h1.on hb).row.cell rfl⟩
  have HCC : Keep (∀ wq, Below w.heap.size w wq → Calls Tryz.prog 98 #[v] wq fun e w' => ∃ v', e = .returned v' ∧ Owns w' wq.heap.size 5 v' ps.flatten ∧ Below wq.heap.size wq w') := ⟨fun wq hb => concat_bytes v ps vs wq (hr.below hb) hn⟩
  have HDO : Keep (∀ wq (b1 b2 k base : Nat) (mv : Value), Below w.heap.size w wq → w.heap.size ≤ b1 → w.heap.size ≤ b2 → w.heap.size ≤ base → k < d.many → wq.cell? ⟨b1, 0, none⟩ = some (.pointer (some ⟨loc k, 0, none⟩)) → wq.cell? ⟨b2, 0, none⟩ = some mv → Owns wq base 5 mv ps.flatten →
      Calls Tryz.prog 62 #[.pointer (some ⟨D, 0, none⟩), .func (.func 127) #[] #[.pointer (some ⟨b1, 0, none⟩), .pointer (some ⟨b2, 0, none⟩)]] wq fun e w' => e = .returned (.int .i64 (d.step fun x => x.setFile k ⟨(x.files k).bytes ++ ps.flatten, (x.files k).safe⟩).1) ∧ DkTo w O D (d.step fun x => x.setFile k ⟨(x.files k).bytes ++ ps.flatten, (x.files k).safe⟩).2 w') := ⟨fun wq b1 b2 k base mv hb hs1 hs2 hs3 hk c1 c2 ho => by
    have hn1 := h1.none hs1
    have hn2 := h1.none hs2
    have l1 : b1 < wq.heap.size := World.block_lt_of_cell? wq _ c1
    have l2 : b2 < wq.heap.size := World.block_lt_of_cell? wq _ c2
    have hnD : ∀ {b : Nat}, ow b = none → b ≠ D := fun {b} hbn e => by rw [e, h1.tD] at hbn; cases hbn
    refine step_to h1 h2 h3 h4 hb hz 127 _ (fun x => x.setFile k ⟨(x.files k).bytes ++ ps.flatten, (x.files k).safe⟩) ent_append1 (fun w1 hd hc => ?_)
    have hrd : Reads w1 (fun j => j < w1.heap.size ∧ ow j = none) mv ps.flatten := (ho.reads.chg hc (fun j hj => ⟨hj.2.1, hnD (h1.none (Nat.le_trans hs3 hj.1))⟩)).mono (fun j hj => ⟨Nat.lt_of_lt_of_le hj.2.1 hc.size, h1.none (Nat.le_trans hs3 hj.1)⟩)
    refine (append1_any hd k hk b1 b2 mv ps.flatten ⟨by rw [hc.cell (p := ⟨b1, 0, none⟩) l1 (hnD hn1)]; exact c1, hn1⟩ ⟨by rw [hc.cell (p := ⟨b2, 0, none⟩) l2 (hnD hn2)]; exact c2, hn2⟩ hrd (by have := hfl k hk; show (d.files k).bytes.length + _ ≤ _; omega)).mono ?_
    rintro e w2 ⟨rfl, ow', bv', r1, r2, r3⟩
    exact ⟨rfl, ow', sb, bv', vd, dl, r1, r2, r3, fun v hv => hv⟩⟩
  have HHR := Keep.keep hr
  obtain ⟨av, nv, cv, hvs⟩ : ∃ av nv cv, v = .slice av nv cv := by
    obtain ⟨a8, c8, hv8, -⟩ := hr.rd.shape
    exact ⟨a8, _, c8, hv8⟩
  rcases find_cases d p with ⟨f, hf, hl, -⟩ | ⟨er, hf, he, -⟩
  rotate_left
  focus
    have HRM2 : Keep (d.append p ps.flatten = (er, d)) := ⟨by unfold DkS.append; rw [hf]⟩
    rw [hf] at HFD
    have hz1 : (er == 0) = false := by rw [beq_eq_false_iff_ne]; exact he
    have hz2 : (er != 0) = true := by rw [bne, hz1]; rfl
    clear h1 h2 h3 h4 hf hr HDO hz HCC HUS HQC hfl hq0 hq1 hu hn
    subst hvs
    go_enter Tryz.func73, Tryz.ntmps73
    go_wp2_with fail
    refine (HFD.out w (Below.refl _ _)).mono ?_
    rintro e w2 ⟨rfl, hb⟩
    have HB := Keep.keep (hb.alloc hb.size (.cells #[Value.pointer none] 80))
    clear hb HFD
    go_wp2_with fail
    go_ret
    rw [HRM2.out]
    exact ⟨rfl, DkTo.of HAT.out HB.out⟩
  have HRM := Keep.keep (append_eq ps.flatten hf)
  rw [hf] at HFD
  have hfm := h1.num (p, f) (.inl (SM.look_mem hl))
  have HD2 := Keep.keep (fun wq b1 b2 base mv q1 q2 q3 q4 q5 q6 q7 => HDO.out wq b1 b2 f base mv q1 q2 q3 q4 hfm q5 q6 q7)
  generalize (d.step fun x => x.setFile f ⟨(x.files f).bytes ++ ps.flatten, (x.files f).safe⟩) = r at *
  have hun : (d.used : Int) ≤ 1000000000 := by omega
  have hln : (ps.flatten.length : Int) ≤ 1000000000 := by omega
  generalize hus : d.used = us at *
  generalize hqt : d.quota = qt at *
  clear h1 h2 h3 h4 hf hl hr HDO hz hfm hfl hu hn
  subst hvs
  go_enter Tryz.func73, Tryz.ntmps73
  go_wp2_with fail
  refine (HFD.out w (Below.refl _ _)).mono ?_
  rintro e w2 ⟨rfl, hb⟩
  have HB := Keep.keep hb
  clear hb HFD
  go_wp2_with fail
  refine calls_at (R := fun wq => Below w.heap.size w wq ∧ wq.cell? ⟨w2.heap.size, 0, none⟩ = some (.pointer (some ⟨loc f, 0, none⟩))) ⟨HB.out.alloc HB.out.size _, cell_new _ _ _⟩ ?_
  intro w3 H3
  refine (HCC.out w3 H3.out.1).mono ?_
  rintro e w4 ⟨mv, rfl, ho, hb4⟩
  have HO := Keep.keep ho
  have HB4 := Keep.keep (H3.out.1.trans (hb4.mono H3.out.1.size))
  have C4 := Keep.keep (later_cell hb4 H3.out.2)
  obtain ⟨am, nm, cm, hmv, hnm⟩ : ∃ am nm cm, mv = .slice am nm cm ∧ (nm : Int) = (ps.flatten.length : Int) := by
    obtain ⟨a8, c8, hv8, -⟩ := (ownsV_reads ho).shape
    exact ⟨a8, _, c8, hv8, rfl⟩
  have HNM := Keep.keep hnm
  have hnl : (nm : Int) ≤ 1000000000 := by omega
  clear ho hb4 HCC hnm
  subst hmv
  go_upto_region 5 with fail
  refine wp_world (R := fun wx => Below w4.heap.size w4 wx ∧ wx.cell? ⟨w4.heap.size, 0, none⟩ = some (.slice am nm cm)) ⟨(Below.refl _ _).alloc (Nat.le_refl _) _, cell_new _ _ _⟩ ?_
  intro w5 H5
  have HB5 := Keep.keep (HB4.out.trans (H5.out.1.mono HB4.out.size))
  have HX9 : Keep (∀ wx, Below w5.heap.size w5 wx → wx.cell? ⟨w4.heap.size, 0, none⟩ = some (.slice am nm cm)) := ⟨fun wx hb => later_cell hb H5.out.2⟩
  have HX4 : Keep (∀ wx, Below w5.heap.size w5 wx → wx.cell? ⟨D, 4, none⟩ = some (.int .i64 qt)) := ⟨fun wx hb => HQC.out wx (HB5.out.trans (hb.mono HB5.out.size))⟩
  have HUX : Keep (∀ wx, Below w5.heap.size w5 wx → Calls Tryz.prog 25 #[.pointer (some ⟨D, 0, none⟩)] wx fun e w' => e = .returned (.int .i64 (us : Int)) ∧ Below wx.heap.size wx w') := ⟨fun wx hb => HUS.out wx (HB5.out.trans (hb.mono HB5.out.size))⟩
  have hu0 : (0 : Int) ≤ (us : Int) := by omega
  refine wp_region_cls (fun w' => Below w5.heap.size w5 w') (by kernel_rfl) (by kernel_rfl) (Below.refl _ _).drew ?_
  repeat (first
    | ((with_reducible refine cls_cell ?_ HX9.out (run_isAgg_plain Tryz.underlying28 rfl) ?_ ?_); (focus rfl); (focus rfl); simp only [Act.put, List.setIfInBounds_toArray, List.set_cons_succ, List.set_cons_zero])
    | ((with_reducible refine cls_cell ?_ HX4.out (run_isAgg_plain Tryz.underlying3 rfl) ?_ ?_); (focus rfl); (focus rfl); simp only [Act.put, List.setIfInBounds_toArray, List.set_cons_succ, List.set_cons_zero])
    | ((with_reducible refine cls_call (f := 25) ?_ (Go.Proofs.enters_of Tryz.func25 (by kernel_rfl) rfl) ?_ (fun w1 hw1 => (HUX.out w1 hw1).mono (fun e w2 he => ⟨he.1, hw1.trans (he.2.mono hw1.size)⟩)) ?_); (focus rfl); (focus (first | exact Array.map_empty | (simp only [List.map_toArray, List.map_cons, List.map_nil]; rfl))); simp only [Act.put, List.setIfInBounds_toArray, List.set_cons_succ, List.set_cons_zero])
    | (first | go_big_quiet_step (fail) | (go_big_quiet_want; go_big_quiet_op; (refine ⟨_, fun _ _ => rfl, ?_⟩); go_big_quiet_on)))
  (refine wpQuiet_nil ?_); intro w6 hw6
  have HB6 := Keep.keep (HB5.out.trans (hw6.mono HB5.out.size))
  have K9 := Keep.keep (HX9.out w6 hw6)
  have K7 := Keep.keep (later_cell hw6 (later_cell H5.out.1 C4.out))
  have HO6 : Keep (Owns w6 w3.heap.size 5 (.slice am nm cm) ps.flatten) := ⟨ownsRow_loc _ _ (fun j e => ((hw6.block j (Nat.lt_of_lt_of_le (HO.out.lt j e).2 H5.out.1.size)).trans (H5.out.1.block j (HO.out.lt j e).2))) HO.out⟩
  have hl4 : w.heap.size ≤ w4.heap.size := HB4.out.size
  have hl3 : w.heap.size ≤ w3.heap.size := H3.out.1.size
  have hl2 : w.heap.size ≤ w2.heap.size := HB.out.size
  have HSZ := Keep.keep (And.intro hl2 (And.intro hl3 hl4))
  clear hw6 HUX HX4 HX9 H5 H3 HO C4 HUS HQC hl2 hl3 hl4 hu0
  by_cases hlt : qt - (us : Int) < (nm : Int)
  · have HR : Keep (d.append p ps.flatten = (26, d)) := ⟨by rw [HRM.out, if_pos (by rw [← HNM.out]; exact hlt)]⟩
    clear HRM HD2
    go_wp2_with fail
    go_ret
    rw [HR.out]
    exact ⟨rfl, DkTo.of HAT.out HB6.out⟩
  · have HR : Keep (d.append p ps.flatten = r) := ⟨by rw [HRM.out, if_neg (by rw [← HNM.out]; exact hlt)]⟩
    have HC := Keep.keep (HD2.out w6 w2.heap.size w4.heap.size w3.heap.size _ HB6.out HSZ.out.1 HSZ.out.2.2 HSZ.out.2.1 K7.out K9.out HO6.out)
    clear HRM HD2
    go_wp2_with fail
    refine HC.out.mono ?_
    rintro e w' ⟨rfl, hr⟩
    have HRR := Keep.keep hr
    clear hr
    go_wp2_with fail
    go_ret
    rw [HR.out]
    exact ⟨rfl, HRR.out⟩
end Go.Proofs.YtmkofejijkabnaaGreatDoor
/- THE LIBRARY CONTRACTS on sorted keys, laid at this translation by the shelf's own programs (lay-iter, lay-plain). -/
namespace Go.Proofs
open Go.RowKit Go.Maps Go.Sort Go.Shelf
def Tryz.keys54_ren : Go.Shelf.Ren := ⟨fun | 7 => 54 | 10 => 101 | n => n, fun | 23 => 35 | 26 => 9 | 3 => 40 | 28 => 102 | 0 => 0 | 27 => 101 | 33 => 96 | 4 => 4 | n => n, fun | n => n⟩
theorem Tryz.keys54 : Go.Proofs.SlLaysZ.n7 Tryz.prog Tryz.keys54_ren := {
  mixed := by kernel_rfl
  f7 := ⟨Tryz.f54.name, by decide, Tryz.func54.trans (congrArg some (by kernel_rfl))⟩
  f10 := ⟨Tryz.f101.name, by decide, Tryz.func101.trans (congrArg some (by kernel_rfl))⟩
  t0 := Tryz.underlying0
  a0 := Tryz.isAgg0
  z0 := Tryz.sizeOf0
  v0 := Tryz.zeroValue0
  t4 := Tryz.underlying4
  a4 := Tryz.isAgg4
  z4 := Tryz.sizeOf4
  v4 := Tryz.zeroValue4
  t23 := Tryz.underlying35
  a23 := Tryz.isAgg35
  z23 := Tryz.sizeOf35
  v23 := Tryz.zeroValue35
  t26 := Tryz.underlying9
  a26 := Tryz.isAgg9
  z26 := Tryz.sizeOf9
  v26 := Tryz.zeroValue9
  t27 := Tryz.underlying101
  a27 := Tryz.isAgg101
  z27 := Tryz.sizeOf101
  v27 := Tryz.zeroValue101
  t28 := Tryz.underlying102
  a28 := Tryz.isAgg102
  z28 := Tryz.sizeOf102
  v28 := Tryz.zeroValue102
  t33 := Tryz.underlying96
  a33 := Tryz.isAgg96
  z33 := Tryz.sizeOf96
  v33 := Tryz.zeroValue96 }
def Tryz.sorted53_ren : Go.Shelf.Ren := ⟨fun | 6 => 53 | 8 => 99 | 9 => 100 | 11 => 140 | 13 => 142 | 12 => 141 | 23 => 171 | 24 => 172 | 14 => 162 | 15 => 163 | 16 => 164 | 17 => 165 | 18 => 166 | 19 => 167 | 20 => 168 | 21 => 169 | 22 => 170 | 25 => 185 | 26 => 186 | 27 => 187 | 28 => 188 | 29 => 189 | 30 => 190 | 31 => 201 | n => n, fun | 26 => 9 | 28 => 102 | 24 => 53 | 0 => 0 | 3 => 3 | 37 => 34 | 48 => 148 | 50 => 218 | 4 => 4 | 40 => 211 | 39 => 210 | 45 => 169 | 5 => 5 | 9 => 9 | 51 => 227 | 55 => 231 | 57 => 240 | 58 => 94 | 33 => 96 | n => n, fun | n => n⟩
theorem Tryz.sorted53 : Go.Proofs.SlLaysZ.n6 Tryz.prog Tryz.sorted53_ren := {
  mixed := by kernel_rfl
  f6 := ⟨Tryz.f53.name, by decide, Tryz.func53.trans (congrArg some (by kernel_rfl))⟩
  f8 := ⟨Tryz.f99.name, by decide, Tryz.func99.trans (congrArg some (by kernel_rfl))⟩
  f11 := ⟨Tryz.f140.name, by decide, Tryz.func140.trans (congrArg some (by kernel_rfl))⟩
  t0 := Tryz.underlying0
  a0 := Tryz.isAgg0
  z0 := Tryz.sizeOf0
  v0 := Tryz.zeroValue0
  t24 := Tryz.underlying53
  a24 := Tryz.isAgg53
  z24 := Tryz.sizeOf53
  v24 := Tryz.zeroValue53
  t26 := Tryz.underlying9
  a26 := Tryz.isAgg9
  z26 := Tryz.sizeOf9
  v26 := Tryz.zeroValue9
  t28 := Tryz.underlying102
  a28 := Tryz.isAgg102
  z28 := Tryz.sizeOf102
  v28 := Tryz.zeroValue102
  i26 := by kernel_rfl }
def Tryz.sort100_ren : Go.Shelf.Ren := ⟨fun | 6 => 100 | 8 => 142 | 9 => 141 | 19 => 171 | 20 => 172 | 21 => 162 | 22 => 163 | 23 => 164 | 24 => 165 | 25 => 166 | 26 => 167 | 27 => 168 | 28 => 169 | 29 => 170 | 36 => 185 | 31 => 186 | 32 => 187 | 37 => 188 | 38 => 189 | 39 => 190 | 41 => 201 | n => n, fun | 27 => 53 | 29 => 9 | 3 => 3 | 32 => 34 | 26 => 53 | 0 => 0 | 44 => 148 | 46 => 218 | 4 => 4 | 36 => 211 | 35 => 210 | 41 => 169 | 5 => 5 | 9 => 9 | 53 => 227 | 57 => 231 | 63 => 240 | 64 => 94 | n => n, fun | n => n⟩
theorem Tryz.sort100 : Go.Proofs.SlLaysM.n6 Tryz.prog Tryz.sort100_ren := {
  mixed := by kernel_rfl
  f6 := ⟨Tryz.f100.name, by decide, Tryz.func100.trans (congrArg some (by kernel_rfl))⟩
  f8 := Tryz.func142.trans (congrArg some (by kernel_rfl))
  f9 := ⟨Tryz.f141.name, by decide, Tryz.func141.trans (congrArg some (by kernel_rfl))⟩
  f19 := Tryz.func171.trans (congrArg some (by kernel_rfl))
  f20 := Tryz.func172.trans (congrArg some (by kernel_rfl))
  f21 := ⟨Tryz.f162.name, by decide, Tryz.func162.trans (congrArg some (by kernel_rfl))⟩
  f22 := ⟨Tryz.f163.name, by decide, Tryz.func163.trans (congrArg some (by kernel_rfl))⟩
  f23 := ⟨Tryz.f164.name, by decide, Tryz.func164.trans (congrArg some (by kernel_rfl))⟩
  f24 := ⟨Tryz.f165.name, by decide, Tryz.func165.trans (congrArg some (by kernel_rfl))⟩
  f25 := ⟨Tryz.f166.name, by decide, Tryz.func166.trans (congrArg some (by kernel_rfl))⟩
  f26 := ⟨Tryz.f167.name, by decide, Tryz.func167.trans (congrArg some (by kernel_rfl))⟩
  f27 := ⟨Tryz.f168.name, by decide, Tryz.func168.trans (congrArg some (by kernel_rfl))⟩
  f28 := ⟨Tryz.f169.name, by decide, Tryz.func169.trans (congrArg some (by kernel_rfl))⟩
  f29 := ⟨Tryz.f170.name, by decide, Tryz.func170.trans (congrArg some (by kernel_rfl))⟩
  f31 := Tryz.func186.trans (congrArg some (by kernel_rfl))
  f32 := Tryz.func187.trans (congrArg some (by kernel_rfl))
  f36 := ⟨Tryz.f185.name, by decide, Tryz.func185.trans (congrArg some (by kernel_rfl))⟩
  f37 := ⟨Tryz.f188.name, by decide, Tryz.func188.trans (congrArg some (by kernel_rfl))⟩
  f38 := ⟨Tryz.f189.name, by decide, Tryz.func189.trans (congrArg some (by kernel_rfl))⟩
  f39 := ⟨Tryz.f190.name, by decide, Tryz.func190.trans (congrArg some (by kernel_rfl))⟩
  f41 := ⟨Tryz.f201.name, by decide, Tryz.func201.trans (congrArg some (by kernel_rfl))⟩
  t0 := Tryz.underlying0
  a0 := Tryz.isAgg0
  z0 := Tryz.sizeOf0
  v0 := Tryz.zeroValue0
  t3 := Tryz.underlying3
  a3 := Tryz.isAgg3
  z3 := Tryz.sizeOf3
  v3 := Tryz.zeroValue3
  t4 := Tryz.underlying4
  a4 := Tryz.isAgg4
  z4 := Tryz.sizeOf4
  v4 := Tryz.zeroValue4
  t5 := Tryz.underlying5
  a5 := Tryz.isAgg5
  z5 := Tryz.sizeOf5
  v5 := Tryz.zeroValue5
  t9 := Tryz.underlying9
  a9 := Tryz.isAgg9
  z9 := Tryz.sizeOf9
  v9 := Tryz.zeroValue9
  t26 := Tryz.underlying53
  a26 := Tryz.isAgg53
  z26 := Tryz.sizeOf53
  v26 := Tryz.zeroValue53
  t27 := Tryz.underlying53
  a27 := Tryz.isAgg53
  z27 := Tryz.sizeOf53
  v27 := Tryz.zeroValue53
  t29 := Tryz.underlying9
  a29 := Tryz.isAgg9
  z29 := Tryz.sizeOf9
  v29 := Tryz.zeroValue9
  t32 := Tryz.underlying34
  a32 := Tryz.isAgg34
  z32 := Tryz.sizeOf34
  v32 := Tryz.zeroValue34
  t35 := Tryz.underlying210
  a35 := Tryz.isAgg210
  z35 := Tryz.sizeOf210
  v35 := Tryz.zeroValue210
  t36 := Tryz.underlying211
  a36 := Tryz.isAgg211
  z36 := Tryz.sizeOf211
  v36 := Tryz.zeroValue211
  t41 := Tryz.underlying169
  a41 := Tryz.isAgg169
  z41 := Tryz.sizeOf169
  v41 := Tryz.zeroValue169
  t44 := Tryz.underlying148
  a44 := Tryz.isAgg148
  z44 := Tryz.sizeOf148
  v44 := Tryz.zeroValue148
  t46 := Tryz.underlying218
  a46 := Tryz.isAgg218
  z46 := Tryz.sizeOf218
  v46 := Tryz.zeroValue218
  t53 := Tryz.underlying227
  a53 := Tryz.isAgg227
  z53 := Tryz.sizeOf227
  v53 := Tryz.zeroValue227
  t57 := Tryz.underlying231
  a57 := Tryz.isAgg231
  z57 := Tryz.sizeOf231
  v57 := Tryz.zeroValue231
  t63 := Tryz.underlying240
  a63 := Tryz.isAgg240
  z63 := Tryz.sizeOf240
  v63 := Tryz.zeroValue240
  t64 := Tryz.underlying94
  a64 := Tryz.isAgg94
  z64 := Tryz.sizeOf94
  v64 := Tryz.zeroValue94 }
def Tryz.keys80_ren : Go.Shelf.Ren := ⟨fun | 7 => 80 | 10 => 129 | n => n, fun | 23 => 105 | 26 => 9 | 3 => 80 | 28 => 102 | 0 => 0 | 27 => 101 | 33 => 96 | 4 => 4 | n => n, fun | n => n⟩
theorem Tryz.keys80 : Go.Proofs.SlLaysZ.n7 Tryz.prog Tryz.keys80_ren := {
  mixed := by kernel_rfl
  f7 := ⟨Tryz.f80.name, by decide, Tryz.func80.trans (congrArg some (by kernel_rfl))⟩
  f10 := ⟨Tryz.f129.name, by decide, Tryz.func129.trans (congrArg some (by kernel_rfl))⟩
  t0 := Tryz.underlying0
  a0 := Tryz.isAgg0
  z0 := Tryz.sizeOf0
  v0 := Tryz.zeroValue0
  t4 := Tryz.underlying4
  a4 := Tryz.isAgg4
  z4 := Tryz.sizeOf4
  v4 := Tryz.zeroValue4
  t23 := Tryz.underlying105
  a23 := Tryz.isAgg105
  z23 := Tryz.sizeOf105
  v23 := Tryz.zeroValue105
  t26 := Tryz.underlying9
  a26 := Tryz.isAgg9
  z26 := Tryz.sizeOf9
  v26 := Tryz.zeroValue9
  t27 := Tryz.underlying101
  a27 := Tryz.isAgg101
  z27 := Tryz.sizeOf101
  v27 := Tryz.zeroValue101
  t28 := Tryz.underlying102
  a28 := Tryz.isAgg102
  z28 := Tryz.sizeOf102
  v28 := Tryz.zeroValue102
  t33 := Tryz.underlying96
  a33 := Tryz.isAgg96
  z33 := Tryz.sizeOf96
  v33 := Tryz.zeroValue96 }


theorem Tryz.sorts53 (m : Nat) : AnyZ.SortsIn Tryz.prog Tryz.sorted53_ren Fence.wide m :=
  ⟨fun blk off cap ss W hH hblk hsz => callsIn_wide.2 (AnyM.slices_Sort_string Tryz.sort100 blk off cap ss W hH hblk hsz),
   fun p cap W => callsIn_wide.2 (AnyM.slices_Sort_string_none Tryz.sort100 p cap W)⟩

theorem Tryz.maps_Keys_54 (mb : Option Nat) (W : World) : CallsIn Fence.wide 5 Tryz.prog 54 #[.map mb] W fun e w' => e = .returned (.func (.func 101) #[] #[.pointer (some ⟨W.heap.size, 0, none⟩)]) ∧ w' = W.alloc (.cells #[.map mb] 35) :=
  AnyZ.keys_in Tryz.keys54 Fence.wide 5 trivial rfl mb W

set_option maxHeartbeats 1000000 in
theorem Tryz.slices_Sorted_keys_53_54 {H : Type} (b nn : Nat) (D0 : DataW H) (R : Value → Option (DataW H × List MemPlace)) (w : World) (hown : w.ownsMap Tryz.prog 9 R b nn D0) (hmax : Maps.size D0 ≤ maxLen) (hbytes : Maps.size D0 * 16 ≤ 140737488355328) :
    CallsIn Fence.wide 5 Tryz.prog 53 #[.func (.func 101) #[] #[.pointer (some ⟨w.heap.size, 0, none⟩)]] (w.alloc (.cells #[.map (some b)] 35)) fun e w' => ∃ (v : Value) (ss : List (List UInt8)), e = .returned v ∧ ss.Perm (strKeys D0) ∧
      w'.ownsRow (w.alloc (.cells #[.map (some b)] 35)).heap.size 9 1 v ss.length ((ss.mergeSort (fun x y => decide (x ≤ y))).map encStr) ∧ (v = .slice none 0 0 ↔ ss = []) ∧ Below (w.alloc (.cells #[.map (some b)] 35)).heap.size (w.alloc (.cells #[.map (some b)] 35)) w' := by
  have hbl := hown.lt
  have hseq : SeqGives Fence.wide 2 Tryz.prog 101 #[.pointer (some ⟨w.heap.size, 0, none⟩)] encStr (fun ss => ss.Perm (strKeys D0)) (Maps.size D0) (w.alloc (.cells #[.map (some b)] 35)) :=
    AnyZ.keys_gives (ρ := Tryz.keys54_ren) { Tryz.keys54 with } Fence.wide _ trivial rfl (by omega) w.heap.size b nn D0 _ (by simp) (by simp) (by
      obtain ⟨es, clock, hb, Ft, hs, hD⟩ := hown
      exact ⟨es, clock, (Below.heap_alloc _ _ b hbl).trans hb, Ft, hs, hD⟩)
  exact AnyZ.sorted_in Tryz.sorted53 Fence.wide 5 trivial trivial trivial trivial rfl (by omega) (Tryz.sorts53 _) (enters_of Tryz.func100 (by kernel_rfl) rfl) 101 #[.pointer (some ⟨w.heap.size, 0, none⟩)] trivial (enters_of Tryz.func101 (by kernel_rfl) rfl) _ _ hmax hbytes _ hseq

set_option maxHeartbeats 1000000 in
theorem Tryz.slices_Sorted_keys_nil_53_54 (w : World) :
    CallsIn Fence.wide 5 Tryz.prog 53 #[.func (.func 101) #[] #[.pointer (some ⟨w.heap.size, 0, none⟩)]] (w.alloc (.cells #[.map none] 35)) fun e w' => ∃ (v : Value) (ss : List (List UInt8)), e = .returned v ∧ ss = [] ∧
      w'.ownsRow (w.alloc (.cells #[.map none] 35)).heap.size 9 1 v ss.length ((ss.mergeSort (fun x y => decide (x ≤ y))).map encStr) ∧ (v = .slice none 0 0 ↔ ss = []) ∧ Below (w.alloc (.cells #[.map none] 35)).heap.size (w.alloc (.cells #[.map none] 35)) w' := by
  have hseq : SeqGives Fence.wide 2 Tryz.prog 101 #[.pointer (some ⟨w.heap.size, 0, none⟩)] encStr (fun ss : List (List UInt8) => ss = []) 0 (w.alloc (.cells #[.map none] 35)) :=
    AnyZ.keys_gives_nil (ρ := Tryz.keys54_ren) { Tryz.keys54 with } Fence.wide _ trivial rfl w.heap.size _ (by simp) (by simp)
  exact AnyZ.sorted_in Tryz.sorted53 Fence.wide 5 trivial trivial trivial trivial rfl (by omega) (Tryz.sorts53 _) (enters_of Tryz.func100 (by kernel_rfl) rfl) 101 #[.pointer (some ⟨w.heap.size, 0, none⟩)] trivial (enters_of Tryz.func101 (by kernel_rfl) rfl) _ 0 (Nat.zero_le _) (by omega) _ hseq



theorem Tryz.maps_Keys_80 (mb : Option Nat) (W : World) : CallsIn Fence.wide 5 Tryz.prog 80 #[.map mb] W fun e w' => e = .returned (.func (.func 129) #[] #[.pointer (some ⟨W.heap.size, 0, none⟩)]) ∧ w' = W.alloc (.cells #[.map mb] 105) :=
  AnyZ.keys_in Tryz.keys80 Fence.wide 5 trivial rfl mb W

set_option maxHeartbeats 1000000 in
theorem Tryz.slices_Sorted_keys_53_80 {H : Type} (b nn : Nat) (D0 : DataW H) (R : Value → Option (DataW H × List MemPlace)) (w : World) (hown : w.ownsMap Tryz.prog 9 R b nn D0) (hmax : Maps.size D0 ≤ maxLen) (hbytes : Maps.size D0 * 16 ≤ 140737488355328) :
    CallsIn Fence.wide 5 Tryz.prog 53 #[.func (.func 129) #[] #[.pointer (some ⟨w.heap.size, 0, none⟩)]] (w.alloc (.cells #[.map (some b)] 105)) fun e w' => ∃ (v : Value) (ss : List (List UInt8)), e = .returned v ∧ ss.Perm (strKeys D0) ∧
      w'.ownsRow (w.alloc (.cells #[.map (some b)] 105)).heap.size 9 1 v ss.length ((ss.mergeSort (fun x y => decide (x ≤ y))).map encStr) ∧ (v = .slice none 0 0 ↔ ss = []) ∧ Below (w.alloc (.cells #[.map (some b)] 105)).heap.size (w.alloc (.cells #[.map (some b)] 105)) w' := by
  have hbl := hown.lt
  have hseq : SeqGives Fence.wide 2 Tryz.prog 129 #[.pointer (some ⟨w.heap.size, 0, none⟩)] encStr (fun ss => ss.Perm (strKeys D0)) (Maps.size D0) (w.alloc (.cells #[.map (some b)] 105)) :=
    AnyZ.keys_gives (ρ := Tryz.keys80_ren) { Tryz.keys80 with } Fence.wide _ trivial rfl (by omega) w.heap.size b nn D0 _ (by simp) (by simp) (by
      obtain ⟨es, clock, hb, Ft, hs, hD⟩ := hown
      exact ⟨es, clock, (Below.heap_alloc _ _ b hbl).trans hb, Ft, hs, hD⟩)
  exact AnyZ.sorted_in Tryz.sorted53 Fence.wide 5 trivial trivial trivial trivial rfl (by omega) (Tryz.sorts53 _) (enters_of Tryz.func100 (by kernel_rfl) rfl) 129 #[.pointer (some ⟨w.heap.size, 0, none⟩)] trivial (enters_of Tryz.func129 (by kernel_rfl) rfl) _ _ hmax hbytes _ hseq

set_option maxHeartbeats 1000000 in
theorem Tryz.slices_Sorted_keys_nil_53_80 (w : World) :
    CallsIn Fence.wide 5 Tryz.prog 53 #[.func (.func 129) #[] #[.pointer (some ⟨w.heap.size, 0, none⟩)]] (w.alloc (.cells #[.map none] 105)) fun e w' => ∃ (v : Value) (ss : List (List UInt8)), e = .returned v ∧ ss = [] ∧
      w'.ownsRow (w.alloc (.cells #[.map none] 105)).heap.size 9 1 v ss.length ((ss.mergeSort (fun x y => decide (x ≤ y))).map encStr) ∧ (v = .slice none 0 0 ↔ ss = []) ∧ Below (w.alloc (.cells #[.map none] 105)).heap.size (w.alloc (.cells #[.map none] 105)) w' := by
  have hseq : SeqGives Fence.wide 2 Tryz.prog 129 #[.pointer (some ⟨w.heap.size, 0, none⟩)] encStr (fun ss : List (List UInt8) => ss = []) 0 (w.alloc (.cells #[.map none] 105)) :=
    AnyZ.keys_gives_nil (ρ := Tryz.keys80_ren) { Tryz.keys80 with } Fence.wide _ trivial rfl w.heap.size _ (by simp) (by simp)
  exact AnyZ.sorted_in Tryz.sorted53 Fence.wide 5 trivial trivial trivial trivial rfl (by omega) (Tryz.sorts53 _) (enters_of Tryz.func100 (by kernel_rfl) rfl) 129 #[.pointer (some ⟨w.heap.size, 0, none⟩)] trivial (enters_of Tryz.func129 (by kernel_rfl) rfl) _ 0 (Nat.zero_le _) (by omega) _ hseq


end Go.Proofs
/- slices.Sorted(maps.Keys(m)): the names, rising: of a folder, of tags. -/
namespace Go.Proofs.YtmkofejijkabnaaGreatDoor
open Go.RowKit Go.Shelf
theorem ownsRow_base {w : World} {base base' k n : Nat} {e : TypeId} {v : Value} {vs : List Value} (h : w.ownsRow base e k v n vs) (hb : base' ≤ base) : w.ownsRow base' e k v n vs := by
  obtain ⟨hl, h⟩ := h
  refine ⟨hl, ?_⟩
  rcases h with h | ⟨g, cap, cur, h1, h2, h3⟩
  · exact .inl h
  · exact .inr ⟨g, cap, cur, h1, Nat.le_trans hb h2, h3⟩
theorem strKeys_dS (M : List (Tx × Value)) : strKeys (dS M) = M.map (·.1) := by
  show (M.map dSe).map (fun p => strOf p.1) = M.map (·.1)
  rw [List.map_map]
  rfl
theorem sort_srt {α : Type} {M : List (Tx × α)} (h : SM.Srt M) {ss : List Tx} (hp : ss.Perm (M.map (·.1))) : ss.mergeSort (fun x y => decide (x ≤ y)) = M.map (·.1) := by
  have := mergeSort_of_perm hp
  rw [show (fun x y => decide (x ≤ y)) = leB from rfl, this]
  refine List.mergeSort_of_pairwise (le := leB) ?_
  rw [List.pairwise_map]
  exact List.Pairwise.imp (R := fun a b : Tx × α => a.1 < b.1) (fun {a b} hab => by simpa [leB] using List.le_of_lt hab) h
theorem keysF_any (b : Nat) (w : World) : Calls Tryz.prog 80 #[.map (some b)] w fun e w' => e = .returned (.func (.func 129) #[] #[.pointer (some ⟨w.heap.size, 0, none⟩)]) ∧ w' = w.alloc (.cells #[.map (some b)] 105) := callsIn_wide.1 (Tryz.maps_Keys_80 (some b) w)
theorem keysT_any (b : Nat) (w : World) : Calls Tryz.prog 54 #[.map (some b)] w fun e w' => e = .returned (.func (.func 101) #[] #[.pointer (some ⟨w.heap.size, 0, none⟩)]) ∧ w' = w.alloc (.cells #[.map (some b)] 35) := callsIn_wide.1 (Tryz.maps_Keys_54 (some b) w)
theorem sortedF_any {b : Nat} {M : List (Tx × Value)} {w : World} (h : MapS w 9 b M) (hl : M.length ≤ 1000000) :
    Calls Tryz.prog 53 #[.func (.func 129) #[] #[.pointer (some ⟨w.heap.size, 0, none⟩)]] (w.alloc (.cells #[.map (some b)] 105)) fun e w' => ∃ v, e = .returned v ∧ w'.ownsRow w.heap.size 9 1 v M.length ((M.map (·.1)).map strV) ∧ Below w.heap.size w w' := by
  have hsz : Maps.size (dS M) = M.length := size_dS M
  refine (callsIn_wide.1 (Tryz.slices_Sorted_keys_53_80 b M.length (dS M) rawE w h.o (by rw [hsz]; unfold maxLen; omega) (by rw [hsz]; omega))).mono ?_
  rintro e w' ⟨v, ss, rfl, hS, hrow, -, hb⟩
  rw [strKeys_dS] at hS
  have hss := sort_srt h.s hS
  have hln : ss.length = M.length := by have := congrArg List.length hss; rw [List.length_mergeSort, List.length_map] at this; exact this
  rw [hss, hln] at hrow
  have hal : Below w.heap.size w (w.alloc (.cells #[.map (some b)] 105)) := (Below.refl _ _).alloc (Nat.le_refl _) _
  exact ⟨v, rfl, ownsRow_base hrow hal.size, hal.trans (hb.mono hal.size)⟩
theorem sortedT_any {b : Nat} {M : List (Tx × Value)} {w : World} (h : MapS w 9 b M) (hl : M.length ≤ 1000000) :
    Calls Tryz.prog 53 #[.func (.func 101) #[] #[.pointer (some ⟨w.heap.size, 0, none⟩)]] (w.alloc (.cells #[.map (some b)] 35)) fun e w' => ∃ v, e = .returned v ∧ w'.ownsRow w.heap.size 9 1 v M.length ((M.map (·.1)).map strV) ∧ Below w.heap.size w w' := by
  have hsz : Maps.size (dS M) = M.length := size_dS M
  refine (callsIn_wide.1 (Tryz.slices_Sorted_keys_53_54 b M.length (dS M) rawE w h.o (by rw [hsz]; unfold maxLen; omega) (by rw [hsz]; omega))).mono ?_
  rintro e w' ⟨v, ss, rfl, hS, hrow, -, hb⟩
  rw [strKeys_dS] at hS
  have hss := sort_srt h.s hS
  have hln : ss.length = M.length := by have := congrArg List.length hss; rw [List.length_mergeSort, List.length_map] at this; exact this
  rw [hss, hln] at hrow
  have hal : Below w.heap.size w (w.alloc (.cells #[.map (some b)] 35)) := (Below.refl _ _).alloc (Nat.le_refl _) _
  exact ⟨v, rfl, ownsRow_base hrow hal.size, hal.trans (hb.mono hal.size)⟩
end Go.Proofs.YtmkofejijkabnaaGreatDoor
/- append TO A FULL SLICE that is anybody's: a slice that reads as both. -/
namespace Go.Proofs.YtmkofejijkabnaaGreatDoor
open Go.RowKit
def Fresh (B : Nat) (w : World) (b : Nat) : Prop := B ≤ b ∧ b < w.heap.size
variable {P : Program}
theorem below_grown {w w' : World} (hg : w.grownBy w' none) : Below w.heap.size w w' := (Chg.grown (M := NoM) (.refl _ _ _) hg (Nat.le_refl _) (fun k e => by cases e)).below (fun _ _ h => h)
theorem run_appRead {ρ : Operand → Value} {w : World} {t e tp : TypeId} {d : Option Tmp} {s x : Operand} {pos : String} {af : Array Edge} {g : Option (Nat × Bool)} {k n m bytes : Nat} {a0 : Option Addr} {z xv : Value} {vs us : List Value} {N0 N : Nat → Prop}
    (hT : SlK P t e z k bytes) (h0 : RdV w N0 k (.slice a0 n n) n vs) (hrd : RdV w N k xv m us) (h1 : ∀ u ∈ us, u.oneCell' = true) (hbd : n + m ≤ maxLen) (hbd2 : (n + m) * bytes ≤ 140737488355328)
    (hs : ρ s = .slice a0 n n) (hx : ρ x = xv) :
    ∃ v' w', (execOp ρ (⟨d, .call ⟨.builtin .append, #[s, x], #[t, t]⟩, tp, pos, af, g⟩ : Oper)).run P w = .ok (.value v') w' ∧ RdV w' (fun b => N0 b ∨ Fresh w.heap.size w' b) k v' (n + m) (vs ++ us) ∧ (m = 0 ∨ w'.ownsRow w.heap.size e k v' (n + m) (vs ++ us)) ∧ Below w.heap.size w w' := by
  obtain ⟨i, hi, hz, hsize, hby⟩ := hT.i
  by_cases hm : m = 0
  · subst hm
    have hus : us = [] := List.eq_nil_of_length_eq_zero (by have := hrd.len; omega)
    refine ⟨.slice a0 n n, w, ?_, ?_, .inl rfl, Below.refl _ _⟩
    · obtain ⟨_, ⟨ad, cap, rfl, -⟩, -⟩ := hrd
      have key : (Builtin.append_ #[t, t] tp #[.slice a0 n n, .slice ad 0 cap]).run P w = .ok (.slice a0 n n) w := by
        cases ad <;> cases a0 <;> simp [Builtin.append_, run_underlying hT.u, sizeOf, typeInfo, hi, Builtin.lenOf, Builtin.firstCells, loadCells, loadCellsFrom, storeCells]
      unfold execOp
      simp only [resolve, invoke, builtin, Sem.run_bind, Sem.run_pure, Result.andThen_ok, List.map_toArray, List.map_cons, List.map_nil, hs, hx, key]
    · subst hus
      rw [List.append_nil, Nat.add_zero]
      exact h0.mono (fun b hb => .inl hb)
  · have hlen := hrd.len
    obtain ⟨_, ⟨ad, cap, rfl, h1', h2, h3⟩, hc⟩ := hrd
    obtain ⟨b, off, rfl, -⟩ := h3.resolve_left (fun e => hm (by omega))
    have hcells : ∀ j u, us[j]? = some u → w.cell? ((⟨b, off, none⟩ : Addr).add j) = some u := by
      intro j u hu
      rw [Addr.add_mid]
      exact hc b off _ _ rfl j u hu
    have key : ∃ v' w', (Builtin.append_ #[t, t] tp #[.slice a0 n n, .slice (some ⟨b, off, none⟩) m cap]).run P w = .ok v' w' ∧ w'.ownsRow w.heap.size e k v' (n + m) (vs ++ us) ∧ w.grownBy w' none := by
      obtain ⟨hl0, ⟨a9, c9, he9, g1, g2, g3⟩, hc0⟩ := h0
      injection he9 with e1 e2 e3
      subst e1 e3
      rcases g3 with g3 | ⟨b0, off0, rfl, -⟩
      · subst g3
        obtain rfl : vs = [] := List.eq_nil_of_length_eq_zero (by omega)
        cases a0 with
        | none =>
          obtain ⟨v', w', hrun, ho, hg, hn, hb⟩ := run_append_own_at (P := P) w w.heap.size t tp e i z k bytes hT.u hi hz hsize hby hT.z hT.k (.slice none 0 0) 0 [] (World.ownsRow_nil _ _ _ _) ⟨b, off, none⟩ m cap us hlen hcells h1 hbd hbd2 (Nat.le_refl _)
          exact ⟨v', w', hrun, ho, hg⟩
        | some a0 => exact run_append_arg_grows (P := P) w t tp e i z k bytes hT.u hi hz hsize hby hT.z hT.k a0 0 0 [] hl0 (fun j u hu => by simp at hu) ⟨b, off, none⟩ m cap us hlen hcells (by omega) hbd hbd2
      · exact run_append_arg_grows (P := P) w t tp e i z k bytes hT.u hi hz hsize hby hT.z hT.k ⟨b0, off0, none⟩ n n vs hl0 (fun j u hu => by rw [Addr.add_mid]; exact hc0 b0 off0 _ _ rfl j u hu) ⟨b, off, none⟩ m cap us hlen hcells (by omega) hbd hbd2
    obtain ⟨v', w', hrun, ho, hg⟩ := key
    refine ⟨v', w', ?_, (ownsV_reads ho).mono (fun b hb => .inr ⟨hb.1, hb.2.1⟩), .inr ho, below_grown hg⟩
    unfold execOp
    simp only [resolve, invoke, builtin, Sem.run_bind, Sem.run_pure, Result.andThen_ok, List.map_toArray, List.map_cons, List.map_nil, hs, hx, hrun]
end Go.Proofs.YtmkofejijkabnaaGreatDoor
/- tags.May, drop, set. -/
namespace Go.Proofs.YtmkofejijkabnaaGreatDoor
open Go.RowKit
theorem pre_head (c : UInt8) (t : Tx) : Lib.hasPrefix t [c] = (t.head? == some c) := by
  cases t with
  | nil => rfl
  | cons x t =>
    show (c == x && List.isPrefixOf [] t) = (some x == some c)
    rw [Bool.eq_iff_iff]
    simp [List.isPrefixOf]
    exact eq_comm
set_option maxHeartbeats 1000000 in
set_option maxRecDepth 100000 in
theorem tmay_all (s : Tx) (w : World) : Calls Tryz.prog 49 #[.string ⟨s.toArray⟩] w fun e w' => e = .returned (.bool (tagP s)) ∧ Below w.heap.size w w' := by
  have HM := Keep.keep (may_all s w)
  have H1 : Keep (∀ w, Calls Tryz.prog 40 #[.string ⟨s.toArray⟩, .string ⟨#[45]⟩] w fun e w' => e = .returned (.bool (s.head? == some 45)) ∧ w' = w) := ⟨fun w => by rw [← pre_head]; exact Tryz.strings_HasPrefix ⟨s.toArray⟩ ⟨#[45]⟩ w⟩
  have H2 : Keep (∀ w, Calls Tryz.prog 40 #[.string ⟨s.toArray⟩, .string ⟨#[46]⟩] w fun e w' => e = .returned (.bool (s.head? == some 46)) ∧ w' = w) := ⟨fun w => by rw [← pre_head]; exact Tryz.strings_HasPrefix ⟨s.toArray⟩ ⟨#[46]⟩ w⟩
  have e2 : decide ((s.length : Int) ≤ 64) = decide (s.length ≤ 64) := by simp only [decide_eq_decide]; omega
  unfold tagP
  generalize nameP s = b1 at *
  generalize decide (s.length ≤ 64) = b2 at *
  generalize (s.head? == some 45) = b3 at *
  generalize (s.head? == some 46) = b4 at *
  go_enter Tryz.func49, Tryz.ntmps49
  go_wp2_with fail
  refine HM.out.mono ?_
  rintro e w1 ⟨rfl, hb⟩
  have HB := Keep.keep hb
  clear hb HM
  cases b1 with
  | false =>
    go_wp2_with fail
    go_ret
    exact ⟨rfl, HB.out⟩
  | true =>
  cases b2 with
  | false =>
    go_wp2_with fail
    go_ret
    exact ⟨rfl, HB.out⟩
  | true =>
    go_wp2_with fail
    refine (H1.out _).mono ?_
    rintro e w2 ⟨rfl, rfl⟩
    cases b3 with
    | true =>
      go_wp2_with fail
      go_ret
      exact ⟨rfl, HB.out⟩
    | false =>
      go_wp2_with fail
      refine (H2.out _).mono ?_
      rintro e w3 ⟨rfl, rfl⟩
      go_wp2_with fail
      go_ret
      exact ⟨rfl, HB.out⟩
theorem tmay_any (s : Tx) (w : World) (_ : s.length ≤ 1000000) : Calls Tryz.prog 49 #[.string ⟨s.toArray⟩] w fun e w' => e = .returned (.bool (tagP s)) ∧ Below w.heap.size w w' := tmay_all s w
set_option maxHeartbeats 1000000 in
set_option maxRecDepth 100000 in
theorem drop_any (s : Tx) (w : World) (hs : s.length ≤ 64) : Calls Tryz.prog 52 #[.string ⟨s.toArray⟩] w fun e w' => ∃ v, e = .returned v ∧ Owns w' w.heap.size 5 v (dropBd s) ∧ Below w.heap.size w w' := by
  have hs9 : (s.length : Int) ≤ 64 := by omega
  have HS := Keep.keep hs
  have HC : Keep (#[Value.int .u8 68, .int .u8 (s.length : Int)] = (bcells [68, UInt8.ofNat s.length]).toArray) := ⟨by
    unfold bcells
    simp only [List.map_cons, List.map_nil]
    rw [UInt8.toNat_ofNat', Nat.mod_eq_of_lt (by omega)]
    rfl⟩
  clear hs
  go_enter Tryz.func52, Tryz.ntmps52
  go_wp2_with (with_reducible refine arm_stop ?_)
  refine Stopped.out ?_
  rw [HC.out]
  have hal : Below w.heap.size w (w.alloc (.cells (bcells [68, UInt8.ofNat s.length]).toArray 5)) := (Below.refl _ _).alloc (Nat.le_refl _) _
  have hown : Owns (w.alloc (.cells (bcells [68, UInt8.ofNat s.length]).toArray 5)) w.heap.size 5 (.slice (some ⟨w.heap.size, 0, none⟩) 2 2) [68, UInt8.ofNat s.length] := ownsV_new 5 (bcells [68, UInt8.ofNat s.length]) 1 2 w.heap.size w.heap.size rfl (Nat.le_refl _) rfl (by decide)
  refine arm_appendS slBy Tryz.underlying9 hown (by have := HS.out; simp; omega) hal.size rfl rfl ?_
  intro v8 w8 ho8 hg8 hov8
  have HO8 : Keep (Owns w8 w.heap.size 5 v8 (dropBd s)) := ⟨ho8⟩
  have HB8 : Keep (Below w.heap.size w w8) := ⟨hal.trans ((Chg.grown (M := NoM) (.refl _ _ _) hg8 hal.size (fun k e => .inl (World.ownsRow.lt hown k e).1)).below (fun _ _ h => h))⟩
  obtain ⟨a8, n8, c8, hv8⟩ : ∃ a8 n8 c8, v8 = .slice a8 n8 c8 := by
    obtain ⟨a8, c8, hv8, -⟩ := (ownsV_reads ho8).shape
    exact ⟨a8, _, c8, hv8⟩
  clear ho8 hg8 hov8 hown hal
  subst hv8
  simp only [Act.put, List.setIfInBounds_toArray, List.set_cons_succ, List.set_cons_zero]
  go_wp2_with fail
  go_ret
  exact ⟨_, rfl, HO8.out, HB8.out⟩
/-- the three parts of a body, as they are laid -/
theorem set_laid (w : World) (cg c2 r3 : Array Value) (e1 : TypeId) (m3 : Nat × Nat) (g s p2 : List UInt8) (hcg : cg = (bcells g).toArray) (hg : g.length = 32) (hc2 : c2 = (bcells p2).toArray) (h2 : p2.length = 2) (n c : Nat)
    (hr : Reads (((w.alloc (.cells cg e1)).alloc (.cells c2 5)).drew.alloc (.cells r3 5 m3)) (fun b => b = ((w.alloc (.cells cg e1)).alloc (.cells c2 5)).heap.size) (.slice (some ⟨((w.alloc (.cells cg e1)).alloc (.cells c2 5)).heap.size, 0, none⟩) n c) s) :
    Below w.heap.size w ((((w.alloc (.cells cg e1)).alloc (.cells c2 5)).alloc (.cells r3 5 m3)).alloc (.cells #[.slice (some ⟨w.heap.size + 1, 0, none⟩) 2 2, .slice (some ⟨w.heap.size + 1 + 1, 0, none⟩) n c, .slice (some ⟨w.heap.size, 0, none⟩) 32 32] 28)).drew ∧
    RdB ((((w.alloc (.cells cg e1)).alloc (.cells c2 5)).alloc (.cells r3 5 m3)).alloc (.cells #[.slice (some ⟨w.heap.size + 1, 0, none⟩) 2 2, .slice (some ⟨w.heap.size + 1 + 1, 0, none⟩) n c, .slice (some ⟨w.heap.size, 0, none⟩) 32 32] 28)).drew (.slice (some ⟨w.heap.size + 1 + 1 + 1, 0, none⟩) 3 3) [p2, s, g] [.slice (some ⟨w.heap.size + 1, 0, none⟩) 2 2, .slice (some ⟨w.heap.size + 1 + 1, 0, none⟩) n c, .slice (some ⟨w.heap.size, 0, none⟩) 32 32] := by
  have r1 : Reads (w.alloc (.cells cg e1)) (fun b => b = w.heap.size) (.slice (some ⟨w.heap.size, 0, none⟩) 32 32) g := Reads.lit e1 cg g (0, 0) w.heap.size 32 rfl hcg hg.symm (by rw [hg]; decide)
  have z1 : (w.alloc (.cells cg e1)).heap.size = w.heap.size + 1 := Array.size_push ..
  have b1 : Below w.heap.size w (w.alloc (.cells cg e1)) := (Below.refl _ _).alloc (Nat.le_refl _) _
  generalize w.alloc (.cells cg e1) = W1 at *
  have r2 : Reads (W1.alloc (.cells c2 5)) (fun b => b = W1.heap.size) (.slice (some ⟨W1.heap.size, 0, none⟩) 2 2) p2 := Reads.lit 5 c2 p2 (0, 0) W1.heap.size 2 rfl hc2 h2.symm (by rw [h2]; decide)
  have z2 : (W1.alloc (.cells c2 5)).heap.size = w.heap.size + 1 + 1 := by rw [← z1]; exact Array.size_push ..
  have b2 : Below W1.heap.size W1 (W1.alloc (.cells c2 5)) := (Below.refl _ _).alloc (Nat.le_refl _) _
  generalize W1.alloc (.cells c2 5) = W2 at *
  have z3 : (W2.drew.alloc (.cells r3 5 m3)).heap.size = w.heap.size + 1 + 1 + 1 := by rw [← z2]; exact Array.size_push ..
  have b3 : Below W2.heap.size W2 (W2.drew.alloc (.cells r3 5 m3)) := (Below.refl _ _).drew.alloc (Nat.le_refl _) _
  have e3 : W2.drew.alloc (.cells r3 5 m3) = (W2.alloc (.cells r3 5 m3)).drew := rfl
  have e4 : ∀ o, ((W2.alloc (.cells r3 5 m3)).alloc o).drew = (W2.drew.alloc (.cells r3 5 m3)).alloc o := fun o => rfl
  rw [e4]
  clear e3 e4
  generalize W2.drew.alloc (.cells r3 5 m3) = W3 at *
  rw [z2] at hr
  have b4 : Below W3.heap.size W3 (W3.alloc (.cells #[.slice (some ⟨w.heap.size + 1, 0, none⟩) 2 2, .slice (some ⟨w.heap.size + 1 + 1, 0, none⟩) n c, .slice (some ⟨w.heap.size, 0, none⟩) 32 32] 28)) := (Below.refl _ _).alloc (Nat.le_refl _) _
  have b34 : Below W2.heap.size W2 (W3.alloc (.cells #[.slice (some ⟨w.heap.size + 1, 0, none⟩) 2 2, .slice (some ⟨w.heap.size + 1 + 1, 0, none⟩) n c, .slice (some ⟨w.heap.size, 0, none⟩) 32 32] 28)) := b3.trans (b4.mono b3.size)
  have b24 := b2.trans (b34.mono b2.size)
  have hlt := b4.size
  have key : ∀ (x : Value) (p : List UInt8), (x = .slice (some ⟨w.heap.size + 1, 0, none⟩) 2 2 ∧ p = p2) ∨ (x = .slice (some ⟨w.heap.size + 1 + 1, 0, none⟩) n c ∧ p = s) ∨ (x = .slice (some ⟨w.heap.size, 0, none⟩) 32 32 ∧ p = g) → Reads (W3.alloc (.cells #[.slice (some ⟨w.heap.size + 1, 0, none⟩) 2 2, .slice (some ⟨w.heap.size + 1 + 1, 0, none⟩) n c, .slice (some ⟨w.heap.size, 0, none⟩) 32 32] 28)) (· < (W3.alloc (.cells #[.slice (some ⟨w.heap.size + 1, 0, none⟩) 2 2, .slice (some ⟨w.heap.size + 1 + 1, 0, none⟩) n c, .slice (some ⟨w.heap.size, 0, none⟩) 32 32] 28)).heap.size) x p := by
    rintro x p (⟨rfl, rfl⟩ | ⟨rfl, rfl⟩ | ⟨rfl, rfl⟩)
    · rw [z1] at r2
      exact (r2.below b34 (fun b hb => by subst hb; omega)).mono (fun b hb => by subst hb; omega)
    · exact (hr.below b4 (fun b hb => by subst hb; omega)).mono (fun b hb => by subst hb; omega)
    · exact (r1.below b24 (fun b hb => by subst hb; omega)).mono (fun b hb => by subst hb; omega)
  refine ⟨b1.trans (b24.mono b1.size), RdV.new 28 [.slice (some ⟨w.heap.size + 1, 0, none⟩) 2 2, .slice (some ⟨w.heap.size + 1 + 1, 0, none⟩) n c, .slice (some ⟨w.heap.size, 0, none⟩) 32 32] 1 3 _ z3.symm rfl (by decide) (by show _ < (Array.push _ _).size; rw [Array.size_push, z3]; exact Nat.lt_succ_self _), fun k x p h1 h2 => key x p ?_⟩
  rcases k with _ | _ | _ | k
  · simp at h1 h2; exact .inl ⟨h1.symm, h2.symm⟩
  · simp at h1 h2; exact .inr (.inl ⟨h1.symm, h2.symm⟩)
  · simp at h1 h2; exact .inr (.inr ⟨h1.symm, h2.symm⟩)
  · simp at h1
set_option maxHeartbeats 1000000 in
set_option maxRecDepth 100000 in
theorem set_any (s : Tx) (g : Dg) (w : World) (hs : s.length ≤ 64) (hg : g.length = 32) : Calls Tryz.prog 51 #[.string ⟨s.toArray⟩, .agg (bcells g).toArray] w fun e w' => ∃ v, e = .returned v ∧ Owns w' w.heap.size 5 v (setBd s g) ∧ Below w.heap.size w w' := by
  have hs9 : (s.length : Int) ≤ 64 := by omega
  have HS := Keep.keep hs
  have HG := Keep.keep hg
  have HC : Keep (#[Value.int .u8 83, .int .u8 ((s.length : Int) % 256)] = (bcells [83, UInt8.ofNat s.length]).toArray) := ⟨by
    unfold bcells
    simp only [List.map_cons, List.map_nil]
    rw [UInt8.toNat_ofNat']
    have : ((s.length % 2 ^ 8 : Nat) : Int) = (s.length : Int) % 256 := by omega
    rw [this]
    rfl⟩
  obtain ⟨n, hn⟩ : ∃ n, s.length = n := ⟨_, rfl⟩
  obtain ⟨cf, rf, mf, hcv, hrd⟩ := convS s n hn (by unfold maxLen; omega)
  have HRD := Keep.keep hrd
  have HN := Keep.keep hn
  have hgs : (bcells g).toArray.size = 32 := by simp [bcells_length, hg]
  have HGS := Keep.keep hgs
  obtain ⟨cg, hcg⟩ : ∃ cg, (bcells g).toArray = cg := ⟨_, rfl⟩
  have HCG := Keep.keep hcg
  rw [hcg]
  rw [hn] at hs9
  clear hs hg hn hrd hgs hcg
  go_enter Tryz.func51, Tryz.ntmps51
  go_wp2_with fail
  have hsl := set_laid w cg #[.int .u8 83, .int .u8 ((s.length : Int) % 256)] _ 40 _ g s [83, UInt8.ofNat s.length] HCG.out.symm HG.out HC.out rfl n _ (HRD.out ((w.alloc (.cells cg 40)).alloc (.cells #[.int .u8 83, .int .u8 ((s.length : Int) % 256)] 5)))
  refine calls_at (R := fun wq => Below w.heap.size w wq ∧ ∃ vs, RdB wq (.slice (some ⟨w.heap.size + 1 + 1 + 1, 0, none⟩) 3 3) [[83, UInt8.ofNat s.length], s, g] vs) ⟨hsl.1, _, hsl.2⟩ ?_
  intro w2 H2
  obtain ⟨vs, hvs⟩ := H2.out.2
  have hfl : ([[83, UInt8.ofNat s.length], s, g] : List (List UInt8)).flatten = setBd s g := by simp [setBd]
  have HCN := Keep.keep (concat_bytes _ _ vs w2 hvs (by rw [hfl]; have := HG.out; have := HS.out; simp [setBd]; omega))
  rw [hfl] at HCN
  clear hvs hfl hsl hcv
  refine HCN.out.mono ?_
  rintro e w3 ⟨v, rfl, ho, hb⟩
  have HO := Keep.keep (ho.mono H2.out.1.size)
  have HB := Keep.keep (H2.out.1.trans (hb.mono H2.out.1.size))
  obtain ⟨a8, n8, c8, hv8⟩ : ∃ a8 n8 c8, v = .slice a8 n8 c8 := by
    obtain ⟨a8, c8, hv8, -⟩ := (ownsV_reads ho).shape
    exact ⟨a8, _, c8, hv8⟩
  clear ho hb HCN
  subst hv8
  go_wp2_with fail
  go_ret
  exact ⟨_, rfl, HO.out, HB.out⟩
end Go.Proofs.YtmkofejijkabnaaGreatDoor
/- (*Disk).Size, Read, List. -/
namespace Go.Proofs.YtmkofejijkabnaaGreatDoor
open Go.RowKit
set_option maxHeartbeats 1000000 in
set_option maxRecDepth 100000 in
theorem size_any (hm : MayOk) {w : World} {O : Nat → Prop} {D : Nat} {d : DkS} (h : DkAt w O D d) (p : Tx) (hp : p.length ≤ 1000000) :
    Calls Tryz.prog 39 #[.pointer (some ⟨D, 0, none⟩), .string ⟨p.toArray⟩] w fun e w' => e = .returned (.tuple #[.int .i64 (d.size p).1, .int .i64 (d.size p).2]) ∧ Below w.heap.size w w' := by
  obtain ⟨ow, nb, sb, loc, bv, vd, dl, h1, h2, h3, h4⟩ := h
  have HFD : Keep (∀ wq, Below w.heap.size w wq → Calls Tryz.prog 37 #[.pointer (some ⟨D, 0, none⟩), .string ⟨p.toArray⟩] wq fun e w' => e = .returned (.tuple #[.pointer ((d.find p).1.map fun f => ⟨loc f, 0, none⟩), .int .i64 (d.find p).2]) ∧ Below wq.heap.size wq w') := ⟨fun wq hb => dkfind_any hm (h1.on hb) p hp⟩
  have HFI : Keep (∀ k, k < d.many → ∀ wq, Below w.heap.size w wq → ∃ a n c, wq.cell? ⟨loc k, 1, none⟩ = some (.slice a n c) ∧ (n : Int) = ((d.files k).bytes.length : Int)) := ⟨fun k hk wq hb => by
    have hf := (h1.on hb).file k hk
    obtain ⟨a8, c8, hv8, -⟩ := (ownsV_reads hf.own).shape
    exact ⟨a8, _, c8, by rw [← hv8]; exact hf.row.cell rfl, rfl⟩⟩
  rcases find_cases d p with ⟨f, hf, hl, -⟩ | ⟨er, hf, he, -⟩
  · have HRM : Keep (d.size p = (((d.files f).bytes.length : Int), 0)) := ⟨by unfold DkS.size; rw [hf]⟩
    have hfm := h1.num (p, f) (.inl (SM.look_mem hl))
    have HF2 := Keep.keep (HFI.out f hfm)
    rw [hf] at HFD
    clear h1 h2 h3 h4 hf hl HFI hfm
    go_enter Tryz.func39, Tryz.ntmps39
    go_wp2_with fail
    refine (HFD.out w (Below.refl _ _)).mono ?_
    rintro e w2 ⟨rfl, hb⟩
    have HB := Keep.keep hb
    obtain ⟨a, n, c, hc, hn⟩ := HF2.out w2 hb
    have HN := Keep.keep hn
    clear hb HFD HF2 hn
    go_wp2_with fail
    go_ret2
    exact ⟨by rw [HRM.out]; show Ending.returned (.tuple #[.int .i64 (n : Int), .int .i64 0]) = Ending.returned (.tuple #[.int .i64 ((d.files f).bytes.length : Int), .int .i64 0]); rw [HN.out], HB.out⟩
  · have HRM : Keep (d.size p = (0, er)) := ⟨by unfold DkS.size; rw [hf]⟩
    rw [hf] at HFD
    have hz1 : (er == 0) = false := by rw [beq_eq_false_iff_ne]; exact he
    have hz2 : (er != 0) = true := by rw [bne, hz1]; rfl
    clear h1 h2 h3 h4 hf HFI
    go_enter Tryz.func39, Tryz.ntmps39
    go_wp2_with fail
    refine (HFD.out w (Below.refl _ _)).mono ?_
    rintro e w2 ⟨rfl, hb⟩
    have HB := Keep.keep hb
    clear hb HFD
    go_wp2_with fail
    go_ret2
    exact ⟨by rw [HRM.out]; rfl, HB.out⟩
set_option maxHeartbeats 1000000 in
set_option maxRecDepth 100000 in
theorem list_any (hm : MayOk) {w : World} {O : Nat → Prop} {D : Nat} {d : DkS} (h : DkAt w O D d) (hnl : d.now.length ≤ 100000) :
    Calls Tryz.prog 36 #[.pointer (some ⟨D, 0, none⟩)] w fun e w' => ∃ v, e = .returned v ∧ w'.ownsRow w.heap.size 9 1 v d.list.length (d.list.map strV) ∧ Below w.heap.size w w' := by
  obtain ⟨ow, nb, sb, loc, bv, vd, dl, h1, h2, h3, h4⟩ := h
  have HAS : Keep (Calls Tryz.prog 56 #[.pointer (some ⟨D, 0, none⟩), .slice none 0 0] w fun e w' => e = .returned (.int .i64 (d.asks [])) ∧ Below w.heap.size w w') := ⟨dkasks_any hm h1 (.slice none 0 0) [] ⟨rfl, ⟨none, 0, rfl, Nat.le_refl _, by decide, .inl rfl⟩, fun b off m cap he j u hu => by cases he⟩ (fun s hs => by simp at hs)⟩
  have HON : Keep (∀ wq, Below w.heap.size w wq → DkIn wq ow D nb sb loc bv vd dl d) := ⟨fun wq hb => h1.on hb⟩
  have HA : Keep (d.asks [] = if d.off then 25 else 0) := ⟨rfl⟩
  have HLS : Keep (d.list = if d.off then [] else d.now.map (·.1)) := ⟨rfl⟩
  generalize d.asks [] = a0 at *
  clear h1 h2 h3 h4
  go_enter Tryz.func36, Tryz.ntmps36
  go_wp2_with fail
  refine HAS.out.mono ?_
  rintro e w2 ⟨rfl, hb⟩
  have HB := Keep.keep hb
  clear hb HAS
  cases hof : d.off with
  | true =>
    rw [hof] at HA HLS
    obtain rfl : a0 = 25 := HA.out
    clear HA HON
    go_wp2_with fail
    go_ret
    refine ⟨_, rfl, ?_, HB.out⟩
    rw [HLS.out]
    exact World.ownsRow_nil _ _ _ _
  | false =>
    rw [hof] at HA HLS
    obtain rfl : a0 = 0 := HA.out
    have hdk := HON.out w2 HB.out
    have c0 : w2.cell? ⟨D, 0, none⟩ = some (.map (some nb)) := hdk.row.cell rfl
    have HSO := Keep.keep (sortedF_any hdk.now (by rw [folV_len]; omega))
    clear HA HON hdk
    go_wp2_with fail
    refine (keysF_any nb w2).mono ?_
    rintro e w3 ⟨rfl, rfl⟩
    go_wp2_with fail
    refine HSO.out.mono ?_
    rintro e w4 ⟨v, rfl, ho, hb4⟩
    have HO := Keep.keep ho; have HB4 := Keep.keep hb4
    obtain ⟨a8, n8, c8, hv8⟩ : ∃ a8 n8 c8, v = .slice a8 n8 c8 := by
      obtain ⟨a8, c8, hv8, -⟩ := (ownsV_reads ho).shape
      exact ⟨a8, _, c8, hv8⟩
    clear ho hb4 HSO
    subst hv8
    go_wp2_with fail
    go_ret
    refine ⟨_, rfl, ?_, HB.out.trans (HB4.out.mono HB.out.size)⟩
    rw [HLS.out]
    have := ownsRow_base HO.out HB.out.size
    have e1 : (folV loc d.now).map (·.1) = d.now.map (·.1) := by unfold folV; rw [List.map_map]; rfl
    rw [e1, folV_len] at this
    rw [if_neg (by decide), List.length_map]
    exact this
theorem slice_mid {w : World} {N : Nat → Prop} {a : Option Addr} {n c : Nat} {l : List UInt8} (h : Reads w N (.slice a n c) l) (i j : Nat) (hij : i ≤ j) (hj : j ≤ l.length) :
    ∃ a' n' c', (∀ w', (Instr.slice 28 (.slice a n c) (some (.int .i64 (i : Int))) (some (.int .i64 (j : Int))) none).run Tryz.prog w' = .ok (.slice a' n' c') w') ∧ Reads w N (.slice a' n' c') ((l.take j).drop i) := by
  have he : Tryz.prog.elem 28 = 5 := by simp [Program.elem, Tryz.underlying28]
  have hs : ∀ w, (sizeOf 5).run Tryz.prog w = .ok 1 w := fun w => by kernel_rfl
  obtain ⟨hn, hc, hm⟩ := h.len
  have hll : ((l.take j).drop i).length = j - i := by rw [List.length_drop, List.length_take]; omega
  have hrun : ∀ w', (Instr.slice 28 (.slice a n c) (some (.int .i64 (i : Int))) (some (.int .i64 (j : Int))) none).run Tryz.prog w' = .ok (.slice (if c = i then a else a.map (·.add (i * 1))) (j - i) (c - i)) w' := fun w' => by
    rw [run_slice_lh w' 28 a n c (by rw [he]; exact Tryz.underlying28) .i64 .i64 (i : Int) (j : Int) (by omega) (by omega) (by omega), he, hs]
    simp [Result.andThen, sliced]
  refine ⟨_, _, _, hrun, ?_⟩
  by_cases hci : c = i
  · have hji : j - i = 0 := by omega
    rw [if_pos hci, hji, show c - i = 0 by omega, List.eq_nil_of_length_eq_zero (hll.trans hji)]
    exact Reads.ofNone
  · rw [if_neg hci]
    obtain ⟨a8, c8, hv8, -, -, h3⟩ := h.shape
    injection hv8 with e1 e2 e3
    subst e1 e3
    rcases h3 with h3 | ⟨b, off, rfl, -⟩
    · omega
    · have hd : (l.take j).drop i = (l.drop i).take (j - i) := by rw [List.drop_take]
      have := h.sub i (j - i) (c - i) ((l.take j).drop i) hd (by rw [hll]; omega) (Nat.sub_le _ _) (j - i) hll.symm
      rw [Nat.mul_one, Option.map_some, Addr.add_mid]
      exact this
theorem read_eq {d : DkS} {p : Tx} {f : Nat} (i j : Int) (hf : d.find p = (some f, 0)) : d.read p i j = if i < 0 ∨ j < i ∨ ((d.files f).bytes.length : Int) < j then ([], 1) else (((d.files f).bytes.take j.toNat).drop i.toNat, 0) := by
  unfold DkS.read
  rw [hf]
set_option maxHeartbeats 1000000 in
set_option maxRecDepth 100000 in
theorem read_any (hm : MayOk) {w : World} {O : Nat → Prop} {D : Nat} {d : DkS} (h : DkAt w O D d) (p : Tx) (hp : p.length ≤ 1000000) (i j : Int) (hl : ∀ k, k < d.many → (d.files k).bytes.length ≤ 1000000000) :
    Calls Tryz.prog 9 #[.pointer (some ⟨D, 0, none⟩), .string ⟨p.toArray⟩, .int .i64 i, .int .i64 j] w fun e w' => ∃ v, e = .returned (.tuple #[v, .int .i64 (d.read p i j).2]) ∧ Owns w' w.heap.size 5 v (d.read p i j).1 ∧ Below w.heap.size w w' := by
  obtain ⟨ow, nb, sb, loc, bv, vd, dl, h1, h2, h3, h4⟩ := h
  have HFD : Keep (∀ wq, Below w.heap.size w wq → Calls Tryz.prog 37 #[.pointer (some ⟨D, 0, none⟩), .string ⟨p.toArray⟩] wq fun e w' => e = .returned (.tuple #[.pointer ((d.find p).1.map fun f => ⟨loc f, 0, none⟩), .int .i64 (d.find p).2]) ∧ Below wq.heap.size wq w') := ⟨fun wq hb => dkfind_any hm (h1.on hb) p hp⟩
  have HFI : Keep (∀ k, k < d.many → ∀ wq, Below w.heap.size w wq → ∃ a n c, wq.cell? ⟨loc k, 1, none⟩ = some (.slice a n c) ∧ Owns wq 0 5 (.slice a n c) (d.files k).bytes ∧ n = (d.files k).bytes.length ∧ n ≤ c ∧ c ≤ maxLen) := ⟨fun k hk wq hb => by
    have hf := (h1.on hb).file k hk
    obtain ⟨a8, c8, hv8, q1, q2, -⟩ := (ownsV_reads hf.own).shape
    exact ⟨a8, _, c8, by rw [← hv8]; exact hf.row.cell rfl, by rw [← hv8]; exact hf.own, rfl, q1, q2⟩⟩
  rcases find_cases d p with ⟨f, hf, hlk, -⟩ | ⟨er, hf, he, -⟩
  rotate_left
  focus
    have HRM : Keep (d.read p i j = ([], er)) := ⟨by unfold DkS.read; rw [hf]⟩
    rw [hf] at HFD
    have hz1 : (er == 0) = false := by rw [beq_eq_false_iff_ne]; exact he
    have hz2 : (er != 0) = true := by rw [bne, hz1]; rfl
    clear h1 h2 h3 h4 hf HFI hl
    go_enter Tryz.func9, Tryz.ntmps9
    go_wp2_with fail
    refine (HFD.out w (Below.refl _ _)).mono ?_
    rintro e w2 ⟨rfl, hb⟩
    have HB := Keep.keep hb
    clear hb HFD
    go_wp2_with fail
    go_ret2
    exact ⟨_, by rw [HRM.out]; rfl, by rw [HRM.out]; exact Owns.nil _ _ _, HB.out⟩
  have HRM := Keep.keep (read_eq i j hf)
  have hfm := h1.num (p, f) (.inl (SM.look_mem hlk))
  have HF2 := Keep.keep (HFI.out f hfm)
  have HLF := Keep.keep (hl f hfm)
  rw [hf] at HFD
  generalize (d.files f).bytes = bs at *
  clear h1 h2 h3 h4 hf hlk HFI hfm hl
  go_enter Tryz.func9, Tryz.ntmps9
  go_wp2_with fail
  refine (HFD.out w (Below.refl _ _)).mono ?_
  rintro e w2 ⟨rfl, hb⟩
  have HB := Keep.keep hb
  obtain ⟨a, n, c, hc, ho, hn, hnc, hcm⟩ := HF2.out w2 hb
  have HO := Keep.keep ho; have HN := Keep.keep hn
  unfold maxLen at hcm
  have hn9 : (n : Int) ≤ 1000000000 := by have := HLF.out; omega
  clear hb HFD HF2 hn ho
  by_cases hbad : i < 0 ∨ j < i ∨ (n : Int) < j
  · have HR : Keep (d.read p i j = ([], 1)) := ⟨by rw [HRM.out, if_pos (by rw [← HN.out]; exact hbad)]⟩
    clear HRM
    rcases (by omega : i < 0 ∨ 0 ≤ i ∧ j < i ∨ 0 ≤ i ∧ i ≤ j ∧ (n : Int) < j) with h1 | ⟨h1, h2⟩ | ⟨h1, h2, h3⟩
    all_goals
      clear hbad
      go_wp2_with fail
      go_ret2
      exact ⟨_, by rw [HR.out]; rfl, by rw [HR.out]; exact Owns.nil _ _ _, HB.out⟩
  · obtain ⟨i', hi⟩ : ∃ i' : Nat, i = (i' : Int) := ⟨i.toNat, by omega⟩
    obtain ⟨j', hj⟩ : ∃ j' : Nat, j = (j' : Int) := ⟨j.toNat, by omega⟩
    subst hi hj
    have h1 : i' ≤ j' := by omega
    have h2 : j' ≤ n := by omega
    have HR : Keep (d.read p (i' : Int) (j' : Int) = ((bs.take j').drop i', 0)) := ⟨by rw [HRM.out, if_neg (by rw [← HN.out]; exact hbad)]; rfl⟩
    clear HRM hbad
    obtain ⟨a', n', c', hsl, hrd⟩ := slice_mid HO.out.reads i' j' h1 (by rw [← HN.out]; exact h2)
    have hrd' : Reads w2 (· < w2.heap.size) (.slice a' n' c') ((bs.take j').drop i') := hrd.mono (fun b hb => hb.2.1)
    have HCL := Keep.keep (clone_bytes (.slice a' n' c') ((bs.take j').drop i') w2 hrd' (by rw [List.length_drop, List.length_take]; have := HLF.out; omega))
    clear hrd hrd'
    go_wp2_with fail
    refine HCL.out.mono ?_
    rintro e w3 ⟨v, rfl, ho3, hb3⟩
    have HO3 := Keep.keep ho3; have HB3 := Keep.keep hb3
    obtain ⟨a8, n8, c8, hv8⟩ : ∃ a8 n8 c8, v = .slice a8 n8 c8 := by
      obtain ⟨a8, c8, hv8, -⟩ := (ownsV_reads ho3).shape
      exact ⟨a8, _, c8, hv8⟩
    clear ho3 hb3 HCL hsl
    subst hv8
    go_wp2_with fail
    go_ret2
    exact ⟨_, by rw [HR.out]; rfl, by rw [HR.out]; exact HO3.out.mono HB.out.size, HB.out.trans (HB3.out.mono HB.out.size)⟩
end Go.Proofs.YtmkofejijkabnaaGreatDoor
