/- PARTS OF ONE PROOF, set in one file: SpcM, ArmF, DkCl, DkDo, DkRem, DkCre, DkApp, SpcO. Each part tells its own conditions. -/
import Derived.Deep.Cut
import Derived.WalkMore
import Derived.Test.YtmkofejijkabnaaGreatDoorP2
import Derived.Test.YtmkofejijkabnaaGreatDoorP4
/- A REGION THAT DRAWS ITS ORDER: its first n operations in any order, ONE OF WHICH CHANGES MEMORY (before it the others may add to memory; behind it they only read); then a tail in one forced order, walked as a list. -/
namespace Go.Proofs.YtmkofejijkabnaaGreatDoor
open Go.RowKit
theorem wp_region_spcM {P : Program} {l : List Oper} {id : Nat} {Q : Exit → Act → World → Prop} {a : Act} {w : World} (n c : Nat) (D : List Nat) (C : Bool → World → Prop) (T : Nat → Value → World → Prop) (St : World → World → Prop) (hm : P.follows .mixedOrders = true)
    (hD : (l.take n).map (·.dst) = D.map some) (hnd : D.Nodup) (hds : ∀ d ∈ D, d < a.tmps.size) (hio : inOrderB l.toArray = true) (hn : n < l.length) (hcn : c < n) (hsk : Region.sinkB .any l.toArray n = true) (hch : Region.chainB .any l.toArray n = true)
    (hsq : Region.seqB .any l.toArray (l.length - n) n (headDone n l.length) = true) (h0 : C false w.drew)
    (hst : ∀ i v w w', i ≠ c → T i v w → St w w' → T i v w')
    (hs : ∀ i, i < n → i ≠ c → ∀ b a1 w1, (b = true → Region.waitsFor .any l.toArray c i = false) → Fr a D a1 → C b w1 → (∀ j, j < n → Region.waitsFor .any l.toArray i j = true → T j (slot a1 (D.getD j 0)) w1) →
      wpOp P l.toArray Q i (fun a2 w2 => ∃ v, a2 = a1.put (some (D.getD i 0)) v ∧ C b w2 ∧ (if b then w2 = w1 else St w1 w2) ∧ T i v w2) a1 w1)
    (h1 : ∀ a1 w1, Fr a D a1 → C false w1 → (∀ j, j < n → Region.waitsFor .any l.toArray c j = true → T j (slot a1 (D.getD j 0)) w1) →
      wpOp P l.toArray Q c (fun a2 w2 => ∃ v, a2 = a1.put (some (D.getD c 0)) v ∧ C true w2 ∧ St w1 w2 ∧ T c v w2) a1 w1)
    (he : ∀ a1 w1, a1 = D.foldl (fun b d => b.put (some d) (slot a1 d)) a → C true w1 → (∀ j, j < n → T j (slot a1 (D.getD j 0)) w1) → wpList P l.toArray Q (l.drop n) a1 w1) : (Code.region id l.toArray true).wp P Q a w := by
  have hlen : D.length = n := by have := congrArg List.length hD; simp at this; omega
  have hmem : ∀ i, i < n → D.getD i 0 ∈ D := fun i hi => by
    rw [List.getD_eq_getElem?_getD, List.getElem?_eq_getElem (by omega)]
    exact List.getElem_mem _
  have hinj : ∀ i j, i < n → j < n → D.getD i 0 = D.getD j 0 → i = j := fun i j hi hj h => by
    rw [List.getD_eq_getElem?_getD, List.getD_eq_getElem?_getD, List.getElem?_eq_getElem (by omega), List.getElem?_eq_getElem (by omega)] at h
    exact (List.getElem_inj hnd).1 h
  have hsz : l.toArray.size = l.length := by simp
  have key : ∀ (f : Nat) (done : Array Bool) (a1 : Act) (w1 : World), HeadInv .any l.toArray n done → Fr a D a1 → C (done.getD c false) w1 → (∀ j, j < n → done.getD j false = true → T j (slot a1 (D.getD j 0)) w1) →
      (List.range n).countP (fun j => !done.getD j false) = f → wpAny P .any l.toArray Q (f + (l.length - n)) done a1 w1 := by
    intro f
    induction f with
    | zero =>
      intro done a1 w1 inv hF hC hT hc
      have hall : ∀ j, j < n → done.getD j false = true := fun j hj => by
        have := List.countP_eq_zero.1 hc j (List.mem_range.2 hj)
        simpa using this
      have hdn : done = headDone n l.length := by
        have hs1 : done.size = l.length := by rw [inv.size, hsz]
        refine Array.ext (by simp [headDone, hs1]; omega) (fun j h1 h2 => ?_)
        have hj2 : j < l.length := by omega
        by_cases hj : j < n
        · have := hall j hj
          rw [Array.getD_eq_getD_getElem?, Array.getElem?_eq_getElem h1] at this
          simp only [Option.getD_some] at this
          rw [this]
          simp [headDone, hj]
        · have := inv.tail j (by omega) (by omega)
          rw [Array.getD_eq_getD_getElem?, Array.getElem?_eq_getElem h1] at this
          simp only [Option.getD_some] at this
          rw [this]
          simp [headDone, List.getElem_append, hj]
      rw [hall c hcn] at hC
      have hw := he a1 w1 hF.eq hC (fun j hj => hT j hj (hall j hj))
      have hdl : (l.drop n).length = l.length - n := by simp
      have := wpAny_of_seq (md := .any) (ops := l.toArray) (Q' := Q) (l.drop n) n done a1 w1 (fun j => by simp [List.getElem?_drop]) (by rw [hdl, hdn]; exact hsq) hw
      rw [hdl] at this
      rwa [Nat.zero_add]
    | succ f ih =>
      intro done a1 w1 inv hF hC hT hc
      obtain ⟨j0, hj0, hu0⟩ : ∃ j0, j0 < n ∧ done.getD j0 false = false := by
        have : 0 < (List.range n).countP (fun j => !done.getD j false) := by omega
        obtain ⟨j, hj, hp⟩ := List.countP_pos_iff.1 this
        exact ⟨j, List.mem_range.1 hj, by simpa using hp⟩
      have e : f + 1 + (l.length - n) = (f + (l.length - n)) + 1 := by omega
      rw [e]
      refine ⟨fun hr => ?_, fun i hi => ?_⟩
      · have := all_done hio inv.size hr j0 (by rw [hsz]; omega)
        rw [hu0] at this; cases this
      · have hin : i < n := Nat.lt_of_not_le fun hle => tail_waits hsk hch (by rw [hsz]; exact hn) inv _ j0 rfl hj0 (getD_in (by rw [inv.size, hsz]; omega) hu0) i hle hi
        obtain ⟨hun, oi, hoi, hall⟩ := mem_ready.1 hi
        have hui : done.getD i false = false := getD_both hun
        have hisz : i < done.size := by rw [inv.size, hsz]; omega
        have hwt : ∀ j, j < n → Region.waitsFor .any l.toArray i j = true → T j (slot a1 (D.getD j 0)) w1 := fun j hjn hj => by
          obtain ⟨ed, he1, he2, he3⟩ := waits_of hoi hj
          have hdn := hall ed he1 he2
          rw [he3] at hdn
          exact hT j hjn hdn
        have hcnt := cnt_set n i hin (fun j => !done.getD j false) (fun j => !(done.setIfInBounds i true).getD j false) (by simp [hui]) (by simp [Array.getD_eq_getD_getElem?, hisz]) (fun j hj => by
          have : i ≠ j := fun e => hj e.symm
          simp [Array.getD_eq_getD_getElem?, Array.getElem?_setIfInBounds_ne this])
        have hset : ∀ q, q ≠ i → (done.setIfInBounds i true).getD q false = done.getD q false := fun q hq => by
          simp [Array.getD_eq_getD_getElem?, Array.getElem?_setIfInBounds_ne (Ne.symm hq)]
        have hself : (done.setIfInBounds i true).getD i false = true := by simp [Array.getD_eq_getD_getElem?, hisz]
        by_cases hic : i = c
        · subst hic
          rw [hui] at hC
          refine wpOp_mono ?_ (h1 a1 w1 hF hC hwt)
          rintro a2 w2 ⟨v, rfl, hC2, hb, hTi⟩
          refine ih _ _ _ (inv.set hi hin) (hF.put _ (hmem i hin) v) (by rw [hself]; exact hC2) (fun j hj hd => ?_) (by omega)
          by_cases e : i = j
          · subst e
            rw [slot_put_same _ _ _ (by rw [hF.size]; exact hds _ (hmem i hin))]
            exact hTi
          · have hd' := (getD_set_iff hd).resolve_left e
            rw [slot_put_ne _ _ _ _ (fun e2 => e (hinj i j hin hj e2))]
            exact hst j _ _ _ (Ne.symm e) (hT j hj hd') hb
        · refine wpOp_mono ?_ (hs i hin hic (done.getD c false) a1 w1 (fun hb => ?_) hF hC hwt)
          · rintro a2 w2 ⟨v, rfl, hC2, hb, hTi⟩
            refine ih _ _ _ (inv.set hi hin) (hF.put _ (hmem i hin) v) (by rw [hset c (Ne.symm hic)]; exact hC2) (fun j hj hd => ?_) (by omega)
            by_cases e : i = j
            · subst e
              rw [slot_put_same _ _ _ (by rw [hF.size]; exact hds _ (hmem i hin))]
              exact hTi
            · have hd' := (getD_set_iff hd).resolve_left e
              rw [slot_put_ne _ _ _ _ (fun e2 => e (hinj i j hin hj e2))]
              cases hcd : done.getD c false with
              | true =>
                rw [hcd] at hb
                simp only [if_true] at hb
                rw [hb]
                exact hT j hj hd'
              | false =>
                rw [hcd] at hb
                simp only [Bool.false_eq_true, if_false] at hb
                exact hst j _ _ _ (fun e2 => by rw [e2, hcd] at hd'; cases hd') (hT j hj hd') hb
          · rw [Bool.eq_false_iff]
            intro hw
            obtain ⟨oc, hoc⟩ : ∃ oc, l.toArray[c]? = some oc := ⟨_, Array.getElem?_eq_getElem (by rw [hsz]; omega)⟩
            obtain ⟨ed, he1, he2, he3⟩ := waits_of hoc hw
            have := inv.closed c oc hoc hb ed he1 he2
            rw [he3, hui] at this
            cases this
  refine wp_region_any hm ?_
  have inv : HeadInv .any l.toArray n (Array.replicate l.toArray.size false) := by
    refine ⟨by simp, fun j oj _ hl => ?_, fun t _ ht => getD_in (by simpa using ht) (getD_replicate_false _ _)⟩
    rw [getD_replicate_false] at hl; cases hl
  have hcn' : (List.range n).countP (fun j => !(Array.replicate l.toArray.size false).getD j false) = n := by
    rw [List.countP_eq_length.2 (fun j _ => by rw [getD_replicate_false]; rfl), List.length_range]
  have := key n _ a w.drew inv (Fr.refl a D) (by rw [getD_replicate_false]; exact h0) (fun j hj hd => by rw [getD_replicate_false] at hd; cases hd) hcn'
  rw [show n + (l.length - n) = l.toArray.size by rw [hsz]; omega] at this
  exact this
section
variable {P : Program} {ops : Array Oper} {Q : Exit → Act → World → Prop} {C : Bool → World → Prop} {T : Nat → Value → World → Prop} {St : World → World → Prop} {i d : Nat} {b : Bool} {a1 : Act} {w1 w2 : World} {op : Op} {tp : TypeId} {pos : String} {af : Array Edge} {v : Value}
/-- an operation that only reads -/
theorem spcM_read (hi : ops[i]? = some ⟨some d, op, tp, pos, af, none⟩) (hr : (execOp a1.eval (⟨some d, op, tp, pos, af, none⟩ : Oper)).run P w1 = .ok (.value v) w1) (hC : C b w1) (hrf : ∀ w, St w w) (hT : T i v w1) :
    wpOp P ops Q i (fun a2 w2 => ∃ v, a2 = a1.put (some d) v ∧ C b w2 ∧ (if b then w2 = w1 else St w1 w2) ∧ T i v w2) a1 w1 :=
  inv_op (o := ⟨some d, op, tp, pos, af, none⟩) hi rfl hr ⟨v, rfl, hC, by cases b <;> simp [hrf], hT⟩
/-- an operation ahead of the one -/
theorem spcM_val (hi : ops[i]? = some ⟨some d, op, tp, pos, af, none⟩) (hr : (execOp a1.eval (⟨some d, op, tp, pos, af, none⟩ : Oper)).run P w1 = .ok (.value v) w2) (hC : C b w2) (hb : b = false) (hS : St w1 w2) (hT : T i v w2) :
    wpOp P ops Q i (fun a2 w2 => ∃ v, a2 = a1.put (some d) v ∧ C b w2 ∧ (if b then w2 = w1 else St w1 w2) ∧ T i v w2) a1 w1 :=
  inv_op (o := ⟨some d, op, tp, pos, af, none⟩) hi rfl hr ⟨v, rfl, hC, by subst hb; simpa using hS, hT⟩
/-- the one -/
theorem spcM_one (hi : ops[i]? = some ⟨some d, op, tp, pos, af, none⟩) (hr : (execOp a1.eval (⟨some d, op, tp, pos, af, none⟩ : Oper)).run P w1 = .ok (.value v) w2) (hC : C true w2) (hS : St w1 w2) (hT : T i v w2) :
    wpOp P ops Q i (fun a2 w2 => ∃ v, a2 = a1.put (some d) v ∧ C true w2 ∧ St w1 w2 ∧ T i v w2) a1 w1 :=
  inv_op (o := ⟨some d, op, tp, pos, af, none⟩) hi rfl hr ⟨v, rfl, hC, hS, hT⟩
end
end Go.Proofs.YtmkofejijkabnaaGreatDoor
/- A FUNC VALUE, CALLED IN A WALK. -/
namespace Go.Proofs.YtmkofejijkabnaaGreatDoor
open Go.RowKit
theorem arm_callF {P : Program} {ops : Array Oper} {rest : List Oper} {a : Act} {w : World} {Q : Exit → Act → World → Prop} {tp : TypeId} {dst : Option Tmp} {x : Operand} {args : Array Operand} {ts : Array TypeId} {pos : String} {after : Array Edge} {g : FuncId} {caps vs : Array Value}
    (hx : a.eval x = .func (.func g) #[] caps) (hargs : args.map a.eval = vs) (hent : ∀ args w, (callFunc g args).run P w = .ok (.enter g args) w)
    (hc : Calls P g (vs ++ caps) w fun e w' => ∃ v, e = .returned v ∧ wpList P ops Q rest (a.put dst v) w') :
    wpList P ops Q (⟨dst, .call ⟨.value x, args, ts⟩, tp, pos, after, none⟩ :: rest) a w := by
  refine wpList_plain rfl fun K hK => ?_
  unfold Oper.wp
  have : (execOp a.eval (⟨dst, .call ⟨.value x, args, ts⟩, tp, pos, after, none⟩ : Oper)).run P w = .ok (.enter g (vs ++ caps)) w := by
    unfold execOp
    simp only [resolve, Deferred.ofValue, hx, hargs, invoke, Sem.run_bind, Sem.run_pure, Result.andThen_ok]
    simp [hent]
  rw [this, Oper.upon_enter]
  refine hc.mono ?_
  rintro e w2 ⟨v, rfl, h⟩
  exact hK _ _ h
end Go.Proofs.YtmkofejijkabnaaGreatDoor
/- The closures of the disk's calls: deed's. -/
namespace Go.Proofs.YtmkofejijkabnaaGreatDoor
open Go.RowKit
theorem slDeed : SlK Tryz.prog 106 116 .nilFunc 1 8 := SlK.mk' Tryz.underlying106 (by kernel_rfl) rfl (by decide)
def d1T (W : World) (D : Nat) (vd fv : Value) (dl : List Value) : Nat → Value → World → Prop
  | 0, v, _ => v = .pointer (some ⟨D, 0, none⟩)
  | 1, v, _ => v = .pointer (some ⟨D, 0, none⟩)
  | 2, v, _ => v = .pointer (some ⟨D, 0, none⟩)
  | 3, v, _ => v = .pointer (some ⟨D, 2, none⟩)
  | 4, v, _ => v = vd
  | 5, v, _ => v = fv
  | 6, v, w => ∃ b, v = .slice (some ⟨b, 0, none⟩) 1 1 ∧ W.heap.size ≤ b ∧ b < w.heap.size ∧ RdV w (fun j => j = b) 1 v 1 [fv]
  | 7, v, w => w.ownsRow 0 116 1 v (dl.length + 1) (dl ++ [fv]) ∧ (∀ j, v.ownBlock = some j → vd.ownBlock = some j ∨ W.heap.size ≤ j)
  | _, _, _ => True
def d1S (W : World) (vd : Value) (w w' : World) : Prop := Chg (fun j => vd.ownBlock = some j) w.heap.size w w' ∧ (∀ j, vd.ownBlock = some j → j < W.heap.size)
def d1C (W : World) (vd : Value) (b : Bool) (wx : World) : Prop := Chg (fun j => vd.ownBlock = some j) W.heap.size W wx ∧ (b = false → Below W.heap.size W wx)
theorem d1T_stays {W : World} {D : Nat} {vd fv : Value} {dl : List Value} (i : Nat) (v : Value) (w w' : World) (hi : i ≠ 7) (h : d1T W D vd fv dl i v w) (hs : d1S W vd w w') : d1T W D vd fv dl i v w' := by
  rcases (by omega : i = 0 ∨ i = 1 ∨ i = 2 ∨ i = 3 ∨ i = 4 ∨ i = 5 ∨ i = 6 ∨ 8 ≤ i) with rfl | rfl | rfl | rfl | rfl | rfl | rfl | h8
  · exact h
  · exact h
  · exact h
  · exact h
  · exact h
  · exact h
  · obtain ⟨b, h1, h2, h3, h4⟩ := h
    exact ⟨b, h1, h2, Nat.lt_of_lt_of_le h3 hs.1.size, h4.chg hs.1 (fun j hj => by subst hj; exact ⟨h3, fun e => by have := hs.2 j e; omega⟩)⟩
  · obtain ⟨k, rfl⟩ : ∃ k, i = k + 8 := ⟨i - 8, by omega⟩
    trivial
set_option maxHeartbeats 2000000 in
set_option maxRecDepth 100000 in
/-- the deed is done to the folder, and noted -/
theorem deed1_any {w : World} {ow : Own} {D nb sb : Nat} {loc : Nat → Nat} {bv : Nat → Value} {vd : Value} {dl : List Value} {d d2 : DkS} (h : DkIn w ow D nb sb loc bv vd dl d) (hdl : d.deeds.length ≤ 1000000) (b1 b2 g : Nat) (caps : Array Value) (x : DeedS) (loc' : Nat → Nat) (bv' : Nat → Value)
    (hent : ∀ args w, (callFunc g args).run Tryz.prog w = .ok (.enter g args) w) (hb1 : BoxAt w ow b1 (.func (.func g) #[] caps)) (hb2 : BoxAt w ow b2 (.pointer (some ⟨D, 0, none⟩)))
    (hx : DeedV w ow D loc' (.func (.func g) #[] caps) x) (e1 : d2.deeds = d.deeds ++ [x]) (e2 : d2.settled = d.settled) (hm : d.many ≤ d2.many) (hl : ∀ k, k < d.many → loc' k = loc k ∧ bv' k = bv k ∧ d2.files k = d.files k) (hf : ∀ k, d.many ≤ k → k < d2.many → FileAt w ow (loc' k) k (bv' k) (d2.files k)) (hnum : ∀ y ∈ d2.now, y.2 < d2.many) (hdn : ∀ n f, x = .create n f → f < d2.many)
    (hdo : ∀ wq, Below w.heap.size w wq → Calls Tryz.prog g (#[.map (some nb)] ++ caps) wq fun e w2 => e = .returned (.tuple #[]) ∧ Row w2 D 108 (dkC nb sb vd d2) ∧ FolIn w2 9 nb loc' d2.now ∧ Chg (fun j => j = D ∨ j = nb) w.heap.size w w2) :
    Calls Tryz.prog 156 #[.pointer (some ⟨b1, 0, none⟩), .pointer (some ⟨b2, 0, none⟩)] w fun e w' => e = .returned (.tuple #[]) ∧ ∃ ow' vd', DkIn w' ow' D nb sb loc' bv' vd' (dl ++ [.func (.func g) #[] caps]) d2 ∧ Chg (fun j => (ow j).isSome = true) w.heap.size w w' ∧ (∀ j, j < w.heap.size → ow' j = ow j) := by
  have c1 := hb1.1
  have c2 := hb2.1
  have c0 : w.cell? ⟨D, 0, none⟩ = some (.map (some nb)) := h.row.cell rfl
  have HH := Keep.keep h; have HB1 := Keep.keep hb1; have HB2 := Keep.keep hb2; have HX := Keep.keep hx; have HM := Keep.keep hm; have HL := Keep.keep hl; have HF := Keep.keep hf; have HNUM := Keep.keep hnum; have HDN := Keep.keep hdn; have HDO := Keep.keep hdo
  have HE1 := Keep.keep e1; have HE2 := Keep.keep e2; have HDL := Keep.keep hdl
  clear h hb1 hb2 hx hm hl hf hnum hdn hdo e1 e2 hdl
  go_enter Tryz.func156, Tryz.ntmps156
  go_upto_region 0 with fail
  refine wp_region_quiet_tail_drawn 5 (by kernel_rfl) (by kernel_rfl) ?_; simp only [List.take_succ_cons, List.take_zero, List.drop_succ_cons, List.drop_zero]; (repeat (go_big_quiet_step (fail))); refine wpQuiet_nil ?_; rintro _ ⟨nq, rfl⟩
  refine wpList_world (R := fun wq => Below w.heap.size w wq) (below_drewN' (Below.refl _ _) _) ?_
  intro wq HWQ
  refine arm_callF (vs := #[.map (some nb)]) rfl (by simp only [List.map_toArray, List.map_cons, List.map_nil]; rfl) hent ((HDO.out wq HWQ.out).mono ?_)
  rintro e w1 ⟨rfl, hrow, hfol, hchg⟩
  refine ⟨_, rfl, ?_⟩
  obtain ⟨fv, hfv⟩ : ∃ fv, (.func (.func g) #[] caps : Value) = fv := ⟨_, rfl⟩
  have HFV : Keep (fv = .func (.func g) #[] caps) := ⟨hfv.symm⟩
  have hch2 : Chg (fun j => (ow j).isSome = true) w.heap.size w w1 := hchg.mono (Nat.le_refl _) (fun j hj => by
    rcases hj with e | e
    · rw [e, HH.out.tD]; rfl
    · rw [e, HH.out.tn]; rfl)
  have hB1 := HB1.out.on hch2
  have hB2 := HB2.out.on hch2
  have hds : w1.ownsRow 0 116 1 vd d.deeds.length dl := ownsRow_loc _ _ (fun j e => hchg.block j (HH.out.lt j (by rw [HH.out.td j e]; rfl)) (fun hj => by
    have h3 := HH.out.td j e
    rcases hj with rfl | rfl
    · rw [HH.out.tD] at h3; cases h3
    · rw [HH.out.tn] at h3; cases h3)) HH.out.dds
  rw [← HH.out.dlen] at hds
  have hvlt : ∀ j, vd.ownBlock = some j → j < w1.heap.size := fun j e => Nat.lt_of_lt_of_le (HH.out.lt j (by rw [HH.out.td j e]; rfl)) hchg.size
  have hCL : Keep (∀ wx, Chg (fun j => vd.ownBlock = some j) w1.heap.size w1 wx → wx.cell? ⟨b1, 0, none⟩ = some fv ∧ wx.cell? ⟨b2, 0, none⟩ = some (.pointer (some ⟨D, 0, none⟩)) ∧ Row wx D 108 (dkC nb sb vd d2)) := ⟨fun wx hc => by
    refine ⟨?_, ?_, ?_⟩
    · rw [hc.cell (p := ⟨b1, 0, none⟩) hB1.lt (fun e => by have := HH.out.td b1 e; rw [hB1.2] at this; cases this), hB1.1, hfv]
    · rw [hc.cell (p := ⟨b2, 0, none⟩) hB2.lt (fun e => by have := HH.out.td b2 e; rw [hB2.2] at this; cases this), hB2.1]
    · exact hrow.chg hc hrow.lt (fun e => by have := HH.out.td D e; rw [HH.out.tD] at this; cases this)⟩
  have HDS := Keep.keep hds; have HVL := Keep.keep hvlt; have HFOL := Keep.keep hfol; have HCH := Keep.keep hchg; have HCH2 := Keep.keep hch2
  rw [hfv]
  clear hfv
  clear hds hvlt hfol hchg hch2 hB1 hB2 hrow c0 c1 c2 HDO
  go_upto_region 1 with fail
  refine wp_region_spcM 8 7 [8, 9, 10, 11, 12, 13, 14, 15] (d1C w1 vd) (d1T w1 D vd fv dl) (d1S w1 vd) (by kernel_rfl) rfl (by decide) (by show ∀ d ∈ _, d < 18; decide) (by kernel_rfl) (by decide) (by decide) (by kernel_rfl) (by kernel_rfl) (by kernel_rfl) ⟨(Chg.refl _ _ _).drew, fun _ => (Below.refl _ _).drew⟩ (fun i v w w' hi h hs => d1T_stays i v w w' hi h hs) ?_ ?_ ?_
  · intro k hk hk7 b a1 wx hw7 hF hC hT
    obtain ⟨k1, k2, k3⟩ := hCL.out wx hC.1
    have hrf : ∀ w, d1S w1 vd w w := fun w => ⟨Chg.refl _ _ _, HVL.out⟩
    have t0 : a1.eval (.tmp 0) = .pointer (some ⟨b1, 0, none⟩) := (hF.same 0 (by decide)).trans rfl
    have t1 : a1.eval (.tmp 1) = .pointer (some ⟨b2, 0, none⟩) := (hF.same 1 (by decide)).trans rfl
    rcases (by omega : k = 0 ∨ k = 1 ∨ k = 2 ∨ k = 3 ∨ k = 4 ∨ k = 5 ∨ k = 6) with rfl | rfl | rfl | rfl | rfl | rfl | rfl
    · exact spcM_read (d := 8) rfl (run_loadCell (run_isAgg_plain Tryz.underlying24 rfl) k2 t1) hC hrf rfl
    · exact spcM_read (d := 9) rfl (run_loadCell (run_isAgg_plain Tryz.underlying24 rfl) k2 t1) hC hrf rfl
    · have hx : a1.eval (.tmp 9) = .pointer (some ⟨D, 0, none⟩) := hT 1 (by decide) (by kernel_rfl)
      exact spcM_read (d := 10) rfl (by simp [execOp, hx]) hC hrf rfl
    · have hx : a1.eval (.tmp 10) = .pointer (some ⟨D, 0, none⟩) := hT 2 (by decide) (by kernel_rfl)
      exact spcM_read (d := 11) rfl (run_fieldAddr (m := 0) Tryz.underlying108 rfl (by kernel_rfl) hx) hC hrf rfl
    · have hx : a1.eval (.tmp 11) = .pointer (some ⟨D, 2, none⟩) := hT 3 (by decide) (by kernel_rfl)
      exact spcM_read (d := 12) rfl (run_loadCell (run_isAgg_plain Tryz.underlying106 rfl) (k3.cell (i := 2) rfl) hx) hC hrf rfl
    · exact spcM_read (d := 13) rfl (run_loadCell (run_isAgg_plain Tryz.underlying116 rfl) k1 t0) hC hrf rfl
    · have hx : a1.eval (.tmp 13) = fv := hT 5 (by decide) (by kernel_rfl)
      have hb : b = false := by
        cases b with
        | false => rfl
        | true => exact (Bool.false_ne_true ((hw7 rfl).symm.trans (by kernel_rfl))).elim
      subst hb
      have hce : (a1.eval (.tmp 13)).cells = #[fv] := by rw [hx, HFV.out]; rfl
      have hr := run_build1 (d := some 14) (x := .tmp 13) (t := 106) (pos := "") (af := #[]) (g := none) (w := wx) slDeed (by decide) (ρ := a1.eval) (by rw [hce]; rfl)
      rw [hce] at hr
      have hbl := hC.2 rfl
      refine spcM_val (d := 14) rfl hr ⟨hC.1.alloc hC.1.size _, fun _ => hbl.alloc hbl.size _⟩ rfl ⟨Chg.of_below ((Below.refl _ _).alloc (Nat.le_refl _) _), HVL.out⟩ ?_
      exact ⟨wx.heap.size, rfl, hbl.size, by show wx.heap.size < (wx.heap.push _).size; rw [Array.size_push]; exact Nat.lt_succ_self _, RdV.new 116 [fv] 1 1 _ rfl rfl (by unfold maxLen; omega) (by simp)⟩
  · intro a1 wx hF hC hT
    have hs : a1.eval (.tmp 12) = vd := hT 4 (by decide) (by kernel_rfl)
    obtain ⟨b, hv6, hb1, hb2, hrd⟩ : ∃ b, a1.eval (.tmp 14) = .slice (some ⟨b, 0, none⟩) 1 1 ∧ w1.heap.size ≤ b ∧ b < wx.heap.size ∧ RdV wx (fun j => j = b) 1 (a1.eval (.tmp 14)) 1 [fv] := hT 6 (by decide) (by kernel_rfl)
    have hbl := hC.2 rfl
    have hown : wx.ownsRow 0 116 1 vd dl.length dl := ownsRow_loc _ _ (fun j e => hbl.block j (HVL.out j e)) (HH.out.dlen ▸ HDS.out)
    have hdl2 : dl.length ≤ 1000000 := by rw [HH.out.dlen]; exact HDL.out
    obtain ⟨v', w2, hr, ho, hg, hb⟩ := run_appV (P := Tryz.prog) (d := some 15) (tp := 106) (pos := "") (af := #[]) (g := none) (ρ := a1.eval) (s := .tmp 12) (x := .tmp 14) slDeed hown hrd (fun u hu => by rw [List.mem_singleton.1 hu, HFV.out]; rfl) (by unfold maxLen; omega) (by omega) (Nat.zero_le _) hs rfl
    have hcg : Chg (fun j => vd.ownBlock = some j) wx.heap.size wx w2 := (Chg.refl _ _ _).grown hg (Nat.le_refl _) (fun k e => .inr e)
    refine spcM_one (d := 15) rfl hr ⟨hC.1.trans (hcg.lower hC.1.size), fun e => by cases e⟩ ⟨hcg, HVL.out⟩ ⟨ho, fun j e => ?_⟩
    rcases hb with hb | hb
    · left; rw [← hb]; exact e
    · right; rw [hb] at e; injection e with e; rw [← e]; exact hbl.size
  · intro a1 w2 ha hC hT
    have t8 : slot a1 8 = .pointer (some ⟨D, 0, none⟩) := hT 0 (by decide)
    obtain ⟨ho, hov⟩ : w2.ownsRow 0 116 1 (slot a1 15) (dl.length + 1) (dl ++ [fv]) ∧ (∀ j, (slot a1 15).ownBlock = some j → vd.ownBlock = some j ∨ w1.heap.size ≤ j) := hT 7 (by decide)
    simp only [List.foldl_cons, List.foldl_nil, t8] at ha
    have HHO := Keep.keep ho; have HOV := Keep.keep hov
    have hk := (hCL.out w2 hC.1).2.2
    have HC := Keep.keep hC.1
    clear hT t8 hC ho hov
    generalize slot a1 9 = x9 at *
    generalize slot a1 10 = x10 at *
    generalize slot a1 11 = x11 at *
    generalize slot a1 12 = x12 at *
    generalize slot a1 13 = x13 at *
    generalize slot a1 14 = x14 at *
    generalize slot a1 15 = x15 at *
    subst ha
    obtain ⟨a15, c15, hv15, -⟩ := (ownsV_reads HHO.out).shape
    have HV15 := Keep.keep hv15
    rw [hv15]
    clear hv15
    simp only [Act.put, List.setIfInBounds_toArray, List.set_cons_succ, List.set_cons_zero]
    have f2 := hk.frozen 2
    have m2 := hk.cell (i := 2) rfl
    have HK := Keep.keep hk
    clear hk
    simp only [List.drop_succ_cons, List.drop_zero]
    go_wp2_with fail
    refine bodyPost_end (results_none rfl _ _ _) rfl ?_
    rw [← HV15.out]
    have hB : w.heap.size ≤ w1.heap.size := HCH.out.size
    have hD3 : ∀ j, x15.ownBlock = some j → j ≠ D := fun j e hj => by
      rcases HOV.out j e with e2 | e2
      · have := HH.out.td j e2
        rw [hj, HH.out.tD] at this; cases this
      · have := HH.out.row.lt
        omega
    have hcs : Chg (fun j => j = D) w2.heap.size w2 (w2.setCell ⟨D, 2, none⟩ x15) := (Chg.refl (fun j => j = D) w2.heap.size w2).setCell (p := ⟨D, 2, none⟩) (.inr rfl) x15
    have hc0 : Chg (fun j => ∃ t, ow j = some t ∧ (t = 0 ∨ t = 1 ∨ t = 3)) w.heap.size w w2 := (HCH.out.mono (Nat.le_refl _) (fun j hj => by
      rcases hj with e | e
      · exact ⟨0, by rw [e]; exact HH.out.tD, .inl rfl⟩
      · exact ⟨1, by rw [e]; exact HH.out.tn, .inr (.inl rfl)⟩)).trans ((HC.out.lower hB).mono (Nat.le_refl _) (fun j hj => ⟨3, HH.out.td j hj, .inr (.inr rfl)⟩))
    have hc3 := hc0.trans ((hcs.lower hc0.size).mono (M' := fun j => ∃ t, ow j = some t ∧ (t = 0 ∨ t = 1 ∨ t = 3)) (Nat.le_refl _) (fun j hj => ⟨0, by rw [hj]; exact HH.out.tD, .inl rfl⟩))
    have hsame : ∀ j, j < w.heap.size → (fun j => if x15.ownBlock = some j then some 3 else ow j) j = ow j := fun j hj => by
      show (if x15.ownBlock = some j then _ else _) = _
      split
      · rename_i e
        rcases HOV.out j e with e2 | e2
        · exact (HH.out.td j e2).symm
        · omega
      · rfl
    have hmv : Mv w (w2.setCell ⟨D, 2, none⟩ x15) ow (fun j => if x15.ownBlock = some j then some 3 else ow j) (fun t => t = 0 ∨ t = 1 ∨ t = 3) := by
      refine ⟨hc3, hsame, fun j hj => ?_⟩
      try simp only at hj
      split at hj
      · rename_i e; exact Nat.lt_of_lt_of_le (HHO.out.lt j e).2 hcs.size
      · exact Nat.lt_of_lt_of_le (HH.out.lt j hj) hc3.size
    refine ⟨rfl, (fun j => if x15.ownBlock = some j then some 3 else ow j), x15, ?_, hc3.mono (Nat.le_refl _) (fun j hj => by obtain ⟨t, e, -⟩ := hj; rw [e]; rfl), hsame⟩
    refine HH.out.deeds hmv (HK.out.set' 2 _ rfl) ?_ ?_ (hmv.deed (fun _ _ _ => rfl) HX.out) HE1.out HE2.out (fun j e => if_pos e) HM.out HL.out (fun k h1 h2 => hmv.file (HF.out k h1 h2) (by omega) (by omega)) HNUM.out HDN.out
    · have hn : nb < w.heap.size := HH.out.now.lt
      refine (HFOL.out.loc (HC.out.block nb (by omega) (fun e => ?_))).loc (hcs.block nb (by have := HC.out.size; omega) (fun e => ?_))
      · have := HH.out.td nb e
        rw [HH.out.tn] at this; cases this
      · have := HH.out.tn
        rw [e, HH.out.tD] at this; cases this
    · have := ownsRow_loc _ _ (fun j e => hcs.block j (HHO.out.lt j e).2 (hD3 j e)) HHO.out
      rw [HE1.out, List.length_append, ← HH.out.dlen]
      rw [HFV.out] at this
      exact this
end Go.Proofs.YtmkofejijkabnaaGreatDoor
/- (*Disk).step and deed, a disk in memory. -/
namespace Go.Proofs.YtmkofejijkabnaaGreatDoor
open Go.RowKit
/-- a fuse that step may count down -/
def FuseOk (d : DkS) : Prop := d.fuse ≠ 0 ∧ -9223372036854775807 ≤ d.fuse ∧ d.fuse ≤ 9223372036854775807
def DkS.burn (d : DkS) : DkS := { d with fuse := max (d.fuse - 1) (-1) }
theorem dkstep_dk {w : World} {ow : Own} {D nb sb : Nat} {loc : Nat → Nat} {bv : Nat → Value} {vd : Value} {dl : List Value} {d : DkS} (h : DkIn w ow D nb sb loc bv vd dl d) (hz : FuseOk d) (g : Nat) (caps : Array Value) (hent : ∀ args w, (callFunc g args).run Tryz.prog w = .ok (.enter g args) w) (Q : World → Prop)
    (hdo : ∀ w1, DkIn w1 ow D nb sb loc bv vd dl d.burn → Chg (fun j => j = D) w.heap.size w w1 → Calls Tryz.prog g caps w1 fun e w' => e = .returned (.tuple #[]) ∧ Q w') :
    Calls Tryz.prog 62 #[.pointer (some ⟨D, 0, none⟩), .func (.func g) #[] caps] w fun e w' => e = .returned (.int .i64 0) ∧ Q w' :=
  dkstep_on D g caps w _ d.fuse hz.1 hz.2.1 hz.2.2 h.row rfl hent Q (hdo _ (h.fused _) ((Chg.refl (fun j => j = D) w.heap.size w).setCell (p := ⟨D, 6, none⟩) (.inr rfl) _))
theorem ent_deed1 : ∀ args w, (callFunc 156 args).run Tryz.prog w = .ok (.enter 156 args) w := enters_of Tryz.func156 (by kernel_rfl) rfl
theorem cell_new (w : World) (v : Value) (e : TypeId) : (w.alloc (.cells #[v] e)).cell? ⟨w.heap.size, 0, none⟩ = some v := (Row.new w e #[v]).cell rfl
theorem below_al2 (w : World) (o1 o2 : Obj) : Below w.heap.size w ((w.alloc o1).alloc o2) :=
  ((Below.refl _ _).alloc (Nat.le_refl _) _).alloc (by show w.heap.size ≤ (w.heap.push _).size; rw [Array.size_push]; exact Nat.le_succ _) _
theorem cell_al2a (w : World) (u v : Value) (e1 e2 : TypeId) : ((w.alloc (.cells #[u] e1)).alloc (.cells #[v] e2)).cell? ⟨w.heap.size, 0, none⟩ = some u := ((Row.new w e1 #[u]).old _).cell rfl
theorem cell_al2b (w : World) (u v : Value) (e1 e2 : TypeId) : ((w.alloc (.cells #[u] e1)).alloc (.cells #[v] e2)).cell? ⟨w.heap.size + 1, 0, none⟩ = some v := (Row.new' (w := w.alloc (.cells #[u] e1)) (c := #[v]) (by show _ = (w.heap.push _).size; rw [Array.size_push]) rfl).cell rfl
set_option maxHeartbeats 1000000 in
set_option maxRecDepth 100000 in
theorem deed_any {w : World} {ow : Own} {D nb sb : Nat} {loc : Nat → Nat} {bv : Nat → Value} {vd : Value} {dl : List Value} {d d2 : DkS} (h : DkIn w ow D nb sb loc bv vd dl d) (hz : FuseOk d) (hdl : d.deeds.length ≤ 1000000) (g : Nat) (caps : Array Value) (x : DeedS) (loc' : Nat → Nat) (bv' : Nat → Value)
    (hent : ∀ args w, (callFunc g args).run Tryz.prog w = .ok (.enter g args) w)
    (hx : DeedV w ow D loc' (.func (.func g) #[] caps) x) (e1 : d2.deeds = d.deeds ++ [x]) (e2 : d2.settled = d.settled) (hm : d.many ≤ d2.many) (hl : ∀ k, k < d.many → loc' k = loc k ∧ bv' k = bv k ∧ d2.files k = d.files k) (hf : ∀ k, d.many ≤ k → k < d2.many → FileAt w ow (loc' k) k (bv' k) (d2.files k)) (hnum : ∀ y ∈ d2.now, y.2 < d2.many) (hdn : ∀ n f, x = .create n f → f < d2.many)
    (hdo : ∀ w1, DkIn w1 ow D nb sb loc bv vd dl d.burn → Chg (fun j => j = D) w.heap.size w w1 → Calls Tryz.prog g (#[.map (some nb)] ++ caps) w1 fun e w2 => e = .returned (.tuple #[]) ∧ Row w2 D 108 (dkC nb sb vd d2) ∧ FolIn w2 9 nb loc' d2.now ∧ Chg (fun j => j = D ∨ j = nb) w1.heap.size w1 w2) :
    Calls Tryz.prog 124 #[.pointer (some ⟨D, 0, none⟩), .func (.func g) #[] caps] w fun e w' => e = .returned (.int .i64 0) ∧ ∃ ow' vd', DkIn w' ow' D nb sb loc' bv' vd' (dl ++ [.func (.func g) #[] caps]) d2 ∧ Chg (fun j => (ow j).isSome = true) w.heap.size w w' ∧ (∀ j, j < w.heap.size → ow' j = ow j) := by
  have HST : Keep (∀ (wq : World) (b1 b2 : Nat), Below w.heap.size w wq → w.heap.size ≤ b1 → w.heap.size ≤ b2 → wq.cell? ⟨b1, 0, none⟩ = some (.func (.func g) #[] caps) → wq.cell? ⟨b2, 0, none⟩ = some (.pointer (some ⟨D, 0, none⟩)) →
      Calls Tryz.prog 62 #[.pointer (some ⟨D, 0, none⟩), .func (.func 156) #[] #[.pointer (some ⟨b1, 0, none⟩), .pointer (some ⟨b2, 0, none⟩)]] wq fun e w' => e = .returned (.int .i64 0) ∧ ∃ ow' vd', DkIn w' ow' D nb sb loc' bv' vd' (dl ++ [.func (.func g) #[] caps]) d2 ∧ Chg (fun j => (ow j).isSome = true) w.heap.size w w' ∧ (∀ j, j < w.heap.size → ow' j = ow j)) := ⟨by
    intro wq b1 b2 hb h1 h2 k1 k2
    have hq := h.on hb
    have hno : ∀ j, w.heap.size ≤ j → ow j = none := fun j hj => by
      cases ho : ow j with
      | none => rfl
      | some t => have := h.lt j (by rw [ho]; rfl); omega
    refine dkstep_dk hq hz 156 _ ent_deed1 _ (fun w1 hd hc => ?_)
    have hbox : ∀ {b v}, BoxAt wq ow b v → BoxAt w1 ow b v := fun {b v} hbx => hbx.on (hc.mono (Nat.le_refl _) (fun j hj => by rw [hj, h.tD]; rfl))
    have hmv : Mv w w1 ow ow (fun t => t = 0) := ⟨(Chg.of_below hb).trans ((hc.lower hb.size).mono (Nat.le_refl _) (fun j hj => ⟨0, by rw [hj]; exact h.tD, rfl⟩)), fun _ _ => rfl, hd.lt⟩
    have hcw : Chg (fun j => (ow j).isSome = true) w.heap.size w w1 := hmv.c.mono (Nat.le_refl _) (fun j hj => by obtain ⟨t, e, -⟩ := hj; rw [e]; rfl)
    refine (deed1_any (d2 := d2) hd hdl b1 b2 g caps x loc' bv' hent (hbox ⟨k1, hno b1 h1⟩) (hbox ⟨k2, hno b2 h2⟩) (hmv.deed (fun _ _ _ => rfl) hx) e1 e2 hm hl (fun k g1 g2 => hmv.file (hf k g1 g2) (by omega) (by omega)) hnum hdn (fun wz hbz => ?_)).mono ?_
    · refine (hdo wz (hd.on hbz) (((Chg.of_below hb).trans (hc.lower hb.size)).trans ((Chg.of_below hbz).lower (Nat.le_trans hb.size hc.size)))).mono ?_
      rintro e w2 ⟨rfl, r1, r2, r3⟩
      exact ⟨rfl, r1, r2, (Chg.of_below hbz).trans (r3.lower hbz.size)⟩
    · rintro e w2 ⟨rfl, ow', vd', r1, r2, r3⟩
      exact ⟨rfl, ow', vd', r1, hcw.trans (r2.lower hcw.size), fun j hj => r3 j (Nat.lt_of_lt_of_le hj hcw.size)⟩⟩
  clear h hz hdl hx e1 e2 hm hl hf hnum hdn hdo
  go_enter Tryz.func124, Tryz.ntmps124
  go_wp2_with fail
  refine calls_at (R := fun wq => Below w.heap.size w wq ∧ wq.cell? ⟨w.heap.size + 1, 0, none⟩ = some (.func (.func g) #[] caps) ∧ wq.cell? ⟨w.heap.size, 0, none⟩ = some (.pointer (some ⟨D, 0, none⟩))) ⟨below_al2 _ _ _, cell_al2b .., cell_al2a ..⟩ ?_
  intro wq HQ
  refine (HST.out wq _ _ HQ.out.1 (by omega) (Nat.le_refl _) HQ.out.2.1 HQ.out.2.2).mono ?_
  rintro e w' ⟨rfl, hr⟩
  have HR := Keep.keep hr
  clear hr
  go_wp2_with fail
  go_ret
  exact ⟨rfl, HR.out⟩
end Go.Proofs.YtmkofejijkabnaaGreatDoor
/- (*Disk).Remove, Rename. -/
namespace Go.Proofs.YtmkofejijkabnaaGreatDoor
open Go.RowKit
theorem find_cases (d : DkS) (p : Tx) : (∃ f, d.find p = (some f, 0) ∧ SM.look d.now p = some f ∧ d.asks [p] = 0) ∨ ∃ e, d.find p = (none, e) ∧ e ≠ 0 ∧ (e = d.asks [p] ∨ e = 6) := by
  by_cases h : d.asks [p] = 0
  · cases hl : SM.look d.now p with
    | none => right; refine ⟨6, ?_, by decide, .inr rfl⟩; unfold DkS.find; rw [if_neg (fun e => e h), hl]
    | some f => left; refine ⟨f, ?_, rfl, h⟩; unfold DkS.find; rw [if_neg (fun e => e h), hl]
  · right; refine ⟨_, ?_, h, .inl rfl⟩; unfold DkS.find; rw [if_pos h]
theorem k_step_on {d : DkS} (h : d.fuse ≠ 0) (f : DkS → DkS) : d.step f = (0, f d.burn) := by unfold DkS.step DkS.burn; rw [if_pos h]
theorem k_now_snoc (d : DkS) {d2 : DkS} {x : DeedS} (e1 : d2.deeds = d.deeds ++ [x]) (e2 : d2.settled = d.settled) : d2.now = doD d.now x := by
  unfold DkS.now; rw [e1, e2, List.foldl_append]; rfl
theorem ent_remove1 : ∀ args w, (callFunc 158 args).run Tryz.prog w = .ok (.enter 158 args) w := enters_of Tryz.func158 (by kernel_rfl) rfl
theorem ent_rename1 : ∀ args w, (callFunc 134 args).run Tryz.prog w = .ok (.enter 134 args) w := enters_of Tryz.func134 (by kernel_rfl) rfl
theorem DkIn.none {w : World} {ow : Own} {D nb sb : Nat} {loc : Nat → Nat} {bv : Nat → Value} {vd : Value} {dl : List Value} {d : DkS} (h : DkIn w ow D nb sb loc bv vd dl d) {j : Nat} (hj : w.heap.size ≤ j) : ow j = none := by
  cases ho : ow j with
  | none => rfl
  | some t => have := h.lt j (by rw [ho]; rfl); omega
theorem DkIn.ne {w : World} {ow : Own} {D nb sb : Nat} {loc : Nat → Nat} {bv : Nat → Value} {vd : Value} {dl : List Value} {d : DkS} (h : DkIn w ow D nb sb loc bv vd dl d) : D ≠ nb := fun e => by have := h.tn; rw [← e, h.tD] at this; cases this
/-- a deed that only names: removed, renamed -/
theorem deed_to {w wq : World} {O : Nat → Prop} {ow : Own} {D nb sb : Nat} {loc : Nat → Nat} {bv : Nat → Value} {vd : Value} {dl : List Value} {d : DkS} (h : DkIn w ow D nb sb loc bv vd dl d) (h2 : ∀ j, (ow j).isSome = true → O j) (h3 : ∀ v ∈ dl, ∀ j, capB v j → O j) (h4 : ∀ j, O j → j < w.heap.size) (hb : Below w.heap.size w wq) (hz : FuseOk d) (hdl : d.deeds.length ≤ 1000000) (g : Nat) (caps : Array Value) (x : DeedS)
    (hent : ∀ args w, (callFunc g args).run Tryz.prog w = .ok (.enter g args) w) (hx : DeedV wq ow D loc (.func (.func g) #[] caps) x) (hcap : ∀ j, Value.pointer (some ⟨j, 0, none⟩) ∈ caps → w.heap.size ≤ j ∧ j < wq.heap.size) (hnum : ∀ y ∈ doD d.now x, y.2 < d.many) (hdn : ∀ n f, x ≠ .create n f)
    (hdo : ∀ w1, DkIn w1 ow D nb sb loc bv vd dl d.burn → Chg (fun j => j = D) wq.heap.size wq w1 → Calls Tryz.prog g (#[.map (some nb)] ++ caps) w1 fun e w2 => e = .returned (.tuple #[]) ∧ FolIn w2 9 nb loc (doD d.now x) ∧ Chg (fun j => j = nb) w1.heap.size w1 w2) :
    Calls Tryz.prog 124 #[.pointer (some ⟨D, 0, none⟩), .func (.func g) #[] caps] wq fun e w' => e = .returned (.int .i64 (d.deed x).1) ∧ DkTo w O D (d.deed x).2 w' := by
  have hst : d.deed x = (0, { d.burn with deeds := d.burn.deeds ++ [x] }) := k_step_on hz.1 _
  rw [hst]
  have hnow : ({ d.burn with deeds := d.burn.deeds ++ [x] } : DkS).now = doD d.now x := k_now_snoc d rfl rfl
  refine (deed_any (d2 := { d.burn with deeds := d.burn.deeds ++ [x] }) (h.on hb) hz hdl g caps x loc bv hent hx rfl rfl (Nat.le_refl _) (fun k _ => ⟨rfl, rfl, rfl⟩) (fun k k1 k2 => absurd k2 (Nat.not_lt.2 k1)) (by rw [hnow]; exact hnum) (fun n f e => absurd e (hdn n f)) (fun w1 hd hc => ?_)).mono ?_
  · refine (hdo w1 hd hc).mono ?_
    rintro e w2 ⟨rfl, r1, r2⟩
    exact ⟨rfl, hd.row.chg r2 hd.row.lt h.ne, by rw [hnow]; exact r1, r2.mono (Nat.le_refl _) (fun j hj => .inr hj)⟩
  · rintro e w' ⟨rfl, ow', vd', r1, r2, r3⟩
    refine ⟨rfl, DkTo.mk r1 h2 h4 ((Chg.of_below hb).trans (r2.lower hb.size)) (fun j hj => r3 j (Nat.lt_of_lt_of_le hj hb.size)) (fun v hv j hj => ?_)⟩
    rcases List.mem_append.1 hv with hv | hv
    · exact .inl (h3 v hv j hj)
    · obtain ⟨g', t', c', e, hm⟩ := hj
      rw [List.mem_singleton.1 hv] at e
      injection e with _ _ e
      subst e
      obtain ⟨k1, k2⟩ := hcap j hm
      exact .inr ⟨k1, Nat.lt_of_lt_of_le k2 r2.size⟩
set_option maxHeartbeats 1000000 in
set_option maxRecDepth 100000 in
theorem remove_any (hm : MayOk) {w : World} {O : Nat → Prop} {D : Nat} {d : DkS} (h : DkAt w O D d) (hz : FuseOk d) (hdl : d.deeds.length ≤ 1000000) (p : Tx) (hp : p.length ≤ 1000000) :
    Calls Tryz.prog 132 #[.pointer (some ⟨D, 0, none⟩), .string ⟨p.toArray⟩] w fun e w' => e = .returned (.int .i64 (d.remove p).1) ∧ DkTo w O D (d.remove p).2 w' := by
  have HAT := Keep.keep h
  obtain ⟨ow, nb, sb, loc, bv, vd, dl, h1, h2, h3, h4⟩ := h
  have HFD : Keep (∀ wq, Below w.heap.size w wq → Calls Tryz.prog 37 #[.pointer (some ⟨D, 0, none⟩), .string ⟨p.toArray⟩] wq fun e w' => e = .returned (.tuple #[.pointer ((d.find p).1.map fun f => ⟨loc f, 0, none⟩), .int .i64 (d.find p).2]) ∧ Below wq.heap.size wq w') := ⟨fun wq hb => dkfind_any hm (h1.on hb) p hp⟩
  have HDO : Keep (∀ wq (b : Nat), Below w.heap.size w wq → w.heap.size ≤ b → wq.cell? ⟨b, 0, none⟩ = some (.string ⟨p.toArray⟩) → (∃ f, SM.look d.now p = some f) →
      Calls Tryz.prog 124 #[.pointer (some ⟨D, 0, none⟩), .func (.func 158) #[] #[.pointer (some ⟨b, 0, none⟩)]] wq fun e w' => e = .returned (.int .i64 (d.deed (.remove p)).1) ∧ DkTo w O D (d.deed (.remove p)).2 w') := ⟨fun wq b hb hbs hcell _ => by
    have hbn := h1.none hbs
    have hblt := World.block_lt_of_cell? wq _ hcell
    refine deed_to h1 h2 h3 h4 hb hz hdl 158 _ (.remove p) ent_remove1 ⟨b, rfl, hcell, hbn⟩ (fun j hj => ?_) (fun y hy => h1.num y (.inl (List.mem_filter.1 hy).1)) (fun n f e => by cases e) (fun w1 hd hc => ?_)
    · simp at hj
      subst hj
      exact ⟨hbs, hblt⟩
    · exact remove1_any b nb loc d.now p hp w1 hd.now (by rw [hc.cell (p := ⟨b, 0, none⟩) hblt (fun e => by have e : b = D := e; rw [e, h1.tD] at hbn; cases hbn)]; exact hcell)⟩
  have HRM : Keep (d.remove p = match d.find p with | (some _, _) => d.deed (.remove p) | (none, e) => (e, d)) := ⟨rfl⟩
  rcases find_cases d p with ⟨f, hf, hl, -⟩ | ⟨er, hf, he, -⟩
  · rw [hf] at HFD HRM
    have HRM2 : Keep (d.remove p = d.deed (.remove p)) := ⟨HRM.out⟩
    rw [HRM2.out]
    have HD2 := Keep.keep (fun wq b hb hbs hc => HDO.out wq b hb hbs hc ⟨f, hl⟩)
    generalize d.deed (.remove p) = r at *
    clear h1 h2 h3 h4 hf hl HRM HRM2 HDO hz hdl
    go_enter Tryz.func132, Tryz.ntmps132
    go_wp2_with fail
    refine calls_at (R := fun wq => Below w.heap.size w wq ∧ wq.cell? ⟨w.heap.size, 0, none⟩ = some (.string ⟨p.toArray⟩)) ⟨(Below.refl _ _).alloc (Nat.le_refl _) _, cell_new _ _ _⟩ ?_
    intro wq HQ
    refine (HFD.out wq HQ.out.1).mono ?_
    rintro e w2 ⟨rfl, hb⟩
    have hc2 : w2.cell? ⟨w.heap.size, 0, none⟩ = some (.string ⟨p.toArray⟩) := by
      rw [(Chg.of_below (M := fun _ => False) hb).cell (p := ⟨w.heap.size, 0, none⟩) (World.block_lt_of_cell? wq _ HQ.out.2) (fun e => e)]; exact HQ.out.2
    have HC := Keep.keep (HD2.out w2 w.heap.size (HQ.out.1.trans (hb.mono HQ.out.1.size)) (Nat.le_refl _) hc2)
    clear hb HQ HFD HD2
    go_wp2_with fail
    refine HC.out.mono ?_
    rintro e w' ⟨rfl, hr⟩
    have HR := Keep.keep hr
    clear hr
    go_wp2_with fail
    go_ret
    exact ⟨rfl, HR.out⟩
  · rw [hf] at HFD HRM
    have HRM2 : Keep (d.remove p = (er, d)) := ⟨HRM.out⟩
    rw [HRM2.out]
    have hz1 : (er == 0) = false := by rw [beq_eq_false_iff_ne]; exact he
    have hz2 : (er != 0) = true := by rw [bne, hz1]; rfl
    clear h1 h2 h3 h4 hf HRM HRM2 HDO hz hdl
    go_enter Tryz.func132, Tryz.ntmps132
    go_wp2_with fail
    refine calls_at (R := fun wq => Below w.heap.size w wq) ((Below.refl _ _).alloc (Nat.le_refl _) _) ?_
    intro wq HQ
    refine (HFD.out wq HQ.out).mono ?_
    rintro e w2 ⟨rfl, hb⟩
    have HB := Keep.keep (HQ.out.trans (hb.mono HQ.out.size))
    clear hb HQ HFD
    go_wp2_with fail
    go_ret
    exact ⟨rfl, DkTo.of HAT.out HB.out⟩
theorem ren_num {d : DkS} {p q : Tx} {f : Nat} (hn : ∀ y ∈ d.now, y.2 < d.many) (hf : SM.look d.now p = some f) : ∀ y ∈ doD d.now (.rename p q), y.2 < d.many := by
  intro y hy
  have e : doD d.now (.rename p q) = SM.put (delF d.now p) (q, f) := by
    show (match SM.look d.now p with | some f => SM.put (delF d.now p) (q, f) | none => d.now) = _
    rw [hf]
  rw [e] at hy
  rcases SM.mem_put.1 hy with rfl | ⟨hy, -⟩
  · exact hn (p, f) (SM.look_mem hf)
  · exact hn y (List.mem_filter.1 hy).1
theorem below_al3 (w : World) (o1 o2 o3 : Obj) : Below w.heap.size w (((w.alloc o1).alloc o2).alloc o3) :=
  (below_al2 w o1 o2).alloc (below_al2 w o1 o2).size _
set_option maxHeartbeats 1000000 in
set_option maxRecDepth 100000 in
theorem rename_any (hm : MayOk) {w : World} {O : Nat → Prop} {D : Nat} {d : DkS} (h : DkAt w O D d) (hz : FuseOk d) (hdl : d.deeds.length ≤ 1000000) (hnl : d.now.length ≤ 100000) (p q : Tx) (hp : p.length ≤ 1000000) (hq : q.length ≤ 1000000) :
    Calls Tryz.prog 92 #[.pointer (some ⟨D, 0, none⟩), .string ⟨p.toArray⟩, .string ⟨q.toArray⟩] w fun e w' => e = .returned (.int .i64 (d.rename p q).1) ∧ DkTo w O D (d.rename p q).2 w' := by
  have HAT := Keep.keep h
  obtain ⟨ow, nb, sb, loc, bv, vd, dl, h1, h2, h3, h4⟩ := h
  have HFD : Keep (∀ wq, Below w.heap.size w wq → Calls Tryz.prog 37 #[.pointer (some ⟨D, 0, none⟩), .string ⟨p.toArray⟩] wq fun e w' => e = .returned (.tuple #[.pointer ((d.find p).1.map fun f => ⟨loc f, 0, none⟩), .int .i64 (d.find p).2]) ∧ Below wq.heap.size wq w') := ⟨fun wq hb => dkfind_any hm (h1.on hb) p hp⟩
  have HAS : Keep (∀ wq (v : Value), Below w.heap.size w wq → RdS wq (· < wq.heap.size) v [p, q] → Calls Tryz.prog 56 #[.pointer (some ⟨D, 0, none⟩), v] wq fun e w' => e = .returned (.int .i64 (d.asks [p, q])) ∧ Below wq.heap.size wq w') := ⟨fun wq v hb hr => dkasks_any hm (h1.on hb) v [p, q] hr (fun s hs => by
    simp at hs
    rcases hs with rfl | rfl
    · exact hp
    · exact hq)⟩
  have HDO : Keep (∀ wq (b1 b2 : Nat), Below w.heap.size w wq → w.heap.size ≤ b1 → w.heap.size ≤ b2 → wq.cell? ⟨b1, 0, none⟩ = some (.string ⟨p.toArray⟩) → wq.cell? ⟨b2, 0, none⟩ = some (.string ⟨q.toArray⟩) → (∃ f, SM.look d.now p = some f) →
      Calls Tryz.prog 124 #[.pointer (some ⟨D, 0, none⟩), .func (.func 134) #[] #[.pointer (some ⟨b1, 0, none⟩), .pointer (some ⟨b2, 0, none⟩)]] wq fun e w' => e = .returned (.int .i64 (d.deed (.rename p q)).1) ∧ DkTo w O D (d.deed (.rename p q)).2 w') := ⟨fun wq b1 b2 hb hb1 hb2 c1 c2 hex => by
    obtain ⟨f, hf⟩ := hex
    have n1 := h1.none hb1
    have n2 := h1.none hb2
    have l1 := World.block_lt_of_cell? wq _ c1
    have l2 := World.block_lt_of_cell? wq _ c2
    refine deed_to h1 h2 h3 h4 hb hz hdl 134 _ (.rename p q) ent_rename1 ⟨b1, b2, rfl, ⟨c1, n1⟩, ⟨c2, n2⟩⟩ (fun j hj => ?_) (ren_num (fun y hy => h1.num y (.inl hy)) hf) (fun n f e => by cases e) (fun w1 hd hc => ?_)
    · simp at hj
      rcases hj with rfl | rfl
      · exact ⟨hb1, l1⟩
      · exact ⟨hb2, l2⟩
    · exact rename1_any b1 b2 nb loc d.now p q f hp hq hnl hf w1 hd.now (by rw [hc.cell (p := ⟨b1, 0, none⟩) l1 (fun e => by have e : b1 = D := e; rw [e, h1.tD] at n1; cases n1)]; exact c1) (by rw [hc.cell (p := ⟨b2, 0, none⟩) l2 (fun e => by have e : b2 = D := e; rw [e, h1.tD] at n2; cases n2)]; exact c2) (fun e => by rw [e, h1.tn] at n2; cases n2)⟩
  have HRM : Keep (d.rename p q = if d.asks [p, q] ≠ 0 then (d.asks [p, q], d) else match d.find p with | (some _, _) => d.deed (.rename p q) | (none, e) => (e, d)) := ⟨rfl⟩
  have HNX : Keep (∀ (wq w2 : World) (j : Nat) (v : Value), Below wq.heap.size wq w2 → wq.cell? ⟨j, 0, none⟩ = some v → w2.cell? ⟨j, 0, none⟩ = some v) := ⟨fun wq w2 j v hb hc => by
    rw [(Chg.of_below (M := fun _ => False) hb).cell (p := ⟨j, 0, none⟩) (World.block_lt_of_cell? wq _ hc) (fun e => e)]; exact hc⟩
  generalize d.asks [p, q] = a0 at *
  go_enter Tryz.func92, Tryz.ntmps92
  go_wp2_with fail
  refine calls_at (R := fun wq => Below w.heap.size w wq ∧ RdS wq (· < wq.heap.size) (.slice (some ⟨w.heap.size + 1 + 1, 0, none⟩) 2 2) [p, q] ∧ wq.cell? ⟨w.heap.size, 0, none⟩ = some (.string ⟨p.toArray⟩) ∧ wq.cell? ⟨w.heap.size + 1, 0, none⟩ = some (.string ⟨q.toArray⟩)) ⟨below_al3 _ _ _ _, ?_, HNX.out _ _ _ _ ((Below.refl _ _).alloc (Nat.le_refl _) _) (cell_al2a ..), HNX.out _ _ _ _ ((Below.refl _ _).alloc (Nat.le_refl _) _) (cell_al2b ..)⟩ ?_
  · have e2 : ((w.alloc (.cells #[.string ⟨p.toArray⟩] 9)).alloc (.cells #[.string ⟨q.toArray⟩] 9)).heap.size = w.heap.size + 1 + 1 := by
      show ((w.heap.push _).push _).size = _
      rw [Array.size_push, Array.size_push]
    exact RdV.new 9 (([p, q] : List Tx).map strV) 1 2 _ e2.symm rfl (by unfold maxLen; omega) (by show w.heap.size + 1 + 1 < (Array.push _ _).size; rw [Array.size_push, e2]; exact Nat.lt_succ_self _)
  intro wq HQ
  refine (HAS.out wq _ HQ.out.1 HQ.out.2.1).mono ?_
  rintro e w2 ⟨rfl, hb⟩
  have HB := Keep.keep (HQ.out.1.trans (hb.mono HQ.out.1.size))
  have c1 := HNX.out _ _ _ _ hb HQ.out.2.2.1
  have c2 := HNX.out _ _ _ _ hb HQ.out.2.2.2
  clear hb HQ HAS h1 h2 h3 h4 hz hdl hnl
  by_cases ha : a0 = 0
  rotate_left
  focus
    have hz1 : (a0 == 0) = false := by rw [beq_eq_false_iff_ne]; exact ha
    have hz2 : (a0 != 0) = true := by rw [bne, hz1]; rfl
    have HR : Keep (d.rename p q = (a0, d)) := ⟨by rw [HRM.out, if_pos ha]⟩
    clear ha HRM HDO HFD
    go_wp2_with fail
    go_ret
    rw [HR.out]
    exact ⟨rfl, DkTo.of HAT.out HB.out⟩
  subst ha
  have HRM2 : Keep (d.rename p q = match d.find p with | (some _, _) => d.deed (.rename p q) | (none, e) => (e, d)) := ⟨by rw [HRM.out, if_neg (by decide)]⟩
  rcases find_cases d p with ⟨f, hf, hl, -⟩ | ⟨er, hf, he, -⟩
  · rw [hf] at HFD HRM2
    have HRM3 : Keep (d.rename p q = d.deed (.rename p q)) := ⟨HRM2.out⟩
    have HD2 := Keep.keep (fun wq b1 b2 hb hbs hbs2 hc1 hc2 => HDO.out wq b1 b2 hb hbs hbs2 hc1 hc2 ⟨f, hl⟩)
    generalize d.deed (.rename p q) = r at *
    clear hf hl HRM HRM2 HDO
    go_wp2_with fail
    refine (HFD.out w2 HB.out).mono ?_
    rintro e w3 ⟨rfl, hb⟩
    have k1 := HNX.out _ _ _ _ hb c1
    have k2 := HNX.out _ _ _ _ hb c2
    have HC := Keep.keep (HD2.out w3 w.heap.size (w.heap.size + 1) (HB.out.trans (hb.mono HB.out.size)) (Nat.le_refl _) (Nat.le_succ _) k1 k2)
    clear hb HFD HD2 c1 c2
    go_wp2_with fail
    refine HC.out.mono ?_
    rintro e w' ⟨rfl, hr⟩
    have HR := Keep.keep hr
    clear hr
    go_wp2_with fail
    go_ret
    rw [HRM3.out]
    exact ⟨rfl, HR.out⟩
  · rw [hf] at HFD HRM2
    have HRM3 : Keep (d.rename p q = (er, d)) := ⟨HRM2.out⟩
    have hz1 : (er == 0) = false := by rw [beq_eq_false_iff_ne]; exact he
    have hz2 : (er != 0) = true := by rw [bne, hz1]; rfl
    clear hf HRM HRM2 HDO
    go_wp2_with fail
    refine (HFD.out w2 HB.out).mono ?_
    rintro e w3 ⟨rfl, hb⟩
    have HB3 := Keep.keep (HB.out.trans (hb.mono HB.out.size))
    clear hb HFD
    go_wp2_with fail
    go_ret
    rw [HRM3.out]
    exact ⟨rfl, DkTo.of HAT.out HB3.out⟩
end Go.Proofs.YtmkofejijkabnaaGreatDoor
/- (*Disk).Create. -/
namespace Go.Proofs.YtmkofejijkabnaaGreatDoor
open Go.RowKit
theorem Chg.at {M M' : Nat → Prop} {B : Nat} {w w' : World} (h : Chg M B w w') (hM : ∀ k, k < B → M k → M' k) : Chg M' B w w' := ⟨h.os, h.tape, h.output, h.size, fun k hk hm => h.block k hk (fun hx => hm (hM k hk hx))⟩
theorem DkIn.retag {w w' : World} {ow ow' : Own} {D nb sb : Nat} {loc : Nat → Nat} {bv : Nat → Value} {vd : Value} {dl : List Value} {d : DkS} (h : DkIn w ow D nb sb loc bv vd dl d) (m : Mv w w' ow ow' (fun _ => False)) : DkIn w' ow' D nb sb loc bv vd dl d := by
  have ht : ∀ {j t : Nat}, ow j = some t → ow' j = some t := fun {j t} e => (m.s j (h.lt j (by rw [e]; rfl))).trans e
  exact ⟨by unfold Row; rw [m.block h.row.lt h.tD id]; exact h.row, h.now.loc (m.block h.now.lt h.tn id), h.set.loc (m.block h.set.lt h.ts id), fun k hk => m.file (h.file k hk) id id,
    ownsRow_loc _ _ (fun j e => m.block (h.lt j (by rw [h.td j e]; rfl)) (h.td j e) id) h.dds, fun i x v h1 h2 => m.deed (fun _ _ _ => rfl) (h.deed i x v h1 h2), ht h.tD, ht h.tn, ht h.ts, fun j e => ht (h.td j e), h.num, m.l, h.dn⟩
theorem ent_create1 : ∀ args w, (callFunc 125 args).run Tryz.prog w = .ok (.enter 125 args) w := enters_of Tryz.func125 (by kernel_rfl) rfl
set_option maxHeartbeats 2000000 in
set_option maxRecDepth 100000 in
theorem create1_any {w : World} {ow : Own} {D nb sb : Nat} {loc : Nat → Nat} {bv : Nat → Value} {vd : Value} {dl : List Value} {d : DkS} (h : DkIn w ow D nb sb loc bv vd dl d) (hmany : d.many ≤ 1000000000) (hnl : d.now.length ≤ 100000) (p : Tx) (hp : p.length ≤ 1000000) (b1 b2 b3 bF : Nat) (n : Int) (hn : n = d.many)
    (hb1 : BoxAt w ow b1 (.pointer (some ⟨bF, 0, none⟩))) (hb2 : BoxAt w ow b2 (.string ⟨p.toArray⟩)) (hb3 : BoxAt w ow b3 (.pointer (some ⟨D, 0, none⟩))) (hF : w.cell? ⟨bF, 0, none⟩ = some (.int .i64 n)) (hFn : bF ≠ nb) :
    Calls Tryz.prog 125 #[.map (some nb), .pointer (some ⟨b1, 0, none⟩), .pointer (some ⟨b2, 0, none⟩), .pointer (some ⟨b3, 0, none⟩)] w fun e w' => e = .returned (.tuple #[]) ∧ Row w' D 108 (dkC nb sb vd { d with many := d.many + 1 }) ∧ FolIn w' 9 nb (fun j => if j = d.many then bF else loc j) (SM.put d.now (p, d.many)) ∧ Chg (fun j => j = D ∨ j = nb) w.heap.size w w' := by
  have c1 := hb1.1
  have c2 := hb2.1
  have HH := Keep.keep h
  have hnb : ∀ {b : Nat}, ow b = none → b ≠ nb := fun {b} hb e => by rw [e, h.tn] at hb; cases hb
  have HK : Keep (∀ wx, Chg (fun j => j = nb) w.heap.size w wx → wx.cell? ⟨b1, 0, none⟩ = some (.pointer (some ⟨bF, 0, none⟩)) ∧ wx.cell? ⟨b3, 0, none⟩ = some (.pointer (some ⟨D, 0, none⟩)) ∧ wx.cell? ⟨bF, 0, none⟩ = some (.int .i64 n) ∧ Row wx D 108 (dkC nb sb vd d)) := ⟨fun wx hc => by
    refine ⟨?_, ?_, ?_, h.row.chg hc h.row.lt h.ne⟩
    · rw [hc.cell (p := ⟨b1, 0, none⟩) hb1.lt (hnb hb1.2)]; exact hb1.1
    · rw [hc.cell (p := ⟨b3, 0, none⟩) hb3.lt (hnb hb3.2)]; exact hb3.1
    · rw [hc.cell (p := ⟨bF, 0, none⟩) (World.block_lt_of_cell? w _ hF) hFn]; exact hF⟩
  have HFO : Keep (FolIn w 9 nb (fun j => if j = d.many then bF else loc j) d.now) := ⟨h.now.same (fun x hx => by
    have := h.num x (.inl hx)
    show loc x.2 = if x.2 = d.many then bF else loc x.2
    rw [if_neg (by omega)])⟩
  have hmx : max (d.many : Int) ((d.many : Int) + 1) = ((d.many + 1 : Nat) : Int) := by omega
  have HMX := Keep.keep hmx
  clear h hb1 hb2 hb3 hF hnb hmx
  go_enter Tryz.func125, Tryz.ntmps125
  go_wp2_with (first | (with_reducible refine arm_sRange ?_) | (with_reducible refine arm_sNext ?_) | (with_reducible refine arm_sDel ?_) | (with_reducible refine arm_sPut ?_) | (with_reducible refine arm_sIns ?_))
  refine StM.out ?_
  refine arm_putS Tryz.underlying9 Tryz.underlying105 HFO.out (p := p) (u := .pointer (some ⟨bF, 0, none⟩)) (by unfold maxLen; omega) (by rw [folV_len]; unfold maxLen; omega) rfl rfl rfl ?_
  intro w1 h1 hc
  have HM : Keep (FolIn w1 9 nb (fun j => if j = d.many then bF else loc j) (SM.put d.now (p, d.many))) := ⟨FolIn.put (by
    show MapS w1 9 nb (SM.put (folV (fun j => if j = d.many then bF else loc j) d.now) (p, .pointer (some ⟨if d.many = d.many then bF else loc d.many, 0, none⟩)))
    rw [if_pos rfl]; exact h1)⟩
  have HC := Keep.keep hc
  obtain ⟨k1, k3, kF, kR⟩ := HK.out w1 hc
  have kR3 : w1.cell? ⟨D, 3, none⟩ = some (.int .i64 (d.many : Int)) := kR.cell (i := 3) rfl
  have hmx := HMX.out
  have HR := Keep.keep kR
  clear h1 hc c1 c2 kR HFO
  simp only [Act.put]
  go_upto_region 1 with fail
  refine wp_region_quiet_tail_drawn 11 (by kernel_rfl) (by kernel_rfl) ?_; simp only [List.take_succ_cons, List.take_zero, List.drop_succ_cons, List.drop_zero]; (repeat (go_big_quiet_step (fail))); refine wpQuiet_nil ?_; rintro _ ⟨nq, rfl⟩
  refine wpList_world (R := fun wq => Below w1.heap.size w1 wq) (below_drewN' (Below.refl _ _) _) ?_
  intro wq HWQ
  have hrq := HR.out.below HWQ.out HR.out.lt
  have f3 := hrq.frozen 3
  have m3 : wq.cell? ⟨D, 3, none⟩ = some (.int .i64 (d.many : Int)) := hrq.cell (i := 3) rfl
  have HRQ := Keep.keep hrq
  clear hrq k1 k3 kF kR3
  go_wp2_with fail
  refine bodyPost_end (results_none rfl _ _ _) rfl ?_
  have hcs : ∀ v, Chg (fun j => j = D) wq.heap.size wq (wq.setCell ⟨D, 3, none⟩ v) := fun v => (Chg.refl (fun j => j = D) wq.heap.size wq).setCell (p := ⟨D, 3, none⟩) (.inr rfl) v
  have hw : Chg (fun j => j = D ∨ j = nb) w.heap.size w wq := (HC.out.trans ((Chg.of_below HWQ.out).lower HC.out.size)).mono (Nat.le_refl _) (fun j hj => .inr hj)
  refine ⟨rfl, ?_, ?_, hw.trans (((hcs _).lower hw.size).mono (Nat.le_refl _) (fun j hj => .inl hj))⟩
  · refine HRQ.out.set' 3 _ ?_
    show #[Value.map (some nb), .map (some sb), vd, .int .i64 ((d.many : Int) + 1), .int .i64 d.quota, .bool d.off, .int .i64 d.fuse, .bool d.done] = #[Value.map (some nb), .map (some sb), vd, .int .i64 ((d.many + 1 : Nat) : Int), .int .i64 d.quota, .bool d.off, .int .i64 d.fuse, .bool d.done]
    rw [Int.natCast_add]
    rfl
  · have hl := HM.out.lt
    exact (HM.out.loc (HWQ.out.block nb hl)).loc ((hcs _).block nb (Nat.lt_of_lt_of_le hl HWQ.out.size) (Ne.symm HH.out.ne))
theorem create_err {d : DkS} {p : Tx} {e : Int} (hf : d.find p = (none, e)) (he : e ≠ 0) : d.create p = if e ≠ 6 then (e, d) else if 8192 ≤ d.now.length then (7, d) else d.step fun x => { x with deeds := x.deeds ++ [.create p d.many], many := d.many + 1, files := setF x.files d.many ⟨[], 0⟩ } := by
  unfold DkS.create
  rw [hf]
  split
  · rename_i heq
    injection heq with _ h2
    exact absurd h2 he
  · rename_i heq
    injection heq with _ h2
    subst h2
    rfl
theorem create_there {d : DkS} {p : Tx} {f : Nat} (hf : d.find p = (some f, 0)) : d.create p = (9, d) := by
  unfold DkS.create
  rw [hf]
  split
  · rfl
  · rename_i hne heq
    injection heq with h1 h2
    exact (hne h2.symm).elim
def creD (d : DkS) (p : Tx) : DkS := ⟨setF d.files d.many ⟨[], 0⟩, d.many + 1, d.settled, d.deeds ++ [.create p d.many], d.quota, d.off, max (d.fuse - 1) (-1), d.done⟩
theorem later_cell {wq w2 : World} {j : Nat} {v : Value} (hb : Below wq.heap.size wq w2) (hc : wq.cell? ⟨j, 0, none⟩ = some v) : w2.cell? ⟨j, 0, none⟩ = some v := by
  rw [(Chg.of_below (M := fun _ => False) hb).cell (p := ⟨j, 0, none⟩) (World.block_lt_of_cell? wq _ hc) (fun e => e)]; exact hc
set_option maxHeartbeats 2000000 in
set_option maxRecDepth 100000 in
theorem create_any (hm : MayOk) {w : World} {O : Nat → Prop} {D : Nat} {d : DkS} (h : DkAt w O D d) (hz : FuseOk d) (hdl : d.deeds.length ≤ 1000000) (hmany : d.many ≤ 1000000000) (hnl : d.now.length ≤ 100000) (p : Tx) (hp : p.length ≤ 1000000) :
    Calls Tryz.prog 71 #[.pointer (some ⟨D, 0, none⟩), .string ⟨p.toArray⟩] w fun e w' => e = .returned (.int .i64 (d.create p).1) ∧ DkTo w O D (d.create p).2 w' := by
  have HAT := Keep.keep h
  obtain ⟨ow, nb, sb, loc, bv, vd, dl, h1, h2, h3, h4⟩ := h
  have HFD : Keep (∀ wq, Below w.heap.size w wq → Calls Tryz.prog 37 #[.pointer (some ⟨D, 0, none⟩), .string ⟨p.toArray⟩] wq fun e w' => e = .returned (.tuple #[.pointer ((d.find p).1.map fun f => ⟨loc f, 0, none⟩), .int .i64 (d.find p).2]) ∧ Below wq.heap.size wq w') := ⟨fun wq hb => dkfind_any hm (h1.on hb) p hp⟩
  have HON : Keep (∀ wq, Below w.heap.size w wq → DkIn wq ow D nb sb loc bv vd dl d) := ⟨fun wq hb => h1.on hb⟩
  have HDO : Keep (∀ wq (b1 b2 b3 bF : Nat), Below w.heap.size w wq → w.heap.size ≤ b1 → w.heap.size ≤ b2 → w.heap.size ≤ b3 → w.heap.size ≤ bF → b1 ≠ bF → b2 ≠ bF → b3 ≠ bF → wq.cell? ⟨b1, 0, none⟩ = some (.pointer (some ⟨bF, 0, none⟩)) → wq.cell? ⟨b2, 0, none⟩ = some (.string ⟨p.toArray⟩) → wq.cell? ⟨b3, 0, none⟩ = some (.pointer (some ⟨D, 0, none⟩)) → Row wq bF 84 #[.int .i64 (d.many : Int), .slice none 0 0, .int .i64 0] →
      Calls Tryz.prog 124 #[.pointer (some ⟨D, 0, none⟩), .func (.func 125) #[] #[.pointer (some ⟨b1, 0, none⟩), .pointer (some ⟨b2, 0, none⟩), .pointer (some ⟨b3, 0, none⟩)]] wq fun e w' => e = .returned (.int .i64 0) ∧ DkTo w O D (creD d p) w') := ⟨fun wq b1 b2 b3 bF hb g1 g2 g3 gF n1 n2 n3 c1 c2 c3 rF => by
    have l1 : b1 < wq.heap.size := World.block_lt_of_cell? wq _ c1
    have l2 : b2 < wq.heap.size := World.block_lt_of_cell? wq _ c2
    have l3 : b3 < wq.heap.size := World.block_lt_of_cell? wq _ c3
    have hq := h1.on hb
    have hsame : ∀ j, j ≠ bF → (fun j => if j = bF then some (4 + 2 * d.many) else ow j) j = ow j := fun j hj => if_neg hj
    have hmv : Mv w wq ow (fun j => if j = bF then some (4 + 2 * d.many) else ow j) (fun _ => False) := by
      refine ⟨Chg.of_below hb, fun j hj => hsame j (by omega), fun j hj => ?_⟩
      by_cases e : j = bF
      · rw [e]; exact rF.lt
      · have hj2 : (if j = bF then some (4 + 2 * d.many) else ow j).isSome = true := hj
        rw [if_neg e] at hj2
        exact hq.lt j hj2
    have hr := h1.retag hmv
    have no : ∀ {b : Nat}, w.heap.size ≤ b → b ≠ bF → (fun j => if j = bF then some (4 + 2 * d.many) else ow j) b = none := fun {b} hb1 hb2 => (hsame b hb2).trans (h1.none hb1)
    have hnow : (creD d p).now = SM.put d.now (p, d.many) := k_now_snoc (x := .create p d.many) d rfl rfl
    refine (deed_any (d2 := creD d p) hr hz hdl 125 _ (.create p d.many) (fun j => if j = d.many then bF else loc j) (fun j => if j = d.many then .slice none 0 0 else bv j) ent_create1
      ⟨b1, b2, b3, rfl, ⟨by rw [c1]; show some (Value.pointer (some ⟨bF, 0, none⟩)) = some (.pointer (some ⟨if d.many = d.many then bF else loc d.many, 0, none⟩)); rw [if_pos rfl], no g1 n1⟩, ⟨c2, no g2 n2⟩, ⟨c3, no g3 n3⟩⟩ rfl rfl (Nat.le_succ _) (fun k hk => ?_) (fun k k1 k2 => ?_) ?_ (fun n f e => ?_) (fun w1 hd hc => ?_)).mono ?_
    · have e : k ≠ d.many := by omega
      exact ⟨if_neg e, if_neg e, if_neg e⟩
    · obtain rfl : k = d.many := by have k2 : k < d.many + 1 := k2; omega
      have e1 : (fun j => if j = d.many then bF else loc j) d.many = bF := if_pos rfl
      have e2 : (fun j => if j = d.many then Value.slice none 0 0 else bv j) d.many = .slice none 0 0 := if_pos rfl
      have e3 : setF d.files d.many ⟨[], 0⟩ d.many = ⟨[], 0⟩ := if_pos rfl
      show FileAt wq _ ((fun j => if j = d.many then bF else loc j) d.many) d.many ((fun j => if j = d.many then Value.slice none 0 0 else bv j) d.many) (setF d.files d.many ⟨[], 0⟩ d.many)
      rw [e1, e2, e3]
      exact ⟨rF, Owns.nil _ _ _, if_pos rfl, fun j hj => nomatch hj⟩
    · rw [hnow]
      intro y hy
      show y.2 < d.many + 1
      rcases SM.mem_put.1 hy with rfl | ⟨hy, -⟩
      · exact Nat.lt_succ_self _
      · have := h1.num y (.inl hy); omega
    · injection e with _ e
      show f < d.many + 1
      omega
    · have hmn : d.burn.many ≤ 1000000000 := hmany
      have hD : ∀ {b : Nat}, w.heap.size ≤ b → b ≠ D := fun {b} hb1 e => by have := h1.row.lt; omega
      have hbx : ∀ {b : Nat} {v : Value}, w.heap.size ≤ b → b ≠ bF → b < wq.heap.size → wq.cell? ⟨b, 0, none⟩ = some v → BoxAt w1 (fun j => if j = bF then some (4 + 2 * d.many) else ow j) b v := fun {b v} q1 q2 q3 q4 => ⟨by rw [hc.cell (p := ⟨b, 0, none⟩) q3 (hD q1)]; exact q4, no q1 q2⟩
      refine (create1_any hd hmn hnl p hp b1 b2 b3 bF (d.many : Int) rfl (hbx g1 n1 l1 c1) (hbx g2 n2 l2 c2) (hbx g3 n3 l3 c3) ?_ (fun e => ?_)).mono ?_
      · rw [hc.cell (p := ⟨bF, 0, none⟩) rF.lt (hD gF)]; exact rF.cell (i := 0) rfl
      · have := h1.now.lt; omega
      · rintro e w2 ⟨rfl, r1, r2, r3⟩
        exact ⟨rfl, r1, by rw [hnow]; exact r2, r3⟩
    · rintro e w' ⟨rfl, ow', vd', r1, r2, r3⟩
      refine ⟨rfl, DkTo.mk r1 h2 h4 (hmv.c.mono (Nat.le_refl _) (fun j hj => by obtain ⟨t, e, hf⟩ := hj; exact hf.elim) |>.trans ((r2.lower hb.size).at (fun j hj hs => by have e : (if j = bF then some (4 + 2 * d.many) else ow j) = ow j := hmv.s j hj; have hs : (if j = bF then some (4 + 2 * d.many) else ow j).isSome = true := hs; rw [e] at hs; exact hs))) (fun j hj => (r3 j (Nat.lt_of_lt_of_le hj hb.size)).trans (hmv.s j hj)) (fun v hv j hj => ?_)⟩
      rcases List.mem_append.1 hv with hv | hv
      · exact .inl (h3 v hv j hj)
      · obtain ⟨g', t', c', e, hmm⟩ := hj
        rw [List.mem_singleton.1 hv] at e
        injection e with _ _ e
        subst e
        simp at hmm
        have hs2 := r2.size
        rcases hmm with rfl | rfl | rfl
        · exact .inr ⟨g1, by omega⟩
        · exact .inr ⟨g2, by omega⟩
        · exact .inr ⟨g3, by omega⟩⟩
  have HST : Keep (∀ f, d.step f = (0, f d.burn)) := ⟨k_step_on hz.1⟩
  clear h1 h2 h3 h4 hz hdl
  rcases find_cases d p with ⟨f, hf, hl, -⟩ | ⟨er, hf, he, -⟩
  · have HCR : Keep (d.create p = (9, d)) := ⟨create_there hf⟩
    rw [hf] at HFD
    rw [HCR.out]
    clear hf hl HDO HST HCR HON
    go_enter Tryz.func71, Tryz.ntmps71
    go_wp2_with fail
    refine calls_at (R := fun wq => Below w.heap.size w wq ∧ wq.cell? ⟨w.heap.size, 0, none⟩ = some (.pointer (some ⟨D, 0, none⟩))) ⟨below_al2 _ _ _, cell_al2a ..⟩ ?_
    intro wq HQ
    refine (HFD.out wq HQ.out.1).mono ?_
    rintro e w2 ⟨rfl, hb⟩
    have HB := Keep.keep (HQ.out.1.trans (hb.mono HQ.out.1.size))
    clear hb HQ HFD
    go_wp2_with fail
    go_ret
    exact ⟨rfl, DkTo.of HAT.out HB.out⟩
  have HCR := Keep.keep (create_err hf he)
  have hz1 : (er == 0) = false := by rw [beq_eq_false_iff_ne]; exact he
  rw [hf] at HFD
  clear hf
  go_enter Tryz.func71, Tryz.ntmps71
  go_wp2_with fail
  refine calls_at (R := fun wq => Below w.heap.size w wq ∧ wq.cell? ⟨w.heap.size, 0, none⟩ = some (.pointer (some ⟨D, 0, none⟩)) ∧ wq.cell? ⟨w.heap.size + 1, 0, none⟩ = some (.string ⟨p.toArray⟩)) ⟨below_al2 _ _ _, cell_al2a .., cell_al2b ..⟩ ?_
  intro wq HQ
  refine (HFD.out wq HQ.out.1).mono ?_
  rintro e w2 ⟨rfl, hb⟩
  have HB := Keep.keep (HQ.out.1.trans (hb.mono HQ.out.1.size))
  have k1 := later_cell hb HQ.out.2.1
  have K2 := Keep.keep (later_cell hb HQ.out.2.2)
  have K1 := Keep.keep k1
  clear hb HQ HFD
  by_cases h6 : er = 6
  rotate_left
  focus
    have hz6 : (er == 6) = false := by rw [beq_eq_false_iff_ne]; exact h6
    have hz2 : (er != 6) = true := by rw [bne, hz6]; rfl
    have HR : Keep (d.create p = (er, d)) := ⟨by rw [HCR.out, if_pos h6]⟩
    clear h6 HCR HDO HST he HON
    go_wp2_with fail
    go_ret
    rw [HR.out]
    exact ⟨rfl, DkTo.of HAT.out HB.out⟩
  subst h6
  have HCR2 : Keep (d.create p = if 8192 ≤ d.now.length then (7, d) else d.step fun x => { x with deeds := x.deeds ++ [.create p d.many], many := d.many + 1, files := setF x.files d.many ⟨[], 0⟩ }) := ⟨by rw [HCR.out, if_neg (by decide)]⟩
  have hdk := HON.out w2 HB.out
  have c0 : w2.cell? ⟨D, 0, none⟩ = some (.map (some nb)) := hdk.row.cell rfl
  have c3 : w2.cell? ⟨D, 3, none⟩ = some (.int .i64 (d.many : Int)) := hdk.row.cell rfl
  have hlen := fun ty => MapS.len Tryz.underlying105 hdk.now ty
  rw [folV_len] at hlen
  clear hdk HCR he hz1
  by_cases h8 : 8192 ≤ d.now.length
  · have HR : Keep (d.create p = (7, d)) := ⟨by rw [HCR2.out, if_pos h8]⟩
    clear HCR2 HDO HST HON
    go_wp2_with fail
    go_ret
    rw [HR.out]
    exact ⟨rfl, DkTo.of HAT.out HB.out⟩
  · have HR : Keep (d.create p = (0, creD d p)) := ⟨by rw [HCR2.out, if_neg h8, HST.out]; rfl⟩
    clear HCR2 HST HON
    go_upto_region 9 with fail
    refine wp_world (R := fun wx => Below w2.heap.size w2 wx ∧ Row wx w2.heap.size 84 #[.int .i64 (d.many : Int), .slice none 0 0, .int .i64 0] ∧ wx.cell? ⟨w2.heap.size + 1, 0, none⟩ = some (.pointer (some ⟨w2.heap.size, 0, none⟩))) ⟨below_al2 _ _ _, (Row.new w2 _ _).old _, (Row.new' (by show w2.heap.size + 1 = (w2.heap.push _).size; rw [Array.size_push]) rfl : Row _ (w2.heap.size + 1) _ #[Value.pointer (some ⟨w2.heap.size, 0, none⟩)]).cell rfl⟩ ?_
    intro w3 H3
    have q1 := later_cell H3.out.1 K1.out
    have q2 := later_cell H3.out.1 K2.out
    have hbw := HB.out.trans (H3.out.1.mono HB.out.size)
    have hs2 := HB.out.size
    have hl1 : w.heap.size < w2.heap.size := World.block_lt_of_cell? w2 _ K1.out
    have hl2 : w.heap.size + 1 < w2.heap.size := World.block_lt_of_cell? w2 _ K2.out
    have HC := Keep.keep (HDO.out w3 (w2.heap.size + 1) (w.heap.size + 1) w.heap.size w2.heap.size hbw (by omega) (Nat.le_succ _) (Nat.le_refl _) hs2 (by omega) (by omega) (by omega) H3.out.2.2 q2 q1 H3.out.2.1)
    clear hbw hs2 hl1 hl2 q2 k1 c0 c3 hlen HDO h8
    go_wp2_with fail
    refine HC.out.mono ?_
    rintro e w' ⟨rfl, hr⟩
    have HRR := Keep.keep hr
    clear hr q1 HC
    go_wp2_with fail
    go_ret
    rw [HR.out]
    exact ⟨rfl, HRR.out⟩
end Go.Proofs.YtmkofejijkabnaaGreatDoor
/- The closures of Append, Sync, Settle. -/
namespace Go.Proofs.YtmkofejijkabnaaGreatDoor
open Go.RowKit
theorem slU : SlTy Tryz.prog 28 5 (.int .u8 0) 1 := SlTy.mk' Tryz.underlying28 (by kernel_rfl) rfl
def StT (_ _ : World) : Prop := True
def a1T (W : World) (F : Nat) (vb mv : Value) (l : List UInt8) : Nat → Value → World → Prop
  | 0, v, _ => v = .pointer (some ⟨F, 0, none⟩)
  | 1, v, _ => v = .pointer (some ⟨F, 0, none⟩)
  | 2, v, _ => v = .pointer (some ⟨F, 0, none⟩)
  | 3, v, _ => v = .pointer (some ⟨F, 1, none⟩)
  | 4, v, _ => v = vb
  | 5, v, _ => v = mv
  | 6, v, w => Owns w 0 5 v l ∧ (∀ j, v.ownBlock = some j → vb.ownBlock = some j ∨ W.heap.size ≤ j)
  | _, _, _ => True
theorem a1T_stays {W : World} {F : Nat} {vb mv : Value} {l : List UInt8} {S : World → World → Prop} (i : Nat) (v : Value) (w w' : World) (hi : i ≠ 6) (h : a1T W F vb mv l i v w) (_ : S w w') : a1T W F vb mv l i v w' := by
  rcases (by omega : i = 0 ∨ i = 1 ∨ i = 2 ∨ i = 3 ∨ i = 4 ∨ i = 5 ∨ 7 ≤ i) with rfl | rfl | rfl | rfl | rfl | rfl | h8
  · exact h
  · exact h
  · exact h
  · exact h
  · exact h
  · exact h
  · obtain ⟨k, rfl⟩ : ∃ k, i = k + 7 := ⟨i - 7, by omega⟩
    trivial
set_option maxHeartbeats 2000000 in
set_option maxRecDepth 100000 in
theorem append1_any {w : World} {ow : Own} {D nb sb : Nat} {loc : Nat → Nat} {bv : Nat → Value} {vd : Value} {dl : List Value} {d : DkS} (h : DkIn w ow D nb sb loc bv vd dl d) (k : Nat) (hk : k < d.many) (b1 b2 : Nat) (mv : Value) (l : List UInt8)
    (hb1 : BoxAt w ow b1 (.pointer (some ⟨loc k, 0, none⟩))) (hb2 : BoxAt w ow b2 mv) (hr : Reads w (fun j => j < w.heap.size ∧ ow j = none) mv l) (hlen : (d.files k).bytes.length + l.length ≤ 140737488355328) :
    Calls Tryz.prog 127 #[.pointer (some ⟨b1, 0, none⟩), .pointer (some ⟨b2, 0, none⟩)] w fun e w' => e = .returned (.tuple #[]) ∧ ∃ ow' bv', DkIn w' ow' D nb sb loc bv' vd dl (d.setFile k ⟨(d.files k).bytes ++ l, (d.files k).safe⟩) ∧ Chg (fun j => (ow j).isSome = true) w.heap.size w w' ∧ (∀ j, j < w.heap.size → ow' j = ow j) := by
  have hf := h.file k hk
  obtain ⟨F, hF⟩ : ∃ F, loc k = F := ⟨_, rfl⟩
  obtain ⟨vb, hvb⟩ : ∃ vb, bv k = vb := ⟨_, rfl⟩
  have HFD : Keep (∀ {w' : World} {v' : Value} {f' : FileS}, Chg (fun j => ow j = some (4 + 2 * k) ∨ ow j = some (5 + 2 * k)) w.heap.size w w' → Row w' F 84 #[.int .i64 (k : Int), v', .int .i64 (f'.safe : Int)] → Owns w' 0 5 v' f'.bytes → (∀ j, v'.ownBlock = some j → ow j = some (5 + 2 * k) ∨ w.heap.size ≤ j) →
      DkIn w' (fun j => if v'.ownBlock = some j then some (5 + 2 * k) else ow j) D nb sb loc (fun j => if j = k then v' else bv j) vd dl (d.setFile k f')) := ⟨fun {w' v' f'} q1 q2 q3 q4 => h.filed hk q1 (by rw [hF]; exact q2) q3 q4⟩
  rw [hF, hvb] at hf
  rw [hF] at hb1
  have HHF := Keep.keep hf; have HR := Keep.keep hr
  have hvlt : ∀ j, vb.ownBlock = some j → j < w.heap.size := fun j e => (hf.own.lt j e).2
  have HVL := Keep.keep hvlt
  have hCL : Keep (∀ wx, Chg (fun j => vb.ownBlock = some j) w.heap.size w wx → wx.cell? ⟨b1, 0, none⟩ = some (.pointer (some ⟨F, 0, none⟩)) ∧ wx.cell? ⟨b2, 0, none⟩ = some mv ∧ Row wx F 84 #[.int .i64 (k : Int), vb, .int .i64 ((d.files k).safe : Int)]) := ⟨fun wx hc => by
    refine ⟨?_, ?_, ?_⟩
    · rw [hc.cell (p := ⟨b1, 0, none⟩) hb1.lt (fun e => by have := hf.tv b1 e; rw [hb1.2] at this; cases this), hb1.1]
    · rw [hc.cell (p := ⟨b2, 0, none⟩) hb2.lt (fun e => by have := hf.tv b2 e; rw [hb2.2] at this; cases this), hb2.1]
    · exact hf.row.chg hc hf.row.lt (fun e => by have := hf.tv F e; rw [hf.t] at this; injection this; omega)⟩
  have HLEN := Keep.keep hlen
  clear h hf hb1 hb2 hr hvlt hlen hF hvb
  go_enter Tryz.func127, Tryz.ntmps127
  go_upto_region 0 with fail
  refine wp_region_spcM 7 6 [2, 3, 4, 5, 6, 7, 8] (d1C w vb) (a1T w F vb mv ((d.files k).bytes ++ l)) StT (by kernel_rfl) rfl (by decide) (by show ∀ d ∈ _, d < 11; decide) (by kernel_rfl) (by decide) (by decide) (by kernel_rfl) (by kernel_rfl) (by kernel_rfl) ⟨(Chg.refl _ _ _).drew, fun _ => (Below.refl _ _).drew⟩ (fun i v w w' hi h hs => a1T_stays (S := StT) i v w w' hi h hs) ?_ ?_ ?_
  · intro i hi hi7 b a1 wx hw7 hFr hC hT
    obtain ⟨k1, k2, k3⟩ := hCL.out wx hC.1
    have hrf : ∀ w : World, StT w w := fun w => trivial
    have t0 : a1.eval (.tmp 0) = .pointer (some ⟨b1, 0, none⟩) := (hFr.same 0 (by decide)).trans rfl
    have t1 : a1.eval (.tmp 1) = .pointer (some ⟨b2, 0, none⟩) := (hFr.same 1 (by decide)).trans rfl
    rcases (by omega : i = 0 ∨ i = 1 ∨ i = 2 ∨ i = 3 ∨ i = 4 ∨ i = 5) with rfl | rfl | rfl | rfl | rfl | rfl
    · exact spcM_read (d := 2) rfl (run_loadCell (run_isAgg_plain Tryz.underlying80 rfl) k1 t0) hC hrf rfl
    · exact spcM_read (d := 3) rfl (run_loadCell (run_isAgg_plain Tryz.underlying80 rfl) k1 t0) hC hrf rfl
    · have hx : a1.eval (.tmp 3) = .pointer (some ⟨F, 0, none⟩) := hT 1 (by decide) (by kernel_rfl)
      exact spcM_read (d := 4) rfl (by simp [execOp, hx]) hC hrf rfl
    · have hx : a1.eval (.tmp 4) = .pointer (some ⟨F, 0, none⟩) := hT 2 (by decide) (by kernel_rfl)
      exact spcM_read (d := 5) rfl (run_fieldAddr (m := 0) Tryz.underlying84 rfl (by kernel_rfl) hx) hC hrf rfl
    · have hx : a1.eval (.tmp 5) = .pointer (some ⟨F, 1, none⟩) := hT 3 (by decide) (by kernel_rfl)
      exact spcM_read (d := 6) rfl (run_loadCell (run_isAgg_plain Tryz.underlying28 rfl) (k3.cell (i := 1) rfl) hx) hC hrf rfl
    · exact spcM_read (d := 7) rfl (run_loadCell (run_isAgg_plain Tryz.underlying28 rfl) k2 t1) hC hrf rfl
  · intro a1 wx hFr hC hT
    have hs : a1.eval (.tmp 6) = vb := hT 4 (by decide) (by kernel_rfl)
    have hx : a1.eval (.tmp 7) = mv := hT 5 (by decide) (by kernel_rfl)
    have hbl := hC.2 rfl
    have hown : Owns wx 0 5 vb (d.files k).bytes := ownsRow_loc _ _ (fun j e => hbl.block j (HVL.out j e)) HHF.out.own
    obtain ⟨v', w2, hrun, ho, hg, hb⟩ := run_appB (P := Tryz.prog) (d := some 8) (tp := 28) (pos := "") (af := #[]) (g := none) (ρ := a1.eval) (s := .tmp 6) (x := .tmp 7) slU hown (HR.out.below hbl (fun j hj => hj.1)) HLEN.out (Nat.zero_le _) hs hx
    have hcg : Chg (fun j => vb.ownBlock = some j) wx.heap.size wx w2 := (Chg.refl _ _ _).grown hg (Nat.le_refl _) (fun k e => .inr e)
    refine spcM_one (d := 8) rfl hrun ⟨hC.1.trans (hcg.lower hC.1.size), fun e => by cases e⟩ trivial ⟨ho, fun j e => ?_⟩
    rcases hb with hb | hb
    · left; rw [← hb]; exact e
    · right; rw [hb] at e; injection e with e; rw [← e]; exact hbl.size
  · intro a1 w2 ha hC hT
    have t2 : slot a1 2 = .pointer (some ⟨F, 0, none⟩) := hT 0 (by decide)
    obtain ⟨ho, hov⟩ : Owns w2 0 5 (slot a1 8) ((d.files k).bytes ++ l) ∧ (∀ j, (slot a1 8).ownBlock = some j → vb.ownBlock = some j ∨ w.heap.size ≤ j) := hT 6 (by decide)
    simp only [List.foldl_cons, List.foldl_nil, t2] at ha
    have HHO := Keep.keep ho; have HOV := Keep.keep hov
    have hk3 := (hCL.out w2 hC.1).2.2
    have HC := Keep.keep hC.1
    clear hT t2 hC ho hov
    generalize slot a1 3 = x3 at *
    generalize slot a1 4 = x4 at *
    generalize slot a1 5 = x5 at *
    generalize slot a1 6 = x6 at *
    generalize slot a1 7 = x7 at *
    generalize slot a1 8 = x8 at *
    subst ha
    obtain ⟨a8, n8, c8, hv8⟩ : ∃ a8 n8 c8, x8 = .slice a8 n8 c8 := by
      obtain ⟨a8, c8, hv8, -⟩ := (ownsV_reads HHO.out).shape
      exact ⟨a8, _, c8, hv8⟩
    have HV8 := Keep.keep hv8
    rw [hv8]
    clear hv8
    simp only [Act.put, List.setIfInBounds_toArray, List.set_cons_succ, List.set_cons_zero]
    have f1 := hk3.frozen 1
    have m1 := hk3.cell (i := 1) rfl
    have HK := Keep.keep hk3
    clear hk3
    simp only [List.drop_succ_cons, List.drop_zero]
    go_wp2_with fail
    refine bodyPost_end (results_none rfl _ _ _) rfl ?_
    rw [← HV8.out]
    have hcs : Chg (fun j => j = F) w2.heap.size w2 (w2.setCell ⟨F, 1, none⟩ x8) := (Chg.refl (fun j => j = F) w2.heap.size w2).setCell (p := ⟨F, 1, none⟩) (.inr rfl) x8
    have hc0 : Chg (fun j => ow j = some (4 + 2 * k) ∨ ow j = some (5 + 2 * k)) w.heap.size w w2 := HC.out.mono (Nat.le_refl _) (fun j hj => .inr (HHF.out.tv j hj))
    have hc3 := hc0.trans ((hcs.lower hc0.size).mono (M' := fun j => ow j = some (4 + 2 * k) ∨ ow j = some (5 + 2 * k)) (Nat.le_refl _) (fun j hj => .inl (by rw [hj]; exact HHF.out.t)))
    have hov : ∀ j, x8.ownBlock = some j → ow j = some (5 + 2 * k) ∨ w.heap.size ≤ j := fun j e => (HOV.out j e).imp (HHF.out.tv j) id
    have hF8 : ∀ j, x8.ownBlock = some j → j ≠ F := fun j e hj => by
      subst hj
      rcases hov j e with e2 | e2
      · rw [HHF.out.t] at e2; injection e2; omega
      · have := HHF.out.row.lt; omega
    refine ⟨rfl, _, _, HFD.out (f' := ⟨(d.files k).bytes ++ l, (d.files k).safe⟩) hc3 (HK.out.set' 1 _ rfl) (ownsRow_loc _ _ (fun j e => hcs.block j (HHO.out.lt j e).2 (hF8 j e)) HHO.out) hov, hc3.mono (Nat.le_refl _) (fun j hj => by rcases hj with e | e <;> rw [e] <;> rfl), fun j hj => ?_⟩
    show (if x8.ownBlock = some j then _ else _) = _
    split
    · rename_i e
      rcases hov j e with e2 | e2
      · exact e2.symm
      · omega
    · rfl
set_option maxHeartbeats 2000000 in
set_option maxRecDepth 100000 in
theorem sync1_any {w : World} {ow : Own} {D nb sb : Nat} {loc : Nat → Nat} {bv : Nat → Value} {vd : Value} {dl : List Value} {d : DkS} (h : DkIn w ow D nb sb loc bv vd dl d) (k : Nat) (hk : k < d.many) (b1 : Nat) (hb1 : BoxAt w ow b1 (.pointer (some ⟨loc k, 0, none⟩))) :
    Calls Tryz.prog 133 #[.pointer (some ⟨b1, 0, none⟩)] w fun e w' => e = .returned (.tuple #[]) ∧ ∃ ow' bv', DkIn w' ow' D nb sb loc bv' vd dl (d.setFile k ⟨(d.files k).bytes, (d.files k).bytes.length⟩) ∧ Chg (fun j => (ow j).isSome = true) w.heap.size w w' ∧ (∀ j, j < w.heap.size → ow' j = ow j) := by
  have hf := h.file k hk
  obtain ⟨F, hF⟩ : ∃ F, loc k = F := ⟨_, rfl⟩
  obtain ⟨vb, hvb⟩ : ∃ vb, bv k = vb := ⟨_, rfl⟩
  have HFD : Keep (∀ {w' : World} {v' : Value} {f' : FileS}, Chg (fun j => ow j = some (4 + 2 * k) ∨ ow j = some (5 + 2 * k)) w.heap.size w w' → Row w' F 84 #[.int .i64 (k : Int), v', .int .i64 (f'.safe : Int)] → Owns w' 0 5 v' f'.bytes → (∀ j, v'.ownBlock = some j → ow j = some (5 + 2 * k) ∨ w.heap.size ≤ j) →
      DkIn w' (fun j => if v'.ownBlock = some j then some (5 + 2 * k) else ow j) D nb sb loc (fun j => if j = k then v' else bv j) vd dl (d.setFile k f')) := ⟨fun {w' v' f'} q1 q2 q3 q4 => h.filed hk q1 (by rw [hF]; exact q2) q3 q4⟩
  rw [hF, hvb] at hf
  rw [hF] at hb1
  have HHF := Keep.keep hf
  obtain ⟨va, vn, vc, hvs, hvl⟩ : ∃ va vn vc, vb = .slice va vn vc ∧ (vn : Int) = ((d.files k).bytes.length : Int) := by
    obtain ⟨a8, c8, hv8, -⟩ := (ownsV_reads hf.own).shape
    exact ⟨a8, _, c8, hv8, rfl⟩
  have HVS := Keep.keep hvs; have HVL := Keep.keep hvl
  have c1 := hb1.1
  have m1 : w.cell? ⟨F, 1, none⟩ = some (.slice va vn vc) := by rw [← hvs]; exact hf.row.cell rfl
  have m2 : w.cell? ⟨F, 2, none⟩ = some (.int .i64 ((d.files k).safe : Int)) := hf.row.cell rfl
  have f2 := hf.row.frozen 2
  clear h hf hb1 hF hvb hvs hvl
  go_enter Tryz.func133, Tryz.ntmps133
  go_upto_region 0 with fail
  refine wp_region_quiet_tail_drawn 6 (by kernel_rfl) (by kernel_rfl) ?_; simp only [List.take_succ_cons, List.take_zero, List.drop_succ_cons, List.drop_zero]; (repeat (go_big_quiet_step (fail))); refine wpQuiet_nil ?_; rintro _ ⟨nq, rfl⟩
  refine wpList_world (R := fun wq => Below w.heap.size w wq) (below_drewN' (Below.refl _ _) _) ?_
  intro wq HWQ
  have hrq := HHF.out.row.below HWQ.out HHF.out.row.lt
  have f2' := hrq.frozen 2
  have m2' := hrq.cell (i := 2) rfl
  have HRQ := Keep.keep hrq
  clear hrq c1 m1 m2 f2
  go_wp2_with fail
  refine bodyPost_end (results_none rfl _ _ _) rfl ?_
  have hcs : ∀ v, Chg (fun j => j = F) wq.heap.size wq (wq.setCell ⟨F, 2, none⟩ v) := fun v => (Chg.refl (fun j => j = F) wq.heap.size wq).setCell (p := ⟨F, 2, none⟩) (.inr rfl) v
  have hc3 := (Chg.of_below (M := fun j => ow j = some (4 + 2 * k) ∨ ow j = some (5 + 2 * k)) HWQ.out).trans (((hcs (.int .i64 (vn : Int))).lower HWQ.out.size).mono (M' := fun j => ow j = some (4 + 2 * k) ∨ ow j = some (5 + 2 * k)) (Nat.le_refl _) (fun j hj => .inl (by rw [hj]; exact HHF.out.t)))
  have hF8 : ∀ j, vb.ownBlock = some j → j ≠ F := fun j e hj => by
    subst hj
    have e2 := HHF.out.tv j e
    rw [HHF.out.t] at e2; injection e2; omega
  refine ⟨rfl, _, _, HFD.out (v' := vb) (f' := ⟨(d.files k).bytes, (d.files k).bytes.length⟩) hc3 (HRQ.out.set' 2 _ (by rw [HVL.out]; rfl)) (ownsRow_loc _ _ (fun j e => ?_) HHF.out.own) (fun j e => .inl (HHF.out.tv j e)), hc3.mono (Nat.le_refl _) (fun j hj => by rcases hj with e | e <;> rw [e] <;> rfl), fun j hj => ?_⟩
  · have hl := (HHF.out.own.lt j e).2
    exact ((hcs _).block j (Nat.lt_of_lt_of_le hl HWQ.out.size) (hF8 j e)).trans (HWQ.out.block j hl)
  · show (if vb.ownBlock = some j then _ else _) = _
    split
    · rename_i e
      exact (HHF.out.tv j e).symm
    · rfl
end Go.Proofs.YtmkofejijkabnaaGreatDoor
/- A REGION THAT DRAWS ITS ORDER, one fact an operation; operations without a slot of their own (stores) among them. -/
namespace Go.Proofs.YtmkofejijkabnaaGreatDoor
open Go.RowKit
def slO (a : Act) : Option Nat → Value
  | some d => slot a d
  | none => undef
def valO : Option Nat → Value → Value
  | some _, v => v
  | none, _ => undef
theorem wp_region_spcO {P : Program} {ops : Array Oper} {id : Nat} {Q : Exit → Act → World → Prop} {a : Act} {w : World} (D : List (Option Nat)) (C : World → Prop) (T : Nat → Value → World → Prop) (St : World → World → Prop) (hm : P.follows .mixedOrders = true)
    (hD : ops.toList.map (·.dst) = D) (hnd : ∀ i, i < D.length → ∀ j, j < D.length → D.getD i none = D.getD j none → D.getD i none ≠ none → i = j) (hds : ∀ d, some d ∈ D → d < a.tmps.size) (hB : inOrderB ops = true) (h0 : C w.drew)
    (hst : ∀ i v w w', T i v w → C w → St w w' → T i v w')
    (hs : ∀ i, i < ops.size → ∀ a1 w1, Fr a (D.filterMap (·)) a1 → C w1 → (∀ j, Region.waitsFor .any ops i j = true → T j (slO a1 (D.getD j none)) w1) →
      wpOp P ops Q i (fun a2 w2 => ∃ v, a2 = a1.put (D.getD i none) v ∧ C w2 ∧ St w1 w2 ∧ T i (valO (D.getD i none) v) w2) a1 w1)
    (he : ∀ a1 w1, a1 = (D.filterMap (·)).foldl (fun b d => b.put (some d) (slot a1 d)) a → C w1 → (∀ j, j < ops.size → T j (slO a1 (D.getD j none)) w1) → Q .normal a1 w1) : (Code.region id ops true).wp P Q a w := by
  have hlen : D.length = ops.size := by rw [← hD]; simp
  have hget : ∀ i, i < ops.size → D.getD i none ∈ D := fun i hi => by
    rw [List.getD_eq_getElem?_getD, List.getElem?_eq_getElem (by omega)]
    exact List.getElem_mem _
  refine wp_region_fr (D.filterMap (·)) (fun done s w1 => C w1 ∧ ∀ j, j < ops.size → done.getD j false = true → T j (match D.getD j none with | some d => s d | none => undef) w1) hm ⟨h0, fun j hj hd => ?_⟩ ?_ ?_
  · simp [Array.getD_eq_getD_getElem?, hj] at hd
  · intro done a1 w1 hF hI hz hcl i hi
    have hlt := ready_lt hi
    refine wpOp_mono ?_ (hs i hlt a1 w1 hF hI.1 (fun j hj => ?_))
    · rintro a2 w2 ⟨v, rfl, hC2, hb, hT⟩
      have hFr : Fr a (D.filterMap (·)) (a1.put (D.getD i none) v) := by
        cases hd : D.getD i none with
        | none => exact hF
        | some d =>
          refine hF.put d ?_ v
          rw [List.mem_filterMap]
          exact ⟨some d, hd ▸ hget i hlt, rfl⟩
      refine ⟨hFr, hC2, fun j hj hd => ?_⟩
      by_cases e : i = j
      · subst e
        cases hdi : D.getD i none with
        | none => rw [hdi] at hT; exact hT
        | some d =>
          rw [hdi] at hT
          simp only
          rw [slot_put_same _ _ _ (by rw [hF.size]; exact hds d (hdi ▸ hget i hlt))]
          exact hT
      · have hd' := (getD_set_iff hd).resolve_left e
        have hTj := hst j _ _ _ (hI.2 j hj hd') hI.1 hb
        cases hdj : D.getD j none with
        | none => rw [hdj] at hTj; exact hTj
        | some d =>
          rw [hdj] at hTj
          simp only at hTj ⊢
          cases hdi : D.getD i none with
          | none => exact hTj
          | some d' =>
            rw [slot_put_ne _ _ _ _ (fun e2 => e (hnd i (by omega) j (by omega) (by rw [hdi, hdj, e2]) (by rw [hdi]; exact fun h => by cases h)))]
            exact hTj
    · obtain ⟨e, he1, he2, he3⟩ := waits_of (Array.getElem?_eq_getElem hlt) hj
      have hdn := (ready_at hi (Array.getElem?_eq_getElem hlt)).2 e he1 he2
      rw [he3] at hdn
      have hjlt : j < ops.size := by
        rcases Nat.lt_or_ge j done.size with h | h
        · omega
        · simp [Array.getD_eq_getD_getElem?, Array.getElem?_eq_none h] at hdn
      have := hI.2 j hjlt hdn
      unfold slO
      exact this
  · intro done a1 w1 ha hI hz hr
    exact he a1 w1 ha hI.1 (fun j hj => hI.2 j hj (all_done hB hz hr j hj))
/-- an operation that yields a value at once -/
theorem spcO_val {P : Program} {ops : Array Oper} {Q : Exit → Act → World → Prop} {C : World → Prop} {T : Nat → Value → World → Prop} {St : World → World → Prop} {i d : Nat} {a1 : Act} {w1 w2 : World} {op : Op} {tp : TypeId} {pos : String} {af : Array Edge} {g : Option (Nat × Bool)} {v : Value}
    (hi : ops[i]? = some ⟨some d, op, tp, pos, af, g⟩) (hg : Region.wanted (⟨some d, op, tp, pos, af, g⟩ : Oper) (yielded ops a1.tmps) = true)
    (hr : (execOp a1.eval (⟨some d, op, tp, pos, af, g⟩ : Oper)).run P w1 = .ok (.value v) w2) (hC : C w2) (hb : St w1 w2) (hT : T i v w2) :
    wpOp P ops Q i (fun a2 w2 => ∃ v, a2 = a1.put (some d) v ∧ C w2 ∧ St w1 w2 ∧ T i (valO (some d) v) w2) a1 w1 := spcS_val hi hg hr hC hb hT
/-- an operation that calls -/
theorem spcO_call {P : Program} {ops : Array Oper} {Q : Exit → Act → World → Prop} {C : World → Prop} {T : Nat → Value → World → Prop} {St : World → World → Prop} {i d : Nat} {a1 : Act} {w1 : World} {f : FuncId} {args : Array Operand} {ts : Array TypeId} {tp : TypeId} {pos : String} {af : Array Edge} {g : Option (Nat × Bool)} {vs : Array Value}
    (hi : ops[i]? = some ⟨some d, .call ⟨.value (.func f), args, ts⟩, tp, pos, af, g⟩) (hg : Region.wanted (⟨some d, .call ⟨.value (.func f), args, ts⟩, tp, pos, af, g⟩ : Oper) (yielded ops a1.tmps) = true)
    (hent : Enters P f) (hargs : args.map a1.eval = vs) (hc : Calls P f vs w1 fun e w2 => ∃ v, e = .returned v ∧ C w2 ∧ St w1 w2 ∧ T i v w2) :
    wpOp P ops Q i (fun a2 w2 => ∃ v, a2 = a1.put (some d) v ∧ C w2 ∧ St w1 w2 ∧ T i (valO (some d) v) w2) a1 w1 := spcS_call hi hg hent hargs hc
/-- a store -/
theorem spcO_skip {P : Program} {ops : Array Oper} {Q : Exit → Act → World → Prop} {C : World → Prop} {T : Nat → Value → World → Prop} {St : World → World → Prop} {i : Nat} {a1 : Act} {w1 w2 : World} {op : Op} {tp : TypeId} {pos : String} {af : Array Edge} {g : Option (Nat × Bool)}
    (hi : ops[i]? = some ⟨none, op, tp, pos, af, g⟩) (hg : Region.wanted (⟨none, op, tp, pos, af, g⟩ : Oper) (yielded ops a1.tmps) = true)
    (hr : (execOp a1.eval (⟨none, op, tp, pos, af, g⟩ : Oper)).run P w1 = .ok .skip w2) (hC : C w2) (hb : St w1 w2) (hT : T i undef w2) :
    wpOp P ops Q i (fun a2 w2 => ∃ v, a2 = a1.put none v ∧ C w2 ∧ St w1 w2 ∧ T i (valO none v) w2) a1 w1 := by
  unfold wpOp
  rw [hi]
  simp only
  rw [if_pos hg]
  refine .inl ?_
  unfold Oper.wp
  rw [hr]
  exact ⟨undef, rfl, hC, hb, hT⟩
end Go.Proofs.YtmkofejijkabnaaGreatDoor
