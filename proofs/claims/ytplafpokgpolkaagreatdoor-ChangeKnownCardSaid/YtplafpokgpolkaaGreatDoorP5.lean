/- PARTS OF ONE PROOF, set in one file: NodeCl, SpcT, NodeClo, SMap, TarMayB, Tree, TreeGet, MapArm. Each part tells its own conditions. -/
import Derived.StillTail
import Derived.Maps.OwnSet
import Derived.Maps.Range
import Derived.Sort.KeysCollected
import Derived.Test.YtplafpokgpolkaaGreatDoorP1
import Derived.Test.YtplafpokgpolkaaGreatDoorP3
import Derived.Test.YtplafpokgpolkaaGreatDoorP4
/- slices.Clone of attributes and of bytes; tree.clone. -/
namespace Go.Proofs.YtplafpokgpolkaaGreatDoor
open Go.RowKit
theorem slAt : SlK Tryz.prog 27 97 (.agg #[.string ⟨#[]⟩, .string ⟨#[]⟩]) 2 32 := SlK.mk' Tryz.underlying27 (by kernel_rfl) rfl (by decide)
theorem slBy : SlTy Tryz.prog 28 5 (.int .u8 0) 1 := SlTy.mk' Tryz.underlying28 (by kernel_rfl) rfl
theorem nilA (p : Addr) (n cap : Nat) (w : World) : (binOp .eql 27 (.slice (some p) n cap) (.slice none 0 0)).run Tryz.prog w = .ok (.bool false) w := by kernel_rfl
theorem nilA' (w : World) : (binOp .eql 27 (.slice none 0 0) (.slice none 0 0)).run Tryz.prog w = .ok (.bool true) w := by kernel_rfl
theorem nilB (p : Addr) (n cap : Nat) (w : World) : (binOp .eql 28 (.slice (some p) n cap) (.slice none 0 0)).run Tryz.prog w = .ok (.bool false) w := by kernel_rfl
theorem nilB' (w : World) : (binOp .eql 28 (.slice none 0 0) (.slice none 0 0)).run Tryz.prog w = .ok (.bool true) w := by kernel_rfl
/-- blocks laid since B -/
def Fresh (B : Nat) (w : World) (b : Nat) : Prop := B ≤ b ∧ b < w.heap.size
theorem Fresh.mono {B B' : Nat} {w w' : World} (hB : B' ≤ B) (hs : w.heap.size ≤ w'.heap.size) (b : Nat) (h : Fresh B w b) : Fresh B' w' b := ⟨Nat.le_trans hB h.1, Nat.lt_of_lt_of_le h.2 hs⟩
set_option maxHeartbeats 1000000 in
set_option maxRecDepth 100000 in
theorem clA_own (v : Value) (l : List R2) (w : World) (hv : RdV w (· < w.heap.size) 2 v l.length (rcells l)) (hl : l.length ≤ 1000000) :
    Calls Tryz.prog 67 #[v] w fun e w' => ∃ v', e = .returned v' ∧ w'.ownsRow w.heap.size 97 2 v' l.length (rcells l) ∧ Below w.heap.size w w' := by
  obtain ⟨a, cap, rfl, h1, h2, h3⟩ := hv.shape
  have HV := Keep.keep hv
  clear hv
  unfold maxLen at h2
  obtain ⟨n, hn⟩ : ∃ n, l.length = n := ⟨_, rfl⟩
  have HN := Keep.keep hn
  rw [hn] at hl h1 HV ⊢
  clear hn
  cases a with
  | none =>
    obtain ⟨rfl, rfl⟩ : n = 0 ∧ cap = 0 := by
      rcases h3 with h3 | ⟨b, off, h3, _⟩
      · omega
      · cases h3
    have hnil := nilA'
    clear h3
    go_enter Tryz.func67, Tryz.ntmps67
    go_wp2_with fail
    go_ret
    have hl0 : l = [] := List.eq_nil_of_length_eq_zero HN.out
    refine ⟨_, rfl, ?_, Below.refl _ _⟩
    rw [hl0]
    exact World.ownsRow_nil _ _ _ _
  | some p =>
    have hnil := nilA p n cap
    clear h3
    go_enter Tryz.func67, Tryz.ntmps67
    go_wp2_with (with_reducible refine arm_stop ?_)
    refine Stopped.out ?_
    refine arm_appendV slAt (m := n) (ownsV_new (base := w.heap.size) 97 [] 2 0 w.heap.size rfl (Nat.le_refl _) rfl (by unfold maxLen; omega)) (HV.out.below ((Below.refl _ _).alloc (Nat.le_refl _) _) (fun b hb => hb)) (rcells_one l) (by unfold maxLen; omega) (by omega) (by simp) rfl rfl ?_
    intro v1 w1 ho hg hb _
    rw [Nat.zero_add, List.nil_append] at ho
    have HO := Keep.keep ho
    have HG : Keep (Below w.heap.size w w1) := ⟨((Below.refl _ _).alloc (Nat.le_refl _) (.cells [].toArray 97)).grown hg (by simp) (fun j hj => by
      simp only [Value.ownBlock, Option.some.injEq] at hj; omega)⟩
    clear ho hg hb
    obtain ⟨a1, c1, hv1, -⟩ := (ownsV_reads HO.out).shape
    subst hv1
    simp only [Act.put, List.setIfInBounds_toArray, List.set_cons_succ, List.set_cons_zero]
    go_wp2_with fail
    go_ret
    exact ⟨_, rfl, HO.out, HG.out⟩
set_option maxHeartbeats 1000000 in
set_option maxRecDepth 100000 in
theorem clB_own (v : Value) (l : Tx) (w : World) (hv : Reads w (· < w.heap.size) v l) (hl : l.length ≤ 16777216) :
    Calls Tryz.prog 99 #[v] w fun e w' => ∃ v', e = .returned v' ∧ Owns w' w.heap.size 5 v' l ∧ Below w.heap.size w w' := by
  obtain ⟨a, cap, rfl, h1, h2, h3⟩ := hv.shape
  have HV := Keep.keep hv
  clear hv
  unfold maxLen at h2
  obtain ⟨n, hn⟩ : ∃ n, l.length = n := ⟨_, rfl⟩
  have HN := Keep.keep hn
  rw [hn] at hl h1 HV ⊢
  clear hn
  cases a with
  | none =>
    obtain ⟨rfl, rfl⟩ : n = 0 ∧ cap = 0 := by
      rcases h3 with h3 | ⟨b, off, h3, _⟩
      · omega
      · cases h3
    have hnil := nilB'
    clear h3
    go_enter Tryz.func99, Tryz.ntmps99
    go_wp2_with fail
    go_ret
    have hl0 : l = [] := List.eq_nil_of_length_eq_zero HN.out
    refine ⟨_, rfl, ?_, Below.refl _ _⟩
    rw [hl0]
    exact Owns.nil _ _ _
  | some p =>
    have hnil := nilB p n cap
    clear h3
    go_enter Tryz.func99, Tryz.ntmps99
    go_wp2_with (with_reducible refine arm_stop ?_)
    refine Stopped.out ?_
    refine arm_append slBy (l := []) (m := l) (ownsV_new (base := w.heap.size) 5 [] 1 0 w.heap.size rfl (Nat.le_refl _) rfl (by unfold maxLen; omega)) (HV.out.below ((Below.refl _ _).alloc (Nat.le_refl _) _) (fun b hb => hb)) (by rw [HN.out, List.length_nil]; omega) (by simp) rfl rfl ?_
    intro v1 w1 ho hg hb
    rw [List.nil_append] at ho
    have HO := Keep.keep ho
    have HG : Keep (Below w.heap.size w w1) := ⟨((Below.refl _ _).alloc (Nat.le_refl _) (.cells [].toArray 5)).grown hg (by simp) (fun j hj => by
      simp only [Value.ownBlock, Option.some.injEq] at hj; omega)⟩
    clear ho hg hb
    obtain ⟨a1, c1, hv1, -⟩ := HO.out.reads.shape
    subst hv1
    simp only [Act.put, List.setIfInBounds_toArray, List.set_cons_succ, List.set_cons_zero]
    go_wp2_with fail
    go_ret
    exact ⟨_, rfl, HO.out, HG.out⟩
theorem clA_any (v : Value) (l : List R2) (w : World) (hv : RdV w (· < w.heap.size) 2 v l.length (rcells l)) (hl : l.length ≤ 1000000) :
    Calls Tryz.prog 67 #[v] w fun e w' => ∃ v', e = .returned v' ∧ RdV w' (Fresh w.heap.size w') 2 v' l.length (rcells l) ∧ Below w.heap.size w w' :=
  (clA_own v l w hv hl).mono (fun _ _ ⟨v', he, ho, hb⟩ => ⟨v', he, (ownsV_reads ho).mono (fun _b hb => ⟨hb.1, hb.2.1⟩), hb⟩)
theorem clB_any (v : Value) (l : Tx) (w : World) (hv : Reads w (· < w.heap.size) v l) (hl : l.length ≤ 16777216) :
    Calls Tryz.prog 99 #[v] w fun e w' => ∃ v', e = .returned v' ∧ Reads w' (Fresh w.heap.size w') v' l ∧ Below w.heap.size w w' :=
  (clB_own v l w hv hl).mono (fun _ _ ⟨v', he, ho, hb⟩ => ⟨v', he, ho.reads.mono (fun _b hb => ⟨hb.1, hb.2.1⟩), hb⟩)
end Go.Proofs.YtplafpokgpolkaaGreatDoor
/- A REGION THAT DRAWS ITS ORDER: its first n operations in any order, one fact each (as in Spc); then a tail in one forced order, walked as a list. -/
namespace Go.Proofs.YtplafpokgpolkaaGreatDoor
open Go.RowKit
theorem cnt_set (n i : Nat) (hi : i < n) (p p' : Nat → Bool) (h1 : p i = true) (h2 : p' i = false) (h3 : ∀ j, j ≠ i → p' j = p j) : (List.range n).countP p = (List.range n).countP p' + 1 := by
  induction n with
  | zero => omega
  | succ n ih =>
    rw [List.range_succ, List.countP_append, List.countP_append]
    by_cases e : i = n
    · subst e
      have : (List.range i).countP p = (List.range i).countP p' := List.countP_congr (fun j hj => by
        have : j ≠ i := by have := List.mem_range.1 hj; omega
        rw [h3 j this])
      rw [this]
      simp [h1, h2]
    · rw [ih (by omega)]
      have : p' n = p n := h3 n (fun h => e h.symm)
      simp only [List.countP_cons, this, List.countP_nil]
      omega
def headDone (n m : Nat) : Array Bool := (List.replicate n true ++ List.replicate (m - n) false).toArray
theorem wp_region_spcT {P : Program} {l : List Oper} {id : Nat} {Q : Exit → Act → World → Prop} {a : Act} {w : World} (n : Nat) (D : List Nat) (C : World → Prop) (T : Nat → Value → World → Prop) (St : World → World → Prop) (hm : P.follows .mixedOrders = true)
    (hD : (l.take n).map (·.dst) = D.map some) (hnd : D.Nodup) (hds : ∀ d ∈ D, d < a.tmps.size) (hio : inOrderB l.toArray = true) (hn : n < l.length) (hsk : Region.sinkB .any l.toArray n = true) (hch : Region.chainB .any l.toArray n = true)
    (hsq : Region.seqB .any l.toArray (l.length - n) n (headDone n l.length) = true) (h0 : C w.drew)
    (hst : ∀ i v w w', T i v w → C w → St w w' → T i v w')
    (hs : ∀ i, i < n → ∀ a1 w1, Fr a D a1 → C w1 → (∀ j, j < n → Region.waitsFor .any l.toArray i j = true → T j (slot a1 (D.getD j 0)) w1) →
      wpOp P l.toArray Q i (fun a2 w2 => ∃ v, a2 = a1.put (some (D.getD i 0)) v ∧ C w2 ∧ St w1 w2 ∧ T i v w2) a1 w1)
    (he : ∀ a1 w1, a1 = D.foldl (fun b d => b.put (some d) (slot a1 d)) a → C w1 → (∀ j, j < n → T j (slot a1 (D.getD j 0)) w1) → wpList P l.toArray Q (l.drop n) a1 w1) : (Code.region id l.toArray true).wp P Q a w := by
  have hlen : D.length = n := by have := congrArg List.length hD; simp at this; omega
  have hmem : ∀ i, i < n → D.getD i 0 ∈ D := fun i hi => by
    rw [List.getD_eq_getElem?_getD, List.getElem?_eq_getElem (by omega)]
    exact List.getElem_mem _
  have hinj : ∀ i j, i < n → j < n → D.getD i 0 = D.getD j 0 → i = j := fun i j hi hj h => by
    rw [List.getD_eq_getElem?_getD, List.getD_eq_getElem?_getD, List.getElem?_eq_getElem (by omega), List.getElem?_eq_getElem (by omega)] at h
    exact (List.getElem_inj hnd).1 h
  have hsz : l.toArray.size = l.length := by simp
  have key : ∀ (f : Nat) (done : Array Bool) (a1 : Act) (w1 : World), HeadInv .any l.toArray n done → Fr a D a1 → C w1 → (∀ j, j < n → done.getD j false = true → T j (slot a1 (D.getD j 0)) w1) →
      (List.range n).countP (fun j => !done.getD j false) = f → wpAny P .any l.toArray Q (f + (l.length - n)) done a1 w1 := by
    intro f
    induction f with
    | zero =>
      intro done a1 w1 inv hF hC hT hc
      have hall : ∀ j, j < n → done.getD j false = true := fun j hj => by
        have := List.countP_eq_zero.1 hc j (List.mem_range.2 hj)
        simpa using this
      have hdn : done = headDone n l.length := by
        have hs1 : done.size = l.length := by rw [inv.size, hsz]
        refine Array.ext (by simp [headDone, hs1]; omega) (fun j h1 h2 => ?_)
        have hj2 : j < l.length := by omega
        by_cases hj : j < n
        · have := hall j hj
          rw [Array.getD_eq_getD_getElem?, Array.getElem?_eq_getElem h1] at this
          simp only [Option.getD_some] at this
          rw [this]
          simp [headDone, hj]
        · have := inv.tail j (by omega) (by omega)
          rw [Array.getD_eq_getD_getElem?, Array.getElem?_eq_getElem h1] at this
          simp only [Option.getD_some] at this
          rw [this]
          simp [headDone, List.getElem_append, hj]
      have hw := he a1 w1 hF.eq hC (fun j hj => hT j hj (hall j hj))
      have hdl : (l.drop n).length = l.length - n := by simp
      have := wpAny_of_seq (md := .any) (ops := l.toArray) (Q' := Q) (l.drop n) n done a1 w1 (fun j => by simp [List.getElem?_drop]) (by rw [hdl, hdn]; exact hsq) hw
      rw [hdl] at this
      rwa [Nat.zero_add]
    | succ f ih =>
      intro done a1 w1 inv hF hC hT hc
      obtain ⟨j0, hj0, hu0⟩ : ∃ j0, j0 < n ∧ done.getD j0 false = false := by
        have : 0 < (List.range n).countP (fun j => !done.getD j false) := by omega
        obtain ⟨j, hj, hp⟩ := List.countP_pos_iff.1 this
        exact ⟨j, List.mem_range.1 hj, by simpa using hp⟩
      have e : f + 1 + (l.length - n) = (f + (l.length - n)) + 1 := by omega
      rw [e]
      refine ⟨fun hr => ?_, fun i hi => ?_⟩
      · have := all_done hio inv.size hr j0 (by rw [hsz]; omega)
        rw [hu0] at this; cases this
      · have hin : i < n := Nat.lt_of_not_le fun hle => tail_waits hsk hch (by rw [hsz]; exact hn) inv _ j0 rfl hj0 (getD_in (by rw [inv.size, hsz]; omega) hu0) i hle hi
        obtain ⟨hun, oi, hoi, hall⟩ := mem_ready.1 hi
        refine wpOp_mono ?_ (hs i hin a1 w1 hF hC (fun j hjn hj => ?_))
        · rintro a2 w2 ⟨v, rfl, hC2, hb, hTi⟩
          refine ih _ _ _ (inv.set hi hin) (hF.put _ (hmem i hin) v) hC2 (fun j hj hd => ?_) ?_
          · by_cases e : i = j
            · subst e
              rw [slot_put_same _ _ _ (by rw [hF.size]; exact hds _ (hmem i hin))]
              exact hTi
            · have hd' := (getD_set_iff hd).resolve_left e
              rw [slot_put_ne _ _ _ _ (fun e2 => e (hinj i j hin hj e2))]
              exact hst j _ _ _ (hT j hj hd') hC hb
          · have hisz : i < done.size := by rw [inv.size, hsz]; omega
            have := cnt_set n i hin (fun j => !done.getD j false) (fun j => !(done.setIfInBounds i true).getD j false) (by
              have := getD_both hun
              simp [this]) (by simp [Array.getD_eq_getD_getElem?, hisz]) (fun j hj => by
              have : i ≠ j := fun e => hj e.symm
              simp [Array.getD_eq_getD_getElem?, Array.getElem?_setIfInBounds_ne this])
            omega
        · obtain ⟨ed, he1, he2, he3⟩ := waits_of hoi hj
          have hdn := hall ed he1 he2
          rw [he3] at hdn
          exact hT j hjn hdn
  refine wp_region_any hm ?_
  have inv : HeadInv .any l.toArray n (Array.replicate l.toArray.size false) := by
    refine ⟨by simp, fun j oj _ hl => ?_, fun t _ ht => getD_in (by simpa using ht) (getD_replicate_false _ _)⟩
    rw [getD_replicate_false] at hl; cases hl
  have hcn : (List.range n).countP (fun j => !(Array.replicate l.toArray.size false).getD j false) = n := by
    rw [List.countP_eq_length.2 (fun j _ => by rw [getD_replicate_false]; rfl), List.length_range]
  have := key n _ a w.drew inv (Fr.refl a D) h0 (fun j hj hd => by rw [getD_replicate_false] at hd; cases hd) hcn
  rw [show n + (l.length - n) = l.toArray.size by rw [hsz]; omega] at this
  exact this
end Go.Proofs.YtplafpokgpolkaaGreatDoor
/- tree.clone: a node that lives apart. -/
namespace Go.Proofs.YtplafpokgpolkaaGreatDoor
open Go.RowKit
def zeroNd : Array Value := #[.int .i64 0, .int .u32 0, .int .u32 0, .int .u32 0, .int .i64 0, .slice none 0 0, .slice none 0 0, .string ⟨#[]⟩]
def clT (n : Nd) (B b0 : Nat) (av dv : Value) : Nat → Value → World → Prop
  | 0, v, _ => v = .pointer (some ⟨b0, 5, none⟩)
  | 1, v, _ => v = av
  | 2, v, w => w.ownsRow B 97 2 v n.attrs.length (rcells n.attrs)
  | 3, v, _ => v = .pointer (some ⟨b0, 6, none⟩)
  | 4, v, _ => v = dv
  | 5, v, w => Owns w B 5 v n.data
  | _, v, _ => v = .pointer (some ⟨b0, 5, none⟩)
theorem clT_stays {n : Nd} {B b0 : Nat} {av dv : Value} (k : Nat) (v : Value) (w w' : World) (h : clT n B b0 av dv k v w) (hb : Below w.heap.size w w') : clT n B b0 av dv k v w' := by
  unfold clT at h ⊢
  split at h
  · exact h
  · exact h
  · exact ownsRow_loc _ _ (fun b hb' => hb.block b (World.ownsRow.lt h b hb').2) h
  · exact h
  · exact h
  · exact ownsRow_loc _ _ (fun b hb' => hb.block b (World.ownsRow.lt h b hb').2) h
  · exact h
/-- a node of one's own: its slices read, and are rows of their types -/
structure NdO (w : World) (N : Nat → Prop) (n : Nd) (av dv : Value) : Prop where
  r : NdR w N n av dv
  ta : ∀ b off m cap, av = .slice (some ⟨b, off, none⟩) m cap → N b ∧ ∃ c, Row w b 97 c
  td : ∀ b off m cap, dv = .slice (some ⟨b, off, none⟩) m cap → N b ∧ ∃ c, Row w b 5 c
theorem NdO.shape {w : World} {N : Nat → Prop} {n : Nd} {av dv : Value} (h : NdO w N n av dv) : ∃ aa la ca ad ld cd, av = .slice aa la ca ∧ dv = .slice ad ld cd := by
  obtain ⟨aa, ca, e1, -⟩ := h.r.at_.shape
  obtain ⟨ad, cd, e2, -⟩ := h.r.dt.shape
  exact ⟨aa, _, ca, ad, _, cd, e1, e2⟩
theorem NdO.mono {w : World} {N N' : Nat → Prop} {n : Nd} {av dv : Value} (h : NdO w N n av dv) (hN : ∀ b, N b → N' b) : NdO w N' n av dv :=
  ⟨h.r.mono hN, fun b off m cap e => ⟨hN b (h.ta b off m cap e).1, (h.ta b off m cap e).2⟩, fun b off m cap e => ⟨hN b (h.td b off m cap e).1, (h.td b off m cap e).2⟩⟩
theorem NdO.below {N : Nat → Prop} {w w' : World} {B : Nat} {n : Nd} {av dv : Value} (h : NdO w N n av dv) (hb : Below B w w') (hN : ∀ b, N b → b < B) : NdO w' N n av dv :=
  ⟨h.r.below hb hN, fun b off m cap e => by
    obtain ⟨h1, c, h2⟩ := h.ta b off m cap e
    exact ⟨h1, c, h2.below hb (hN b h1)⟩, fun b off m cap e => by
    obtain ⟨h1, c, h2⟩ := h.td b off m cap e
    exact ⟨h1, c, h2.below hb (hN b h1)⟩⟩
theorem NdO.chg {M N : Nat → Prop} {w w' : World} {B : Nat} {n : Nd} {av dv : Value} (h : NdO w N n av dv) (hb : Chg M B w w') (hN : ∀ b, N b → b < B ∧ ¬ M b) : NdO w' N n av dv :=
  ⟨h.r.chg hb hN, fun b off m cap e => by
    obtain ⟨h1, c, h2⟩ := h.ta b off m cap e
    exact ⟨h1, c, h2.chg hb (hN b h1).1 (hN b h1).2⟩, fun b off m cap e => by
    obtain ⟨h1, c, h2⟩ := h.td b off m cap e
    exact ⟨h1, c, h2.chg hb (hN b h1).1 (hN b h1).2⟩⟩
theorem owns_typed {w : World} {base k n : Nat} {e : TypeId} {v : Value} {vs : List Value} (h : w.ownsRow base e k v n vs) : ∀ b off m cap, v = .slice (some ⟨b, off, none⟩) m cap → Fresh base w b ∧ ∃ c, Row w b e c := by
  intro b off m cap he
  rcases h.2 with ⟨h1, _⟩ | ⟨g, cap', cur, h1, h2, h3, _⟩
  · rw [h1] at he; cases he
  · rw [h1] at he
    injection he with e1 _ _; injection e1 with e1; injection e1 with e1 _ _; subst e1
    exact ⟨⟨h2, (Array.getElem?_eq_some_iff.1 h3).1⟩, cur, h3⟩
theorem NdO.ofOwn {w : World} {B : Nat} {n : Nd} {av dv : Value} (ha : w.ownsRow B 97 2 av n.attrs.length (rcells n.attrs)) (hd : Owns w B 5 dv n.data) : NdO w (Fresh B w) n av dv :=
  ⟨⟨(ownsV_reads ha).mono (fun _b hb => ⟨hb.1, hb.2.1⟩), hd.reads.mono (fun _b hb => ⟨hb.1, hb.2.1⟩)⟩, owns_typed ha, owns_typed hd⟩
set_option maxHeartbeats 2000000 in
set_option maxRecDepth 100000 in
theorem clone_own (n : Nd) (av dv : Value) (w : World) (hr : NdR w (· < w.heap.size) n av dv) (ha : n.attrs.length ≤ 1000000) (hd : n.data.length ≤ 16777216) :
    Calls Tryz.prog 58 #[.agg (ndC n av dv)] w fun e w' => ∃ av' dv', e = .returned (.agg (ndC n av' dv')) ∧ NdO w' (Fresh w.heap.size w') n av' dv' ∧ Below w.heap.size w w' := by
  have HR := Keep.keep hr
  obtain ⟨aa, ca, hav, -⟩ := hr.at_.shape
  obtain ⟨ad, cd, hdv, -⟩ := hr.dt.shape
  obtain ⟨kind, mode, uid, gid, time, attrs, data, link⟩ := n
  obtain ⟨nd, hnd⟩ : ∃ nd : Nd, (⟨kind, mode, uid, gid, time, attrs, data, link⟩ : Nd) = nd := ⟨_, rfl⟩
  have HND : Keep (nd.attrs = attrs ∧ nd.data = data ∧ (∀ x y, ndC nd x y = #[.int .i64 kind, .int .u32 mode, .int .u32 uid, .int .u32 gid, .int .i64 time, x, y, .string ⟨link.toArray⟩])) := ⟨by subst hnd; exact ⟨rfl, rfl, fun _ _ => rfl⟩⟩
  rw [hnd] at HR ⊢
  rw [HND.out.2.2]
  simp only at hav hdv ha hd
  obtain ⟨la, hla⟩ : ∃ la, attrs.length = la := ⟨_, rfl⟩
  obtain ⟨ld, hld⟩ : ∃ ld, data.length = ld := ⟨_, rfl⟩
  rw [hla] at hav ha; rw [hld] at hdv hd
  have HLA : Keep (nd.attrs.length = la) := ⟨by rw [HND.out.1]; exact hla⟩
  have HLD : Keep (nd.data.length = ld) := ⟨by rw [HND.out.2.1]; exact hld⟩
  clear hr hnd hla hld
  have HAV := Keep.keep hav; have HDV := Keep.keep hdv
  subst hav hdv
  go_enter Tryz.func58, Tryz.ntmps58
  go_upto_region 1 with fail
  refine wp_world (R := fun w1 => Hp NoM w w1 [rowA w.heap.size 30 #[.int .i64 kind, .int .u32 mode, .int .u32 uid, .int .u32 gid, .int .i64 time, .slice aa la ca, .slice ad ld cd, .string ⟨link.toArray⟩], rowA (w.heap.size + 1) 30 zeroNd]) ?_ ?_
  · refine ((Hp.begin NoM w).newRow _ _).newRow' _ _ _ _ (by simp) rfl
  intro w1 H1
  obtain ⟨b0, hb0⟩ : ∃ b0, w.heap.size = b0 := ⟨_, rfl⟩
  have HB0 := Keep.keep hb0
  have hsz1 := (H1.out.row 1 rfl).lt
  rw [hb0] at H1 hsz1 ⊢
  clear hb0
  refine wp_region_spcT 7 [3, 4, 5, 6, 7, 8, 9] (Below w1.heap.size w1) (clT nd w1.heap.size b0 (.slice aa la ca) (.slice ad ld cd)) (fun w w' => Below w.heap.size w w') (by kernel_rfl) rfl (by decide) (by show ∀ d ∈ _, d < 12; decide) (by kernel_rfl) (by decide) (by kernel_rfl) (by kernel_rfl) (by kernel_rfl) (Below.refl _ _).drew (fun i v w w' h _ hb => clT_stays i v w w' h hb) ?_ ?_
  · intro k hk a1 w2 hF hC hT
    have b1 : a1.eval (.tmp 1) = .pointer (some ⟨b0, 0, none⟩) := (hF.same 1 (by decide)).trans rfl
    have HP := H1.out.call hC
    have hkr : Below w2.heap.size w2 w2 := Below.refl _ _
    have HR2 := HR.out.below HP.below (fun b hb => hb)
    have hle : w.heap.size ≤ w2.heap.size := HP.size
    rcases (by omega : k = 0 ∨ k = 1 ∨ k = 2 ∨ k = 3 ∨ k = 4 ∨ k = 5 ∨ k = 6) with rfl | rfl | rfl | rfl | rfl | rfl | rfl
    · exact spcS_val (d := 3) rfl (wanted_none rfl) (run_fieldAddr (m := 0) Tryz.underlying30 rfl (by kernel_rfl) b1) hC hkr rfl
    · have hx : a1.eval (.tmp 3) = .pointer (some ⟨b0, 5, none⟩) := hT 0 (by decide) (by kernel_rfl)
      exact spcS_val (d := 4) rfl (wanted_none rfl) (run_loadCell (run_isAgg_plain Tryz.underlying27 rfl) ((HP.row 0 rfl).cell (i := 5) rfl) hx) hC hkr rfl
    · have hx : a1.eval (.tmp 4) = .slice aa la ca := hT 1 (by decide) (by kernel_rfl)
      refine spcS_call (d := 5) (vs := #[.slice aa la ca]) rfl (wanted_none rfl) (Go.Proofs.enters_of Tryz.func67 (by kernel_rfl) rfl) (by simp [hx]) ?_
      refine (clA_own _ nd.attrs w2 (HR2.at_.mono (fun b hb => Nat.lt_of_lt_of_le hb hle)) (by rw [HLA.out]; exact ha)).mono ?_
      rintro e wz ⟨v', rfl, hv', hb⟩
      exact ⟨_, rfl, hC.trans (hb.mono hC.size), hb, ownsV_mono hv' hC.size⟩
    · exact spcS_val (d := 6) rfl (wanted_none rfl) (run_fieldAddr (m := 0) Tryz.underlying30 rfl (by kernel_rfl) b1) hC hkr rfl
    · have hx : a1.eval (.tmp 6) = .pointer (some ⟨b0, 6, none⟩) := hT 3 (by decide) (by kernel_rfl)
      exact spcS_val (d := 7) rfl (wanted_none rfl) (run_loadCell (run_isAgg_plain Tryz.underlying28 rfl) ((HP.row 0 rfl).cell (i := 6) rfl) hx) hC hkr rfl
    · have hx : a1.eval (.tmp 7) = .slice ad ld cd := hT 4 (by decide) (by kernel_rfl)
      refine spcS_call (d := 8) (vs := #[.slice ad ld cd]) rfl (wanted_none rfl) (Go.Proofs.enters_of Tryz.func99 (by kernel_rfl) rfl) (by simp [hx]) ?_
      refine (clB_own _ nd.data w2 (HR2.dt.mono (fun b hb => Nat.lt_of_lt_of_le hb hle)) (by rw [HLD.out]; exact hd)).mono ?_
      rintro e wz ⟨v', rfl, hv', hb⟩
      exact ⟨_, rfl, hC.trans (hb.mono hC.size), hb, ownsV_mono hv' hC.size⟩
    · exact spcS_val (d := 9) rfl (wanted_none rfl) (run_fieldAddr (m := 0) Tryz.underlying30 rfl (by kernel_rfl) b1) hC hkr rfl
  · intro a1 w2 ha hC hT
    have t5 : w2.ownsRow w1.heap.size 97 2 (slot a1 5) nd.attrs.length (rcells nd.attrs) := hT 2 (by decide)
    have t8 : Owns w2 w1.heap.size 5 (slot a1 8) nd.data := hT 5 (by decide)
    have t9 : slot a1 9 = .pointer (some ⟨b0, 5, none⟩) := hT 6 (by decide)
    simp only [List.foldl_cons, List.foldl_nil, t9] at ha
    have H2 := Keep.keep (H1.out.call hC)
    generalize slot a1 3 = x3 at *
    generalize slot a1 4 = x4 at *
    generalize slot a1 5 = x5 at *
    generalize slot a1 6 = x6 at *
    generalize slot a1 7 = x7 at *
    generalize slot a1 8 = x8 at *
    obtain ⟨a5, c5, hx5, -⟩ := (ownsV_reads t5).shape
    obtain ⟨a8, c8, hx8, -⟩ := t8.reads.shape
    rw [HLA.out] at hx5; rw [HLD.out] at hx8
    have T5 := Keep.keep t5; have T8 := Keep.keep t8
    clear t5 t8 t9 hT
    subst ha
    simp only [List.drop_succ_cons, List.drop_zero]
    simp only [Act.put, List.setIfInBounds_toArray, List.set_cons_succ, List.set_cons_zero]
    subst hx5 hx8
    have hrow := H2.out.row 0 rfl
    have hc5 := hrow.cell (i := 5) rfl
    have hc6 := hrow.cell (i := 6) rfl
    have hf5 := hrow.frozen 5
    have hf6 := hrow.frozen 6
    clear hrow
    go_upto_region 2 with fail
    refine wp_world (R := fun w3 => Hp NoM w w3 [rowA b0 30 #[.int .i64 kind, .int .u32 mode, .int .u32 uid, .int .u32 gid, .int .i64 time, .slice a5 la c5, .slice a8 ld c8, .string ⟨link.toArray⟩], rowA (b0 + 1) 30 zeroNd] ∧ NdO w3 (Fresh w1.heap.size w3) nd (.slice a5 la c5) (.slice a8 ld c8)) ⟨?_, ?_⟩ ?_
    · exact (H2.out.setCell 0 rfl 5 (.slice a5 la c5) rfl).setCell 0 rfl 6 (.slice a8 ld c8) rfl
    · have hch : Chg (fun x => x = b0) w2.heap.size w2 ((w2.setCell ⟨b0, 5, none⟩ (.slice a5 la c5)).setCell ⟨b0, 6, none⟩ (.slice a8 ld c8)) :=
        Chg.setCell (M := fun x => x = b0) (Chg.setCell (M := fun x => x = b0) (.refl _ _ _) (.inr rfl) _) (.inr rfl) _
      exact (NdO.ofOwn T5.out T8.out).chg hch (fun b hb => ⟨hb.2, by have := hb.1; omega⟩) |>.mono (fun b hb => ⟨hb.1, by have := hch.size; have := hb.2; omega⟩)
    intro w3 H3
    have HSZ : Keep ((#[.int .i64 kind, .int .u32 mode, .int .u32 uid, .int .u32 gid, .int .i64 time, .slice a5 la c5, .slice a8 ld c8, .string ⟨link.toArray⟩] : Array Value).size = 8) := ⟨rfl⟩
    have HSZ2 : Keep (zeroNd.size = 8) := ⟨rfl⟩
    have HON : Keep ((#[.int .i64 kind, .int .u32 mode, .int .u32 uid, .int .u32 gid, .int .i64 time, .slice a5 la c5, .slice a8 ld c8, .string ⟨link.toArray⟩] : Array Value).all (·.oneCell') = true) := ⟨by simp [Value.oneCell']⟩
    have HRA := Keep.keep (H3.out.1.row 0 rfl)
    have HRB := Keep.keep (H3.out.1.row 1 rfl)
    clear hc5 hc6 hf5 hf6 H2 T5 T8
    go_wp2_with (first
      | ((with_reducible refine arm_loadRow HRA.out aggN HSZ.out ?_ ?_); (focus rfl); simp only [Act.put, List.setIfInBounds_toArray, List.set_cons_succ, List.set_cons_zero])
      | ((with_reducible refine arm_storeRow HRB.out aggN HSZ2.out HSZ.out HON.out ?_ ?_ ?_); (focus rfl); (focus rfl); simp only [Act.put]))
    refine bodyPost_ret (results_row (p := 2) (ty := 30) rfl (HRB.out.setRow _) aggN HSZ.out rfl) rfl ⟨.slice a5 la c5, .slice a8 ld c8, by rw [HND.out.2.2], ?_, ?_⟩
    · have hch : Chg (fun x => x = b0 + 1) w3.heap.size w3 (w3.setRow (b0 + 1) #[.int .i64 kind, .int .u32 mode, .int .u32 uid, .int .u32 gid, .int .i64 time, .slice a5 la c5, .slice a8 ld c8, .string ⟨link.toArray⟩]) := Chg.setRow (M := fun x => x = b0 + 1) (.refl _ _ _) (.inr rfl) _
      refine (H3.out.2.chg hch (fun b hb => ⟨hb.2, by have := hb.1; omega⟩)).mono (fun b hb => ⟨by have := hb.1; have := HB0.out; omega, by have := hch.size; have := hb.2; omega⟩)
    · have := HB0.out
      exact ((Chg.of_below (M := NoM) H3.out.1.below).setRow (.inl (by omega)) _).below (fun _ _ h => h)
theorem clone_node (n : Nd) (av dv : Value) (w : World) (hr : NdR w (· < w.heap.size) n av dv) (ha : n.attrs.length ≤ 1000000) (hd : n.data.length ≤ 16777216) :
    Calls Tryz.prog 58 #[.agg (ndC n av dv)] w fun e w' => ∃ av' dv', e = .returned (.agg (ndC n av' dv')) ∧ NdR w' (Fresh w.heap.size w') n av' dv' ∧ Below w.heap.size w w' :=
  (clone_own n av dv w hr ha hd).mono (fun _ _ ⟨a, d, he, h, hb⟩ => ⟨a, d, he, h.r, hb⟩)
end Go.Proofs.YtplafpokgpolkaaGreatDoor
/- A MAP KEYED BY TEXTS, its values whatever they are: a sorted list of keys and values stands for it. -/
namespace Go.Proofs.YtplafpokgpolkaaGreatDoor
open Go.RowKit Go.Maps Go.WideMaps
def rawE (v : Value) : Option (DataW Value × List MemPlace) := some (.held v, [])
def dSe (x : Tx × Value) : Lit × DataW Value := (.string x.1, .held x.2)
def dS (M : List (Tx × Value)) : DataW Value := .map (M.map dSe)
theorem before_lt : ∀ a b : Tx, bytesBefore a b = decide (a < b)
  | [], [] => by simp [bytesBefore]
  | [], _ :: _ => by simp [bytesBefore]
  | _ :: _, [] => by simp [bytesBefore]
  | x :: a, y :: b => by
    unfold bytesBefore
    rw [before_lt a b, Bool.eq_iff_iff]
    simp [List.cons_lt_cons_iff]
theorem insert_dS {L : List (Tx × Value)} (h : SM.Srt L) (p : Tx) (v : Value) (hn : ∀ x ∈ L, x.1 ≠ p) : DataW.insert (Lit.string p, DataW.held v) (L.map dSe) = (SM.lo L p).map dSe ++ dSe (p, v) :: (SM.hi L p).map dSe := by
  induction L with
  | nil => rfl
  | cons y r ih =>
    obtain ⟨h1, h2⟩ := List.pairwise_cons.1 h
    rw [List.map_cons]
    unfold DataW.insert
    have hb : (Lit.string p).before (dSe y).1 = decide (p < y.1) := before_lt p y.1
    rw [hb]
    by_cases e : p < y.1
    · rw [if_pos (by simpa using e)]
      have hl : SM.lo (y :: r) p = [] := by
        unfold SM.lo
        rw [List.filter_eq_nil_iff]
        intro z hz
        rcases List.mem_cons.1 hz with rfl | hz
        · simpa using tx_asymm e
        · simpa using tx_asymm (tx_trans e (h1 z hz))
      have hh : SM.hi (y :: r) p = y :: r := by
        unfold SM.hi
        rw [List.filter_eq_self]
        intro z hz
        rcases List.mem_cons.1 hz with rfl | hz
        · simpa using e
        · simpa using tx_trans e (h1 z hz)
      rw [hl, hh]; rfl
    · have e' : y.1 < p := by
        rcases tx_tri y.1 p with h | h | h
        · exact h
        · exact (hn y (by simp) h).elim
        · exact (e h).elim
      rw [if_neg (by simpa using e), ih h2 (fun x hx => hn x (by simp [hx]))]
      have hl : SM.lo (y :: r) p = y :: SM.lo r p := by unfold SM.lo; rw [List.filter_cons_of_pos (by simpa using e')]
      have hh : SM.hi (y :: r) p = SM.hi r p := by unfold SM.hi; rw [List.filter_cons_of_neg (by simpa using e)]
      rw [hl, hh]; rfl
theorem filter_dS (M : List (Tx × Value)) (p : Tx) : (M.map dSe).filter (fun x => !x.1.sameKey (.string p)) = (M.filter (fun x => x.1 != p)).map dSe := by
  rw [List.filter_map]
  rfl
theorem dS_put {M : List (Tx × Value)} (h : SM.Srt M) (p : Tx) (v : Value) : (dS M).put (.string p) (.held v) = dS (SM.put M (p, v)) := by
  unfold dS DataW.put
  simp only
  rw [filter_dS, insert_dS (h.filter _) p v (fun x hx => by simpa using (List.mem_filter.1 hx).2)]
  have h1 : SM.lo (M.filter (fun x => x.1 != p)) p = SM.lo M p := by
    unfold SM.lo
    rw [List.filter_filter]
    refine List.filter_congr (fun x _ => ?_)
    by_cases e : x.1 < p
    · have : x.1 ≠ p := fun e' => tx_irrefl _ (e' ▸ e)
      simp [e, this]
    · simp [e]
  have h2 : SM.hi (M.filter (fun x => x.1 != p)) p = SM.hi M p := by
    unfold SM.hi
    rw [List.filter_filter]
    refine List.filter_congr (fun x _ => ?_)
    by_cases e : p < x.1
    · have : x.1 ≠ p := fun e' => tx_irrefl _ (e' ▸ e)
      simp [e, this]
    · simp [e]
  rw [h1, h2]
  unfold SM.put
  rw [List.map_append, List.map_cons]
theorem dS_del (M : List (Tx × Value)) (p : Tx) : (dS M).del (.string p) = dS (M.filter (fun x => x.1 != p)) := by
  unfold dS DataW.del
  simp only
  rw [filter_dS]
theorem has_dS (M : List (Tx × Value)) (p : Tx) : Maps.has (dS M) (.string p) = (SM.look M p).isSome := by
  unfold dS
  rw [Maps.has_eq, List.any_map]
  unfold SM.look
  rw [Option.isSome_map, Bool.eq_iff_iff, List.any_eq_true, List.find?_isSome]
  rfl
theorem atKey_dS (M : List (Tx × Value)) (p : Tx) (z : DataW Value) : (dS M).atKey (.string p) z = (match SM.look M p with | some v => .held v | none => z) := by
  unfold dS DataW.atKey SM.look
  simp only
  rw [List.find?_map]
  have : ((fun q : Lit × DataW Value => q.1.sameKey (.string p)) ∘ dSe) = fun x => x.1 == p := rfl
  rw [this]
  cases M.find? (fun x => x.1 == p) <;> rfl
theorem size_dS (M : List (Tx × Value)) : Maps.size (dS M) = M.length := by simp [dS, Maps.size]
/-- block b is a map that holds M -/
structure MapS (w : World) (k : TypeId) (b : Nat) (M : List (Tx × Value)) : Prop where
  s : SM.Srt M
  l : ∀ x ∈ M, x.1.length ≤ maxLen
  o : w.ownsMap Tryz.prog k rawE b M.length (dS M)
theorem owns_tight {w : World} {k : TypeId} {b n : Nat} {M : List (Tx × Value)} (h : w.ownsMap Tryz.prog k rawE b n (dS M)) : w.ownsMap Tryz.prog k rawE b M.length (dS M) := by
  obtain ⟨es, clock, hb, F, hs, hD⟩ := h
  refine ⟨es, clock, hb, F, ?_, hD⟩
  unfold dS at hD
  injection hD with hD
  have := congrArg List.length hD
  rw [List.length_map, Go.length_sorted, List.length_map, Array.length_toList] at this
  exact Nat.le_of_eq this.symm
theorem MapS.lt {w : World} {k : TypeId} {b : Nat} {M : List (Tx × Value)} (h : MapS w k b M) : b < w.heap.size := h.o.lt
theorem MapS.loc {w w' : World} {k : TypeId} {b : Nat} {M : List (Tx × Value)} (h : MapS w k b M) (hb : w'.heap[b]? = w.heap[b]?) : MapS w' k b M := by
  obtain ⟨es, clock, h1, rest⟩ := h.o
  exact ⟨h.s, h.l, es, clock, hb.trans h1, rest⟩
section
variable {k : TypeId} (hk : Tryz.prog.underlying k = some .string)
include hk in
theorem keyS {p : Tx} (hp : p.length ≤ maxLen) : keyOf Tryz.prog k (.string ⟨p.toArray⟩) = some (.string p) := by
  have := keyOf_string_mk hk (s := ⟨p.toArray⟩) hp
  simpa using this
omit hk in
theorem MapS.made (w : World) : MapS (w.alloc (.map #[] 0)) k w.heap.size [] := ⟨SM.Srt.nil, fun _ h => (List.not_mem_nil h).elim, World.ownsMap_made _ _ _ _⟩
variable {t e : TypeId} (ht : Tryz.prog.underlying t = some (.map k e))
include hk ht
set_option maxRecDepth 100000 in
theorem MapS.lookOk {w : World} {b : Nat} {M : List (Tx × Value)} (h : MapS w k b M) {z : Value} (hz : (zeroValue e).run Tryz.prog w = .ok z w) {p : Tx} (hp : p.length ≤ maxLen) :
    (Instr.lookup t (.map (some b)) (.string ⟨p.toArray⟩) true).run Tryz.prog w = .ok (.tuple #[(SM.look M p).getD z, .bool (SM.look M p).isSome]) w := by
  obtain ⟨v, ps, hr, hv⟩ := h.o.look_ok (string_keyed hk) ht hz (zd := .held z) (zp := []) rfl (keyS hk hp)
  rw [has_dS] at hr
  rw [hr, atKey_dS] at *
  unfold rawE at hv
  injection hv with hv
  injection hv with hv _
  cases hl : SM.look M p with
  | none => rw [hl] at hv; injection hv with hv; rw [hv]; rfl
  | some u => rw [hl] at hv; injection hv with hv; rw [hv]; rfl
set_option maxRecDepth 100000 in
theorem MapS.look1 {w : World} {b : Nat} {M : List (Tx × Value)} (h : MapS w k b M) {z : Value} (hz : (zeroValue e).run Tryz.prog w = .ok z w) {p : Tx} (hp : p.length ≤ maxLen) :
    (Instr.lookup t (.map (some b)) (.string ⟨p.toArray⟩) false).run Tryz.prog w = .ok ((SM.look M p).getD z) w := by
  obtain ⟨v, ps, hr, hv⟩ := h.o.lookup (string_keyed hk) ht hz (zd := .held z) (zp := []) rfl (keyS hk hp)
  rw [hr, atKey_dS] at *
  unfold rawE at hv
  injection hv with hv
  injection hv with hv _
  cases hl : SM.look M p with
  | none => rw [hl] at hv; injection hv with hv; rw [hv]; rfl
  | some u => rw [hl] at hv; injection hv with hv; rw [hv]; rfl
omit hk in
theorem MapS.len {w : World} {b : Nat} {M : List (Tx × Value)} (h : MapS w k b M) (ty : TypeId) : (Builtin.len_ #[t] ty #[.map (some b)]).run Tryz.prog w = .ok (.int .i64 (M.length : Int)) w := by
  rw [h.o.len ht ty, size_dS]
set_option maxRecDepth 100000 in
theorem MapS.put {w : World} {b : Nat} {M : List (Tx × Value)} (h : MapS w k b M) {p : Tx} (hp : p.length ≤ maxLen) (hn : M.length < maxLen) (v : Value) :
    ∃ w', (Instr.mapUpdate t (.map (some b)) (.string ⟨p.toArray⟩) v).run Tryz.prog w = .ok () w' ∧ MapS w' k b (SM.put M (p, v)) ∧ Chg (fun j => j = b) w.heap.size w w' := by
  obtain ⟨w', hr, ho, hg⟩ := h.o.update (string_keyed hk) ht hn (keyS hk hp) (val := v) (d := .held v) (ps := []) rfl
  rw [dS_put h.s] at ho
  refine ⟨w', hr, ⟨h.s.put _, fun x hx => ?_, owns_tight ho⟩, ⟨hg.os, hg.tape, hg.output, hg.size, fun j hj hm => hg.block j hj (fun e => hm (by injection e))⟩⟩
  rcases SM.mem_put.1 hx with rfl | ⟨hx, _⟩
  · exact hp
  · exact h.l x hx
set_option maxRecDepth 100000 in
theorem MapS.del {w : World} {b : Nat} {M : List (Tx × Value)} (h : MapS w k b M) {p : Tx} (hp : p.length ≤ maxLen) (ty : TypeId) :
    ∃ w', (Builtin.delete_ #[t, k] ty #[.map (some b), .string ⟨p.toArray⟩]).run Tryz.prog w = .ok (.tuple #[]) w' ∧ MapS w' k b (M.filter (fun x => x.1 != p)) ∧ Chg (fun j => j = b) w.heap.size w w' := by
  obtain ⟨w', hr, ho, hm⟩ := h.o.drop (string_keyed hk) ht (keyS hk hp) ty
  rw [dS_del] at ho
  have hg := hm.grown
  exact ⟨w', hr, ⟨h.s.filter _, fun x hx => h.l x (List.mem_filter.1 hx).1, owns_tight ho⟩, ⟨hg.os, hg.tape, hg.output, hg.size, fun j hj hm => hg.block j hj (fun e => hm (by injection e))⟩⟩
end
/-- a range over such a map is under way: block r is its iterator; todo: is the key still to come? -/
structure RgS (w : World) (k : TypeId) (b r : Nat) (M : List (Tx × Value)) (todo : Tx → Bool) (cnt : Nat) : Prop where
  s : SM.Srt M
  l : ∀ x ∈ M, x.1.length ≤ maxLen
  o : ∃ n left, w.ranges Tryz.prog k rawE b r n (dS M) left cnt ∧ ∀ p : Tx, left (.string p) = todo p
theorem RgS.map {w : World} {k : TypeId} {b r : Nat} {M : List (Tx × Value)} {todo : Tx → Bool} {cnt : Nat} (h : RgS w k b r M todo cnt) : MapS w k b M := by
  obtain ⟨n, left, ho, _⟩ := h.o
  exact ⟨h.s, h.l, owns_tight ho.owns⟩
theorem RgS.loc {w w' : World} {k : TypeId} {b r : Nat} {M : List (Tx × Value)} {todo : Tx → Bool} {cnt : Nat} (h : RgS w k b r M todo cnt) (hb : w'.heap[b]? = w.heap[b]?) (hr : w'.heap[r]? = w.heap[r]?) : RgS w' k b r M todo cnt := by
  obtain ⟨n, left, ⟨es, clock, since, seen, c0, h1, h2, h3, h4, h5, h6⟩, ht⟩ := h.o
  exact ⟨h.s, h.l, n, left, ⟨es, clock, since, seen, c0, hb.trans h1, h2, h3, h4, hr.trans h5, h6⟩, ht⟩
theorem RgS.lt {w : World} {k : TypeId} {b r : Nat} {M : List (Tx × Value)} {todo : Tx → Bool} {cnt : Nat} (h : RgS w k b r M todo cnt) : b < w.heap.size ∧ r < w.heap.size ∧ r ≠ b := by
  have := h.map.lt
  obtain ⟨n, left, ho, _⟩ := h.o
  exact ⟨this, ho.lt, ho.ne⟩
section
variable {k : TypeId} (hk : Tryz.prog.underlying k = some .string)
include hk
theorem MapS.range {t e : TypeId} (ht : Tryz.prog.underlying t = some (.map k e)) {w : World} {b : Nat} {M : List (Tx × Value)} (h : MapS w k b M) :
    ∃ w', (Instr.range t (.map (some b))).run Tryz.prog w = .ok (.pointer (some ⟨w.heap.size, 0, none⟩)) w' ∧ RgS w' k b w.heap.size M (fun p => (SM.look M p).isSome) M.length ∧ Below w.heap.size w w' ∧ w'.heap.size = w.heap.size + 1 := by
  obtain ⟨w', hr, ho, hg, hs⟩ := h.o.range (string_keyed hk) ht
  refine ⟨w', hr, ⟨h.s, h.l, _, _, by rw [size_dS] at ho; exact ho, fun p => has_dS M p⟩, ⟨hg.os, hg.tape, hg.output, hg.size, fun j hj => hg.block j hj (by simp)⟩, hs⟩
set_option maxRecDepth 100000 in
theorem RgS.next {w : World} {b r : Nat} {M : List (Tx × Value)} {todo : Tx → Bool} {cnt : Nat} (h : RgS w k b r M todo cnt) (ty : TypeId) :
    (cnt = 0 ∧ (∀ p, todo p = false) ∧ (Instr.next (.pointer (some ⟨r, 0, none⟩)) false ty).run Tryz.prog w = .ok (.tuple #[.bool false]) w) ∨
    ∃ p v w' cnt', todo p = true ∧ SM.look M p = some v ∧ (Instr.next (.pointer (some ⟨r, 0, none⟩)) false ty).run Tryz.prog w = .ok (.tuple #[.bool true, .string ⟨p.toArray⟩, v]) w' ∧
      RgS w' k b r M (fun q => todo q && q != p) cnt' ∧ cnt' < cnt ∧ Chg (fun j => j = r) w.heap.size w w' ∧ w'.heap.size = w.heap.size ∧ (Instr.entry (.pointer (some ⟨r, 0, none⟩))).run Tryz.prog w' = .ok (.tuple #[.string ⟨p.toArray⟩, v]) w' := by
  obtain ⟨n, left, ho, htd⟩ := h.o
  rcases ho.next (string_keyed hk) ty with ⟨h0, hl, hr⟩ | ⟨key, v, kl, y, w', cnt', hkey, hlk, hv, hat, hr, hrg, hlt, hg, hsz, hen⟩
  · exact .inl ⟨h0, fun p => by rw [← htd, hl], hr⟩
  · obtain ⟨p, rfl, rfl, hp⟩ := Maps.keyOf_str hk hkey
    unfold rawE at hv
    injection hv with hv
    refine .inr ⟨p, v, w', cnt', by rw [← htd]; exact hlk, ?_, hr, ⟨h.s, h.l, n, _, hrg, fun q => ?_⟩, hlt, ⟨hg.os, hg.tape, hg.output, hg.size, fun j hj hm => hg.block j hj (fun e => hm (by injection e))⟩, hsz, hen⟩
    · have h1 := hat .nil
      rw [atKey_dS, ← hv] at h1
      cases hl : SM.look M p with
      | none => rw [hl] at h1; cases h1
      | some u => rw [hl] at h1; injection h1 with h1; rw [h1]
    · simp only [htd]
      rfl
theorem RgS.del {t e : TypeId} (ht : Tryz.prog.underlying t = some (.map k e)) {w : World} {b r : Nat} {M : List (Tx × Value)} {todo : Tx → Bool} {cnt : Nat} (h : RgS w k b r M todo cnt) {p : Tx} (hp : p.length ≤ maxLen) (ty : TypeId) :
    ∃ w' cnt', (Builtin.delete_ #[t, k] ty #[.map (some b), .string ⟨p.toArray⟩]).run Tryz.prog w = .ok (.tuple #[]) w' ∧ RgS w' k b r (M.filter (fun x => x.1 != p)) (fun q => todo q && q != p) cnt' ∧ cnt' ≤ cnt ∧ Chg (fun j => j = b) w.heap.size w w' := by
  obtain ⟨n, left, ho, htd⟩ := h.o
  obtain ⟨w', cnt', hr, hrg, hle, hm⟩ := ho.drop (string_keyed hk) ht (keyS hk hp) ty
  rw [dS_del] at hrg
  have hg := hm.grown
  exact ⟨w', cnt', hr, ⟨h.s.filter _, fun x hx => h.l x (List.mem_filter.1 hx).1, n, _, hrg, fun q => by simp only [htd]; rfl⟩, hle, ⟨hg.os, hg.tape, hg.output, hg.size, fun j hj hm => hg.block j hj (fun e => hm (by injection e))⟩⟩
end
/-- what has come, when one more comes -/
theorem came_step {α : Type} {M : List (Tx × α)} (h : SM.Srt M) {todo : Tx → Bool} {p : Tx} {v : α} (hp : todo p = true) (hl : SM.look M p = some v) :
    (M.filter (fun x => !(todo x.1 && x.1 != p))).Perm (M.filter (fun x => !todo x.1) ++ [(p, v)]) := by
  refine (List.perm_ext_iff_of_nodup ?_ ?_).2 (fun x => ?_)
  · exact List.Pairwise.imp (R := fun a b : Tx × α => a.1 < b.1) (fun {a b} hab (e : a = b) => tx_irrefl a.1 (by rw [← e] at hab; exact hab)) (h.filter _)
  · have hs : SM.Srt (M.filter (fun x => !todo x.1)) := h.filter _
    have hnd := List.Pairwise.imp (R := fun a b : Tx × α => a.1 < b.1) (fun {a b} hab (e : a = b) => tx_irrefl a.1 (by rw [← e] at hab; exact hab)) hs
    refine List.nodup_append.2 ⟨hnd, by simp, fun a ha b hb e => ?_⟩
    obtain rfl : b = (p, v) := by simpa using hb
    subst e
    have := (List.mem_filter.1 ha).2
    simp [hp] at this
  · simp only [List.mem_filter, List.mem_append, List.mem_singleton]
    constructor
    · rintro ⟨hm, hx⟩
      by_cases e : x.1 = p
      · refine .inr ?_
        obtain ⟨q, u⟩ := x
        simp only at e
        subst e
        rw [h.one hm (SM.look_mem hl)]
      · refine .inl ⟨hm, ?_⟩
        simpa [e] using hx
    · rintro (⟨hm, hx⟩ | rfl)
      · refine ⟨hm, ?_⟩
        have : todo x.1 = false := by simpa using hx
        simp [this]
      · exact ⟨SM.look_mem hl, by simp⟩
theorem came_start {α : Type} (M : List (Tx × α)) : M.filter (fun x => !(SM.look M x.1).isSome) = [] := by
  rw [List.filter_eq_nil_iff]
  intro x hx
  cases hl : SM.look M x.1 with
  | none => exact absurd rfl (SM.look_none.1 hl x hx)
  | some v => simp
theorem came_all {α : Type} (M : List (Tx × α)) {todo : Tx → Bool} (h : ∀ p, todo p = false) : M.filter (fun x => !todo x.1) = M := by
  rw [List.filter_eq_self]
  intro x _
  simp [h]
/-- as assertions -/
def msA (k : TypeId) (b : Nat) (M : List (Tx × Value)) : As := ⟨fun j => j = b, fun w => MapS w k b M, fun _ _ h hp => hp.loc (h b rfl)⟩
def rgA (k : TypeId) (b r : Nat) (M : List (Tx × Value)) (todo : Tx → Bool) (cnt : Nat) : As := ⟨fun j => j = b ∨ j = r, fun w => RgS w k b r M todo cnt, fun _ _ h hp => hp.loc (h b (.inl rfl)) (h r (.inr rfl))⟩
theorem Hp.newMap {M : Nat → Prop} {w wr : World} {ls : List As} (h : Hp M w wr ls) (k : TypeId) : Hp M w (wr.alloc (.map #[] 0)) (ls ++ [msA k wr.heap.size []]) :=
  h.push _ (.of_below ((Below.refl _ _).alloc (Nat.le_refl _) _)) (MapS.made wr) (fun b hb => by have hb : b = _ := hb; subst hb; simp)
end Go.Proofs.YtplafpokgpolkaaGreatDoor
/- tar.May; tree.May. -/
namespace Go.Proofs.YtplafpokgpolkaaGreatDoor
open Go.RowKit
theorem kindT_zero (k : Int) : ((kindT k : Int) == 0) = !decide (1 ≤ k ∧ k ≤ 4) := by
  unfold kindT
  by_cases h1 : k = 1
  · subst h1; rfl
  · by_cases h2 : k = 2
    · subst h2; rfl
    · by_cases h3 : k = 3
      · subst h3; rfl
      · by_cases h4 : k = 4
        · subst h4; rfl
        · have : ¬ (1 ≤ k ∧ k ≤ 4) := by omega
          simp [h1, h2, h3, h4, this]
set_option maxHeartbeats 2000000 in
set_option maxRecDepth 100000 in
theorem may_any' (m : Mb) (av dv : Value) (hsm : Sm m) (B : Nat) (w : World) (hB : B ≤ w.heap.size) (hM : Mx B w) (hC : Cls B w) (hT : Typ B w) (hr : NdR w (· < w.heap.size) m.2 av dv) :
    Calls Tryz.prog 75 #[.agg (mbC m av dv)] w fun e w' => e = .returned (.bool (mayT m)) ∧ Below w.heap.size w w' := by
  obtain ⟨p, nd⟩ := m
  obtain ⟨kind, mode, uid, gid, time, attrs, data, link⟩ := nd
  obtain ⟨sp, sl, sd, sa, sn, sk⟩ := hsm
  simp only at sp sl sd sa sn sk
  obtain ⟨ra, rd⟩ := hr
  simp only at ra rd
  have HCL : Keep (∀ wx, Below w.heap.size w wx → Calls Tryz.prog 46 #[.string ⟨p.toArray⟩] wx fun e w' => e = .returned (.tuple #[.int .i64 (classP p).1, .string ⟨(classP p).2.toArray⟩]) ∧ Below wx.heap.size wx w') :=
    ⟨fun wx h => class_any p (by omega) B wx (Nat.le_trans hB h.size) (hM.on (h.mono hB)) (hC.on (h.mono hB))⟩
  have HMA : Keep (∀ wx, Below w.heap.size w wx → Calls Tryz.prog 116 #[av] wx fun e w' => e = .returned (.bool (mayA attrs)) ∧ Below wx.heap.size wx w') :=
    ⟨fun wx h => maya_any av attrs sa sn wx ((ra.below h (fun b hb => hb)).mono (fun b hb => Nat.lt_of_lt_of_le hb h.size))⟩
  have HML : Keep (∀ (wx : World) is, Calls Tryz.prog 117 #[.string ⟨link.toArray⟩, .bool is] wx fun e w' => e = .returned (.bool (mayL link is)) ∧ wx = w') := ⟨fun wx is => mayl_any link is wx⟩
  have HTY : Keep (∀ wx, Below w.heap.size w wx → ∃ b, wx.cell? ⟨1, 0, none⟩ = some (.map (some b)) ∧ (Instr.lookup 127 (.map (some b)) (.int .i64 kind) false).run Tryz.prog wx = .ok (.int .u8 (kindT kind : Int)) wx) := ⟨fun wx h => (hT.on (h.mono hB)).look kind sk⟩
  have HKZ := Keep.keep (kindT_zero kind)
  obtain ⟨ad, cd, hdv, hd1, hd2, -⟩ := rd.shape
  obtain ⟨aa, ca, hav, ha1, ha2, -⟩ := ra.shape
  have HMT : Keep (mayT (p, ⟨kind, mode, uid, gid, time, attrs, data, link⟩) = (decide (¬ (classP p).1 = 0) && decide (1 ≤ kind ∧ kind ≤ 4) && decide (mode ≤ 4095) && mayA attrs && mayL link (decide (kind = 3)) && decide (data.length ≤ 16777216) && (decide (kind = 2) || decide (data.length = 0)))) := ⟨rfl⟩
  generalize hmt : mayT (p, ⟨kind, mode, uid, gid, time, attrs, data, link⟩) = mt at *
  clear hmt ra rd hM hC hT hB
  generalize classP p = cp at *
  obtain ⟨cl, tg⟩ := cp
  generalize mayA attrs = ma at *
  unfold mbC strV
  simp only at HCL HMT ⊢
  go_enter Tryz.func75, Tryz.ntmps75
  go_wp2_with fail
  refine calls_at (R := fun w1 => Hp NoM w w1 [rowA w.heap.size 32 #[.string ⟨p.toArray⟩, .int .i64 kind, .int .u32 mode, .int .u32 uid, .int .u32 gid, .int .i64 time, av, dv, .string ⟨link.toArray⟩]]) ?_ ?_
  · subst hdv hav
    exact (Hp.begin NoM w).newRow _ _
  intro w1 H1
  refine (HCL.out w1 H1.out.below).mono ?_
  rintro e w2 ⟨rfl, hb2⟩
  have H2 := Keep.keep (H1.out.call hb2)
  have hrow := H2.out.row 0 rfl
  have c1 := hrow.cell (i := 1) rfl
  have c2 := hrow.cell (i := 2) rfl
  have c3 := hrow.cell (i := 3) rfl
  have c4 := hrow.cell (i := 4) rfl
  have c5 := hrow.cell (i := 5) rfl
  have c6 := hrow.cell (i := 6) rfl
  have c7 := hrow.cell (i := 7) rfl
  have c8 := hrow.cell (i := 8) rfl
  clear hrow hb2 H1
  subst hdv hav
  go_upto_region 3 with fail
  refine wp_world (R := fun w3 => Hp NoM w w3 [rowA w.heap.size 32 #[.string ⟨p.toArray⟩, .int .i64 kind, .int .u32 mode, .int .u32 uid, .int .u32 gid, .int .i64 time, .slice aa attrs.length ca, .slice ad data.length cd, .string ⟨link.toArray⟩],
    rowA w2.heap.size 30 #[.int .i64 kind, .int .u32 mode, .int .u32 uid, .int .u32 gid, .int .i64 time, .slice aa attrs.length ca, .slice ad data.length cd, .string ⟨link.toArray⟩]]) ?_ ?_
  · exact H2.out.newRow _ _
  intro w3 H3
  clear c1 c2 c3 c4 c5 c6 c7 c8
  have hrow := H3.out.row 1 rfl
  generalize w2.heap.size = T at *
  have c0 := hrow.cell (i := 0) rfl
  have c1 := hrow.cell (i := 1) rfl
  have c5 := hrow.cell (i := 5) rfl
  have c6 := hrow.cell (i := 6) rfl
  have c7 := hrow.cell (i := 7) rfl
  obtain ⟨bt, hct, hlk⟩ := HTY.out w3 H3.out.below
  clear hrow
  have HK0 := HKZ.out
  have HW : Keep (Below w.heap.size w w3) := ⟨H3.out.below⟩
  have hkz := HK0
  by_cases z0 : cl = 0
  · have hz0 : (cl == 0) = true := by rw [z0]; rfl
    have e0 : decide (¬ cl = 0) = false := by simp [z0]
    clear z0 hkz HK0
    go_wp2_with fail
    go_ret
    exact ⟨by rw [HMT.out, e0]; rfl, HW.out⟩
  have hz0 : (cl == 0) = false := by simpa using z0
  have e0 : decide (¬ cl = 0) = true := by simp [z0]
  clear z0
  by_cases z1 : 1 ≤ kind ∧ kind ≤ 4
  rotate_left
  · have e1 : decide (1 ≤ kind ∧ kind ≤ 4) = false := decide_eq_false z1
    rw [e1] at hkz HK0
    have hk1 : ((kindT kind : Int) == 0) = true := HK0
    clear hkz HK0 z1
    go_wp2_with fail
    go_ret
    exact ⟨by rw [HMT.out, e0, e1]; rfl, HW.out⟩
  have e1 : decide (1 ≤ kind ∧ kind ≤ 4) = true := decide_eq_true z1
  rw [e1] at hkz HK0
  have hk1 : ((kindT kind : Int) == 0) = false := HK0
  clear hkz HK0
  by_cases z2 : mode ≤ 4095
  rotate_left
  · have e2 : decide (mode ≤ 4095) = false := decide_eq_false z2
    have hm2 : decide (4095 < mode) = true := decide_eq_true (by omega)
    clear z2 z1
    go_wp2_with fail
    go_ret
    exact ⟨by rw [HMT.out, e0, e1, e2]; rfl, HW.out⟩
  have e2 : decide (mode ≤ 4095) = true := decide_eq_true z2
  have hm2 : decide (4095 < mode) = false := decide_eq_false (by omega)
  clear z2 z1
  have E := Keep.keep (And.intro e0 (And.intro e1 e2))
  clear e0 e1 e2
  go_wp2_with fail
  refine (HMA.out w3 HW.out).mono ?_
  rintro e w4 ⟨rfl, hb4⟩
  have H4 := Keep.keep (H3.out.call hb4)
  have HW4 := Keep.keep H4.out.below
  have hrow := H4.out.row 1 rfl
  clear c0 c1 c5 c6 c7 hct hlk hb4
  have c0 := hrow.cell (i := 0) rfl
  have c6 := hrow.cell (i := 6) rfl
  have c7 := hrow.cell (i := 7) rfl
  clear hrow
  cases ma with
  | false =>
    go_wp2_with fail
    go_ret
    exact ⟨by rw [HMT.out, E.out.1, E.out.2.1, E.out.2.2]; rfl, HW4.out⟩
  | true =>
    have h3 : (kind == 3) = decide (kind = 3) := by rw [Bool.eq_iff_iff]; simp
    have H3L := Keep.keep (HML.out w4 (decide (kind = 3)))
    obtain ⟨s3, hs3⟩ : ∃ s3, decide (kind = 3) = s3 := ⟨_, rfl⟩
    rw [hs3] at h3 H3L HMT
    clear hs3 HML
    obtain ⟨ml, hml⟩ : ∃ ml, mayL link s3 = ml := ⟨_, rfl⟩
    rw [hml] at H3L HMT
    clear hml
    go_wp2_with fail
    refine H3L.out.mono ?_
    rintro e w5 ⟨rfl, rfl⟩
    cases ml with
    | false =>
      go_wp2_with fail
      go_ret
      exact ⟨by rw [HMT.out, E.out.1, E.out.2.1, E.out.2.2]; rfl, HW4.out⟩
    | true =>
      have HM2 : Keep (mt = (decide (data.length ≤ 16777216) && (decide (kind = 2) || decide (data.length = 0)))) := ⟨by rw [HMT.out, E.out.1, E.out.2.1, E.out.2.2]; rfl⟩
      have hdl : decide ((data.length : Int) ≤ 16777216) = true := decide_eq_true (by omega)
      have hdn : decide (data.length ≤ 16777216) = true := decide_eq_true (by omega)
      have h2 : (kind == 2) = decide (kind = 2) := by rw [Bool.eq_iff_iff]; simp
      obtain ⟨s2, hs2⟩ : ∃ s2, decide (kind = 2) = s2 := ⟨_, rfl⟩
      have hz : ((data.length : Int) == 0) = decide (data.length = 0) := by rw [Bool.eq_iff_iff]; simp
      obtain ⟨z, hz2⟩ : ∃ z, decide (data.length = 0) = z := ⟨_, rfl⟩
      rw [hs2] at h2 HM2
      rw [hz2] at hz HM2
      rw [hdn] at HM2
      clear hs2 hz2 hdn HMT
      cases s2 <;> cases z
      all_goals
        go_wp2_with fail
        go_ret
        exact ⟨by rw [HM2.out]; rfl, HW4.out⟩
set_option maxHeartbeats 1000000 in
set_option maxRecDepth 100000 in
theorem tmay_any (m : Mb) (av dv : Value) (hsm : Sm m) (B : Nat) (w : World) (hB : B ≤ w.heap.size) (hM : Mx B w) (hC : Cls B w) (hT : Typ B w) (hr : NdR w (· < w.heap.size) m.2 av dv) :
    Calls Tryz.prog 57 #[.agg (mbC m av dv)] w fun e w' => e = .returned (.bool (mayM m)) ∧ Below w.heap.size w w' := by
  have HCL : Keep (∀ wx, Below w.heap.size w wx → Calls Tryz.prog 46 #[.string ⟨m.1.toArray⟩] wx fun e w' => e = .returned (.tuple #[.int .i64 (classP m.1).1, .string ⟨(classP m.1).2.toArray⟩]) ∧ Below wx.heap.size wx w') :=
    ⟨fun wx h => class_any m.1 (by have := hsm.p; omega) B wx (Nat.le_trans hB h.size) (hM.on (h.mono hB)) (hC.on (h.mono hB))⟩
  have HTM : Keep (∀ wx, Below w.heap.size w wx → Calls Tryz.prog 75 #[.agg (mbC m av dv)] wx fun e w' => e = .returned (.bool (mayT m)) ∧ Below wx.heap.size wx w') :=
    ⟨fun wx h => may_any' m av dv hsm B wx (Nat.le_trans hB h.size) (hM.on (h.mono hB)) (hC.on (h.mono hB)) (hT.on (h.mono hB)) ((hr.below h (fun b hb => hb)).mono (fun b hb => Nat.lt_of_lt_of_le hb h.size))⟩
  have HMM : Keep (mayM m = (decide ((classP m.1).1 = 1) && mayT m)) := ⟨rfl⟩
  obtain ⟨ad, cd, hdv, -⟩ := hr.dt.shape
  obtain ⟨aa, ca, hav, -⟩ := hr.at_.shape
  obtain ⟨p, nd⟩ := m
  obtain ⟨kind, mode, uid, gid, time, attrs, data, link⟩ := nd
  clear hr hM hC hT hB hsm
  simp only at hdv hav
  subst hdv hav
  have HMC : Keep (mbC (p, ⟨kind, mode, uid, gid, time, attrs, data, link⟩) (.slice aa attrs.length ca) (.slice ad data.length cd) = #[.string ⟨p.toArray⟩, .int .i64 kind, .int .u32 mode, .int .u32 uid, .int .u32 gid, .int .i64 time, .slice aa attrs.length ca, .slice ad data.length cd, .string ⟨link.toArray⟩]) := ⟨rfl⟩
  rw [HMC.out] at HTM ⊢
  generalize mayM (p, ⟨kind, mode, uid, gid, time, attrs, data, link⟩) = mm at *
  generalize mayT (p, ⟨kind, mode, uid, gid, time, attrs, data, link⟩) = mt at *
  simp only at HCL HMM
  generalize classP p = cp at *
  obtain ⟨cl, tg⟩ := cp
  simp only at HCL HMM
  go_enter Tryz.func57, Tryz.ntmps57
  go_wp2_with fail
  refine calls_at (R := fun w1 => Hp NoM w w1 [rowA w.heap.size 32 #[.string ⟨p.toArray⟩, .int .i64 kind, .int .u32 mode, .int .u32 uid, .int .u32 gid, .int .i64 time, .slice aa attrs.length ca, .slice ad data.length cd, .string ⟨link.toArray⟩]]) ((Hp.begin NoM w).newRow _ _) ?_
  intro w1 H1
  refine (HCL.out w1 H1.out.below).mono ?_
  rintro e w2 ⟨rfl, hb2⟩
  have H2 := Keep.keep (H1.out.call hb2)
  have HW := Keep.keep H2.out.below
  have HRW := Keep.keep (H2.out.row 0 rfl)
  have HSZ : Keep ((#[.string ⟨p.toArray⟩, .int .i64 kind, .int .u32 mode, .int .u32 uid, .int .u32 gid, .int .i64 time, .slice aa attrs.length ca, .slice ad data.length cd, .string ⟨link.toArray⟩] : Array Value).size = 9) := ⟨rfl⟩
  clear hb2 H1
  by_cases z0 : cl = 1
  · have hz0 : (cl == 1) = true := by rw [z0]; rfl
    have e0 : decide (cl = 1) = true := decide_eq_true z0
    rw [e0] at HMM
    clear z0 e0
    go_wp2_with (first | ((with_reducible refine arm_loadRow HRW.out aggM HSZ.out ?_ ?_); (focus rfl); simp only [Act.put, List.setIfInBounds_toArray, List.set_cons_succ, List.set_cons_zero]) | ((with_reducible refine arm_loadRowG ?_ HRW.out aggM HSZ.out ?_ ?_); (focus rfl); (focus rfl); simp only [Act.put, List.setIfInBounds_toArray, List.set_cons_succ, List.set_cons_zero]))
    refine (HTM.out w2 HW.out).mono ?_
    rintro e w3 ⟨rfl, hb3⟩
    have HW3 := Keep.keep (HW.out.trans (hb3.mono HW.out.size))
    clear hb3
    go_wp2_with fail
    go_ret
    exact ⟨by rw [HMM.out]; rfl, HW3.out⟩
  · have hz0 : (cl == 1) = false := by simpa using z0
    have e0 : decide (cl = 1) = false := decide_eq_false z0
    rw [e0] at HMM
    clear z0 e0
    go_wp2_with fail
    go_ret
    exact ⟨by rw [HMM.out]; rfl, HW.out⟩
end Go.Proofs.YtplafpokgpolkaaGreatDoor
/- A TREE in memory; none, dir, Len, Get. -/
namespace Go.Proofs.YtplafpokgpolkaaGreatDoor
open Go.RowKit
theorem cell_loc {w w' : World} {b o : Nat} (h : w'.heap[b]? = w.heap[b]?) : w'.cell? ⟨b, o, none⟩ = w.cell? ⟨b, o, none⟩ := World.cell?_of_block (w := w) h
theorem Reads.loc {N : Nat → Prop} {w w' : World} {v : Value} {l : List UInt8} (h : Reads w N v l) (hb : ∀ b, N b → w'.heap[b]? = w.heap[b]?) : Reads w' N v l := by
  refine ⟨h.shape, fun b off n cap e j hj => ?_⟩
  subst e
  have := (h.blk (by have := h.len.2.1; omega)).1
  rw [cell_loc (hb b this)]
  exact h.cell b off n cap rfl j hj
theorem RdV.loc {N : Nat → Prop} {w w' : World} {k n : Nat} {v : Value} {vs : List Value} (h : RdV w N k v n vs) (hb : ∀ b, N b → w'.heap[b]? = w.heap[b]?) : RdV w' N k v n vs := by
  refine ⟨h.len, h.shape, fun b off m cap e j u hj => ?_⟩
  subst e
  have hj2 := (List.getElem?_eq_some_iff.1 hj).1
  have hn : 0 < n := by
    rcases Nat.eq_zero_or_pos n with h0 | h0
    · rw [h.len, h0] at hj2; omega
    · exact h0
  have := (h.blk (by have := h.lens.2.1; omega)).1
  rw [cell_loc (hb b this)]
  exact h.cell b off m cap rfl j u hj
theorem NdR.loc {w w' : World} {N : Nat → Prop} {n : Nd} {av dv : Value} (h : NdR w N n av dv) (hb : ∀ b, N b → w'.heap[b]? = w.heap[b]?) : NdR w' N n av dv := ⟨h.at_.loc hb, h.dt.loc hb⟩
/-- the map's entries: each node with its two slices -/
def entries (f : Tx → Value × Value) (L : List Mb) : List (Tx × Value) := L.map fun m => (m.1, .agg (ndC m.2 (f m.1).1 (f m.1).2))
structure TreeIn (w : World) (T mb : Nat) (Bk : Nat → Prop) (f : Tx → Value × Value) (L : List Mb) : Prop where
  row : Row w T 86 #[.map (some mb)]
  map : MapS w 9 mb (entries f L)
  nd : ∀ m ∈ L, NdR w Bk m.2 (f m.1).1 (f m.1).2
  sm : ∀ m ∈ L, Sm m
  ne : T ≠ mb ∧ ¬ Bk T ∧ ¬ Bk mb
theorem srt_entries {f : Tx → Value × Value} {L : List Mb} : SM.Srt (entries f L) ↔ SM.Srt L := by
  unfold SM.Srt entries
  rw [List.pairwise_map]
theorem look_entries (f : Tx → Value × Value) (L : List Mb) (p : Tx) : SM.look (entries f L) p = (SM.look L p).map fun n => .agg (ndC n (f p).1 (f p).2) := by
  unfold SM.look entries
  rw [List.find?_map]
  have : ((fun x : Tx × Value => x.1 == p) ∘ fun m : Mb => (m.1, Value.agg (ndC m.2 (f m.1).1 (f m.1).2))) = fun m => m.1 == p := rfl
  rw [this]
  cases hf : L.find? (fun m => m.1 == p) with
  | none => rfl
  | some m =>
    have : m.1 = p := by simpa using List.find?_some hf
    subst this; rfl
theorem TreeIn.srt {w : World} {T mb : Nat} {Bk : Nat → Prop} {f : Tx → Value × Value} {L : List Mb} (h : TreeIn w T mb Bk f L) : SM.Srt L := srt_entries.1 h.map.s
theorem TreeIn.loc {w w' : World} {T mb : Nat} {Bk : Nat → Prop} {f : Tx → Value × Value} {L : List Mb} (h : TreeIn w T mb Bk f L) (hb : ∀ b, (b = T ∨ b = mb ∨ Bk b) → w'.heap[b]? = w.heap[b]?) : TreeIn w' T mb Bk f L :=
  ⟨by unfold Row; rw [hb T (.inl rfl)]; exact h.row, h.map.loc (hb mb (.inr (.inl rfl))), fun m hm => (h.nd m hm).loc (fun b hbk => hb b (.inr (.inr hbk))), h.sm, h.ne⟩
/-- as an assertion -/
def trA (T mb : Nat) (Bk : Nat → Prop) (f : Tx → Value × Value) (L : List Mb) : As := ⟨fun b => b = T ∨ b = mb ∨ Bk b, fun w => TreeIn w T mb Bk f L, fun _ _ h hp => hp.loc h⟩
theorem TreeIn.look {w : World} {T mb : Nat} {Bk : Nat → Prop} {f : Tx → Value × Value} {L : List Mb} (h : TreeIn w T mb Bk f L) {p : Tx} {n : Nd} (hl : SM.look L p = some n) : NdR w Bk n (f p).1 (f p).2 ∧ Sm (p, n) :=
  ⟨h.nd _ (SM.look_mem hl), h.sm _ (SM.look_mem hl)⟩
def nd0 : Nd := ⟨0, 0, 0, 0, 0, [], [], []⟩
def ndDir : Nd := ⟨1, 0, 0, 0, 0, [], [], []⟩
def nilV : Value := .slice none 0 0
theorem zeroN (w : World) : (zeroValue 30).run Tryz.prog w = .ok (.agg (ndC nd0 nilV nilV)) w := by kernel_rfl
def dirT (L : List Mb) (p : Tx) : Bool := p.isEmpty || (match SM.look L p with | some n => n.kind == 1 | none => false)
def getT (L : List Mb) (p : Tx) : Nd × Bool := if p = [] then (ndDir, true) else match SM.look L p with | some n => (n, true) | none => (nd0, false)
theorem look_node (f : Tx → Value × Value) (L : List Mb) (p : Tx) : ∃ n av dv, (SM.look (entries f L) p).getD (.agg (ndC nd0 nilV nilV)) = .agg (ndC n av dv) ∧ n = (SM.look L p).getD nd0 ∧ (∀ m, SM.look L p = some m → av = (f p).1 ∧ dv = (f p).2) ∧ (SM.look L p = none → av = nilV ∧ dv = nilV) := by
  rw [look_entries]
  cases hl : SM.look L p with
  | none => exact ⟨nd0, nilV, nilV, rfl, rfl, (fun m h => by cases h), fun _ => ⟨rfl, rfl⟩⟩
  | some n => exact ⟨n, _, _, rfl, rfl, (fun m h => ⟨rfl, rfl⟩), fun h => by cases h⟩
theorem mapNil (mb : Nat) (w : World) : (binOp .eql 84 (.map (some mb)) (.map none)).run Tryz.prog w = .ok (.bool false) w := by kernel_rfl
theorem mapNil' (w : World) : (binOp .eql 84 (.map none) (.map none)).run Tryz.prog w = .ok (.bool true) w := by kernel_rfl
theorem fieldN0 (kind mode uid gid time : Int) (av dv : Value) (link : Tx) (w : World) : (Instr.field 30 (.agg #[.int .i64 kind, .int .u32 mode, .int .u32 uid, .int .u32 gid, .int .i64 time, av, dv, .string ⟨link.toArray⟩]) 0).run Tryz.prog w = .ok (.int .i64 kind) w := by kernel_rfl
set_option maxHeartbeats 400000 in
set_option maxRecDepth 100000 in
theorem none_ok (T : Nat) (mb : Nat) (w : World) (hr : Row w T 86 #[.map (some mb)]) : Calls Tryz.prog 65 #[.pointer (some ⟨T, 0, none⟩)] w fun e w' => e = .returned (.bool false) ∧ w = w' := by
  have c0 := hr.cell (i := 0) rfl
  clear hr
  have hm := mapNil mb
  go_enter Tryz.func65, Tryz.ntmps65
  go_wp2_with fail
  go_ret
  exact ⟨rfl, rfl⟩
set_option maxHeartbeats 400000 in
set_option maxRecDepth 100000 in
theorem dir_tree (T mb : Nat) (Bk : Nat → Prop) (f : Tx → Value × Value) (L : List Mb) (w : World) (h : TreeIn w T mb Bk f L) (p : Tx) (hp : p.length ≤ 1000000) : Calls Tryz.prog 60 #[.pointer (some ⟨T, 0, none⟩), .string ⟨p.toArray⟩] w fun e w' => e = .returned (.bool (dirT L p)) ∧ w = w' := by
  have c0 := h.row.cell (i := 0) rfl
  have hlk := h.map.look1 Tryz.underlying9 Tryz.underlying84 (zeroN w) (p := p) (by unfold maxLen; omega)
  obtain ⟨n, av, dv, hn, hn2, -⟩ := look_node f L p
  rw [hn] at hlk
  have HD : Keep (dirT L p = (p.isEmpty || n.kind == 1)) := ⟨by
    unfold dirT; rw [hn2]; cases SM.look L p <;> rfl⟩
  generalize dirT L p = db at *
  clear h hn hn2
  obtain ⟨kind, mode, uid, gid, time, attrs, data, link⟩ := n
  unfold ndC strV at hlk
  simp only at hlk HD
  have hfd := fieldN0 kind mode uid gid time av dv link w
  by_cases e : p = []
  · have he : p.isEmpty = true := by rw [e]; rfl
    clear e
    go_enter Tryz.func60, Tryz.ntmps60
    go_wp2_with fail
    go_ret
    exact ⟨by rw [HD.out, he]; rfl, rfl⟩
  · have he : p.isEmpty = false := by simpa using e
    clear e
    go_enter Tryz.func60, Tryz.ntmps60
    go_wp2_with fail
    go_ret
    exact ⟨by rw [HD.out, he]; rfl, rfl⟩
end Go.Proofs.YtplafpokgpolkaaGreatDoor
/- tree.Get. -/
namespace Go.Proofs.YtplafpokgpolkaaGreatDoor
open Go.RowKit
theorem buildN0 (w : World) : (Instr.build 30 #[(0, .int .i64 1)]).run Tryz.prog w = .ok (.agg (ndC ndDir nilV nilV)) w := by kernel_rfl
theorem buildN (w : World) : (Instr.build 30 #[]).run Tryz.prog w = .ok (.agg (ndC nd0 nilV nilV)) w := by kernel_rfl
theorem ndR_nil {w : World} {N : Nat → Prop} {n : Nd} (ha : n.attrs = []) (hd : n.data = []) : NdR w N n nilV nilV := ⟨by rw [ha]; exact RdV.ofNil, by rw [hd]; exact Reads.ofNil⟩
theorem sm_nd0 {p : Tx} (hp : p.length ≤ 400000) : Sm (p, nd0) := ⟨hp, by simp [nd0], by simp [nd0], by simp [nd0], by simp [nd0], by simp [nd0]⟩
set_option maxHeartbeats 1000000 in
set_option maxRecDepth 100000 in
theorem get_tree (T mb : Nat) (Bk : Nat → Prop) (f : Tx → Value × Value) (L : List Mb) (w : World) (h : TreeIn w T mb Bk f L) (hBk : ∀ b, Bk b → b < w.heap.size) (p : Tx) (hp : p.length ≤ 1000000) :
    Calls Tryz.prog 48 #[.pointer (some ⟨T, 0, none⟩), .string ⟨p.toArray⟩] w fun e w' => ∃ av dv, e = .returned (.tuple #[.agg (ndC (getT L p).1 av dv), .bool (getT L p).2]) ∧ NdR w' (Fresh w.heap.size w') (getT L p).1 av dv ∧ Below w.heap.size w w' := by
  have HN : Keep (∀ wx, Below w.heap.size w wx → Calls Tryz.prog 65 #[.pointer (some ⟨T, 0, none⟩)] wx fun e w' => e = .returned (.bool false) ∧ wx = w') := ⟨fun wx hb => none_ok T mb wx (h.row.below hb h.row.lt)⟩
  have HZ : Keep ((ndC nd0 nilV nilV).size = 8) := ⟨rfl⟩
  by_cases e : p = []
  · have he : p.isEmpty = true := by rw [e]; rfl
    have HG : Keep (getT L p = (ndDir, true)) := ⟨by unfold getT; rw [if_pos e]⟩
    rw [HG.out]
    have hbd := buildN0
    have HON : Keep ((ndC ndDir nilV nilV).all (·.oneCell') = true) := ⟨by simp [ndC, nilV, strV, Value.oneCell']⟩
    have HSD : Keep ((ndC ndDir nilV nilV).size = 8) := ⟨rfl⟩
    clear e h hBk HG
    go_enter Tryz.func48, Tryz.ntmps48
    go_wp2_with fail
    refine calls_at (R := fun w1 => Hp NoM w w1 [rowA w.heap.size 30 (ndC nd0 nilV nilV)]) ((Hp.begin NoM w).newRow _ _) ?_
    intro w1 H1
    refine (HN.out w1 H1.out.below).mono ?_
    rintro e w' ⟨rfl, rfl⟩
    have HRW := Keep.keep (H1.out.row 0 rfl)
    go_wp2_with (first | ((with_reducible refine arm_storeRow HRW.out aggN HZ.out HSD.out HON.out ?_ ?_ ?_); (focus rfl); (focus rfl); simp only [Act.put]))
    have hch : Below w.heap.size w (w1.setRow w.heap.size (ndC ndDir nilV nilV)) := ((Chg.of_below (M := NoM) H1.out.below).setRow (.inl (Nat.le_refl _)) _).below (fun _ _ h => h)
    exact bodyPost_ret (results_row2 (p := 4) (q := 5) (ty := 30) rfl (HRW.out.setRow _) aggN HSD.out rfl rfl) rfl ⟨nilV, nilV, rfl, ndR_nil rfl rfl, hch⟩
  · have he : p.isEmpty = false := by simpa using e
    have c0 := h.row.cell (i := 0) rfl
    have HROW := Keep.keep h.row
    have hmap := h.map
    obtain ⟨n, av, dv, hn, hn2, hn3, hn4⟩ := look_node f L p
    have HLK : Keep (∀ wx, Below w.heap.size w wx → (Instr.lookup 84 (.map (some mb)) (.string ⟨p.toArray⟩) true).run Tryz.prog wx = .ok (.tuple #[.agg (ndC n av dv), .bool (SM.look L p).isSome]) wx) := ⟨fun wx hb => by
      have := (hmap.loc (hb.block mb hmap.lt)).lookOk Tryz.underlying9 Tryz.underlying84 (zeroN wx) (p := p) (by unfold maxLen; omega)
      rw [hn, look_entries, Option.isSome_map] at this
      exact this⟩
    have HG : Keep (getT L p = (n, (SM.look L p).isSome)) := ⟨by
      unfold getT; rw [if_neg e, hn2]; cases SM.look L p <;> rfl⟩
    have HNR : Keep (NdR w (· < w.heap.size) n av dv ∧ n.attrs.length ≤ 1000000 ∧ n.data.length ≤ 16777216) := ⟨by
      cases hl : SM.look L p with
      | none =>
        obtain ⟨rfl, rfl⟩ := hn4 hl
        rw [hl] at hn2
        subst hn2
        exact ⟨ndR_nil rfl rfl, by simp [nd0], by simp [nd0]⟩
      | some m =>
        obtain ⟨rfl, rfl⟩ := hn3 m hl
        rw [hl] at hn2
        obtain rfl : n = m := hn2
        have := h.look hl
        exact ⟨this.1.mono hBk, this.2.a, Nat.le_trans this.2.d (by decide)⟩⟩
    rw [HG.out]
    generalize (SM.look L p).isSome = is at *
    clear e h hBk HG hmap hn hn2 hn3 hn4
    obtain ⟨aa, ca, hav, -⟩ := HNR.out.1.at_.shape
    obtain ⟨ad, cd, hdv, -⟩ := HNR.out.1.dt.shape
    generalize n.attrs.length = la at hav
    generalize n.data.length = ld at hdv
    have HAV := Keep.keep hav; have HDV := Keep.keep hdv
    subst hav hdv
    have HCN : Keep (∀ x y, ndC n x y = #[.int .i64 n.kind, .int .u32 n.mode, .int .u32 n.uid, .int .u32 n.gid, .int .i64 n.time, x, y, .string ⟨n.link.toArray⟩]) := ⟨fun _ _ => rfl⟩
    go_enter Tryz.func48, Tryz.ntmps48
    go_wp2_with fail
    refine calls_at (R := fun w1 => Hp NoM w w1 [rowA w.heap.size 30 (ndC nd0 nilV nilV)]) ((Hp.begin NoM w).newRow _ _) ?_
    intro w1 H1
    refine (HN.out w1 H1.out.below).mono ?_
    rintro e w' ⟨rfl, rfl⟩
    have HRW := Keep.keep (H1.out.row 0 rfl)
    have hlk := HLK.out w1 H1.out.below
    have c1 : w1.cell? ⟨T, 0, none⟩ = some (.map (some mb)) := (HROW.out.below H1.out.below HROW.out.lt).cell rfl
    clear c0
    rw [HCN.out] at hlk
    go_upto_region 6 with fail
    refine wp_world (R := fun w2 => Hp NoM w w2 [rowA w.heap.size 30 (ndC nd0 nilV nilV), rowA w1.heap.size 30 (ndC n (.slice aa la ca) (.slice ad ld cd))]) (by rw [HCN.out]; exact H1.out.newRow _ _) ?_
    intro w2 H2
    have HRA := Keep.keep (H2.out.row 0 rfl)
    have HRB := Keep.keep (H2.out.row 1 rfl)
    have HNS : Keep ((ndC n (.slice aa la ca) (.slice ad ld cd)).size = 8) := ⟨rfl⟩
    generalize w1.heap.size = T1 at *
    clear hlk c1 HRW H1
    go_wp2_with (first | ((with_reducible refine arm_loadRow HRB.out aggN HNS.out ?_ ?_); (focus rfl); simp only [Act.put, List.setIfInBounds_toArray, List.set_cons_succ, List.set_cons_zero]))
    have hnr := HNR.out.1.below H2.out.below (fun b hb => hb)
    refine (clone_node n _ _ w2 (hnr.mono (fun b hb => Nat.lt_of_lt_of_le hb H2.out.size)) HNR.out.2.1 HNR.out.2.2).mono ?_
    rintro e w3 ⟨av', dv', rfl, hn3, hb3⟩
    have H3 := Keep.keep (H2.out.call hb3)
    have HN3 := Keep.keep hn3
    obtain ⟨aa', ca', hav', -⟩ := hn3.at_.shape
    obtain ⟨ad', cd', hdv', -⟩ := hn3.dt.shape
    have HON : Keep ((ndC n av' dv').all (·.oneCell') = true) := ⟨by rw [hav', hdv']; simp [ndC, strV, Value.oneCell']⟩
    have HNS' : Keep ((ndC n av' dv').size = 8) := ⟨rfl⟩
    have HRA3 := Keep.keep (H3.out.row 0 rfl)
    clear hn3 hb3 hnr hav' hdv' HRA HRB
    go_wp2_with (first | ((with_reducible refine arm_storeRow HRA3.out aggN HZ.out HNS'.out HON.out ?_ ?_ ?_); (focus rfl); (focus rfl); simp only [Act.put]))
    have hch : Below w.heap.size w (w3.setRow w.heap.size (ndC n av' dv')) := ((Chg.of_below (M := NoM) H3.out.below).setRow (.inl (Nat.le_refl _)) _).below (fun _ _ h => h)
    refine bodyPost_ret (results_row2 (p := 4) (q := 5) (ty := 30) rfl (HRA3.out.setRow _) aggN HNS'.out rfl rfl) rfl ⟨av', dv', rfl, ?_, hch⟩
    have hc2 : Chg (fun x => x = w.heap.size) w3.heap.size w3 (w3.setRow w.heap.size (ndC n av' dv')) := Chg.setRow (M := fun x => x = w.heap.size) (.refl _ _ _) (.inr rfl) _
    have hlt := H2.out.size
    have hl1 := (H2.out.row 0 rfl).lt
    exact (HN3.out.chg hc2 (fun b hb => ⟨hb.2, by have := hb.1; omega⟩)).mono (fun b hb => ⟨by have := hb.1; omega, by have := hc2.size; have := hb.2; omega⟩)
end Go.Proofs.YtplafpokgpolkaaGreatDoor
/- THE WALK AT A MAP KEYED BY TEXTS: it stops at range, next, delete and stores; what each does. -/
namespace Go.Proofs.YtplafpokgpolkaaGreatDoor
open Go.RowKit Go.Maps
/-- the walk stops here -/
inductive StM (P : Program) (ops : Array Oper) (rest : List Oper) (a : Act) (w : World) (Q : Exit → Act → World → Prop) (o : Oper) : Prop
  | mk (h : wpList P ops Q (o :: rest) a w)
section
variable {P : Program} {ops : Array Oper} {rest : List Oper} {a : Act} {w : World} {Q : Exit → Act → World → Prop} {tp t kt : TypeId} {dst : Option Tmp} {m x v : Operand} {b : Bool} {pos : String} {after : Array Edge}
theorem StM.out {o : Oper} (h : wpList P ops Q (o :: rest) a w) : StM P ops rest a w Q o := .mk h
theorem arm_sRange (h : StM P ops rest a w Q ⟨dst, .range t m, tp, pos, after, none⟩) : wpList P ops Q (⟨dst, .range t m, tp, pos, after, none⟩ :: rest) a w := by cases h; assumption
theorem arm_sNext (h : StM P ops rest a w Q ⟨dst, .next m b, tp, pos, after, none⟩) : wpList P ops Q (⟨dst, .next m b, tp, pos, after, none⟩ :: rest) a w := by cases h; assumption
theorem arm_sDel (h : StM P ops rest a w Q ⟨dst, .call ⟨.builtin .delete, #[m, x], #[t, kt]⟩, tp, pos, after, none⟩) : wpList P ops Q (⟨dst, .call ⟨.builtin .delete, #[m, x], #[t, kt]⟩, tp, pos, after, none⟩ :: rest) a w := by cases h; assumption
theorem arm_sPut (h : StM P ops rest a w Q ⟨dst, .mapUpdate t m x v, tp, pos, after, none⟩) : wpList P ops Q (⟨dst, .mapUpdate t m x v, tp, pos, after, none⟩ :: rest) a w := by cases h; assumption
theorem arm_sIns (h : StM P ops rest a w Q ⟨dst, .insert t m x v, tp, pos, after, none⟩) : wpList P ops Q (⟨dst, .insert t m x v, tp, pos, after, none⟩ :: rest) a w := by cases h; assumption
theorem wpList_run {o : Oper} {u : Value} {w' : World} (hg : o.guard = none) (hr : (execOp a.eval o).run P w = .ok (.value u) w') (h : wpList P ops Q rest (a.put o.dst u) w') : wpList P ops Q (o :: rest) a w := by
  refine wpList_plain hg fun K hK => ?_
  unfold Oper.wp
  rw [hr]
  exact hK _ _ h
/-- ARM: a load that is known -/
theorem arm_loadM {ty : TypeId} {y : Operand} {ad : Addr} {u : Value} (hr : (Instr.loadAt ty (.pointer (some ad))).run P w = .ok u w) (hx : a.eval y = .pointer (some ad)) (h : wpList P ops Q rest (a.put dst u) w) : wpList P ops Q (⟨dst, .load ty y, tp, pos, after, none⟩ :: rest) a w := by
  refine wpList_run rfl (w' := w) (u := u) ?_ h
  unfold execOp
  simp only [hx, Sem.run_bind, Sem.run_pure, Result.andThen_ok, hr]
theorem wpList_skip {o : Oper} {w' : World} (hg : o.guard = none) (hr : (execOp a.eval o).run P w = .ok .skip w') (h : wpList P ops Q rest (a.put o.dst undef) w') : wpList P ops Q (o :: rest) a w := by
  refine wpList_plain hg fun K hK => ?_
  unfold Oper.wp
  rw [hr]
  exact hK _ _ h
end
section
variable {ops : Array Oper} {rest : List Oper} {a : Act} {w : World} {Q : Exit → Act → World → Prop} {tp t k e : TypeId} {dst : Option Tmp} {m x v it : Operand} {pos : String} {after : Array Edge}
theorem arm_rangeS (hk : Tryz.prog.underlying k = some .string) (ht : Tryz.prog.underlying t = some (.map k e)) {b : Nat} {M : List (Tx × Value)} (h : MapS w k b M) (hm : a.eval m = .map (some b))
    (K : ∀ w', RgS w' k b w.heap.size M (fun p => (SM.look M p).isSome) M.length → Below w.heap.size w w' → w'.heap.size = w.heap.size + 1 → wpList Tryz.prog ops Q rest (a.put dst (.pointer (some ⟨w.heap.size, 0, none⟩))) w') :
    wpList Tryz.prog ops Q (⟨dst, .range t m, tp, pos, after, none⟩ :: rest) a w := by
  obtain ⟨w', hr, h1, h2, h3⟩ := h.range hk ht
  refine wpList_run rfl (w' := w') (u := .pointer (some ⟨w.heap.size, 0, none⟩)) ?_ (K w' h1 h2 h3)
  simp [execOp, hm, hr, Result.andThen]
theorem arm_nextS (hk : Tryz.prog.underlying k = some .string) {b r cnt : Nat} {M : List (Tx × Value)} {todo : Tx → Bool} (h : RgS w k b r M todo cnt) (hit : a.eval it = .pointer (some ⟨r, 0, none⟩))
    (hD : cnt = 0 → (∀ p, todo p = false) → wpList Tryz.prog ops Q rest (a.put dst (.tuple #[.bool false])) w)
    (hM : ∀ p v w' cnt', todo p = true → SM.look M p = some v → RgS w' k b r M (fun q => todo q && q != p) cnt' → cnt' < cnt → Chg (fun j => j = r) w.heap.size w w' → w'.heap.size = w.heap.size →
      (Instr.entry (.pointer (some ⟨r, 0, none⟩))).run Tryz.prog w' = .ok (.tuple #[.string ⟨p.toArray⟩, v]) w' → wpList Tryz.prog ops Q rest (a.put dst (.tuple #[.bool true, .string ⟨p.toArray⟩, v])) w') :
    wpList Tryz.prog ops Q (⟨dst, .next it false, tp, pos, after, none⟩ :: rest) a w := by
  rcases h.next hk tp with ⟨h0, h1, hr⟩ | ⟨p, v, w', cnt', h1, h2, hr, h3, h4, h5, h6, h7⟩
  · refine wpList_run rfl (w' := w) (u := .tuple #[.bool false]) ?_ (hD h0 h1)
    simp [execOp, hit, hr, Result.andThen]
  · refine wpList_run rfl (w' := w') (u := .tuple #[.bool true, .string ⟨p.toArray⟩, v]) ?_ (hM p v w' cnt' h1 h2 h3 h4 h5 h6 h7)
    simp [execOp, hit, hr, Result.andThen]
theorem arm_delS (hk : Tryz.prog.underlying k = some .string) (ht : Tryz.prog.underlying t = some (.map k e)) {b : Nat} {M : List (Tx × Value)} (h : MapS w k b M) {p : Tx} (hp : p.length ≤ maxLen) (hm : a.eval m = .map (some b)) (hx : a.eval x = .string ⟨p.toArray⟩)
    (K : ∀ w', MapS w' k b (M.filter (fun x => x.1 != p)) → Chg (fun j => j = b) w.heap.size w w' → wpList Tryz.prog ops Q rest (a.put dst (.tuple #[])) w') :
    wpList Tryz.prog ops Q (⟨dst, .call ⟨.builtin .delete, #[m, x], #[t, k]⟩, tp, pos, after, none⟩ :: rest) a w := by
  obtain ⟨w', hr, h1, h2⟩ := h.del hk ht hp tp
  refine wpList_run rfl (w' := w') (u := .tuple #[]) ?_ (K w' h1 h2)
  simp [execOp, resolve, invoke, builtin, hm, hx, hr, Result.andThen]
theorem arm_delR (hk : Tryz.prog.underlying k = some .string) (ht : Tryz.prog.underlying t = some (.map k e)) {b r cnt : Nat} {M : List (Tx × Value)} {todo : Tx → Bool} (h : RgS w k b r M todo cnt) {p : Tx} (hp : p.length ≤ maxLen) (hm : a.eval m = .map (some b)) (hx : a.eval x = .string ⟨p.toArray⟩)
    (K : ∀ w' cnt', RgS w' k b r (M.filter (fun x => x.1 != p)) (fun q => todo q && q != p) cnt' → cnt' ≤ cnt → Chg (fun j => j = b) w.heap.size w w' → wpList Tryz.prog ops Q rest (a.put dst (.tuple #[])) w') :
    wpList Tryz.prog ops Q (⟨dst, .call ⟨.builtin .delete, #[m, x], #[t, k]⟩, tp, pos, after, none⟩ :: rest) a w := by
  obtain ⟨w', cnt', hr, h1, h2, h3⟩ := h.del hk ht hp tp
  refine wpList_run rfl (w' := w') (u := .tuple #[]) ?_ (K w' cnt' h1 h2 h3)
  simp [execOp, resolve, invoke, builtin, hm, hx, hr, Result.andThen]
theorem arm_putS (hk : Tryz.prog.underlying k = some .string) (ht : Tryz.prog.underlying t = some (.map k e)) {b : Nat} {M : List (Tx × Value)} (h : MapS w k b M) {p : Tx} (hp : p.length ≤ maxLen) (hn : M.length < maxLen) {u : Value} (hm : a.eval m = .map (some b)) (hx : a.eval x = .string ⟨p.toArray⟩) (hv : a.eval v = u)
    (K : ∀ w', MapS w' k b (SM.put M (p, u)) → Chg (fun j => j = b) w.heap.size w w' → wpList Tryz.prog ops Q rest (a.put dst undef) w') :
    wpList Tryz.prog ops Q (⟨dst, .mapUpdate t m x v, tp, pos, after, none⟩ :: rest) a w := by
  obtain ⟨w', hr, h1, h2⟩ := h.put hk ht hp hn u
  refine wpList_skip rfl (w' := w') ?_ (K w' h1 h2)
  simp [execOp, hm, hx, hv, hr, Result.andThen]
theorem arm_insS (hk : Tryz.prog.underlying k = some .string) (ht : Tryz.prog.underlying t = some (.map k e)) {b : Nat} {M : List (Tx × Value)} (h : MapS w k b M) {p : Tx} (hp : p.length ≤ maxLen) (hn : M.length < maxLen) {u : Value} (hm : a.eval m = .map (some b)) (hx : a.eval x = .string ⟨p.toArray⟩) (hv : a.eval v = u)
    (K : ∀ w', MapS w' k b (SM.put M (p, u)) → Chg (fun j => j = b) w.heap.size w w' → wpList Tryz.prog ops Q rest (a.put dst undef) w') :
    wpList Tryz.prog ops Q (⟨dst, .insert t m x v, tp, pos, after, none⟩ :: rest) a w := by
  obtain ⟨w', hr, h1, h2⟩ := h.put hk ht hp hn u
  refine wpList_skip rfl (w' := w') ?_ (K w' h1 h2)
  simp [execOp, hm, hx, hv, hr, Result.andThen]
end
end Go.Proofs.YtplafpokgpolkaaGreatDoor
