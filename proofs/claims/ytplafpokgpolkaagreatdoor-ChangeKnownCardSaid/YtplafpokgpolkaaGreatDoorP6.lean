/- PARTS OF ONE PROOF, set in one file: TreeDel, SpcO, TreePut, TreePutB, Mbs, TreeNew, SomeA. Each part tells its own conditions. -/
import Derived.Deep.CutRange
import Derived.Test.YtplafpokgpolkaaGreatDoorP1
import Derived.Test.YtplafpokgpolkaaGreatDoorP5
/- maps.DeleteFunc; tree.clear. -/
namespace Go.Proofs.YtplafpokgpolkaaGreatDoor
open Go.RowKit
/-- an entry's value, its slices written out -/
def NdV (v : Value) : Prop := ∃ n aa la ca ad ld cd, v = .agg (ndC n (.slice aa la ca) (.slice ad ld cd))
set_option maxHeartbeats 1000000 in
set_option maxRecDepth 100000 in
theorem delf_map (F : FuncId) (cv : Value) (hent : ∀ args w, (callFunc F args).run Tryz.prog w = .ok (.enter F args) w) (M0 : List (Tx × Value)) (pred : Tx → Bool) (w : World) (mb : Nat) (hm : MapS w 9 mb M0) (hv : ∀ p v, SM.look M0 p = some v → NdV v)
    (hF : ∀ wx, Chg (fun j => j = mb) w.heap.size w wx → ∀ p v, SM.look M0 p = some v → Calls Tryz.prog F #[.string ⟨p.toArray⟩, v, cv] wx fun e w' => e = .returned (.bool (pred p)) ∧ Below wx.heap.size wx w') :
    Calls Tryz.prog 127 #[.map (some mb), .func (.func F) #[] #[cv]] w fun e w' => e = .returned (.tuple #[]) ∧ MapS w' 9 mb (M0.filter (fun x => !pred x.1)) ∧ Chg (fun j => j = mb) w.heap.size w w' := by
  have HM := Keep.keep hm; have HV := Keep.keep hv; have HF := Keep.keep hF
  clear hm hv hF
  go_enter Tryz.func127, Tryz.ntmps127
  go_wp2_with (first | (with_reducible refine arm_sRange ?_) | (with_reducible refine arm_sNext ?_) | (with_reducible refine arm_sDel ?_) | (with_reducible refine arm_sPut ?_) | (with_reducible refine arm_sIns ?_))
  refine StM.out ?_
  refine arm_rangeS Tryz.underlying9 Tryz.underlying84 HM.out rfl ?_
  intro w1 hrg hb1 hs1
  obtain ⟨r, hr⟩ : ∃ r, w.heap.size = r := ⟨_, rfl⟩
  have HR := Keep.keep hr
  have HRG := Keep.keep hrg; have HB1 := Keep.keep hb1
  rw [hr] at HRG ⊢
  clear hrg hb1 hs1 hr
  simp only [Act.put, List.setIfInBounds_toArray, List.set_cons_succ, List.set_cons_zero]
  go_wp2_with fail
  go_loopg [4, 5] M0.length (fun g _ _ wx => ∃ todo, RgS wx 9 mb r (M0.filter (fun x => todo x.1 || !pred x.1)) todo g ∧ (∀ p, todo p = true → (SM.look M0 p).isSome) ∧ Chg (fun j => j = mb) w.heap.size w wx)
  case atStart =>
    refine ⟨_, ?_, fun p h => h, .of_below HB1.out⟩
    have e : M0.filter (fun x => (SM.look M0 x.1).isSome || !pred x.1) = M0 := by
      rw [List.filter_eq_self]
      intro x hx
      cases hl : SM.look M0 x.1 with
      | none => exact absurd rfl (SM.look_none.1 hl x hx)
      | some v => rfl
    rw [e]
    exact HRG.out
  case round =>
    obtain ⟨todo, hrg, htd, hch⟩ := hrel
    have HRG2 := Keep.keep hrg; have HTD := Keep.keep htd; have HCH := Keep.keep hch
    clear hrg htd hch
    go_wp2_with (first | (with_reducible refine arm_sRange ?_) | (with_reducible refine arm_sNext ?_) | (with_reducible refine arm_sDel ?_) | (with_reducible refine arm_sPut ?_) | (with_reducible refine arm_sIns ?_))
    refine StM.out ?_
    refine arm_nextS Tryz.underlying9 HRG2.out rfl ?_ ?_
    · intro h0 hall
      have e : M0.filter (fun x => todo x.1 || !pred x.1) = M0.filter (fun x => !pred x.1) := List.filter_congr (fun x _ => by rw [hall]; rfl)
      have HFIN := HRG2.out.map
      rw [e] at HFIN
      have HFIN := Keep.keep HFIN
      clear h0 hall e
      simp only [Act.put, List.setIfInBounds_toArray, List.set_cons_succ, List.set_cons_zero]
      go_wp2_with fail
      go_end0
      exact ⟨rfl, HFIN.out, HCH.out⟩
    · intro p v w2 cnt' h1 h2 h3 h4 h5 h6 hen
      have hl0 : SM.look M0 p = some v := by
        rw [HM.out.s.look_filter (fun q => todo q || !pred q)] at h2
        split at h2
        · exact h2
        · cases h2
      have hpl : p.length ≤ maxLen := HM.out.l _ (SM.look_mem hl0)
      obtain ⟨n, aa, la, ca, ad, ld, cd, rfl⟩ := HV.out p v hl0
      have hch3 : Chg (fun j => j = mb) w.heap.size w w2 := by
        have hsz := HCH.out.size
        have hrr := HR.out
        exact HCH.out.trans ⟨h5.os, h5.tape, h5.output, h5.size, fun j hj hm => h5.block j (Nat.lt_of_lt_of_le hj hsz) (fun e => by omega)⟩
      have HCH3 := Keep.keep hch3
      have HRG3 := Keep.keep h3; have HLT := Keep.keep h4; have HPL := Keep.keep hpl
      have HCN : Keep (ndC n (.slice aa la ca) (.slice ad ld cd) = #[.int .i64 n.kind, .int .u32 n.mode, .int .u32 n.uid, .int .u32 n.gid, .int .i64 n.time, .slice aa la ca, .slice ad ld cd, .string ⟨n.link.toArray⟩]) := ⟨rfl⟩
      have HFP : Keep (∀ wx, Chg (fun j => j = mb) w.heap.size w wx → Calls Tryz.prog F #[.string ⟨p.toArray⟩, .agg #[.int .i64 n.kind, .int .u32 n.mode, .int .u32 n.uid, .int .u32 n.gid, .int .i64 n.time, .slice aa la ca, .slice ad ld cd, .string ⟨n.link.toArray⟩], cv] wx fun e w' => e = .returned (.bool (pred p)) ∧ Below wx.heap.size wx w') := ⟨fun wx h => by
        have := HF.out wx h p _ hl0
        rwa [HCN.out] at this⟩
      rw [HCN.out] at hen ⊢
      clear h1 h2 h3 h4 h5 h6 hl0 hpl hch3
      simp only [Act.put, List.setIfInBounds_toArray, List.set_cons_succ, List.set_cons_zero]
      go_upto_region 3 with fail
      refine wp_world (R := fun w3 => Chg (fun j => j = mb) w.heap.size w w3 ∧ RgS w3 9 mb r (M0.filter (fun x => todo x.1 || !pred x.1)) (fun q => todo q && q != p) cnt' ∧ Row w3 w2.heap.size 30 #[.int .i64 n.kind, .int .u32 n.mode, .int .u32 n.uid, .int .u32 n.gid, .int .i64 n.time, .slice aa la ca, .slice ad ld cd, .string ⟨n.link.toArray⟩]) ⟨?_, ?_, ?_⟩ ?_
      · exact HCH3.out.alloc HCH3.out.size _
      · exact HRG3.out.loc (Below.heap_alloc w2 _ mb HRG3.out.lt.1) (Below.heap_alloc w2 _ r HRG3.out.lt.2.1)
      · exact Row.new _ _ _
      intro w3 H3
      have HRW := Keep.keep H3.out.2.2
      have HSZ : Keep ((#[.int .i64 n.kind, .int .u32 n.mode, .int .u32 n.uid, .int .u32 n.gid, .int .i64 n.time, .slice aa la ca, .slice ad ld cd, .string ⟨n.link.toArray⟩] : Array Value).size = 8) := ⟨rfl⟩
      have hrlt : r < w3.heap.size := H3.out.2.1.lt.2.1
      clear hen
      go_wp2_with ((with_reducible refine arm_loadRow HRW.out aggN HSZ.out ?_ ?_); (focus rfl); simp only [Act.put, List.setIfInBounds_toArray, List.set_cons_succ, List.set_cons_zero])
      refine (HFP.out w3 H3.out.1).mono ?_
      rintro e w4 ⟨rfl, hb4⟩
      have HCH4 : Keep (Chg (fun j => j = mb) w.heap.size w w4) := ⟨H3.out.1.trans ((Chg.of_below hb4).lower H3.out.1.size)⟩
      have HRG4 : Keep (RgS w4 9 mb r (M0.filter (fun x => todo x.1 || !pred x.1)) (fun q => todo q && q != p) cnt') := ⟨H3.out.2.1.loc (hb4.block mb H3.out.2.1.lt.1) (hb4.block r hrlt)⟩
      clear hb4 hrlt
      have HTD' : Keep (∀ q, (todo q && q != p) = true → (SM.look M0 q).isSome) := ⟨fun q hq => HTD.out q (by simp at hq; exact hq.1)⟩
      cases hpp : pred p with
      | true =>
        have HPP := Keep.keep hpp
        clear hpp
        go_wp2_with (first | (with_reducible refine arm_sRange ?_) | (with_reducible refine arm_sNext ?_) | (with_reducible refine arm_sDel ?_) | (with_reducible refine arm_sPut ?_) | (with_reducible refine arm_sIns ?_))
        refine StM.out ?_
        refine arm_delR Tryz.underlying9 Tryz.underlying84 HRG4.out HPL.out rfl rfl ?_
        intro w5 cnt5 hrg5 hle5 hc5
        have e5 : (M0.filter (fun x => todo x.1 || !pred x.1)).filter (fun x => x.1 != p) = M0.filter (fun x => (todo x.1 && x.1 != p && x.1 != p) || !pred x.1) := by
          rw [List.filter_filter]
          refine List.filter_congr (fun x _ => ?_)
          by_cases e : x.1 = p
          · rw [e, HPP.out]; simp
          · have : (x.1 != p) = true := by simpa using e
            simp [this]
        rw [e5] at hrg5
        have HRG5 := Keep.keep hrg5
        have HCH5 : Keep (Chg (fun j => j = mb) w.heap.size w w5) := ⟨HCH4.out.trans (hc5.lower HCH4.out.size)⟩
        have hlt5 : cnt5 < gk := by have := HLT.out; omega
        clear e5 hrg5 hc5 hle5
        simp only [Act.put]
        go_wp2_with fail
        go_roundg cnt5
        case measure => exact hlt5
        case rel => exact ⟨fun q => todo q && q != p && q != p, HRG5.out, fun q hq => HTD'.out q (by simp at hq ⊢; exact hq), HCH5.out⟩
      | false =>
        have e5 : M0.filter (fun x => todo x.1 || !pred x.1) = M0.filter (fun x => (todo x.1 && x.1 != p) || !pred x.1) := by
          refine List.filter_congr (fun x _ => ?_)
          by_cases e : x.1 = p
          · rw [e, hpp]; simp
          · have : (x.1 != p) = true := by simpa using e
            simp [this]
        have hrg5 := HRG4.out
        rw [e5] at hrg5
        have HRG5 := Keep.keep hrg5
        have HPP := Keep.keep hpp
        clear e5 hrg5 hpp
        go_wp2_with fail
        go_roundg cnt'
        case measure => exact HLT.out
        case rel => exact ⟨fun q => todo q && q != p, HRG5.out, HTD'.out, HCH4.out⟩
/-- the tree's values, as map entries -/
theorem TreeIn.ndv {w : World} {T mb : Nat} {Bk : Nat → Prop} {f : Tx → Value × Value} {L : List Mb} (h : TreeIn w T mb Bk f L) (p : Tx) (v : Value) (hl : SM.look (entries f L) p = some v) : NdV v := by
  rw [look_entries] at hl
  cases hq : SM.look L p with
  | none => rw [hq] at hl; cases hl
  | some n =>
    rw [hq] at hl
    injection hl with hl
    have := (h.look hq).1
    obtain ⟨aa, ca, e1, -⟩ := this.at_.shape
    obtain ⟨ad, cd, e2, -⟩ := this.dt.shape
    rw [e1, e2] at hl
    exact ⟨n, aa, _, ca, ad, _, cd, hl.symm⟩
theorem entries_filter (f : Tx → Value × Value) (L : List Mb) (q : Tx → Bool) : (entries f L).filter (fun x => q x.1) = entries f (L.filter (fun m => q m.1)) := by
  unfold entries
  rw [List.filter_map]; rfl
/-- some members less -/
theorem TreeIn.filter {w w' : World} {T mb : Nat} {Bk : Nat → Prop} {f : Tx → Value × Value} {L : List Mb} (h : TreeIn w T mb Bk f L) (hBk : ∀ b, Bk b → b < w.heap.size) (q : Tx → Bool) (hm : MapS w' 9 mb ((entries f L).filter (fun x => q x.1))) (hc : Chg (fun j => j = mb) w.heap.size w w') : TreeIn w' T mb Bk f (L.filter (fun m => q m.1)) := by
  refine ⟨?_, by rw [← entries_filter]; exact hm, fun m hx => ?_, fun m hx => h.sm m (List.mem_filter.1 hx).1, h.ne⟩
  · unfold Row
    rw [hc.block T h.row.lt h.ne.1]; exact h.row
  · exact (h.nd m (List.mem_filter.1 hx).1).loc (fun b hb => hc.block b (hBk b hb) (fun e => h.ne.2.2 (e ▸ hb)))
def clearT (L : List Mb) (p : Tx) : List Mb := L.filter (fun m => !underP p m.1)
theorem ent_clr1 : ∀ args w, (callFunc 128 args).run Tryz.prog w = .ok (.enter 128 args) w := enters_of Tryz.func128 (by kernel_rfl) rfl
set_option maxHeartbeats 400000 in
set_option maxRecDepth 100000 in
theorem clr1_any (p q : Tx) (hp : p.length ≤ 1000000) (v : Value) (hv : NdV v) (B : Nat) (w : World) (hc : w.cell? ⟨B, 0, none⟩ = some (.string ⟨p.toArray⟩)) : Calls Tryz.prog 128 #[.string ⟨q.toArray⟩, v, .pointer (some ⟨B, 0, none⟩)] w fun e w' => e = .returned (.bool (underP p q)) ∧ Below w.heap.size w w' := by
  have hlt : B < w.heap.size := World.block_lt_of_cell? w _ hc
  have HU := Keep.keep (fun wx => under_any p q hp wx)
  obtain ⟨n, aa, la, ca, ad, ld, cd, rfl⟩ := hv
  have HCN : Keep (ndC n (.slice aa la ca) (.slice ad ld cd) = #[.int .i64 n.kind, .int .u32 n.mode, .int .u32 n.uid, .int .u32 n.gid, .int .i64 n.time, .slice aa la ca, .slice ad ld cd, .string ⟨n.link.toArray⟩]) := ⟨rfl⟩
  rw [HCN.out]
  go_enter Tryz.func128, Tryz.ntmps128
  go_wp2_with fail
  refine (HU.out _).mono ?_
  rintro e w1 ⟨rfl, rfl⟩
  go_wp2_with fail
  go_ret
  exact ⟨rfl, (Below.refl _ _).alloc (Nat.le_refl _) _⟩
set_option maxHeartbeats 1000000 in
set_option maxRecDepth 100000 in
theorem clear_tree (T mb : Nat) (Bk : Nat → Prop) (f : Tx → Value × Value) (L : List Mb) (w : World) (h : TreeIn w T mb Bk f L) (hBk : ∀ b, Bk b → b < w.heap.size) (p : Tx) (hp : p.length ≤ 1000000) :
    Calls Tryz.prog 96 #[.pointer (some ⟨T, 0, none⟩), .string ⟨p.toArray⟩] w fun e w' => e = .returned (.tuple #[]) ∧ TreeIn w' T mb Bk f (clearT L p) ∧ Chg (fun j => j = mb) w.heap.size w w' := by
  have HT := Keep.keep h
  have c0 := h.row.cell (i := 0) rfl
  have hTlt := h.row.lt
  clear h
  go_enter Tryz.func96, Tryz.ntmps96
  go_wp2_with fail
  refine calls_at (R := fun w1 => Hp NoM w w1 [rowA w.heap.size 9 #[.string ⟨p.toArray⟩]]) ((Hp.begin NoM w).newRow _ _) ?_
  intro w1 H1
  have hlt := (H1.out.row 0 rfl).lt
  have hb := H1.out.below
  have hmlt := HT.out.map.lt
  have hT1 : TreeIn w1 T mb Bk f L := HT.out.loc (fun b hb' => hb.block b (by rcases hb' with rfl | rfl | h; exact hTlt; exact hmlt; exact hBk b h))
  have hne : w.heap.size ≠ mb := by omega
  refine (delf_map 128 (.pointer (some ⟨w.heap.size, 0, none⟩)) ent_clr1 (entries f L) (underP p) w1 mb hT1.map hT1.ndv (fun wx hc q v hl => ?_)).mono ?_
  · exact clr1_any p q hp v (hT1.ndv q v hl) _ wx (by rw [hc.cell (p := ⟨w.heap.size, 0, none⟩) hlt hne]; exact (H1.out.row 0 rfl).cell rfl)
  · rintro e w2 ⟨rfl, hm2, hc2⟩
    have hfin := hT1.filter (fun b hb' => Nat.lt_of_lt_of_le (hBk b hb') hb.size) (fun q => !underP p q) hm2 hc2
    have HFIN := Keep.keep hfin
    have HC : Keep (Chg (fun j => j = mb) w.heap.size w w2) := ⟨(Chg.of_below hb).trans (hc2.lower hb.size)⟩
    clear hfin hm2 hc2 hT1 c0
    go_wp2_with fail
    go_end0
    exact ⟨rfl, HFIN.out, HC.out⟩
end Go.Proofs.YtplafpokgpolkaaGreatDoor
/- A REGION THAT DRAWS ITS ORDER, one fact an operation; operations without a slot of their own (stores) among them. -/
namespace Go.Proofs.YtplafpokgpolkaaGreatDoor
open Go.RowKit
def slO (a : Act) : Option Nat → Value
  | some d => slot a d
  | none => undef
def valO : Option Nat → Value → Value
  | some _, v => v
  | none, _ => undef
theorem wp_region_spcO {P : Program} {ops : Array Oper} {id : Nat} {Q : Exit → Act → World → Prop} {a : Act} {w : World} (D : List (Option Nat)) (C : World → Prop) (T : Nat → Value → World → Prop) (St : World → World → Prop) (hm : P.follows .mixedOrders = true)
    (hD : ops.toList.map (·.dst) = D) (hnd : ∀ i, i < D.length → ∀ j, j < D.length → D.getD i none = D.getD j none → D.getD i none ≠ none → i = j) (hds : ∀ d, some d ∈ D → d < a.tmps.size) (hB : inOrderB ops = true) (h0 : C w.drew)
    (hst : ∀ i v w w', T i v w → C w → St w w' → T i v w')
    (hs : ∀ i, i < ops.size → ∀ a1 w1, Fr a (D.filterMap (·)) a1 → C w1 → (∀ j, Region.waitsFor .any ops i j = true → T j (slO a1 (D.getD j none)) w1) →
      wpOp P ops Q i (fun a2 w2 => ∃ v, a2 = a1.put (D.getD i none) v ∧ C w2 ∧ St w1 w2 ∧ T i (valO (D.getD i none) v) w2) a1 w1)
    (he : ∀ a1 w1, a1 = (D.filterMap (·)).foldl (fun b d => b.put (some d) (slot a1 d)) a → C w1 → (∀ j, j < ops.size → T j (slO a1 (D.getD j none)) w1) → Q .normal a1 w1) : (Code.region id ops true).wp P Q a w := by
  have hlen : D.length = ops.size := by rw [← hD]; simp
  have hget : ∀ i, i < ops.size → D.getD i none ∈ D := fun i hi => by
    rw [List.getD_eq_getElem?_getD, List.getElem?_eq_getElem (by omega)]
    exact List.getElem_mem _
  refine wp_region_fr (D.filterMap (·)) (fun done s w1 => C w1 ∧ ∀ j, j < ops.size → done.getD j false = true → T j (match D.getD j none with | some d => s d | none => undef) w1) hm ⟨h0, fun j hj hd => ?_⟩ ?_ ?_
  · simp [Array.getD_eq_getD_getElem?, hj] at hd
  · intro done a1 w1 hF hI hz hcl i hi
    have hlt := ready_lt hi
    refine wpOp_mono ?_ (hs i hlt a1 w1 hF hI.1 (fun j hj => ?_))
    · rintro a2 w2 ⟨v, rfl, hC2, hb, hT⟩
      have hFr : Fr a (D.filterMap (·)) (a1.put (D.getD i none) v) := by
        cases hd : D.getD i none with
        | none => exact hF
        | some d =>
          refine hF.put d ?_ v
          rw [List.mem_filterMap]
          exact ⟨some d, hd ▸ hget i hlt, rfl⟩
      refine ⟨hFr, hC2, fun j hj hd => ?_⟩
      by_cases e : i = j
      · subst e
        cases hdi : D.getD i none with
        | none => rw [hdi] at hT; exact hT
        | some d =>
          rw [hdi] at hT
          simp only
          rw [slot_put_same _ _ _ (by rw [hF.size]; exact hds d (hdi ▸ hget i hlt))]
          exact hT
      · have hd' := (getD_set_iff hd).resolve_left e
        have hTj := hst j _ _ _ (hI.2 j hj hd') hI.1 hb
        cases hdj : D.getD j none with
        | none => rw [hdj] at hTj; exact hTj
        | some d =>
          rw [hdj] at hTj
          simp only at hTj ⊢
          cases hdi : D.getD i none with
          | none => exact hTj
          | some d' =>
            rw [slot_put_ne _ _ _ _ (fun e2 => e (hnd i (by omega) j (by omega) (by rw [hdi, hdj, e2]) (by rw [hdi]; exact fun h => by cases h)))]
            exact hTj
    · obtain ⟨e, he1, he2, he3⟩ := waits_of (Array.getElem?_eq_getElem hlt) hj
      have hdn := (ready_at hi (Array.getElem?_eq_getElem hlt)).2 e he1 he2
      rw [he3] at hdn
      have hjlt : j < ops.size := by
        rcases Nat.lt_or_ge j done.size with h | h
        · omega
        · simp [Array.getD_eq_getD_getElem?, Array.getElem?_eq_none h] at hdn
      have := hI.2 j hjlt hdn
      unfold slO
      exact this
  · intro done a1 w1 ha hI hz hr
    exact he a1 w1 ha hI.1 (fun j hj => hI.2 j hj (all_done hB hz hr j hj))
/-- an operation that yields a value at once -/
theorem spcO_val {P : Program} {ops : Array Oper} {Q : Exit → Act → World → Prop} {C : World → Prop} {T : Nat → Value → World → Prop} {St : World → World → Prop} {i d : Nat} {a1 : Act} {w1 w2 : World} {op : Op} {tp : TypeId} {pos : String} {af : Array Edge} {g : Option (Nat × Bool)} {v : Value}
    (hi : ops[i]? = some ⟨some d, op, tp, pos, af, g⟩) (hg : Region.wanted (⟨some d, op, tp, pos, af, g⟩ : Oper) (yielded ops a1.tmps) = true)
    (hr : (execOp a1.eval (⟨some d, op, tp, pos, af, g⟩ : Oper)).run P w1 = .ok (.value v) w2) (hC : C w2) (hb : St w1 w2) (hT : T i v w2) :
    wpOp P ops Q i (fun a2 w2 => ∃ v, a2 = a1.put (some d) v ∧ C w2 ∧ St w1 w2 ∧ T i (valO (some d) v) w2) a1 w1 := spcS_val hi hg hr hC hb hT
/-- an operation that calls -/
theorem spcO_call {P : Program} {ops : Array Oper} {Q : Exit → Act → World → Prop} {C : World → Prop} {T : Nat → Value → World → Prop} {St : World → World → Prop} {i d : Nat} {a1 : Act} {w1 : World} {f : FuncId} {args : Array Operand} {ts : Array TypeId} {tp : TypeId} {pos : String} {af : Array Edge} {g : Option (Nat × Bool)} {vs : Array Value}
    (hi : ops[i]? = some ⟨some d, .call ⟨.value (.func f), args, ts⟩, tp, pos, af, g⟩) (hg : Region.wanted (⟨some d, .call ⟨.value (.func f), args, ts⟩, tp, pos, af, g⟩ : Oper) (yielded ops a1.tmps) = true)
    (hent : Enters P f) (hargs : args.map a1.eval = vs) (hc : Calls P f vs w1 fun e w2 => ∃ v, e = .returned v ∧ C w2 ∧ St w1 w2 ∧ T i v w2) :
    wpOp P ops Q i (fun a2 w2 => ∃ v, a2 = a1.put (some d) v ∧ C w2 ∧ St w1 w2 ∧ T i (valO (some d) v) w2) a1 w1 := spcS_call hi hg hent hargs hc
/-- a store -/
theorem spcO_skip {P : Program} {ops : Array Oper} {Q : Exit → Act → World → Prop} {C : World → Prop} {T : Nat → Value → World → Prop} {St : World → World → Prop} {i : Nat} {a1 : Act} {w1 w2 : World} {op : Op} {tp : TypeId} {pos : String} {af : Array Edge} {g : Option (Nat × Bool)}
    (hi : ops[i]? = some ⟨none, op, tp, pos, af, g⟩) (hg : Region.wanted (⟨none, op, tp, pos, af, g⟩ : Oper) (yielded ops a1.tmps) = true)
    (hr : (execOp a1.eval (⟨none, op, tp, pos, af, g⟩ : Oper)).run P w1 = .ok .skip w2) (hC : C w2) (hb : St w1 w2) (hT : T i undef w2) :
    wpOp P ops Q i (fun a2 w2 => ∃ v, a2 = a1.put none v ∧ C w2 ∧ St w1 w2 ∧ T i (valO none v) w2) a1 w1 := by
  unfold wpOp
  rw [hi]
  simp only
  rw [if_pos hg]
  refine .inl ?_
  unfold Oper.wp
  rw [hr]
  exact ⟨undef, rfl, hC, hb, hT⟩
end Go.Proofs.YtplafpokgpolkaaGreatDoor
/- tree.Remove, tree.Put. -/
namespace Go.Proofs.YtplafpokgpolkaaGreatDoor
open Go.RowKit
theorem run_newN (w : World) : (Instr.alloc 30 true (.tuple #[])).run Tryz.prog w = .ok (.pointer (some ⟨w.heap.size, 0, none⟩)) (w.alloc (.cells zeroNd 30)) := by kernel_rfl
def removeT (L : List Mb) (p : Tx) : Int × List Mb := match SM.look L p with | none => (6, L) | some _ => (0, (clearT L p).filter (fun m => m.1 != p))
def putT (L : List Mb) (m : Mb) : Int × List Mb :=
  if !mayM m then (1, L) else if !dirT L (parentP m.1) then (33, L) else if (SM.look L m.1).isNone && decide (4096 ≤ L.length) then (42, L)
  else (0, SM.put (if m.2.kind = 1 then L else clearT L m.1) m)
theorem parent_len (p : Tx) : (parentP p).length ≤ p.length := by unfold parentP; rw [List.length_take]; omega
set_option maxHeartbeats 1000000 in
set_option maxRecDepth 100000 in
theorem remove_tree (T mb : Nat) (Bk : Nat → Prop) (f : Tx → Value × Value) (L : List Mb) (w : World) (h : TreeIn w T mb Bk f L) (hBk : ∀ b, Bk b → b < w.heap.size) (p : Tx) (hp : p.length ≤ 1000000) :
    Calls Tryz.prog 52 #[.pointer (some ⟨T, 0, none⟩), .string ⟨p.toArray⟩] w fun e w' => e = .returned (.int .i64 (removeT L p).1) ∧ TreeIn w' T mb Bk f (removeT L p).2 ∧ Chg (fun j => j = mb) w.heap.size w w' := by
  have HT := Keep.keep h
  have HN := Keep.keep (none_ok T mb w h.row)
  have c0 := h.row.cell (i := 0) rfl
  obtain ⟨n, av, dv, hn, hn2, hn3, hn4⟩ := look_node f L p
  have hlk := h.map.lookOk Tryz.underlying9 Tryz.underlying84 (zeroN w) (p := p) (by unfold maxLen; omega)
  rw [hn, look_entries, Option.isSome_map] at hlk
  have hsh : ∃ aa la ca ad ld cd, av = .slice aa la ca ∧ dv = .slice ad ld cd := by
    cases hl : SM.look L p with
    | none => obtain ⟨rfl, rfl⟩ := hn4 hl; exact ⟨_, _, _, _, _, _, rfl, rfl⟩
    | some m =>
      obtain ⟨rfl, rfl⟩ := hn3 m hl
      have := (h.look hl).1
      obtain ⟨aa, ca, e1, -⟩ := this.at_.shape
      obtain ⟨ad, cd, e2, -⟩ := this.dt.shape
      exact ⟨aa, _, ca, ad, _, cd, e1, e2⟩
  obtain ⟨aa, la, ca, ad, ld, cd, rfl, rfl⟩ := hsh
  have HCN : Keep (ndC n (.slice aa la ca) (.slice ad ld cd) = #[.int .i64 n.kind, .int .u32 n.mode, .int .u32 n.uid, .int .u32 n.gid, .int .i64 n.time, .slice aa la ca, .slice ad ld cd, .string ⟨n.link.toArray⟩]) := ⟨rfl⟩
  rw [HCN.out] at hlk
  have hTlt := h.row.lt
  have hmlt := h.map.lt
  clear h hn hn2 hn3 hn4
  cases hl : SM.look L p with
  | none =>
    rw [hl] at hlk
    have HR : Keep (removeT L p = (6, L)) := ⟨by unfold removeT; rw [hl]⟩
    rw [HR.out]
    clear hl HR
    simp only [Option.isSome_none] at hlk
    go_enter Tryz.func52, Tryz.ntmps52
    go_wp2_with fail
    refine HN.out.mono ?_
    rintro e w' ⟨rfl, rfl⟩
    go_wp2_with fail
    go_ret
    refine ⟨rfl, HT.out.loc (fun b hb => ?_), .of_below ((Below.refl _ _).alloc (Nat.le_refl _) _)⟩
    refine Below.heap_alloc w _ b ?_
    rcases hb with rfl | rfl | h
    · exact hTlt
    · exact hmlt
    · exact hBk b h
  | some m =>
    rw [hl] at hlk
    have HR : Keep (removeT L p = (0, (clearT L p).filter (fun m => m.1 != p))) := ⟨by unfold removeT; rw [hl]⟩
    rw [HR.out]
    clear hl HR
    simp only [Option.isSome_some] at hlk
    go_enter Tryz.func52, Tryz.ntmps52
    go_wp2_with fail
    refine HN.out.mono ?_
    rintro e w' ⟨rfl, rfl⟩
    go_wp2_with fail
    refine calls_at (R := fun w1 => Below w.heap.size w w1) ((Below.refl _ _).alloc (Nat.le_refl _) _) ?_
    intro w1 H1
    have hT1 : TreeIn w1 T mb Bk f L := HT.out.loc (fun b hb' => H1.out.block b (by rcases hb' with rfl | rfl | h; exact hTlt; exact hmlt; exact hBk b h))
    refine (clear_tree T mb Bk f L w1 hT1 (fun b hb => Nat.lt_of_lt_of_le (hBk b hb) H1.out.size) p hp).mono ?_
    rintro e w2 ⟨rfl, hT2, hc2⟩
    have HT2 := Keep.keep hT2
    have HC2 : Keep (Chg (fun j => j = mb) w.heap.size w w2) := ⟨(Chg.of_below H1.out).trans (hc2.lower H1.out.size)⟩
    have c2 := hT2.row.cell (i := 0) rfl
    clear hT1 hT2 hc2 hlk c0
    go_wp2_with (first | (with_reducible refine arm_sRange ?_) | (with_reducible refine arm_sNext ?_) | (with_reducible refine arm_sDel ?_) | (with_reducible refine arm_sPut ?_) | (with_reducible refine arm_sIns ?_))
    refine StM.out ?_
    refine arm_delS Tryz.underlying9 Tryz.underlying84 HT2.out.map (p := p) (by unfold maxLen; omega) rfl rfl ?_
    intro w3 hm3 hc3
    have hfin := HT2.out.filter (fun b hb => Nat.lt_of_lt_of_le (hBk b hb) HC2.out.size) (fun q => q != p) hm3 hc3
    have HFIN := Keep.keep hfin
    have HC3 : Keep (Chg (fun j => j = mb) w.heap.size w w3) := ⟨HC2.out.trans (hc3.lower HC2.out.size)⟩
    clear hfin hm3 hc3 c2
    simp only [Act.put]
    go_wp2_with fail
    go_ret
    exact ⟨rfl, HFIN.out, HC3.out⟩
end Go.Proofs.YtplafpokgpolkaaGreatDoor
/- tree.Put. -/
namespace Go.Proofs.YtplafpokgpolkaaGreatDoor
open Go.RowKit
/-- the tables that stand below block B -/
structure Tabs (B : Nat) (w : World) : Prop where
  b : B ≤ w.heap.size
  m : Mx B w
  c : Cls B w
  t : Typ B w
theorem Tabs.on {B : Nat} {w w' : World} (h : Tabs B w) (hb : Below B w w') : Tabs B w' := ⟨Nat.le_trans h.b hb.size, h.m.on hb, h.c.on hb, h.t.on hb⟩
theorem entries_put (f : Tx → Value × Value) (L : List Mb) (m : Mb) (av dv : Value) : entries (fun q => if q = m.1 then (av, dv) else f q) (SM.put L m) = SM.put (entries f L) (m.1, .agg (ndC m.2 av dv)) := by
  have key : ∀ (K : List Mb), (∀ x ∈ K, x.1 ≠ m.1) → entries (fun q => if q = m.1 then (av, dv) else f q) K = entries f K := by
    intro K hK
    unfold entries
    refine List.map_congr_left (fun x hx => ?_)
    simp only [if_neg (hK x hx)]
  have hlo : SM.lo (entries f L) m.1 = entries f (SM.lo L m.1) := entries_filter f L (fun q => decide (q < m.1))
  have hhi : SM.hi (entries f L) m.1 = entries f (SM.hi L m.1) := entries_filter f L (fun q => decide (m.1 < q))
  unfold SM.put
  rw [hlo, hhi, ← key (SM.lo L m.1) (fun x hx e => by
    have := (List.mem_filter.1 hx).2
    rw [e] at this; simp [tx_irrefl] at this), ← key (SM.hi L m.1) (fun x hx e => by
    have := (List.mem_filter.1 hx).2
    rw [e] at this; simp [tx_irrefl] at this)]
  unfold entries
  rw [List.map_append, List.map_cons]
  simp only [if_true]
/-- one member more -/
theorem TreeIn.put {w w' : World} {T mb : Nat} {Bk Bk' : Nat → Prop} {f : Tx → Value × Value} {L : List Mb} (h : TreeIn w T mb Bk f L) (_hBk : ∀ b, Bk b → b < w.heap.size) (m : Mb) (av dv : Value) (hs : Sm m) (hm : MapS w' 9 mb (SM.put (entries f L) (m.1, .agg (ndC m.2 av dv)))) (hc : Chg (fun j => j = mb) w.heap.size w w')
    (hn : NdR w Bk' m.2 av dv) (hB1 : ∀ b, Bk b → Bk' b) (hB2 : ∀ b, Bk' b → b < w.heap.size ∧ b ≠ T ∧ b ≠ mb) : TreeIn w' T mb Bk' (fun q => if q = m.1 then (av, dv) else f q) (SM.put L m) := by
  have hloc : ∀ b, Bk' b → w'.heap[b]? = w.heap[b]? := fun b hb => hc.block b (hB2 b hb).1 (hB2 b hb).2.2
  refine ⟨?_, by rw [entries_put]; exact hm, fun x hx => ?_, fun x hx => ?_, h.ne.1, fun hb => (hB2 T hb).2.1 rfl, fun hb => (hB2 mb hb).2.2 rfl⟩
  · unfold Row
    rw [hc.block T h.row.lt h.ne.1]; exact h.row
  · rcases SM.mem_put.1 hx with rfl | ⟨hx, hne⟩
    · simp only [if_true]; exact hn.loc hloc
    · simp only [if_neg hne]; exact ((h.nd x hx).mono hB1).loc hloc
  · rcases SM.mem_put.1 hx with rfl | ⟨hx, hne⟩
    · exact hs
    · exact h.sm x hx
def p7T (W : World) (T mb b3 : Nat) (p : Tx) (u : Value) (is : Bool) : Nat → Value → World → Prop
  | 0, v, _ => v = .pointer (some ⟨T, 0, none⟩)
  | 1, v, _ => v = .pointer (some ⟨T, 0, none⟩)
  | 2, v, _ => v = .pointer (some ⟨T, 0, none⟩)
  | 3, v, _ => v = .map (some mb)
  | 4, v, _ => v = .pointer (some ⟨b3, 0, none⟩)
  | 5, v, _ => v = .string ⟨p.toArray⟩
  | 6, v, _ => v = .tuple #[u, .bool is]
  | 7, v, _ => v = .tuple #[u, .bool is]
  | 8, v, _ => v = u
  | 9, v, _ => v = .bool is
  | 10, v, w => ∃ b c, v = .pointer (some ⟨b, 0, none⟩) ∧ W.heap.size ≤ b ∧ Row w b 30 c ∧ c.size = 8
  | 11, _, _ => True
  | _, v, _ => v = .bool is
def StN (B : Nat) (w w' : World) : Prop := w.heap.size ≤ w'.heap.size ∧ ∀ b c, Row w b 30 c → c.size = 8 → B ≤ b → ∃ c', Row w' b 30 c' ∧ c'.size = 8
theorem StN.of_below {B : Nat} {w w' : World} (h : Below w.heap.size w w') : StN B w w' := ⟨h.size, fun _b c hr hs _ => ⟨c, hr.below h hr.lt, hs⟩⟩
theorem p7T_stays {W : World} {T mb b3 : Nat} {p : Tx} {u : Value} {is : Bool} (k : Nat) (v : Value) (w w' : World) (h : p7T W T mb b3 p u is k v w) (hb : StN W.heap.size w w') : p7T W T mb b3 p u is k v w' := by
  unfold p7T at h ⊢
  split at h
  any_goals exact h
  obtain ⟨b, c, h1, h2, h3, h4⟩ := h
  obtain ⟨c', h5, h6⟩ := hb.2 b c h3 h4 h2
  exact ⟨b, c', h1, h2, h5, h6⟩
theorem run_storeRowOp {P : Program} {ρ : Operand → Value} {d : Option Tmp} {x y : Operand} {ty t e : TypeId} {n : Nat} {pos : String} {af : Array Edge} {g : Option (Nat × Bool)} {w : World} {b : Nat} {c c' : Array Value} (hr : Row w b e c) (hA : AggTy P ty n) (hs : c.size = n) (hs' : c'.size = n) (h1 : c'.all (·.oneCell') = true) (hx : ρ x = .pointer (some ⟨b, 0, none⟩)) (hy : ρ y = .agg c') :
    (execOp ρ (⟨d, .store ty x y, t, pos, af, g⟩ : Oper)).run P w = .ok .skip (w.setRow b c') := by
  have hst := hr.storeAt (P := P) ty c' (by rw [hs']; exact hA.i) (by rw [hs, hs']) h1
  unfold execOp
  simp only [hx, hy, Sem.run_bind, Sem.run_pure, Result.andThen_ok, hst]
theorem run_loadNd {ρ : Operand → Value} {d : Option Tmp} {x : Operand} {t : TypeId} {pos : String} {af : Array Edge} {g : Option (Nat × Bool)} {w : World} {b : Nat} {e : TypeId} {m : Mb} {av dv : Value} (hr : Row w b e #[.string ⟨m.1.toArray⟩, .int .i64 m.2.kind, .int .u32 m.2.mode, .int .u32 m.2.uid, .int .u32 m.2.gid, .int .i64 m.2.time, av, dv, .string ⟨m.2.link.toArray⟩]) (hx : ρ x = .pointer (some ⟨b, 1, none⟩)) :
    (execOp ρ (⟨d, .load 30 x, t, pos, af, g⟩ : Oper)).run Tryz.prog w = .ok (.value (.agg (ndC m.2 av dv))) w := by
  have hl := run_loadAt_mid (P := Tryz.prog) w b 1 30 [.int .i64 m.2.kind, .int .u32 m.2.mode, .int .u32 m.2.uid, .int .u32 m.2.gid, .int .i64 m.2.time, av, dv, .string ⟨m.2.link.toArray⟩] _ (fun j z hj => by
    refine hr.cell (i := 1 + j) ?_
    match j, hj with
    | 0, hj => exact hj
    | 1, hj => exact hj
    | 2, hj => exact hj
    | 3, hj => exact hj
    | 4, hj => exact hj
    | 5, hj => exact hj
    | 6, hj => exact hj
    | 7, hj => exact hj
    | (j + 8), hj => simp at hj) Tryz.underlying30 rfl aggN.i
  unfold execOp
  simp only [hx, Sem.run_bind, Sem.run_pure, Result.andThen_ok, hl]
  rfl
def p12T (W : World) (T mb b3 : Nat) (p : Tx) (nd : Nd) (av dv : Value) : Nat → Value → World → Prop
  | 0, v, _ => v = .pointer (some ⟨T, 0, none⟩)
  | 1, v, _ => v = .pointer (some ⟨T, 0, none⟩)
  | 2, v, _ => v = .pointer (some ⟨T, 0, none⟩)
  | 3, v, _ => v = .map (some mb)
  | 4, v, _ => v = .pointer (some ⟨b3, 0, none⟩)
  | 5, v, _ => v = .string ⟨p.toArray⟩
  | 6, v, _ => v = .pointer (some ⟨b3, 1, none⟩)
  | 7, v, _ => v = .agg (ndC nd av dv)
  | _, v, w => ∃ av' dv', v = .agg (ndC nd av' dv') ∧ NdR w (Fresh W.heap.size w) nd av' dv'
theorem p12T_stays {W : World} {T mb b3 : Nat} {p : Tx} {nd : Nd} {av dv : Value} (k : Nat) (v : Value) (w w' : World) (h : p12T W T mb b3 p nd av dv k v w) (hb : Below w.heap.size w w') : p12T W T mb b3 p nd av dv k v w' := by
  unfold p12T at h ⊢
  split at h
  any_goals exact h
  obtain ⟨a', d', h1, h2⟩ := h
  exact ⟨a', d', h1, (h2.below hb (fun b hb => hb.2)).mono (fun b hb' => hb'.mono (Nat.le_refl _) hb.size)⟩
set_option maxHeartbeats 4000000 in
set_option maxRecDepth 100000 in
theorem put_tree (T mb : Nat) (Bk : Nat → Prop) (f : Tx → Value × Value) (L : List Mb) (B : Nat) (w : World) (h : TreeIn w T mb Bk f L) (hBk : ∀ b, Bk b → b < w.heap.size) (hL : L.length ≤ 1000000) (hT : Tabs B w) (m : Mb) (av dv : Value) (hsm : Sm m) (hr : NdR w (fun b => b < w.heap.size ∧ b ≠ mb) m.2 av dv) :
    Calls Tryz.prog 72 #[.pointer (some ⟨T, 0, none⟩), .agg (mbC m av dv)] w fun e w' => e = .returned (.int .i64 (putT L m).1) ∧ (∃ Bk' f', TreeIn w' T mb Bk' f' (putT L m).2 ∧ ∀ b, Bk' b → Bk b ∨ Fresh w.heap.size w' b) ∧ Chg (fun j => j = mb) w.heap.size w w' := by
  have HT := Keep.keep h
  have HTB := Keep.keep hT
  have HNR := Keep.keep hr
  have HSM := Keep.keep hsm
  have hTlt := h.row.lt
  have hmlt := h.map.lt
  have HON : Keep (∀ wx, Below w.heap.size w wx → TreeIn wx T mb Bk f L) := ⟨fun wx hb => h.loc (fun b hb' => hb.block b (by rcases hb' with rfl | rfl | h; exact hTlt; exact hmlt; exact hBk b h))⟩
  have HBK := Keep.keep hBk
  obtain ⟨aa, ca, hav, -⟩ := hr.at_.shape
  obtain ⟨ad, cd, hdv, -⟩ := hr.dt.shape
  obtain ⟨la, hla⟩ : ∃ la, m.2.attrs.length = la := ⟨_, rfl⟩
  obtain ⟨ld, hld⟩ : ∃ ld, m.2.data.length = ld := ⟨_, rfl⟩
  rw [hla] at hav; rw [hld] at hdv
  have HAV := Keep.keep hav; have HDV := Keep.keep hdv
  clear hla hld
  have HMC : Keep (∀ x y, mbC m x y = #[.string ⟨m.1.toArray⟩, .int .i64 m.2.kind, .int .u32 m.2.mode, .int .u32 m.2.uid, .int .u32 m.2.gid, .int .i64 m.2.time, x, y, .string ⟨m.2.link.toArray⟩]) := ⟨fun _ _ => rfl⟩
  have HNN : Keep (∀ wx, Below w.heap.size w wx → Calls Tryz.prog 65 #[.pointer (some ⟨T, 0, none⟩)] wx fun e w' => e = .returned (.bool false) ∧ wx = w') := ⟨fun wx hb => none_ok T mb wx (HON.out wx hb).row⟩
  have HMY : Keep (∀ wx, Below w.heap.size w wx → Calls Tryz.prog 57 #[.agg (mbC m av dv)] wx fun e w' => e = .returned (.bool (mayM m)) ∧ Below wx.heap.size wx w') := ⟨fun wx hb => by
    have ht := HTB.out.on (hb.mono HTB.out.b)
    exact tmay_any m av dv hsm B wx ht.b ht.m ht.c ht.t ((hr.below hb (fun b hb => hb.1)).mono (fun b hb' => Nat.lt_of_lt_of_le hb'.1 hb.size))⟩
  have hpp := hsm.p
  have HPA : Keep (∀ wx, Calls Tryz.prog 61 #[.string ⟨m.1.toArray⟩] wx fun e w' => e = .returned (.string ⟨(parentP m.1).toArray⟩) ∧ wx = w') := ⟨fun wx => parent_any m.1 (by omega) wx⟩
  have HDR : Keep (∀ wx, Below w.heap.size w wx → Calls Tryz.prog 60 #[.pointer (some ⟨T, 0, none⟩), .string ⟨(parentP m.1).toArray⟩] wx fun e w' => e = .returned (.bool (dirT L (parentP m.1))) ∧ wx = w') := ⟨fun wx hb => dir_tree T mb Bk f L wx (HON.out wx hb) _ (by have := parent_len m.1; omega)⟩
  have HPT : Keep (putT L m = if !mayM m then (1, L) else if !dirT L (parentP m.1) then (33, L) else if (SM.look L m.1).isNone && decide (4096 ≤ L.length) then (42, L) else (0, SM.put (if m.2.kind = 1 then L else clearT L m.1) m)) := ⟨rfl⟩
  generalize putT L m = res at *
  generalize mayM m = my at *
  generalize dirT L (parentP m.1) = dr at *
  generalize parentP m.1 = pp at *
  clear h hT hsm hr hBk
  subst hav hdv
  rw [HMC.out] at HMY ⊢
  go_enter Tryz.func72, Tryz.ntmps72
  go_wp2_with fail
  refine calls_at (R := fun w1 => Hp NoM w w1 [rowA w.heap.size 32 #[.string ⟨m.1.toArray⟩, .int .i64 m.2.kind, .int .u32 m.2.mode, .int .u32 m.2.uid, .int .u32 m.2.gid, .int .i64 m.2.time, .slice aa la ca, .slice ad ld cd, .string ⟨m.2.link.toArray⟩]]) ((Hp.begin NoM w).newRow _ _) ?_
  intro w1 H1
  refine (HNN.out w1 H1.out.below).mono ?_
  rintro e w' ⟨rfl, rfl⟩
  obtain ⟨b3, hb3⟩ : ∃ b3, w.heap.size = b3 := ⟨_, rfl⟩
  have HB3 := Keep.keep hb3
  rw [hb3] at H1 ⊢
  have HRW := Keep.keep (H1.out.row 0 rfl)
  have HSZ : Keep ((#[.string ⟨m.1.toArray⟩, .int .i64 m.2.kind, .int .u32 m.2.mode, .int .u32 m.2.uid, .int .u32 m.2.gid, .int .i64 m.2.time, .slice aa la ca, .slice ad ld cd, .string ⟨m.2.link.toArray⟩] : Array Value).size = 9) := ⟨rfl⟩
  clear hb3
  go_wp2_with ((with_reducible refine arm_loadRow HRW.out aggM HSZ.out ?_ ?_); (focus rfl); simp only [Act.put, List.setIfInBounds_toArray, List.set_cons_succ, List.set_cons_zero])
  refine (HMY.out w1 H1.out.below).mono ?_
  rintro e w2 ⟨rfl, hb2⟩
  have H2 := Keep.keep (H1.out.call hb2)
  clear hb2 H1 HRW
  cases my with
  | false =>
    have HRE : Keep (res = (1, L)) := ⟨HPT.out⟩
    go_wp2_with fail
    go_ret
    rw [HRE.out]
    exact ⟨rfl, ⟨Bk, f, HON.out w2 H2.out.below, fun b hb => .inl hb⟩, .of_below H2.out.below⟩
  | true =>
    have HRW2 := H2.out.row 0 rfl
    have c0 := HRW2.cell (i := 0) rfl
    clear HRW2
    go_wp2_with fail
    refine (HPA.out w2).mono ?_
    rintro e w' ⟨rfl, rfl⟩
    go_wp2_with fail
    refine (HDR.out w2 H2.out.below).mono ?_
    rintro e w' ⟨rfl, rfl⟩
    cases dr with
    | false =>
      have HRE : Keep (res = (33, L)) := ⟨HPT.out⟩
      go_wp2_with fail
      go_ret
      rw [HRE.out]
      exact ⟨rfl, ⟨Bk, f, HON.out w2 H2.out.below, fun b hb => .inl hb⟩, .of_below H2.out.below⟩
    | true =>
      go_upto_region 7 with fail
      clear c0
      obtain ⟨n0, av0, dv0, hn, hn2, hn3, hn4⟩ := look_node f L m.1
      have HLK : Keep (∀ wx, Below w.heap.size w wx → (Instr.lookup 84 (.map (some mb)) (.string ⟨m.1.toArray⟩) true).run Tryz.prog wx = .ok (.tuple #[.agg (ndC n0 av0 dv0), .bool (SM.look L m.1).isSome]) wx) := ⟨fun wx hb => by
        have := (HON.out wx hb).map.lookOk Tryz.underlying9 Tryz.underlying84 (zeroN wx) (p := m.1) (by unfold maxLen; omega)
        rw [hn, look_entries, Option.isSome_map] at this
        exact this⟩
      have hone : (ndC n0 av0 dv0).all (·.oneCell') = true := by
        cases hl : SM.look L m.1 with
        | none => obtain ⟨rfl, rfl⟩ := hn4 hl; simp [ndC, nilV, strV, Value.oneCell']
        | some n1 =>
          obtain ⟨rfl, rfl⟩ := hn3 n1 hl
          have hq := ((HON.out w (Below.refl _ _)).look hl).1
          obtain ⟨a1, c1, e1, -⟩ := hq.at_.shape
          obtain ⟨a2, c2, e2, -⟩ := hq.dt.shape
          rw [e1, e2]; simp [ndC, strV, Value.oneCell']
      have HONE := Keep.keep hone
      obtain ⟨u, hu⟩ : ∃ u, Value.agg (ndC n0 av0 dv0) = u := ⟨_, rfl⟩
      have HU := Keep.keep hu
      have HPI : Keep (res = if (SM.look L m.1).isNone && decide (4096 ≤ L.length) then (42, L) else (0, SM.put (if m.2.kind = 1 then L else clearT L m.1) m)) := ⟨HPT.out⟩
      rw [hu] at HLK
      have hin : (SM.look L m.1).isNone = !(SM.look L m.1).isSome := by cases SM.look L m.1 <;> rfl
      rw [hin] at HPI
      clear hin hn hn2 hn3 hn4 hone hu HPT
      generalize (SM.look L m.1).isSome = is at *
      refine wp_region_spcO [some 22, some 23, some 24, some 25, some 26, some 27, some 28, some 21, some 29, some 30, some 5, none, some 6] (Below w2.heap.size w2) (p7T w2 T mb b3 m.1 u is) (StN w2.heap.size) (by kernel_rfl) rfl (by decide) (by intro d hd; simp at hd; show d < 58; omega) (by kernel_rfl) (Below.refl _ _).drew (fun i v w w' h _ hb => p7T_stays i v w w' h hb) ?_ ?_
      · intro k hk a1 w3 hF hC hT
        have hk : k < 13 := hk
        have b0 : a1.eval (.tmp 0) = .pointer (some ⟨T, 0, none⟩) := (hF.same 0 (by decide)).trans rfl
        have b3e : a1.eval (.tmp 3) = .pointer (some ⟨b3, 0, none⟩) := (hF.same 3 (by decide)).trans rfl
        have HP := H2.out.call hC
        have hkr : StN w2.heap.size w3 w3 := StN.of_below (Below.refl _ _)
        rcases (by omega : k = 0 ∨ k = 1 ∨ k = 2 ∨ k = 3 ∨ k = 4 ∨ k = 5 ∨ k = 6 ∨ k = 7 ∨ k = 8 ∨ k = 9 ∨ k = 10 ∨ k = 11 ∨ k = 12) with rfl | rfl | rfl | rfl | rfl | rfl | rfl | rfl | rfl | rfl | rfl | rfl | rfl
        · exact spcO_val (d := 22) rfl (wanted_none rfl) run_move hC hkr b0
        · have hx : a1.eval (.tmp 22) = .pointer (some ⟨T, 0, none⟩) := hT 0 (by kernel_rfl)
          exact spcO_val (d := 23) rfl (wanted_none rfl) (by simp [execOp, hx]) hC hkr rfl
        · have hx : a1.eval (.tmp 23) = .pointer (some ⟨T, 0, none⟩) := hT 1 (by kernel_rfl)
          exact spcO_val (d := 24) rfl (wanted_none rfl) (run_fieldAddr (m := 0) Tryz.underlying86 rfl (by kernel_rfl) hx) hC hkr rfl
        · have hx : a1.eval (.tmp 24) = .pointer (some ⟨T, 0, none⟩) := hT 2 (by kernel_rfl)
          exact spcO_val (d := 25) rfl (wanted_none rfl) (run_loadCell (run_isAgg_plain Tryz.underlying84 rfl) ((HON.out w3 HP.below).row.cell (i := 0) rfl) hx) hC hkr rfl
        · exact spcO_val (d := 26) rfl (wanted_none rfl) (run_fieldAddr (m := 0) Tryz.underlying32 rfl (by kernel_rfl) b3e) hC hkr rfl
        · have hx : a1.eval (.tmp 26) = .pointer (some ⟨b3, 0, none⟩) := hT 4 (by kernel_rfl)
          exact spcO_val (d := 27) rfl (wanted_none rfl) (run_loadCell (run_isAgg_plain Tryz.underlying9 rfl) ((HP.row 0 rfl).cell (i := 0) rfl) hx) hC hkr rfl
        · have hx : a1.eval (.tmp 25) = .map (some mb) := hT 3 (by kernel_rfl)
          have hy : a1.eval (.tmp 27) = .string ⟨m.1.toArray⟩ := hT 5 (by kernel_rfl)
          exact spcO_val (d := 28) rfl (wanted_none rfl) (by simp [execOp, hx, hy, HLK.out w3 HP.below]) hC hkr rfl
        · exact spcO_val (d := 21) rfl (wanted_none rfl) run_move hC hkr (show slot a1 28 = _ from hT 6 (by kernel_rfl))
        · have hx : a1.eval (.tmp 21) = .tuple #[u, .bool is] := hT 7 (by kernel_rfl)
          exact spcO_val (d := 29) rfl (wanted_none rfl) (by simp [execOp, hx, Instr.extract]) hC hkr rfl
        · have hx : a1.eval (.tmp 21) = .tuple #[u, .bool is] := hT 7 (by kernel_rfl)
          exact spcO_val (d := 30) rfl (wanted_none rfl) (by simp [execOp, hx, Instr.extract]) hC hkr rfl
        · exact spcO_val (d := 5) rfl (wanted_none rfl) (by simp [execOp, run_newN]) (hC.alloc hC.size _) (StN.of_below ((Below.refl _ _).alloc (Nat.le_refl _) _)) ⟨w3.heap.size, zeroNd, rfl, hC.size, Row.new _ _ _, rfl⟩
        · obtain ⟨b, c, hx, hle, hrow, hcs⟩ : ∃ b c, slot a1 5 = .pointer (some ⟨b, 0, none⟩) ∧ w2.heap.size ≤ b ∧ Row w3 b 30 c ∧ c.size = 8 := hT 10 (by kernel_rfl)
          have hy : a1.eval (.tmp 29) = .agg (ndC n0 av0 dv0) := by
            have : slot a1 29 = u := hT 8 (by kernel_rfl)
            rw [HU.out]; exact this
          refine spcO_skip rfl (wanted_none rfl) (run_storeRowOp hrow aggN hcs rfl HONE.out hx hy) (((Chg.of_below (M := NoM) hC).setRow (.inl hle) _).below (fun _ _ h => h)) ?_ trivial
          refine ⟨by simp [World.setRow], fun b' c' hr' hs' hle' => ?_⟩
          by_cases e : b' = b
          · subst e
            exact ⟨_, hr'.setRow _, rfl⟩
          · exact ⟨c', hr'.setRow_apart e _, hs'⟩
        · have hx : a1.eval (.tmp 30) = .bool is := hT 9 (by kernel_rfl)
          exact spcO_val (d := 6) rfl (wanted_none rfl) (by simp [execOp, hx]) hC hkr rfl
      · intro a1 w3 ha hC hT
        have t6 : slot a1 6 = .bool is := hT 12 (by decide)
        simp only [List.filterMap_cons, List.filterMap_nil, List.foldl_cons, List.foldl_nil, t6] at ha
        have H3 := Keep.keep (H2.out.call hC)
        clear hT t6 hC
        generalize slot a1 5 = x5 at *
        generalize slot a1 21 = x21 at *
        generalize slot a1 22 = x22 at *
        generalize slot a1 23 = x23 at *
        generalize slot a1 24 = x24 at *
        generalize slot a1 25 = x25 at *
        generalize slot a1 26 = x26 at *
        generalize slot a1 27 = x27 at *
        generalize slot a1 28 = x28 at *
        generalize slot a1 29 = x29 at *
        generalize slot a1 30 = x30 at *
        subst ha
        simp only [Act.put, List.setIfInBounds_toArray, List.set_cons_succ, List.set_cons_zero]
        have HTI : Keep (TreeIn w3 T mb Bk f L) := ⟨HON.out w3 H3.out.below⟩
        have hlen := fun ty => HTI.out.map.len Tryz.underlying84 ty
        have e1 : (entries f L).length = L.length := by simp [entries]
        rw [e1] at hlen
        have cT := HTI.out.row.cell (i := 0) rfl
        clear e1 H2
        cases is with
        | true =>
          have HRE : Keep (res = (0, SM.put (if m.2.kind = 1 then L else clearT L m.1) m)) := ⟨HPI.out⟩
          have hrow := H3.out.row 0 rfl
          have k0 := hrow.cell (i := 0) rfl
          have k1 := hrow.cell (i := 1) rfl
          clear hrow
          go_upto_if 44 with fail
          go_cut [4] from 7 (fun u4 wx => ∃ L1, L1 = (if m.2.kind = 1 then L else clearT L m.1) ∧ TreeIn wx T mb Bk f L1 ∧ Chg (fun j => j = mb) w3.heap.size w3 wx)
          case first =>
            by_cases hk : m.2.kind = 1
            · have hd : (m.2.kind != 1) = false := by simp [hk]
              have HK := Keep.keep hk
              clear hk
              go_wp2_with fail
              go_meet
              case rel => exact ⟨L, by rw [if_pos HK.out], HTI.out, .refl _ _ _⟩
            · have hd : (m.2.kind != 1) = true := by simpa using hk
              have HK := Keep.keep hk
              clear hk
              go_wp2_with fail
              refine (clear_tree T mb Bk f L w3 HTI.out (fun b hb => Nat.lt_of_lt_of_le (HBK.out b hb) H3.out.size) m.1 (by omega)).mono ?_
              rintro e w5 ⟨rfl, hT5, hc5⟩
              have HT5 := Keep.keep hT5; have HC5 := Keep.keep hc5
              clear hT5 hc5
              go_wp2_with fail
              go_meet
              case rel => exact ⟨_, by rw [if_neg HK.out], HT5.out, HC5.out⟩
          case rest =>
            obtain ⟨L1, hL1, hT5, hc5⟩ := hcut
            rw [← hL1] at HRE
            have hl1 : L1.length ≤ L.length := by
              rw [hL1]; split
              · exact Nat.le_refl _
              · exact List.length_filter_le _ _
            have HT5 := Keep.keep hT5; have HC5 := Keep.keep hc5
            have HC0 : Keep (Chg (fun j => j = mb) w.heap.size w wc) := ⟨(Chg.of_below H3.out.below).trans (hc5.lower H3.out.size)⟩
            have HNE : Keep (mb < w.heap.size ∧ w.heap.size = b3) := ⟨hmlt, HB3.out⟩
            have HRC : Keep (Row wc b3 32 #[.string ⟨m.1.toArray⟩, .int .i64 m.2.kind, .int .u32 m.2.mode, .int .u32 m.2.uid, .int .u32 m.2.gid, .int .i64 m.2.time, .slice aa la ca, .slice ad ld cd, .string ⟨m.2.link.toArray⟩]) := ⟨by
              have h := H3.out.row 0 rfl
              exact h.chg hc5 h.lt (by have := HNE.out; omega)⟩
            have HRN : Keep (NdR wc (fun b => b < w.heap.size ∧ b ≠ mb) m.2 (.slice aa la ca) (.slice ad ld cd)) := ⟨HNR.out.chg HC0.out (fun b hb => hb)⟩
            clear hT5 hc5 hL1 k0 k1 cT hlen
            go_upto_region 12 with fail
            refine wp_region_spcT 9 [49, 50, 51, 52, 53, 54, 55, 56, 57] (Below wc.heap.size wc) (p12T wc T mb b3 m.1 m.2 (.slice aa la ca) (.slice ad ld cd)) (fun w w' => Below w.heap.size w w') (by kernel_rfl) rfl (by decide) (by show ∀ d ∈ _, d < 58; decide) (by kernel_rfl) (by decide) (by kernel_rfl) (by kernel_rfl) (by kernel_rfl) (Below.refl _ _).drew (fun i v w w' h _ hb => p12T_stays i v w w' h hb) ?_ ?_
            · intro k hk a1 w6 hF hC hT
              have b0 : a1.eval (.tmp 0) = .pointer (some ⟨T, 0, none⟩) := (hF.same 0 (by decide)).trans rfl
              have b3e : a1.eval (.tmp 3) = .pointer (some ⟨b3, 0, none⟩) := (hF.same 3 (by decide)).trans rfl
              have hkr : Below w6.heap.size w6 w6 := Below.refl _ _
              have hRC := HRC.out.below hC HRC.out.lt
              have hTW := HT5.out.row.below hC HT5.out.row.lt
              rcases (by omega : k = 0 ∨ k = 1 ∨ k = 2 ∨ k = 3 ∨ k = 4 ∨ k = 5 ∨ k = 6 ∨ k = 7 ∨ k = 8) with rfl | rfl | rfl | rfl | rfl | rfl | rfl | rfl | rfl
              · exact spcS_val (d := 49) rfl (wanted_none rfl) run_move hC hkr b0
              · have hx : a1.eval (.tmp 49) = .pointer (some ⟨T, 0, none⟩) := hT 0 (by decide) (by kernel_rfl)
                exact spcS_val (d := 50) rfl (wanted_none rfl) (by simp [execOp, hx]) hC hkr rfl
              · have hx : a1.eval (.tmp 50) = .pointer (some ⟨T, 0, none⟩) := hT 1 (by decide) (by kernel_rfl)
                exact spcS_val (d := 51) rfl (wanted_none rfl) (run_fieldAddr (m := 0) Tryz.underlying86 rfl (by kernel_rfl) hx) hC hkr rfl
              · have hx : a1.eval (.tmp 51) = .pointer (some ⟨T, 0, none⟩) := hT 2 (by decide) (by kernel_rfl)
                exact spcS_val (d := 52) rfl (wanted_none rfl) (run_loadCell (run_isAgg_plain Tryz.underlying84 rfl) (hTW.cell (i := 0) rfl) hx) hC hkr rfl
              · exact spcS_val (d := 53) rfl (wanted_none rfl) (run_fieldAddr (m := 0) Tryz.underlying32 rfl (by kernel_rfl) b3e) hC hkr rfl
              · have hx : a1.eval (.tmp 53) = .pointer (some ⟨b3, 0, none⟩) := hT 4 (by decide) (by kernel_rfl)
                exact spcS_val (d := 54) rfl (wanted_none rfl) (run_loadCell (run_isAgg_plain Tryz.underlying9 rfl) (hRC.cell (i := 0) rfl) hx) hC hkr rfl
              · exact spcS_val (d := 55) rfl (wanted_none rfl) (run_fieldAddr (m := 7) Tryz.underlying32 rfl (by kernel_rfl) b3e) hC hkr rfl
              · have hx : a1.eval (.tmp 55) = .pointer (some ⟨b3, 1, none⟩) := hT 6 (by decide) (by kernel_rfl)
                exact spcS_val (d := 56) rfl (wanted_none rfl) (run_loadNd hRC hx) hC hkr rfl
              · have hx : a1.eval (.tmp 56) = .agg (ndC m.2 (.slice aa la ca) (.slice ad ld cd)) := hT 7 (by decide) (by kernel_rfl)
                refine spcS_call (d := 57) (vs := #[.agg (ndC m.2 (.slice aa la ca) (.slice ad ld cd))]) rfl (wanted_none rfl) (Go.Proofs.enters_of Tryz.func58 (by kernel_rfl) rfl) (by simp [hx]) ?_
                have hsz6 := hC.size
                have hszc := HC0.out.size
                refine (clone_node m.2 _ _ w6 ((HRN.out.below hC (fun b hb => Nat.lt_of_lt_of_le hb.1 hszc)).mono (fun b hb => by have := hb.1; omega)) HSM.out.a (Nat.le_trans HSM.out.d (by decide))).mono ?_
                rintro e wz ⟨a', d', rfl, hn', hb⟩
                exact ⟨_, rfl, hC.trans (hb.mono hC.size), hb, a', d', rfl, hn'.mono (fun b hb' => hb'.mono hC.size (Nat.le_refl _))⟩
            · intro a2 w6 ha hC hT
              have t3 : slot a2 52 = .map (some mb) := hT 3 (by decide)
              have t5 : slot a2 54 = .string ⟨m.1.toArray⟩ := hT 5 (by decide)
              obtain ⟨av', dv', t8, hn'⟩ : ∃ av' dv', slot a2 57 = .agg (ndC m.2 av' dv') ∧ NdR w6 (Fresh wc.heap.size w6) m.2 av' dv' := hT 8 (by decide)
              simp only [List.foldl_cons, List.foldl_nil, t3, t5, t8] at ha
              clear hT t3 t5 t8
              generalize slot a2 49 = y49 at *
              generalize slot a2 50 = y50 at *
              generalize slot a2 51 = y51 at *
              generalize slot a2 53 = y53 at *
              generalize slot a2 55 = y55 at *
              generalize slot a2 56 = y56 at *
              have HN' := Keep.keep hn'
              have HC6 := Keep.keep hC
              have hszc := HC0.out.size
              have hT6 : TreeIn w6 T mb Bk f L1 := HT5.out.loc (fun b hb' => hC.block b (by
                rcases hb' with h | h | h
                · rw [h]; exact HT5.out.row.lt
                · rw [h]; exact HT5.out.map.lt
                · exact Nat.lt_of_lt_of_le (HBK.out b h) hszc))
              have HT6 := Keep.keep hT6
              clear hn' hC hT6
              subst ha
              simp only [List.drop_succ_cons, List.drop_zero]
              simp only [Act.put, List.setIfInBounds_toArray, List.set_cons_succ, List.set_cons_zero]
              go_wp2_with (first | (with_reducible refine arm_sRange ?_) | (with_reducible refine arm_sNext ?_) | (with_reducible refine arm_sDel ?_) | (with_reducible refine arm_sPut ?_) | (with_reducible refine arm_sIns ?_))
              refine StM.out ?_
              refine arm_putS Tryz.underlying9 Tryz.underlying84 HT6.out.map (p := m.1) (by unfold maxLen; omega) (by simp [entries]; unfold maxLen; omega) rfl rfl rfl ?_
              intro w7 hm7 hc7
              have hs6 := HC6.out.size
              have hfin := HT6.out.put (Bk' := fun b => Bk b ∨ Fresh wc.heap.size w6 b) (fun b hb => by have := HBK.out b hb; omega) m av' dv' HSM.out hm7 hc7 (HN'.out.mono (fun b hb => .inr hb)) (fun b hb => .inl hb) (fun b hb => by
                rcases hb with hb | hb
                · have h1 := HBK.out b hb
                  exact ⟨by omega, fun e => HT6.out.ne.2.1 (e ▸ hb), fun e => HT6.out.ne.2.2 (e ▸ hb)⟩
                · have h1 := hb.1
                  have h2 := HNE.out.1
                  exact ⟨hb.2, by omega, by omega⟩)
              have HFIN := Keep.keep hfin
              have HC7 : Keep (Chg (fun j => j = mb) w.heap.size w w7) := ⟨HC0.out.trans (((Chg.of_below HC6.out).lower hszc).trans (hc7.lower (by omega)))⟩
              have hc7z : Keep (w6.heap.size ≤ w7.heap.size) := ⟨hc7.size⟩
              clear hfin hm7 hc7
              simp only [Act.put]
              go_wp2_with fail
              go_ret
              rw [HRE.out]
              exact ⟨rfl, ⟨_, _, HFIN.out, fun b hb => hb.imp id (fun h => ⟨by have := h.1; omega, by have := h.2; have := hc7z.out; omega⟩)⟩, HC7.out⟩
        | false =>
          by_cases hl : 4096 ≤ L.length
          · have hd : decide ((4096 : Int) ≤ (L.length : Int)) = true := decide_eq_true (by omega)
            have HRE : Keep (res = (42, L)) := ⟨by rw [HPI.out, decide_eq_true hl]; rfl⟩
            go_wp2_with fail
            go_ret
            rw [HRE.out]
            exact ⟨rfl, ⟨Bk, f, HTI.out, fun b hb => .inl hb⟩, .of_below H3.out.below⟩
          · have hd : decide ((4096 : Int) ≤ (L.length : Int)) = false := decide_eq_false (by omega)
            have HRE : Keep (res = (0, SM.put (if m.2.kind = 1 then L else clearT L m.1) m)) := ⟨by rw [HPI.out, decide_eq_false hl]; rfl⟩
            clear hl
            have hrow := H3.out.row 0 rfl
            have k0 := hrow.cell (i := 0) rfl
            have k1 := hrow.cell (i := 1) rfl
            clear hrow
            go_upto_if 44 with fail
            go_cut [4] from 7 (fun u4 wx => ∃ L1, L1 = (if m.2.kind = 1 then L else clearT L m.1) ∧ TreeIn wx T mb Bk f L1 ∧ Chg (fun j => j = mb) w3.heap.size w3 wx)
            case first =>
              by_cases hk : m.2.kind = 1
              · have hd : (m.2.kind != 1) = false := by simp [hk]
                have HK := Keep.keep hk
                clear hk
                go_wp2_with fail
                go_meet
                case rel => exact ⟨L, by rw [if_pos HK.out], HTI.out, .refl _ _ _⟩
              · have hd : (m.2.kind != 1) = true := by simpa using hk
                have HK := Keep.keep hk
                clear hk
                go_wp2_with fail
                refine (clear_tree T mb Bk f L w3 HTI.out (fun b hb => Nat.lt_of_lt_of_le (HBK.out b hb) H3.out.size) m.1 (by omega)).mono ?_
                rintro e w5 ⟨rfl, hT5, hc5⟩
                have HT5 := Keep.keep hT5; have HC5 := Keep.keep hc5
                clear hT5 hc5
                go_wp2_with fail
                go_meet
                case rel => exact ⟨_, by rw [if_neg HK.out], HT5.out, HC5.out⟩
            case rest =>
              obtain ⟨L1, hL1, hT5, hc5⟩ := hcut
              rw [← hL1] at HRE
              have hl1 : L1.length ≤ L.length := by
                rw [hL1]; split
                · exact Nat.le_refl _
                · exact List.length_filter_le _ _
              have HT5 := Keep.keep hT5; have HC5 := Keep.keep hc5
              have HC0 : Keep (Chg (fun j => j = mb) w.heap.size w wc) := ⟨(Chg.of_below H3.out.below).trans (hc5.lower H3.out.size)⟩
              have HNE : Keep (mb < w.heap.size ∧ w.heap.size = b3) := ⟨hmlt, HB3.out⟩
              have HRC : Keep (Row wc b3 32 #[.string ⟨m.1.toArray⟩, .int .i64 m.2.kind, .int .u32 m.2.mode, .int .u32 m.2.uid, .int .u32 m.2.gid, .int .i64 m.2.time, .slice aa la ca, .slice ad ld cd, .string ⟨m.2.link.toArray⟩]) := ⟨by
                have h := H3.out.row 0 rfl
                exact h.chg hc5 h.lt (by have := HNE.out; omega)⟩
              have HRN : Keep (NdR wc (fun b => b < w.heap.size ∧ b ≠ mb) m.2 (.slice aa la ca) (.slice ad ld cd)) := ⟨HNR.out.chg HC0.out (fun b hb => hb)⟩
              clear hT5 hc5 hL1 k0 k1 cT hlen
              go_upto_region 12 with fail
              refine wp_region_spcT 9 [49, 50, 51, 52, 53, 54, 55, 56, 57] (Below wc.heap.size wc) (p12T wc T mb b3 m.1 m.2 (.slice aa la ca) (.slice ad ld cd)) (fun w w' => Below w.heap.size w w') (by kernel_rfl) rfl (by decide) (by show ∀ d ∈ _, d < 58; decide) (by kernel_rfl) (by decide) (by kernel_rfl) (by kernel_rfl) (by kernel_rfl) (Below.refl _ _).drew (fun i v w w' h _ hb => p12T_stays i v w w' h hb) ?_ ?_
              · intro k hk a1 w6 hF hC hT
                have b0 : a1.eval (.tmp 0) = .pointer (some ⟨T, 0, none⟩) := (hF.same 0 (by decide)).trans rfl
                have b3e : a1.eval (.tmp 3) = .pointer (some ⟨b3, 0, none⟩) := (hF.same 3 (by decide)).trans rfl
                have hkr : Below w6.heap.size w6 w6 := Below.refl _ _
                have hRC := HRC.out.below hC HRC.out.lt
                have hTW := HT5.out.row.below hC HT5.out.row.lt
                rcases (by omega : k = 0 ∨ k = 1 ∨ k = 2 ∨ k = 3 ∨ k = 4 ∨ k = 5 ∨ k = 6 ∨ k = 7 ∨ k = 8) with rfl | rfl | rfl | rfl | rfl | rfl | rfl | rfl | rfl
                · exact spcS_val (d := 49) rfl (wanted_none rfl) run_move hC hkr b0
                · have hx : a1.eval (.tmp 49) = .pointer (some ⟨T, 0, none⟩) := hT 0 (by decide) (by kernel_rfl)
                  exact spcS_val (d := 50) rfl (wanted_none rfl) (by simp [execOp, hx]) hC hkr rfl
                · have hx : a1.eval (.tmp 50) = .pointer (some ⟨T, 0, none⟩) := hT 1 (by decide) (by kernel_rfl)
                  exact spcS_val (d := 51) rfl (wanted_none rfl) (run_fieldAddr (m := 0) Tryz.underlying86 rfl (by kernel_rfl) hx) hC hkr rfl
                · have hx : a1.eval (.tmp 51) = .pointer (some ⟨T, 0, none⟩) := hT 2 (by decide) (by kernel_rfl)
                  exact spcS_val (d := 52) rfl (wanted_none rfl) (run_loadCell (run_isAgg_plain Tryz.underlying84 rfl) (hTW.cell (i := 0) rfl) hx) hC hkr rfl
                · exact spcS_val (d := 53) rfl (wanted_none rfl) (run_fieldAddr (m := 0) Tryz.underlying32 rfl (by kernel_rfl) b3e) hC hkr rfl
                · have hx : a1.eval (.tmp 53) = .pointer (some ⟨b3, 0, none⟩) := hT 4 (by decide) (by kernel_rfl)
                  exact spcS_val (d := 54) rfl (wanted_none rfl) (run_loadCell (run_isAgg_plain Tryz.underlying9 rfl) (hRC.cell (i := 0) rfl) hx) hC hkr rfl
                · exact spcS_val (d := 55) rfl (wanted_none rfl) (run_fieldAddr (m := 7) Tryz.underlying32 rfl (by kernel_rfl) b3e) hC hkr rfl
                · have hx : a1.eval (.tmp 55) = .pointer (some ⟨b3, 1, none⟩) := hT 6 (by decide) (by kernel_rfl)
                  exact spcS_val (d := 56) rfl (wanted_none rfl) (run_loadNd hRC hx) hC hkr rfl
                · have hx : a1.eval (.tmp 56) = .agg (ndC m.2 (.slice aa la ca) (.slice ad ld cd)) := hT 7 (by decide) (by kernel_rfl)
                  refine spcS_call (d := 57) (vs := #[.agg (ndC m.2 (.slice aa la ca) (.slice ad ld cd))]) rfl (wanted_none rfl) (Go.Proofs.enters_of Tryz.func58 (by kernel_rfl) rfl) (by simp [hx]) ?_
                  have hsz6 := hC.size
                  have hszc := HC0.out.size
                  refine (clone_node m.2 _ _ w6 ((HRN.out.below hC (fun b hb => Nat.lt_of_lt_of_le hb.1 hszc)).mono (fun b hb => by have := hb.1; omega)) HSM.out.a (Nat.le_trans HSM.out.d (by decide))).mono ?_
                  rintro e wz ⟨a', d', rfl, hn', hb⟩
                  exact ⟨_, rfl, hC.trans (hb.mono hC.size), hb, a', d', rfl, hn'.mono (fun b hb' => hb'.mono hC.size (Nat.le_refl _))⟩
              · intro a2 w6 ha hC hT
                have t3 : slot a2 52 = .map (some mb) := hT 3 (by decide)
                have t5 : slot a2 54 = .string ⟨m.1.toArray⟩ := hT 5 (by decide)
                obtain ⟨av', dv', t8, hn'⟩ : ∃ av' dv', slot a2 57 = .agg (ndC m.2 av' dv') ∧ NdR w6 (Fresh wc.heap.size w6) m.2 av' dv' := hT 8 (by decide)
                simp only [List.foldl_cons, List.foldl_nil, t3, t5, t8] at ha
                clear hT t3 t5 t8
                generalize slot a2 49 = y49 at *
                generalize slot a2 50 = y50 at *
                generalize slot a2 51 = y51 at *
                generalize slot a2 53 = y53 at *
                generalize slot a2 55 = y55 at *
                generalize slot a2 56 = y56 at *
                have HN' := Keep.keep hn'
                have HC6 := Keep.keep hC
                have hszc := HC0.out.size
                have hT6 : TreeIn w6 T mb Bk f L1 := HT5.out.loc (fun b hb' => hC.block b (by
                  rcases hb' with h | h | h
                  · rw [h]; exact HT5.out.row.lt
                  · rw [h]; exact HT5.out.map.lt
                  · exact Nat.lt_of_lt_of_le (HBK.out b h) hszc))
                have HT6 := Keep.keep hT6
                clear hn' hC hT6
                subst ha
                simp only [List.drop_succ_cons, List.drop_zero]
                simp only [Act.put, List.setIfInBounds_toArray, List.set_cons_succ, List.set_cons_zero]
                go_wp2_with (first | (with_reducible refine arm_sRange ?_) | (with_reducible refine arm_sNext ?_) | (with_reducible refine arm_sDel ?_) | (with_reducible refine arm_sPut ?_) | (with_reducible refine arm_sIns ?_))
                refine StM.out ?_
                refine arm_putS Tryz.underlying9 Tryz.underlying84 HT6.out.map (p := m.1) (by unfold maxLen; omega) (by simp [entries]; unfold maxLen; omega) rfl rfl rfl ?_
                intro w7 hm7 hc7
                have hs6 := HC6.out.size
                have hfin := HT6.out.put (Bk' := fun b => Bk b ∨ Fresh wc.heap.size w6 b) (fun b hb => by have := HBK.out b hb; omega) m av' dv' HSM.out hm7 hc7 (HN'.out.mono (fun b hb => .inr hb)) (fun b hb => .inl hb) (fun b hb => by
                  rcases hb with hb | hb
                  · have h1 := HBK.out b hb
                    exact ⟨by omega, fun e => HT6.out.ne.2.1 (e ▸ hb), fun e => HT6.out.ne.2.2 (e ▸ hb)⟩
                  · have h1 := hb.1
                    have h2 := HNE.out.1
                    exact ⟨hb.2, by omega, by omega⟩)
                have HFIN := Keep.keep hfin
                have HC7 : Keep (Chg (fun j => j = mb) w.heap.size w w7) := ⟨HC0.out.trans (((Chg.of_below HC6.out).lower hszc).trans (hc7.lower (by omega)))⟩
                have hc7z : Keep (w6.heap.size ≤ w7.heap.size) := ⟨hc7.size⟩
                clear hfin hm7 hc7
                simp only [Act.put]
                go_wp2_with fail
                go_ret
                rw [HRE.out]
                exact ⟨rfl, ⟨_, _, HFIN.out, fun b hb => hb.imp id (fun h => ⟨by have := h.1; omega, by have := h.2; have := hc7z.out; omega⟩)⟩, HC7.out⟩
end Go.Proofs.YtplafpokgpolkaaGreatDoor
/- A SLICE OF MEMBERS in memory; slices.IndexFunc, ContainsFunc over members. -/
namespace Go.Proofs.YtplafpokgpolkaaGreatDoor
open Go.RowKit
/-- a member with its two slices -/
abbrev Mv := Mb × Value × Value
def mcell (x : Mv) : Array Value := mbC x.1 x.2.1 x.2.2
def mcells (l : List Mv) : List Value := l.flatMap fun x => (mcell x).toList
theorem mcells_cons (x : Mv) (l : List Mv) : mcells (x :: l) = (mcell x).toList ++ mcells l := rfl
theorem mcells_append (l k : List Mv) : mcells (l ++ k) = mcells l ++ mcells k := by simp [mcells]
theorem mcell_len (x : Mv) : (mcell x).toList.length = 9 := rfl
theorem mcells_length : ∀ l : List Mv, (mcells l).length = l.length * 9
  | [] => rfl
  | x :: l => by rw [mcells_cons, List.length_append, mcells_length l, mcell_len, List.length_cons]; omega
theorem mcells_get : ∀ (l : List Mv) (k i : Nat) (hk : k < l.length), i < 9 → (mcells l)[k * 9 + i]? = (mcell l[k])[i]?
  | x :: l, 0, i, _, hi => by
    rw [mcells_cons, Nat.zero_mul, Nat.zero_add, List.getElem?_append_left (by rw [mcell_len]; exact hi)]
    simp
  | x :: l, k + 1, i, h, hi => by
    have := mcells_get l k i (by simpa using h) hi
    rw [mcells_cons, List.getElem?_append_right (by rw [mcell_len]; omega), mcell_len]
    have e : (k + 1) * 9 + i - 9 = k * 9 + i := by omega
    rw [e, this]; rfl
/-- v, a []Member, reads as l; its row is of N, what its items lead to of N' -/
structure Mbs (w : World) (N N' : Nat → Prop) (v : Value) (l : List Mv) : Prop where
  rd : RdV w N 9 v l.length (mcells l)
  nd : ∀ x ∈ l, NdR w N' x.1.2 x.2.1 x.2.2
theorem Mbs.mono {w : World} {N N' K K' : Nat → Prop} {v : Value} {l : List Mv} (h : Mbs w N N' v l) (h1 : ∀ b, N b → K b) (h2 : ∀ b, N' b → K' b) : Mbs w K K' v l := ⟨h.rd.mono h1, fun x hx => (h.nd x hx).mono h2⟩
theorem Mbs.loc {w w' : World} {N N' : Nat → Prop} {v : Value} {l : List Mv} (h : Mbs w N N' v l) (h1 : ∀ b, N b → w'.heap[b]? = w.heap[b]?) (h2 : ∀ b, N' b → w'.heap[b]? = w.heap[b]?) : Mbs w' N N' v l := ⟨h.rd.loc h1, fun x hx => (h.nd x hx).loc h2⟩
theorem Mbs.below {w w' : World} {B : Nat} {N N' : Nat → Prop} {v : Value} {l : List Mv} (h : Mbs w N N' v l) (hb : Below B w w') (h1 : ∀ b, N b → b < B) (h2 : ∀ b, N' b → b < B) : Mbs w' N N' v l := h.loc (fun b hb' => hb.block b (h1 b hb')) (fun b hb' => hb.block b (h2 b hb'))
theorem Mbs.cell {w : World} {N N' : Nat → Prop} {l : List Mv} {b off n cap : Nat} (h : Mbs w N N' (.slice (some ⟨b, off, none⟩) n cap) l) {k : Nat} (hk : k < l.length) (i : Nat) (hi : i < 9) {u : Value} (hu : (mcell l[k])[i]? = some u) : w.cell? ⟨b, off + k * 9 + i, none⟩ = some u := by
  have := mcells_get l k i hk hi
  rw [hu] at this
  rw [Nat.add_assoc]
  exact h.rd.cell b off _ _ rfl _ _ this
/-- a member in the middle of a row is read -/
theorem Mbs.load {w : World} {N N' : Nat → Prop} {l : List Mv} {b off n cap : Nat} (h : Mbs w N N' (.slice (some ⟨b, off, none⟩) n cap) l) {k : Nat} (hk : k < l.length) : (Instr.loadAt 32 (.pointer (some ⟨b, off + k * 9, none⟩))).run Tryz.prog w = .ok (.agg (mcell l[k])) w := by
  have := run_loadAt_mid (P := Tryz.prog) w b (off + k * 9) 32 (mcell l[k]).toList _ (fun j z hj => by
    have hlt := (List.getElem?_eq_some_iff.1 hj).1
    rw [mcell_len] at hlt
    refine h.cell hk j hlt ?_
    simpa using hj) Tryz.underlying32 rfl (by rw [mcell_len]; exact aggM.i)
  simpa using this
def NdS (x : Mv) : Prop := ∃ aa la ca ad ld cd, x.2.1 = .slice aa la ca ∧ x.2.2 = .slice ad ld cd
theorem NdR.shape {w : World} {N : Nat → Prop} {n : Nd} {av dv : Value} (h : NdR w N n av dv) : ∃ aa la ca ad ld cd, av = .slice aa la ca ∧ dv = .slice ad ld cd := by
  obtain ⟨aa, ca, e1, -⟩ := h.at_.shape
  obtain ⟨ad, cd, e2, -⟩ := h.dt.shape
  exact ⟨aa, _, ca, ad, _, cd, e1, e2⟩
def idxM (p : Mb → Bool) (l : List Mv) : Int := match l.findIdx? (fun x => p x.1) with | some i => (i : Int) | none => -1
theorem idxM_hit {p : Mb → Bool} {l : List Mv} {k : Nat} (hk : k < l.length) (h : p l[k].1 = true) (hn : ∀ j, (hj : j < k) → p (l[j]'(by omega)).1 = false) : idxM p l = k := by
  unfold idxM
  rw [List.findIdx?_eq_some_iff_getElem.2 ⟨hk, h, fun j hj => by rw [hn j hj]; exact fun h => by cases h⟩]
theorem idxM_none {p : Mb → Bool} {l : List Mv} (hn : ∀ j, (hj : j < l.length) → p l[j].1 = false) : idxM p l = -1 := by
  unfold idxM
  rw [List.findIdx?_eq_none_iff.2 (fun x hx => by obtain ⟨j, hj, rfl⟩ := List.mem_iff_getElem.1 hx; exact hn j hj)]
set_option maxHeartbeats 1000000 in
set_option maxRecDepth 100000 in
theorem ifuncM (F : FuncId) (cs : Array Value) (p : Mb → Bool) (v : Value) (l : List Mv) (w : World) (hent : ∀ args w, (callFunc F args).run Tryz.prog w = .ok (.enter F args) w)
    (hf : ∀ wx, Below w.heap.size w wx → ∀ x ∈ l, Calls Tryz.prog F (#[.agg (mcell x)] ++ cs) wx fun e w' => e = .returned (.bool (p x.1)) ∧ Below wx.heap.size wx w') (hr : Mbs w (· < w.heap.size) (· < w.heap.size) v l) :
    Calls Tryz.prog 87 #[v, .func (.func F) #[] cs] w fun e w' => e = .returned (.int .i64 (idxM p l)) ∧ Below w.heap.size w w' := by
  obtain ⟨a, cap, rfl, hcap, hmx, h3⟩ := hr.rd.shape
  have HR := Keep.keep hr; have HF := Keep.keep hf; have H3 := Keep.keep h3
  unfold maxLen at hmx
  clear hr hf h3
  go_enter Tryz.func87, Tryz.ntmps87
  go_wp2_with fail
  go_loopg [5, 8] l.length (fun g _ u8 wx => ∃ k : Nat, k + g = l.length ∧ u8 = .int .i64 (k : Int) ∧ (∀ j, (hj : j < k) → (hl : j < l.length) → p l[j].1 = false) ∧ Below w.heap.size w wx)
  case atStart => exact ⟨0, by omega, rfl, fun j hj => by omega, Below.refl _ _⟩
  case round =>
    obtain ⟨k, hkg, rfl, hno, hb⟩ := hrel
    have HNO := Keep.keep hno; have HB := Keep.keep hb
    clear hno hb
    cases gk with
    | zero =>
      obtain rfl : k = l.length := by omega
      have hx : Keep (idxM p l = -1) := ⟨idxM_none (fun j hj => HNO.out j hj hj)⟩
      go_wp2_with fail
      go_ret
      exact ⟨by rw [hx.out]; rfl, HB.out⟩
    | succ g =>
      have hk : k < l.length := by omega
      obtain ⟨b, off, rfl, hbl⟩ : ∃ b off, a = some ⟨b, off, none⟩ ∧ b < w.heap.size := by
        rcases H3.out with h | ⟨b, off, h, hb⟩
        · omega
        · exact ⟨b, off, h, hb⟩
      have hrx := HR.out.below HB.out (fun b hb => hb) (fun b hb => hb)
      have hld := hrx.load hk
      have HC := Keep.keep (HF.out wr HB.out l[k] (List.getElem_mem hk))
      have HSTEP : Keep (p l[k].1 = false → ∀ j, (hj : j < k + 1) → (hl : j < l.length) → p l[j].1 = false) := ⟨fun he j hj hl => by
        rcases Nat.lt_succ_iff_lt_or_eq.1 hj with h | rfl
        · exact HNO.out j h hl
        · exact he⟩
      have HHIT : Keep (p l[k].1 = true → idxM p l = (k : Int)) := ⟨fun he => idxM_hit hk he (fun j hj => HNO.out j hj (by omega))⟩
      generalize p l[k].1 = pk at *
      generalize mcell l[k] = x at *
      clear hrx
      go_wp2_with ((with_reducible refine arm_loadM hld ?_ ?_); (focus rfl); simp only [Act.put, List.setIfInBounds_toArray, List.set_cons_succ, List.set_cons_zero])
      refine HC.out.mono ?_
      rintro e w2 ⟨rfl, hb2⟩
      have HB2 := Keep.keep (HB.out.trans (hb2.mono HB.out.size))
      clear hb2
      cases pk with
      | true =>
        have hi := HHIT.out rfl
        go_wp2_with fail
        go_ret
        exact ⟨by rw [hi]; rfl, HB2.out⟩
      | false =>
        have HST2 := Keep.keep (HSTEP.out rfl)
        go_wp2_with fail
        go_roundg g
        case measure => omega
        case rel => exact ⟨k + 1, by omega, by simp, HST2.out, HB2.out⟩
set_option maxHeartbeats 1000000 in
theorem cfuncM (F : FuncId) (cs : Array Value) (p : Mb → Bool) (v : Value) (l : List Mv) (w : World) (hent : ∀ args w, (callFunc F args).run Tryz.prog w = .ok (.enter F args) w)
    (hf : ∀ wx, Below w.heap.size w wx → ∀ x ∈ l, Calls Tryz.prog F (#[.agg (mcell x)] ++ cs) wx fun e w' => e = .returned (.bool (p x.1)) ∧ Below wx.heap.size wx w') (hr : Mbs w (· < w.heap.size) (· < w.heap.size) v l) :
    Calls Tryz.prog 43 #[v, .func (.func F) #[] cs] w fun e w' => e = .returned (.bool (l.any fun x => p x.1)) ∧ Below w.heap.size w w' := by
  have HI := Keep.keep (ifuncM F cs p v l w hent hf hr)
  obtain ⟨a, cap, rfl, -⟩ := hr.rd.shape
  have hx : decide (0 ≤ idxM p l) = l.any fun x => p x.1 := by
    unfold idxM
    cases h : l.findIdx? (fun x => p x.1) with
    | none =>
      have := List.findIdx?_eq_none_iff.1 h
      have : (l.any fun x => p x.1) = false := by rw [List.any_eq_false]; intro x hx; simpa using this x hx
      rw [this]; rfl
    | some i =>
      obtain ⟨hi, hp, -⟩ := List.findIdx?_eq_some_iff_getElem.1 h
      have : (l.any fun x => p x.1) = true := List.any_eq_true.2 ⟨_, List.getElem_mem hi, hp⟩
      rw [this]
      exact decide_eq_true (by simp)
  clear hr hf
  generalize idxM p l = i at *
  generalize (l.any fun x => p x.1) = b at *
  go_enter Tryz.func43, Tryz.ntmps43
  go_wp2_with fail
  refine HI.out.mono ?_
  rintro e w1 ⟨rfl, hb⟩
  go_wp2_with fail
  go_ret
  exact ⟨rfl, hb⟩
end Go.Proofs.YtplafpokgpolkaaGreatDoor
/- tree.New. -/
namespace Go.Proofs.YtplafpokgpolkaaGreatDoor
open Go.RowKit
def growT (l : List Mb) : List Mb := l.foldl SM.put []
def newT (l : List Mb) : Int × Option (List Mb) :=
  if l.any (fun m => !mayM m) then (1, none) else if (growT l).length < l.length then (9, none) else if l.any (fun m => !dirT (growT l) (parentP m.1)) then (33, none) else if 4096 < l.length then (42, none) else (0, some (growT l))
theorem ent_n1 : ∀ args w, (callFunc 56 args).run Tryz.prog w = .ok (.enter 56 args) w := enters_of Tryz.func56 (by kernel_rfl) rfl
theorem ent_n2 : ∀ args w, (callFunc 59 args).run Tryz.prog w = .ok (.enter 59 args) w := enters_of Tryz.func59 (by kernel_rfl) rfl
set_option maxHeartbeats 1000000 in
set_option maxRecDepth 100000 in
theorem n1_any (m : Mb) (av dv : Value) (hsm : Sm m) (B : Nat) (w : World) (hT : Tabs B w) (hr : NdR w (· < w.heap.size) m.2 av dv) :
    Calls Tryz.prog 56 #[.agg (mbC m av dv)] w fun e w' => e = .returned (.bool (!mayM m)) ∧ Below w.heap.size w w' := by
  have HMY : Keep (∀ wx, Below w.heap.size w wx → Calls Tryz.prog 57 #[.agg (mbC m av dv)] wx fun e w' => e = .returned (.bool (mayM m)) ∧ Below wx.heap.size wx w') := ⟨fun wx hb => by
    have ht := hT.on (hb.mono hT.b)
    exact tmay_any m av dv hsm B wx ht.b ht.m ht.c ht.t ((hr.below hb (fun b hb => hb)).mono (fun b hb' => Nat.lt_of_lt_of_le hb' hb.size))⟩
  obtain ⟨aa, la, ca, ad, ld, cd, rfl, rfl⟩ := hr.shape
  have HMC : Keep (mbC m (.slice aa la ca) (.slice ad ld cd) = #[.string ⟨m.1.toArray⟩, .int .i64 m.2.kind, .int .u32 m.2.mode, .int .u32 m.2.uid, .int .u32 m.2.gid, .int .i64 m.2.time, .slice aa la ca, .slice ad ld cd, .string ⟨m.2.link.toArray⟩]) := ⟨rfl⟩
  rw [HMC.out] at HMY ⊢
  generalize mayM m = my at *
  clear hr hT hsm
  go_enter Tryz.func56, Tryz.ntmps56
  go_upto_region 1 with fail
  refine wp_world (R := fun w1 => Hp NoM w w1 [rowA w.heap.size 32 #[.string ⟨m.1.toArray⟩, .int .i64 m.2.kind, .int .u32 m.2.mode, .int .u32 m.2.uid, .int .u32 m.2.gid, .int .i64 m.2.time, .slice aa la ca, .slice ad ld cd, .string ⟨m.2.link.toArray⟩]]) ((Hp.begin NoM w).newRow _ _) ?_
  intro w1 H1
  have HRW := Keep.keep (H1.out.row 0 rfl)
  have HSZ : Keep ((#[.string ⟨m.1.toArray⟩, .int .i64 m.2.kind, .int .u32 m.2.mode, .int .u32 m.2.uid, .int .u32 m.2.gid, .int .i64 m.2.time, .slice aa la ca, .slice ad ld cd, .string ⟨m.2.link.toArray⟩] : Array Value).size = 9) := ⟨rfl⟩
  go_wp2_with ((with_reducible refine arm_loadRow HRW.out aggM HSZ.out ?_ ?_); (focus rfl); simp only [Act.put, List.setIfInBounds_toArray, List.set_cons_succ, List.set_cons_zero])
  refine (HMY.out w1 H1.out.below).mono ?_
  rintro e w2 ⟨rfl, hb2⟩
  have H2 := Keep.keep (H1.out.call hb2).below
  clear hb2
  go_wp2_with fail
  go_ret
  exact ⟨rfl, H2.out⟩
set_option maxHeartbeats 1000000 in
set_option maxRecDepth 100000 in
theorem n2_any (m : Mb) (av dv : Value) (hsm : Sm m) (hs : NdS (m, av, dv)) (P4 T mb : Nat) (Bk : Nat → Prop) (f : Tx → Value × Value) (L : List Mb) (w : World) (hT : TreeIn w T mb Bk f L) (hBk : ∀ b, Bk b → b < w.heap.size) (hc : w.cell? ⟨P4, 0, none⟩ = some (.pointer (some ⟨T, 0, none⟩))) :
    Calls Tryz.prog 59 #[.agg (mbC m av dv), .pointer (some ⟨P4, 0, none⟩)] w fun e w' => e = .returned (.bool (!dirT L (parentP m.1))) ∧ Below w.heap.size w w' := by
  have hP4 : P4 < w.heap.size := World.block_lt_of_cell? w _ hc
  have hpp := hsm.p
  have HON : Keep (∀ wx, Below w.heap.size w wx → TreeIn wx T mb Bk f L) := ⟨fun wx hb => hT.loc (fun b hb' => hb.block b (by rcases hb' with rfl | rfl | h; exact hT.row.lt; exact hT.map.lt; exact hBk b h))⟩
  have HC4 : Keep (∀ wx, Below w.heap.size w wx → wx.cell? ⟨P4, 0, none⟩ = some (.pointer (some ⟨T, 0, none⟩))) := ⟨fun wx hb => by rw [hb.cell (p := ⟨P4, 0, none⟩) hP4]; exact hc⟩
  have HDR : Keep (∀ wx, Below w.heap.size w wx → Calls Tryz.prog 60 #[.pointer (some ⟨T, 0, none⟩), .string ⟨(parentP m.1).toArray⟩] wx fun e w' => e = .returned (.bool (dirT L (parentP m.1))) ∧ Below wx.heap.size wx w') := ⟨fun wx hb => (dir_tree T mb Bk f L wx (HON.out wx hb) _ (by have := parent_len m.1; omega)).mono (by rintro e w' ⟨rfl, rfl⟩; exact ⟨rfl, Below.refl _ _⟩)⟩
  have HPA : Keep (∀ wx : World, Calls Tryz.prog 61 #[.string ⟨m.1.toArray⟩] wx fun e w' => e = .returned (.string ⟨(parentP m.1).toArray⟩) ∧ Below wx.heap.size wx w') := ⟨fun wx => (parent_any m.1 (by omega) wx).mono (by rintro e w' ⟨rfl, rfl⟩; exact ⟨rfl, Below.refl _ _⟩)⟩
  obtain ⟨aa, la, ca, ad, ld, cd, e1, e2⟩ := hs
  simp only at e1 e2
  subst e1 e2
  have HMC : Keep (mbC m (.slice aa la ca) (.slice ad ld cd) = #[.string ⟨m.1.toArray⟩, .int .i64 m.2.kind, .int .u32 m.2.mode, .int .u32 m.2.uid, .int .u32 m.2.gid, .int .i64 m.2.time, .slice aa la ca, .slice ad ld cd, .string ⟨m.2.link.toArray⟩]) := ⟨rfl⟩
  rw [HMC.out]
  generalize dirT L (parentP m.1) = dr at *
  generalize parentP m.1 = pp at *
  clear hT hBk hc
  go_enter Tryz.func59, Tryz.ntmps59
  go_upto_region 1 with fail
  refine wp_world (R := fun w1 => Hp NoM w w1 [rowA w.heap.size 32 #[.string ⟨m.1.toArray⟩, .int .i64 m.2.kind, .int .u32 m.2.mode, .int .u32 m.2.uid, .int .u32 m.2.gid, .int .i64 m.2.time, .slice aa la ca, .slice ad ld cd, .string ⟨m.2.link.toArray⟩]]) ((Hp.begin NoM w).newRow _ _) ?_
  intro w1 H1
  have HK1 : Keep (∀ wx, Below w1.heap.size w1 wx → wx.cell? ⟨w.heap.size, 0, none⟩ = some (.string ⟨m.1.toArray⟩)) := ⟨fun wx hb => ((H1.out.call hb).row 0 rfl).cell (i := 0) rfl⟩
  have HK2 : Keep (∀ wx, Below w1.heap.size w1 wx → wx.cell? ⟨P4, 0, none⟩ = some (.pointer (some ⟨T, 0, none⟩))) := ⟨fun wx hb => HC4.out wx (H1.out.call hb).below⟩
  have HDR' : Keep (∀ wx, Below w1.heap.size w1 wx → Calls Tryz.prog 60 #[.pointer (some ⟨T, 0, none⟩), .string ⟨pp.toArray⟩] wx fun e w' => e = .returned (.bool dr) ∧ Below wx.heap.size wx w') := ⟨fun wx hb => HDR.out wx (H1.out.call hb).below⟩
  have HPA' : Keep (∀ wx, Below w1.heap.size w1 wx → Calls Tryz.prog 61 #[.string ⟨m.1.toArray⟩] wx fun e w' => e = .returned (.string ⟨pp.toArray⟩) ∧ Below wx.heap.size wx w') := ⟨fun wx _ => HPA.out wx⟩
  refine wp_region_cls (fun w' => Below w1.heap.size w1 w') (by kernel_rfl) (by kernel_rfl) (Below.refl _ _).drew ?_
  repeat (first
    | ((with_reducible refine cls_cell ?_ HK1.out (run_isAgg_plain Tryz.underlying9 rfl) ?_ ?_); (focus rfl); (focus rfl); simp only [Act.put, List.setIfInBounds_toArray, List.set_cons_succ, List.set_cons_zero])
    | ((with_reducible refine cls_cell ?_ HK2.out (run_isAgg_plain Tryz.underlying22 rfl) ?_ ?_); (focus rfl); (focus rfl); simp only [Act.put, List.setIfInBounds_toArray, List.set_cons_succ, List.set_cons_zero])
    | ((with_reducible refine cls_call (f := 60) ?_ (Go.Proofs.enters_of Tryz.func60 (by kernel_rfl) rfl) ?_ (fun w1 hw1 => (HDR'.out w1 hw1).mono (fun e w2 he => ⟨he.1, hw1.trans (he.2.mono hw1.size)⟩)) ?_); (focus rfl); (focus (first | exact Array.map_empty | (simp only [List.map_toArray, List.map_cons, List.map_nil]; rfl))); simp only [Act.put, List.setIfInBounds_toArray, List.set_cons_succ, List.set_cons_zero])
    | ((with_reducible refine cls_call (f := 61) ?_ (Go.Proofs.enters_of Tryz.func61 (by kernel_rfl) rfl) ?_ (fun w1 hw1 => (HPA'.out w1 hw1).mono (fun e w2 he => ⟨he.1, hw1.trans (he.2.mono hw1.size)⟩)) ?_); (focus rfl); (focus (first | exact Array.map_empty | (simp only [List.map_toArray, List.map_cons, List.map_nil]; rfl))); simp only [Act.put, List.setIfInBounds_toArray, List.set_cons_succ, List.set_cons_zero])
    | (first | go_big_quiet_step (fail) | (go_big_quiet_want; go_big_quiet_op; (refine ⟨_, fun _ _ => rfl, ?_⟩); go_big_quiet_on)))
  (refine wpQuiet_nil ?_); intro w2 hw2
  have H2 := Keep.keep (H1.out.call hw2).below
  clear hw2
  go_wp2_with fail
  go_ret
  exact ⟨rfl, H2.out⟩
end Go.Proofs.YtplafpokgpolkaaGreatDoor
/- A SLICE OF BYTES OF THE CALL's OWN, its bytes whichever. -/
namespace Go.Proofs.YtplafpokgpolkaaGreatDoor
open Go.RowKit
/-- the first items alone -/
theorem Hp.take {M : Nat → Prop} {w wr : World} {ls : List As} (h : Hp M w wr ls) (n : Nat) : Hp M w wr (ls.take n) := by
  refine ⟨h.c, fun A hA => h.p A (List.mem_of_mem_take hA), fun i j A B hi hj => ?_⟩
  rw [List.getElem?_take] at hi hj
  split at hi
  · split at hj
    · exact h.d i j A B hi hj
    · cases hj
  · cases hi
/-- v's own block: its first n cells are bytes, whichever -/
def someA (v : Value) (n : Nat) : As := ⟨fun b => v.ownBlock = some b, fun w => ∀ b, v.ownBlock = some b → ∃ c, Row w b 5 c ∧ ∀ j, j < n → ∃ x : UInt8, c[j]? = some (.int .u8 (x.toNat : Int)), fun w w' h hp b hb => by
  obtain ⟨c, h1, h2⟩ := hp b hb
  exact ⟨c, by unfold Row; rw [h b hb]; exact h1, h2⟩⟩
theorem someA_of {w : World} {base : Nat} {v : Value} {l : List UInt8} (h : Owns w base 5 v l) : (someA v l.length).P w := by
  obtain ⟨_, h⟩ := h
  rcases h with ⟨rfl, h0⟩ | ⟨g, cap, cur, rfl, hb, hh, hn, hm, hs, ht⟩
  · intro b hb; cases hb
  · intro b hb
    obtain rfl : g = b := by injection hb
    refine ⟨cur, hh, fun j hj => ⟨l[j], ?_⟩⟩
    have := bcells_get l j hj
    rw [← ht, List.getElem?_take, if_pos (by omega)] at this
    simpa using this
theorem owns_blk {w : World} {base : Nat} {v : Value} {l : List UInt8} (h : Owns w base 5 v l) (hl : 0 < l.length) : ∃ b cap, v = .slice (some ⟨b, 0, none⟩) l.length cap ∧ l.length ≤ cap := by
  obtain ⟨_, h⟩ := h
  rcases h with ⟨rfl, h0⟩ | ⟨g, cap, cur, rfl, hb, hh, hn, hm, hs, ht⟩
  · omega
  · exact ⟨g, cap, rfl, hn⟩
theorem someA_set {M : Nat → Prop} {w wr : World} {ls : List As} (h : Hp M w wr ls) (i : Nat) {b cap n k : Nat} (hi : ls[i]? = some (someA (.slice (some ⟨b, 0, none⟩) n cap) n)) (y : UInt8) : Hp M w (wr.setCell ⟨b, k, none⟩ (.int .u8 (y.toNat : Int))) (ls.set i (someA (.slice (some ⟨b, 0, none⟩) n cap) n)) := by
  refine h.upd i hi _ (Chg.setCell (M := fun k => (someA (.slice (some ⟨b, 0, none⟩) n cap) n).blk k) (p := ⟨b, k, none⟩) (.refl _ _ _) (.inr rfl) _) ?_ (fun _ hb => .inl hb)
  intro b' hb'
  obtain rfl : b = b' := by injection hb'
  obtain ⟨c, h1, h2⟩ := h.get i hi b rfl
  refine ⟨_, h1.set k _, fun j hj => ?_⟩
  obtain ⟨x, hx⟩ := h2 j hj
  by_cases hjk : k = j
  · subst hjk
    have hlt := (Array.getElem?_eq_some_iff.1 hx).1
    exact ⟨y, by rw [Array.getElem?_setIfInBounds_self_of_lt hlt]⟩
  · exact ⟨x, by rw [Array.getElem?_setIfInBounds_ne hjk]; exact hx⟩
end Go.Proofs.YtplafpokgpolkaaGreatDoor
