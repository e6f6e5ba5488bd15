/- PARTS OF ONE PROOF, set in one file: DfOfO, Sf, DfSort, DfSortO, DfTold, DfToldO, DifEdge, TreeTls, DifZ, ConvS. Each part tells its own conditions. -/
import Derived.Shelf.SlSortCmp.WholeK
import Derived.Ground.SlsfProg
import Derived.Test.YtmnknmpfkjhgbaaGreatDoorProg
import Derived.Shelf.SlSortCmp.NoneTotal
import Derived.Test.YtmnknmpfkjhgbaaGreatDoorY2
/- As in DfOf, with nodes whose slices are rows of their types (printed by gen_o.py). -/
namespace Go.Proofs.YtmnknmpfkjhgbaaGreatDoor
open Go.RowKit
set_option maxHeartbeats 8000000 in
set_option maxRecDepth 100000 in
theorem dof_anyO (T tb : Nat) (Bk : Nat → Prop) (f : Tx → Value × Value) (L : List Mb) (w : World) (hL : L.length ≤ 100000) (hT : TreeIn w T tb Bk f L) (hBk : ∀ b, Bk b → b < w.heap.size) :
    Calls Tryz.prog 80 #[.pointer (some ⟨T, 0, none⟩)] w fun e w' => ∃ nb mb yb, e = .returned (.agg #[.map (some nb), .map (some mb), .map (some yb), .func (.func 18) #[.pointer (some ⟨T, 0, none⟩)] #[]]) ∧ SideInO w' (Fresh w.heap.size w') nb mb yb L ∧ (w.heap.size ≤ nb ∧ w.heap.size ≤ mb ∧ w.heap.size ≤ yb) ∧ Below w.heap.size w w' := by
  have HT := Keep.keep hT; have HBK := Keep.keep hBk
  have HSR := Keep.keep hT.srt
  have HSM := Keep.keep hT.sm
  have hTw := hT.row.lt
  have hmw := hT.map.lt
  have hmm := @run_makeMap Tryz.prog
  have hsb := sideB
  clear hT hBk
  go_enter Tryz.func80, Tryz.ntmps80
  have HSZN : Keep ((#[.map (some (w.heap.size + 1)), .map (some (w.heap.size + 1 + 1)), .map (some (w.heap.size + 1 + 1 + 1)), .func (.func 18) #[.pointer (some ⟨T, 0, none⟩)] #[]] : Array Value).size = 4) := ⟨rfl⟩
  have HONN : Keep ((#[.map (some (w.heap.size + 1)), .map (some (w.heap.size + 1 + 1)), .map (some (w.heap.size + 1 + 1 + 1)), .func (.func 18) #[.pointer (some ⟨T, 0, none⟩)] #[]] : Array Value).all (·.oneCell') = true) := ⟨by simp [Value.oneCell']⟩
  have HZZ : Keep ((#[.map none, .map none, .map none, .nilFunc] : Array Value).size = 4) := ⟨rfl⟩
  go_wp2_with (with_reducible refine arm_stopS ?_)
  refine Stopped.out ?_
  refine arm_storeRow (c := #[.map none, .map none, .map none, .nilFunc]) (e := 110) (Row.new' (by simp) rfl) aggS HZZ.out HSZN.out HONN.out rfl rfl ?_
  simp only [Act.put]
  go_upto_region 2 with fail
  obtain ⟨b0, hb0⟩ : ∃ b0, w.heap.size = b0 := ⟨_, rfl⟩
  have HB0 := Keep.keep hb0
  refine wp_world (R := fun w1 => Hp NoM w w1 [rowA b0 110 #[.map none, .map none, .map none, .nilFunc], msA 9 (b0 + 1) [], namA b0 (b0 + 2) [] [], msA 9 (b0 + 3) [], rowA (b0 + 4) 110 #[.map (some (b0 + 1)), .map (some (b0 + 2)), .map (some (b0 + 3)), .func (.func 18) #[.pointer (some ⟨T, 0, none⟩)] #[]]]) ?_ ?_
  · have h1 := (((Hp.begin NoM w).newRow 110 #[.map none, .map none, .map none, .nilFunc]).newMap 9).newNam b0
    have h2 := (h1.newMap 9).newRow 110 #[.map none, .map none, .map none, .nilFunc]
    have h3 := h2.setRow 4 rfl #[.map (some (b0 + 1)), .map (some (b0 + 2)), .map (some (b0 + 3)), .func (.func 18) #[.pointer (some ⟨T, 0, none⟩)] #[]]
    simpa [hb0, Nat.add_assoc] using h3
  intro w1 H1
  have hb1 := H1.out.below
  have hs1 := hb1.size
  have hw1b := (H1.out.row 4 rfl).lt
  have hAL := all_own T tb Bk f L w1 hL (HT.out.loc (fun b hb' => hb1.block b (by
    rcases hb' with rfl | rfl | h
    · exact hTw
    · exact hmw
    · exact HBK.out b h))) ⟨by omega, by omega, fun b hb => by have := HBK.out b hb; omega⟩
  have HAL := Keep.keep hAL
  clear hmm hsb hb1 hAL
  go_wp2_with fail
  refine HAL.out.mono ?_
  rintro e w2 ⟨v16, l6, rfl, hl6, hm6, hb2⟩
  have H2 := Keep.keep (H1.out.push (sameA (fun b => w1.heap.size ≤ b ∧ b < w2.heap.size) w2) (.of_below hb2) (fun _ _ => rfl) (fun b hb => hb))
  have HL6 := Keep.keep hl6
  have hs2 := hb2.size
  have HM6 : Keep (Mbs w2 (Fresh b0 w2) (Fresh b0 w2) v16 l6) := ⟨hm6.mbs.mono (fun b hb => ⟨by have := hb.1; omega, hb.2⟩) (fun b hb => ⟨by have := hb.1; omega, hb.2⟩)⟩
  have HRL : Keep (∀ b, v16.ownBlock = some b → w1.heap.size ≤ b) := ⟨fun b hb => (World.ownsRow.lt hm6.own b hb).1⟩
  have HN6 : Keep (l6.length = L.length) := ⟨by rw [← hl6, List.length_map]⟩
  have HND6 : Keep (∀ x ∈ l6, NdO w2 (fun b => w1.heap.size ≤ b ∧ b < w2.heap.size) x.1.2 x.2.1 x.2.2) := ⟨fun x hx => (hm6.nd x hx).mono (fun b hb => ⟨hb.1, hb.2.1⟩)⟩
  have HRD6 : Keep (RdV w2 (fun b => w1.heap.size ≤ b ∧ b < w2.heap.size) 9 v16 l6.length (mcells l6)) := ⟨(ownsV_reads hm6.own).mono (fun b hb => ⟨hb.1, hb.2.1⟩)⟩
  obtain ⟨a6, c6, hv6, hc6, hx6, h36⟩ := HRD6.out.shape
  have H36 := Keep.keep h36
  rw [HN6.out] at hv6 hc6
  clear hl6 hm6 hb2 HAL H1 h36
  subst hv6
  go_wp2_with fail
  go_loopg [18] L.length (fun g u18 wx => ∃ (k : Nat) (M1 M2 Y : List (Tx × Value)), k + g = L.length ∧ u18 = .int .i64 (k : Int) ∧ M1.length ≤ k ∧ M2.length ≤ k ∧ Y.length ≤ ((L.take k).flatMap keysM).length ∧ NodesIsO w2 (fun b => w1.heap.size ≤ b ∧ b < w2.heap.size) M1 (L.take k) ∧ CntIs Y ((L.take k).flatMap keysM) ∧
    Hp NoM w wx [rowA b0 110 #[.map none, .map none, .map none, .nilFunc], msA 9 (b0 + 1) M1, namA b0 (b0 + 2) M2 (L.take k), msA 9 (b0 + 3) Y, rowA (b0 + 4) 110 #[.map (some (b0 + 1)), .map (some (b0 + 2)), .map (some (b0 + 3)), .func (.func 18) #[.pointer (some ⟨T, 0, none⟩)] #[]], sameA (fun b => w1.heap.size ≤ b ∧ b < w2.heap.size) w2])
  case atStart => exact ⟨0, [], [], [], by omega, rfl, Nat.le_refl _, Nat.le_refl _, Nat.zero_le _, (fun p => ⟨nilV, nilV, rfl, fun n hn => by simp [SM.look] at hn⟩), (fun q => rfl), H2.out⟩
  case round =>
    obtain ⟨k, M1, M2, Y, hkg, rfl, hl1, hl2, hlY, hnod, hcnt, hH⟩ := hrel
    have HNO := Keep.keep hnod; have HCN := Keep.keep hcnt; have HH := Keep.keep hH
    clear hnod hcnt hH H2
    cases gk with
    | zero =>
      obtain rfl : k = L.length := by omega
      have HTK : Keep (L.take L.length = L) := ⟨List.take_length⟩
      rw [HTK.out] at HNO HCN HH
      have HRA := Keep.keep (HH.out.row 4 rfl)
      have HRB := Keep.keep (HH.out.row 0 rfl)
      have HSA : Keep ((#[.map (some (b0 + 1)), .map (some (b0 + 2)), .map (some (b0 + 3)), .func (.func 18) #[.pointer (some ⟨T, 0, none⟩)] #[]] : Array Value).size = 4) := ⟨rfl⟩
      have HSB : Keep ((#[.map none, .map none, .map none, .nilFunc] : Array Value).size = 4) := ⟨rfl⟩
      have HON : Keep ((#[.map (some (b0 + 1)), .map (some (b0 + 2)), .map (some (b0 + 3)), .func (.func 18) #[.pointer (some ⟨T, 0, none⟩)] #[]] : Array Value).all (·.oneCell') = true) := ⟨by simp [Value.oneCell']⟩
      have HSW : Keep (w1.heap.size ≤ w2.heap.size ∧ b0 < w1.heap.size) := ⟨by omega, by omega⟩
      go_wp2_with (first | ((with_reducible refine arm_loadRow HRA.out aggS HSA.out ?_ ?_); (focus rfl); simp only [Act.put, List.setIfInBounds_toArray, List.set_cons_succ, List.set_cons_zero]) | ((with_reducible refine arm_storeRow HRB.out aggS HSB.out HSA.out HON.out ?_ ?_ ?_); (focus rfl); (focus rfl); simp only [Act.put]))
      have hoth : ∀ b, b ≠ b0 → (wr.setRow b0 #[.map (some (b0 + 1)), .map (some (b0 + 2)), .map (some (b0 + 3)), .func (.func 18) #[.pointer (some ⟨T, 0, none⟩)] #[]]).heap[b]? = wr.heap[b]? := fun b hb => Go.setRow_other wr b0 b _ hb
      have hsr : (wr.setRow b0 #[.map (some (b0 + 1)), .map (some (b0 + 2)), .map (some (b0 + 3)), .func (.func 18) #[.pointer (some ⟨T, 0, none⟩)] #[]]).heap.size = wr.heap.size := by simp [World.setRow]
      have hsame : ∀ b, (w1.heap.size ≤ b ∧ b < w2.heap.size) → wr.heap[b]? = w2.heap[b]? := HH.out.get 5 rfl
      have hsb : ∀ b, (w1.heap.size ≤ b ∧ b < w2.heap.size) → b < wr.heap.size := fun b hb => ((HH.out.p _ (List.mem_of_getElem? (i := 5) rfl)).2 b hb).2
      have hnam : NamesIn wr b0 (b0 + 2) M2 L := HH.out.get 2 rfl
      refine bodyPost_ret (results_row (p := 2) (ty := 110) rfl (HRB.out.setRow _) aggS HSA.out rfl) rfl ⟨b0 + 1, b0 + 2, b0 + 3, rfl, ⟨⟨M1, MapS.loc (HH.out.get 1 rfl) (hoth _ (by omega)), ?_⟩, ⟨M2, MapS.loc hnam.map (hoth _ (by omega)), fun d => ?_⟩, ⟨Y, MapS.loc (HH.out.get 3 rfl) (hoth _ (by omega)), HCN.out⟩⟩, by omega, ?_⟩
      · refine (HNO.out.loc (fun b hb => ?_)).mono (fun b hb => ⟨?_, ?_⟩)
        · rw [hoth b (by have := HSW.out; omega), hsame b hb]
        · have := HSW.out; omega
        · rw [hsr]; exact hsb b hb
      · have ho := hnam.at d
        have hbk : ∀ b, ((SM.look M2 d).getD nilV).ownBlock = some b → b ≠ b0 := fun b hb e => by
          have hl : SM.look M2 d = some ((SM.look M2 d).getD nilV) := by
            cases hl : SM.look M2 d with
            | none => rw [hl] at hb; cases hb
            | some u => rfl
          have := HH.out.d 0 2 _ _ rfl rfl b e (.inr ⟨d, _, hl, hb⟩)
          omega
        exact ((ownsV_reads ho).loc (fun b hb => hoth b (hbk b hb.2.2))).mono (fun b hb => ⟨by have := HB0.out; have := hb.1; omega, by rw [hsr]; exact hb.2.1⟩)
      · exact ((Chg.of_below (M := NoM) HH.out.below).setRow (.inl (by omega)) _).below (fun _ _ h => h)
    | succ g =>
      have hk : k < L.length := by omega
      have hk6 : k < l6.length := by rw [HN6.out]; exact hk
      have hLk : l6[k].1 = L[k] := by
        have : (l6.map (·.1))[k]? = L[k]? := by rw [HL6.out]
        rw [List.getElem?_map, List.getElem?_eq_getElem hk6, List.getElem?_eq_getElem hk] at this
        simpa using this
      obtain ⟨b, off, rfl, hbl⟩ : ∃ b off, a6 = some ⟨b, off, none⟩ ∧ (w1.heap.size ≤ b ∧ b < w2.heap.size) := by
        rcases H36.out with h | ⟨b, off, h, hb⟩
        · omega
        · exact ⟨b, off, h, hb⟩
      have hsame : ∀ b, (w1.heap.size ≤ b ∧ b < w2.heap.size) → wr.heap[b]? = w2.heap[b]? := HH.out.get 5 rfl
      have hmb6 : Mbs wr (fun b => w1.heap.size ≤ b ∧ b < w2.heap.size) (fun b => w1.heap.size ≤ b ∧ b < w2.heap.size) (.slice (some ⟨b, off, none⟩) L.length c6) l6 := ⟨by
        have := HRD6.out.loc hsame
        exact this, fun x hx => (HND6.out x hx).r.loc hsame⟩
      have hld := hmb6.load hk6
      have HND := Keep.keep (HND6.out _ (List.getElem_mem hk6))
      have HTK : Keep (L.take (k + 1) = L.take k ++ [L[k]]) := ⟨List.take_succ_eq_append_getElem hk⟩
      have HFT := Keep.keep (flat_take hk)
      have HNE : Keep (∀ y ∈ L.take k, y.1 ≠ L[k].1) := ⟨fun y hy e => by
        obtain ⟨j, hj, rfl⟩ := List.mem_iff_getElem.1 hy
        rw [List.length_take] at hj
        rw [List.getElem_take] at e
        have := (List.pairwise_iff_getElem.1 HSR.out) j k (by omega) hk (by omega)
        rw [e] at this
        exact tx_irrefl _ this⟩
      have hsx := HSM.out L[k] (List.getElem_mem hk)
      have HLB : Keep (((L.take k).flatMap keysM).length ≤ k * 400002) := ⟨by
        have := flatk_len (L := L.take k) (fun m hm => (HSM.out m (List.mem_of_mem_take hm)).p)
        rw [List.length_take, Nat.min_eq_left (by omega)] at this
        exact this⟩
      rw [← hLk] at HTK HFT HNE hsx
      clear hsame hmb6 hLk
      generalize l6[k] = x at *
      obtain ⟨⟨xp, ⟨kind, mode, uid, gid, time, attrs, data, link⟩⟩, av, dv⟩ := x
      obtain ⟨aa, la, ca, ad, ld, cd, e1, e2⟩ := HND.out.shape
      dsimp only at e1 e2 hsx HTK HFT HNE
      have hxp := hsx.p
      dsimp only at hxp
      subst e1 e2
      have HMC : Keep (mcell (((xp, ⟨kind, mode, uid, gid, time, attrs, data, link⟩), .slice aa la ca, .slice ad ld cd) : Mv) = #[.string ⟨xp.toArray⟩, .int .i64 kind, .int .u32 mode, .int .u32 uid, .int .u32 gid, .int .i64 time, .slice aa la ca, .slice ad ld cd, .string ⟨link.toArray⟩]) := ⟨rfl⟩
      rw [HMC.out] at hld
      have HPA := Keep.keep (fun w => parent_any xp (by omega) w)
      have HAB := Keep.keep (fun w => above_any xp (by omega) w)
      have HKM : Keep (keysM (xp, ⟨kind, mode, uid, gid, time, attrs, data, link⟩) = xp :: (aboveP xp ++ [[]])) := ⟨rfl⟩
      have HABL : Keep ((aboveP xp).length ≤ xp.length ∧ ∀ q ∈ aboveP xp, q.length ≤ xp.length) := ⟨by
        have := abvT_len xp xp.length
        rw [abvT_all] at this
        exact ⟨this, fun q hq => above_mem_len hq⟩⟩
      have hdl : (parentP xp).length ≤ xp.length := by unfold parentP; simp; omega
      rw [HKM.out] at HFT
      obtain ⟨dir, hdir⟩ : ∃ d, parentP xp = d := ⟨_, rfl⟩
      have HPR : Keep (∀ y : Mb, y = (xp, ⟨kind, mode, uid, gid, time, attrs, data, link⟩) → parentP y.1 = dir) := ⟨fun y e => by rw [e]; exact hdir⟩
      rw [hdir] at HPA hdl
      clear hdir
      generalize aboveP xp = ab at *
      clear hsx
      go_upto_region 5 with ((with_reducible refine arm_loadM hld ?_ ?_); (focus rfl); simp only [Act.put, List.setIfInBounds_toArray, List.set_cons_succ, List.set_cons_zero])
      obtain ⟨b5, hb5⟩ : ∃ b5, wr.heap.size = b5 := ⟨_, rfl⟩
      refine wp_world (R := fun w3 => Hp NoM w w3 [rowA b0 110 #[.map none, .map none, .map none, .nilFunc], msA 9 (b0 + 1) M1, namA b0 (b0 + 2) M2 (L.take k), msA 9 (b0 + 3) Y, rowA (b0 + 4) 110 #[.map (some (b0 + 1)), .map (some (b0 + 2)), .map (some (b0 + 3)), .func (.func 18) #[.pointer (some ⟨T, 0, none⟩)] #[]], sameA (fun b => w1.heap.size ≤ b ∧ b < w2.heap.size) w2, rowA b5 41 #[.string ⟨xp.toArray⟩, .int .i64 kind, .int .u32 mode, .int .u32 uid, .int .u32 gid, .int .i64 time, .slice aa la ca, .slice ad ld cd, .string ⟨link.toArray⟩]]) (by have := HH.out.newRow 41 #[.string ⟨xp.toArray⟩, .int .i64 kind, .int .u32 mode, .int .u32 uid, .int .u32 gid, .int .i64 time, .slice aa la ca, .slice ad ld cd, .string ⟨link.toArray⟩]; rw [hb5] at this; exact this) ?_
      intro w3 H3
      rw [hb5]
      have hla : (Instr.loadAt 39 (.pointer (some ⟨b5, 1, none⟩))).run Tryz.prog w3 = .ok (.agg #[.int .i64 kind, .int .u32 mode, .int .u32 uid, .int .u32 gid, .int .i64 time, .slice aa la ca, .slice ad ld cd, .string ⟨link.toArray⟩]) w3 := by
        have := run_loadAt_mid (P := Tryz.prog) w3 b5 1 39 [.int .i64 kind, .int .u32 mode, .int .u32 uid, .int .u32 gid, .int .i64 time, .slice aa la ca, .slice ad ld cd, .string ⟨link.toArray⟩] _ (fun j z hj => ((H3.out.row 6 rfl).cell (i := 1 + j) (by rw [Nat.add_comm]; simpa using hj))) Tryz.underlying39 rfl (by kernel_rfl)
        simpa using this
      have c30 := (H3.out.row 4 rfl).cell (i := 0) rfl
      have c50 := (H3.out.row 6 rfl).cell (i := 0) rfl
      have hm1 : MapS w3 9 (b0 + 1) M1 := H3.out.get 1 rfl
      have HM1 := Keep.keep hm1
      clear hm1 hld HH
      go_wp2_with (first | ((with_reducible refine arm_loadM hla ?_ ?_); (focus rfl); simp only [Act.put, List.setIfInBounds_toArray, List.set_cons_succ, List.set_cons_zero]) | (first | (with_reducible refine arm_sRange ?_) | (with_reducible refine arm_sNext ?_) | (with_reducible refine arm_sDel ?_) | (with_reducible refine arm_sPut ?_) | (with_reducible refine arm_sIns ?_)))
      refine StM.out ?_
      refine arm_putS Tryz.underlying9 Tryz.underlying86 HM1.out (p := xp) (u := .agg #[.int .i64 kind, .int .u32 mode, .int .u32 uid, .int .u32 gid, .int .i64 time, .slice aa la ca, .slice ad ld cd, .string ⟨link.toArray⟩]) (by unfold maxLen; omega) (by unfold maxLen; omega) rfl rfl rfl ?_
      intro w4 hm4 hc4
      have H4 := Keep.keep (H3.out.upd 1 rfl (msA 9 (b0 + 1) (SM.put M1 (xp, .agg #[.int .i64 kind, .int .u32 mode, .int .u32 uid, .int .u32 gid, .int .i64 time, .slice aa la ca, .slice ad ld cd, .string ⟨link.toArray⟩]))) hc4 hm4 (fun b hb => .inl hb))
      have HNO4 : Keep (NodesIsO w2 (fun b => w1.heap.size ≤ b ∧ b < w2.heap.size) (SM.put M1 (xp, .agg #[.int .i64 kind, .int .u32 mode, .int .u32 uid, .int .u32 gid, .int .i64 time, .slice aa la ca, .slice ad ld cd, .string ⟨link.toArray⟩])) (L.take (k + 1))) := ⟨by
        rw [HTK.out]
        exact NodesIsO.put (x := (xp, ⟨kind, mode, uid, gid, time, attrs, data, link⟩)) HM1.out.s HNO.out HNE.out HND.out⟩
      have HL4 : Keep ((SM.put M1 (xp, .agg #[.int .i64 kind, .int .u32 mode, .int .u32 uid, .int .u32 gid, .int .i64 time, .slice aa la ca, .slice ad ld cd, .string ⟨link.toArray⟩])).length ≤ k + 1) := ⟨by rw [HM1.out.s.length_put]; split <;> omega⟩
      generalize SM.put M1 (xp, .agg #[.int .i64 kind, .int .u32 mode, .int .u32 uid, .int .u32 gid, .int .i64 time, .slice aa la ca, .slice ad ld cd, .string ⟨link.toArray⟩]) = M1' at *
      clear hm4 hc4 H3 HM1 hla c30 c50 HNO
      simp only [Act.put]
      have c50 := (H4.out.row 6 rfl).cell (i := 0) rfl
      go_wp2_with fail
      refine (HPA.out w4).mono ?_
      rintro e w5 ⟨rfl, rfl⟩
      go_upto_region 7 with fail
      have hnm : NamesIn w4 b0 (b0 + 2) M2 (L.take k) := H4.out.get 2 rfl
      obtain ⟨vK, hvK⟩ : ∃ v, (SM.look M2 dir).getD nilV = v := ⟨_, rfl⟩
      have HVK := Keep.keep hvK
      have HOK : Keep (OwnS w4 b0 vK ((kids dir (L.take k)).map (·.1))) := ⟨by rw [← hvK]; exact hnm.at dir⟩
      have HKL : Keep (((kids dir (L.take k)).map (·.1)).length ≤ k) := ⟨by
        rw [List.length_map]
        unfold kids
        exact Nat.le_trans (List.length_filter_le _ _) (by rw [List.length_take]; omega)⟩
      have HNM := Keep.keep hnm
      have HOB : Keep (∀ b, vK.ownBlock = some b → b ≠ b0 + 2 ∧ b ≠ b0 + 4 ∧ b ≠ b5) := ⟨fun b hb => by
        have hl : SM.look M2 dir = some vK := by
          cases hl : SM.look M2 dir with
          | none => rw [hl] at hvK; subst hvK; cases hb
          | some u => rw [hl] at hvK; rw [show u = vK from hvK]
        refine ⟨hnm.ne _ _ b hl hb, fun e => ?_, fun e => ?_⟩
        · have := H4.out.d 2 4 _ _ rfl rfl b (.inr ⟨_, _, hl, hb⟩) e; omega
        · have := H4.out.d 2 6 _ _ rfl rfl b (.inr ⟨_, _, hl, hb⟩) e; omega⟩
      obtain ⟨aK, cK, hvK2, -⟩ := (ownsV_reads HOK.out).shape
      obtain ⟨nK, hnK⟩ : ∃ n, ((kids dir (L.take k)).map (·.1)).length = n := ⟨_, rfl⟩
      have HNK := Keep.keep hnK
      rw [hnK] at hvK2
      clear hnm hvK hnK
      subst hvK2
      have hr4 := (H4.out.row 4 rfl).lt
      have hr6 := (H4.out.row 6 rfl).lt
      have hmb4 := HNM.out.map.lt
      refine wp_region_one 11 10 [31, 32, 33, 34, 35, 36, 37, 38, 39, 40, 41] (ofC w4 b0 (.slice aK nK cK) ((kids dir (L.take k)).map (·.1) ++ [xp])) (ofT (b0 + 2) (b0 + 4) b5 dir xp (.slice aK nK cK)) (fun w w' => Chg (fun j => (Value.slice aK nK cK).ownBlock = some j) w.heap.size w w') (by kernel_rfl) rfl rfl (by decide) (by show ∀ d ∈ _, d < 66; decide) (by kernel_rfl) (by kernel_rfl) (by decide) (Below.refl _ _).drew (fun i v w w' h hb => ofT_stays i v w w' h hb) ?_ ?_ ?_
      · intro q hq hqc b a1 w5 hF hC hT
        have hsz : a1.tmps.size = 66 := hF.size
        have t3 : a1.eval (.tmp 3) = .pointer (some ⟨b0 + 4, 0, none⟩) := (hF.same 3 (by decide)).trans rfl
        have t5 : a1.eval (.tmp 5) = .pointer (some ⟨b5, 0, none⟩) := (hF.same 5 (by decide)).trans rfl
        have t6 : a1.eval (.tmp 6) = .string ⟨dir.toArray⟩ := (hF.same 6 (by decide)).trans rfl
        have hch := ofC_chg hC
        have RS := (H4.out.row 4 rfl).chg hch hr4 (fun e => (HOB.out _ e).2.1 rfl)
        have RM := (H4.out.row 6 rfl).chg hch hr6 (fun e => (HOB.out _ e).2.2 rfl)
        have hon : ∀ s : Nat → Value, s 41 = slot a1 41 → ofC w4 b0 (.slice aK nK cK) ((kids dir (L.take k)).map (·.1) ++ [xp]) b s w5 := fun s hs => ofC_on hC hs (Below.refl _ _)
        have hkr : Chg (fun j => (Value.slice aK nK cK).ownBlock = some j) w5.heap.size w5 w5 := .refl _ _ _
        rcases (by omega : q = 0 ∨ q = 1 ∨ q = 2 ∨ q = 3 ∨ q = 4 ∨ q = 5 ∨ q = 6 ∨ q = 7 ∨ q = 8 ∨ q = 9) with rfl | rfl | rfl | rfl | rfl | rfl | rfl | rfl | rfl | rfl
        · exact one_val (d := 31) rfl (by omega) (run_fieldAddr (m := 0) Tryz.underlying110 rfl (by kernel_rfl) t3) (fun s _ h => hon s (h 41 (by decide))) hkr rfl
        · have hx : a1.eval (.tmp 31) = .pointer (some ⟨b0 + 4, 1, none⟩) := hT 0 (by decide) (by kernel_rfl)
          exact one_val (d := 32) rfl (by omega) (run_loadCell (run_isAgg_plain Tryz.underlying108 rfl) (RS.cell (i := 1) rfl) hx) (fun s _ h => hon s (h 41 (by decide))) hkr rfl
        · exact one_val (d := 33) rfl (by omega) run_move (fun s _ h => hon s (h 41 (by decide))) hkr t6
        · exact one_val (d := 34) rfl (by omega) (run_fieldAddr (m := 0) Tryz.underlying110 rfl (by kernel_rfl) t3) (fun s _ h => hon s (h 41 (by decide))) hkr rfl
        · have hx : a1.eval (.tmp 34) = .pointer (some ⟨b0 + 4, 1, none⟩) := hT 3 (by decide) (by kernel_rfl)
          exact one_val (d := 35) rfl (by omega) (run_loadCell (run_isAgg_plain Tryz.underlying108 rfl) (RS.cell (i := 1) rfl) hx) (fun s _ h => hon s (h 41 (by decide))) hkr rfl
        · exact one_val (d := 36) rfl (by omega) run_move (fun s _ h => hon s (h 41 (by decide))) hkr t6
        · have hx : a1.eval (.tmp 35) = .map (some (b0 + 2)) := hT 4 (by decide) (by kernel_rfl)
          have hy : a1.eval (.tmp 36) = .string ⟨dir.toArray⟩ := hT 5 (by decide) (by kernel_rfl)
          have hm5 : MapS w5 9 (b0 + 2) M2 := HNM.out.map.loc (hch.block _ hmb4 (fun e => (HOB.out _ e).1 rfl))
          have hl := hm5.look1 Tryz.underlying9 Tryz.underlying108 (zeroSt w5) (p := dir) (by unfold maxLen; omega)
          rw [HVK.out] at hl
          exact one_val (d := 37) rfl (by omega) (v := .slice aK nK cK) (by simp [execOp, hx, hy, hl]) (fun s _ h => hon s (h 41 (by decide))) hkr rfl
        · exact one_val (d := 38) rfl (by omega) (run_fieldAddr (m := 0) Tryz.underlying41 rfl (by kernel_rfl) t5) (fun s _ h => hon s (h 41 (by decide))) hkr rfl
        · have hx : a1.eval (.tmp 38) = .pointer (some ⟨b5, 0, none⟩) := hT 7 (by decide) (by kernel_rfl)
          exact one_val (d := 39) rfl (by omega) (run_loadCell (run_isAgg_plain Tryz.underlying9 rfl) (RM.cell (i := 0) rfl) hx) (fun s _ h => hon s (h 41 (by decide))) hkr rfl
        · have hx : a1.eval (.tmp 39) = .string ⟨xp.toArray⟩ := hT 8 (by decide) (by kernel_rfl)
          have hal2 : Below w5.heap.size w5 (w5.alloc (.cells (a1.eval (.tmp 39)).cells 9)) := (Below.refl _ _).alloc (Nat.le_refl _) _
          refine one_val (d := 40) rfl (by omega) (run_build1 slS (by decide) (by rw [hx]; rfl)) (fun s _ h => ofC_on hC (h 41 (by decide)) hal2) (.of_below hal2) ?_
          rw [hx]
          refine ⟨w5.heap.size, rfl, RdV.new 9 [.string ⟨xp.toArray⟩] 1 1 w5.heap.size rfl rfl (by unfold maxLen; omega) rfl, by simp, fun e => ?_⟩
          have := (World.ownsRow.lt HOK.out _ e).2
          have := hch.size
          omega
      · intro a1 w5 hF hC hT
        have hsz : a1.tmps.size = 66 := hF.size
        have hC : Below w4.heap.size w4 w5 := hC
        have hx : a1.eval (.tmp 37) = .slice aK nK cK := hT 6 (by decide) (by kernel_rfl)
        obtain ⟨bl, t9, hrd, hbl9, hblo⟩ : ∃ bl, slot a1 40 = .slice (some ⟨bl, 0, none⟩) 1 1 ∧ RdV w5 (fun b => b = bl) 1 (slot a1 40) 1 [.string ⟨xp.toArray⟩] ∧ bl < w5.heap.size ∧ (Value.slice aK nK cK).ownBlock ≠ some bl := hT 9 (by decide) (by kernel_rfl)
        have ho5 : OwnS w5 b0 (.slice aK nK cK) ((kids dir (L.take k)).map (·.1)) := ownsRow_loc _ _ (fun b e => hC.block b (World.ownsRow.lt HOK.out b e).2) HOK.out
        have hb05 : b0 ≤ w5.heap.size := by have := H4.out.size; have := HB0.out; have := hC.size; omega
        obtain ⟨v', w', hr, ho, hg, hov⟩ := run_appV (ρ := a1.eval) (d := some 41) (tp := 42) (pos := "differ.go:42") (af := _) (g := none) slS (m := 1) (s := .tmp 37) (x := .tmp 40) ho5 hrd (by simp [Value.oneCell']) (by unfold maxLen; rw [HNK.out]; have := HKL.out; rw [HNK.out] at this; omega) (by rw [HNK.out]; have := HKL.out; rw [HNK.out] at this; omega) hb05 hx rfl
        have hch := (chg_grown hg)
        refine one_val (d := 41) rfl (by omega) hr (fun s hs _ => ?_) hch trivial
        refine ⟨(Chg.of_below hC).trans (hch.lower hC.size), ?_, ?_⟩
        · rw [hs]
          show w'.ownsRow b0 9 1 v' ((kids dir (L.take k)).map (·.1) ++ [xp]).length (((kids dir (L.take k)).map (·.1) ++ [xp]).map strV)
          rw [List.length_append, List.map_append]
          exact ho
        · rw [hs]
          rcases hov with h | h
          · exact .inl h
          · exact .inr ⟨_, h, hC.size⟩
      · intro a2 w6 ha hC hT
        obtain ⟨hch6, ho6, hov6⟩ := hC
        have t1 : a2.eval (.tmp 32) = .map (some (b0 + 2)) := hT 1 (by decide)
        have t2 : a2.eval (.tmp 33) = .string ⟨dir.toArray⟩ := hT 2 (by decide)
        have t3 : a2.eval (.tmp 41) = slot a2 41 := rfl
        have hmap6 : MapS w6 9 (b0 + 2) M2 := HNM.out.map.loc (hch6.block _ hmb4 (fun e => (HOB.out _ e).1 rfl))
        obtain ⟨w7, hr7, hm7, hc7⟩ := hmap6.put Tryz.underlying9 Tryz.underlying108 (p := dir) (by unfold maxLen; omega) (by unfold maxLen; omega) (slot a2 41)
        have hput := NamesIn.put (x := (xp, ⟨kind, mode, uid, gid, time, attrs, data, link⟩)) HNM.out hmb4 (by rw [HPR.out _ rfl]; exact HVK.out) (by rw [HPR.out _ rfl]; exact ho6) hch6 hov6 (by rw [HPR.out _ rfl]; exact hm7) hc7
        rw [HPR.out _ rfl] at hput
        obtain ⟨M2', hM2'⟩ : ∃ M, SM.put M2 (dir, slot a2 41) = M := ⟨_, rfl⟩
        have HL2 : Keep (M2'.length ≤ k + 1) := ⟨by rw [← hM2', hmap6.s.length_put]; split <;> omega⟩
        rw [hM2', ← HTK.out] at hput
        have hcx : Chg (fun j => (namA b0 (b0 + 2) M2 (L.take k)).blk j) w4.heap.size w4 w7 := by
          refine (hch6.mono (Nat.le_refl _) (fun j hj => ?_)).trans ((hc7.lower hch6.size).mono (Nat.le_refl _) (fun j hj => .inl hj))
          right
          have hl : SM.look M2 dir = some (.slice aK nK cK) := by
            have := HVK.out
            cases hl : SM.look M2 dir with
            | none => rw [hl] at this; rw [← show nilV = _ from this] at hj; cases hj
            | some u => rw [hl] at this; rw [show u = _ from this]
          exact ⟨_, _, hl, hj⟩
        have H7 := Keep.keep (H4.out.upd 2 rfl (namA b0 (b0 + 2) M2' (L.take (k + 1))) hcx hput.1 (fun b hb => by
          rcases hb with h | h
          · exact .inl (.inl h)
          · obtain ⟨d, u, hd, hu⟩ := h
            rcases hput.2 b ⟨d, u, hd, hu⟩ with h2 | h2
            · exact .inl (.inr h2)
            · exact .inr ⟨h2, (World.ownsRow.lt (hput.1.own d u hd) b hu).2⟩))
        refine one_last rfl (w2 := w7) (by simp [execOp, t1, t2, t3, hr7, Result.andThen]) ⟨rfl, ?_⟩
        simp only [List.foldl_cons, List.foldl_nil] at ha
        clear hT t1 t2 t3 hch6 ho6 hov6 hmap6 hr7 hm7 hc7 hput hM2' hcx H4 c50 HOK HNM HOB HVK HKL HNK hr4 hr6 hmb4
        generalize slot a2 31 = y31 at *
        generalize slot a2 32 = y32 at *
        generalize slot a2 33 = y33 at *
        generalize slot a2 34 = y34 at *
        generalize slot a2 35 = y35 at *
        generalize slot a2 36 = y36 at *
        generalize slot a2 37 = y37 at *
        generalize slot a2 38 = y38 at *
        generalize slot a2 39 = y39 at *
        generalize slot a2 40 = y40 at *
        generalize slot a2 41 = y41 at *
        subst ha
        simp only [Act.put, List.setIfInBounds_toArray, List.set_cons_succ, List.set_cons_zero]
        have k42 := (H7.out.row 4 rfl).cell (i := 2) rfl
        have c50 := (H7.out.row 6 rfl).cell (i := 0) rfl
        have hmY : MapS w7 9 (b0 + 3) Y := H7.out.get 3 rfl
        have HMY := Keep.keep hmY
        have hlk := hmY.look1 Tryz.underlying9 Tryz.underlying73 (zeroI w7) (p := xp) (by unfold maxLen; omega)
        rw [HCN.out xp] at hlk
        dsimp only at hlk
        have hkb : k * 400002 ≤ 100000 * 400002 := Nat.mul_le_mul_right _ (by omega)
        have hlb := HLB.out
        generalize (L.take k).flatMap keysM = ks at *
        have hcb : ks.count xp ≤ ks.length := List.count_le_length
        have HP8 := Keep.keep (CntIs.put HMY.out.s HCN.out xp)
        have HL8 : Keep ((SM.put Y (xp, .int .i64 (((ks.count xp : Nat) : Int) + 1))).length ≤ ks.length + 1) := ⟨by rw [HMY.out.s.length_put]; split <;> omega⟩
        generalize hcc : ks.count xp = cc at *
        clear hmY hcc
        go_wp2_with (first | (with_reducible refine arm_sRange ?_) | (with_reducible refine arm_sNext ?_) | (with_reducible refine arm_sDel ?_) | (with_reducible refine arm_sPut ?_) | (with_reducible refine arm_sIns ?_))
        refine StM.out ?_
        refine arm_putS Tryz.underlying9 Tryz.underlying73 HMY.out (p := xp) (u := .int .i64 ((cc : Int) + 1)) (by unfold maxLen; omega) (by unfold maxLen; omega) rfl rfl rfl ?_
        intro w8 hm8 hc8
        have H8 := Keep.keep (H7.out.upd 3 rfl (msA 9 (b0 + 3) (SM.put Y (xp, .int .i64 ((cc : Int) + 1)))) hc8 hm8 (fun b hb => .inl hb))
        generalize SM.put Y (xp, .int .i64 ((cc : Int) + 1)) = Y1 at *
        clear hm8 hc8 H7 HMY hlk k42 c50 HCN hcb
        simp only [Act.put]
        have c50 := (H8.out.row 6 rfl).cell (i := 0) rfl
        go_wp2_with fail
        refine (HAB.out w8).mono ?_
        rintro e w9 ⟨v50, rfl, ho50, hb9⟩
        have H9 := Keep.keep (H8.out.push (slA w8.heap.size 9 1 v50 ab.length (ab.map strV)) (.of_below hb9) ho50 (fun b hb => World.ownsRow.lt ho50 b hb))
        have hs9 := hb9.size
        obtain ⟨a50, c50', hv50, -⟩ := (ownsV_reads ho50).shape
        have habl := HABL.out.1
        clear ho50 hb9 H8 c50 HAB
        subst hv50
        go_wp2_with (with_reducible refine arm_stop ?_)
        refine Stopped.out ?_
        refine arm_appendV slS (m := 1) ((H9.out.alloc _).sl 7 rfl) (RdV.new (N := fun _ => True) 9 [strV []] 1 1 _ rfl rfl (by unfold maxLen; omega) trivial) (by simp [strV, Value.oneCell']) (by unfold maxLen; omega) (by omega) (by simp; omega) rfl rfl ?_
        intro v52 w10 ho hg hov _
        have H10 := Keep.keep ((H9.out.alloc _).grow 7 rfl hg ho hov)
        obtain ⟨g52, c52, rfl⟩ : ∃ g c, v52 = .slice (some ⟨g, 0, none⟩) (ab.length + 1) c := by
          rcases ho.2 with ⟨_, h⟩ | ⟨g, cap, cur, h, _⟩
          · omega
          · exact ⟨g, cap, h⟩
        clear ho hg hov H9
        simp only [Act.put, List.setIfInBounds_toArray, List.set_cons_succ, List.set_cons_zero]
        obtain ⟨abl, habl2⟩ : ∃ l, ab ++ [([] : Tx)] = l := ⟨_, rfl⟩
        have HABE : Keep (abl.length = ab.length + 1 ∧ (∀ q ∈ abl, q.length ≤ xp.length) ∧ ab.map strV ++ [strV []] = abl.map strV ∧ (L.take (k + 1)).flatMap keysM = ks ++ (xp :: abl)) := ⟨by rw [← habl2]; simp, fun q hq => by
          rw [← habl2] at hq
          rcases List.mem_append.1 hq with hq | hq
          · exact HABL.out.2 q hq
          · obtain rfl : q = [] := by simpa using hq
            exact Nat.zero_le _, by rw [← habl2]; simp, by rw [← habl2]; exact HFT.out⟩
        obtain ⟨na, hna⟩ : ∃ n, ab.length + 1 = n := ⟨_, rfl⟩
        rw [hna, HABE.out.2.2.1] at H10
        rw [hna] at HABE
        rw [hna]
        have hnab : na ≤ 400001 := by omega
        clear habl2 hna habl
        go_wp2_with fail
        go_loopg [8, 54] na (fun g _ u54 wx => ∃ (j : Nat) (Y' : List (Tx × Value)), j + g = na ∧ u54 = .int .i64 (j : Int) ∧ Y'.length ≤ ks.length + 1 + j ∧ CntIs Y' (ks ++ [xp] ++ abl.take j) ∧
          Hp NoM w wx [rowA b0 110 #[.map none, .map none, .map none, .nilFunc], msA 9 (b0 + 1) M1', namA b0 (b0 + 2) M2' (L.take (k + 1)), msA 9 (b0 + 3) Y', rowA (b0 + 4) 110 #[.map (some (b0 + 1)), .map (some (b0 + 2)), .map (some (b0 + 3)), .func (.func 18) #[.pointer (some ⟨T, 0, none⟩)] #[]], sameA (fun b => w1.heap.size ≤ b ∧ b < w2.heap.size) w2, rowA b5 41 #[.string ⟨xp.toArray⟩, .int .i64 kind, .int .u32 mode, .int .u32 uid, .int .u32 gid, .int .i64 time, .slice aa la ca, .slice ad ld cd, .string ⟨link.toArray⟩], slA w8.heap.size 9 1 (.slice (some ⟨g52, 0, none⟩) na c52) na (abl.map strV)])
        case atStart => exact ⟨0, Y1, by omega, rfl, HL8.out, by rw [List.take_zero, List.append_nil]; exact HP8.out, H10.out⟩
        case round =>
          obtain ⟨j, Y', hjg, rfl, hlY', hcnt, hH⟩ := hrel
          have HC2 := Keep.keep hcnt; have HH := Keep.keep hH
          clear hcnt hH H10
          cases gk with
          | zero =>
            obtain rfl : j = na := by omega
            have HTA : Keep (abl.take j = abl) := ⟨List.take_of_length_le (by rw [HABE.out.1]; exact Nat.le_refl _)⟩
            have HC3 : Keep (CntIs Y' ((L.take (k + 1)).flatMap keysM)) := ⟨by
              have := HC2.out
              rw [HTA.out, List.append_assoc] at this
              rw [HABE.out.2.2.2]; exact this⟩
            have HL3 : Keep (Y'.length ≤ ((L.take (k + 1)).flatMap keysM).length) := ⟨by
              rw [HABE.out.2.2.2, List.length_append, List.length_cons, HABE.out.1]; omega⟩
            go_wp2_with fail
            go_roundg g
            case measure => omega
            case rel => exact ⟨k + 1, M1', M2', Y', by omega, by simp, HL4.out, HL2.out, HL3.out, HNO4.out, HC3.out, HH.out.init.init⟩
          | succ g2 =>
            have hj : j < abl.length := by rw [HABE.out.1]; omega
            have hcell := (ownsV_reads (HH.out.sl 7 rfl)).cell g52 0 _ _ rfl j (strV abl[j]) (by simp [hj])
            have hql := HABE.out.2.1 abl[j] (List.getElem_mem hj)
            have HTJ : Keep (abl.take (j + 1) = abl.take j ++ [abl[j]]) := ⟨List.take_succ_eq_append_getElem hj⟩
            generalize abl[j] = q at *
            unfold strV at hcell
            rw [Nat.zero_add] at hcell
            have k42 := (HH.out.row 4 rfl).cell (i := 2) rfl
            have hmY : MapS wr 9 (b0 + 3) Y' := HH.out.get 3 rfl
            have HMY := Keep.keep hmY
            have hlk := hmY.look1 Tryz.underlying9 Tryz.underlying73 (zeroI wr) (p := q) (by unfold maxLen; omega)
            rw [HC2.out q] at hlk
            dsimp only at hlk
            have hcb : (ks ++ [xp] ++ abl.take j).count q ≤ ks.length + 1 + j := by
              refine Nat.le_trans List.count_le_length ?_
              simp; omega
            have HP9 := Keep.keep (CntIs.put HMY.out.s HC2.out q)
            have HL9 : Keep ((SM.put Y' (q, .int .i64 ((((ks ++ [xp] ++ abl.take j).count q : Nat) : Int) + 1))).length ≤ ks.length + 1 + (j + 1)) := ⟨by rw [HMY.out.s.length_put]; split <;> omega⟩
            have htj : ks ++ [xp] ++ abl.take j ++ [q] = ks ++ [xp] ++ abl.take (j + 1) := by rw [HTJ.out, List.append_assoc (ks ++ [xp])]
            rw [htj] at HP9
            clear htj
            generalize hcc : (ks ++ [xp] ++ abl.take j).count q = cc2 at *
            have hcb2 : cc2 ≤ 50000000000 := by omega
            have hYb : Y'.length ≤ 50000000000 := by omega
            clear hmY hcc HTJ hcb hlb hkb hlY hlY'
            go_wp2_with (first | (with_reducible refine arm_sRange ?_) | (with_reducible refine arm_sNext ?_) | (with_reducible refine arm_sDel ?_) | (with_reducible refine arm_sPut ?_) | (with_reducible refine arm_sIns ?_))
            refine StM.out ?_
            refine arm_putS Tryz.underlying9 Tryz.underlying73 HMY.out (p := q) (u := .int .i64 ((cc2 : Int) + 1)) (by unfold maxLen; omega) (by unfold maxLen; omega) rfl rfl rfl ?_
            intro w11 hm11 hc11
            have H11 := Keep.keep (HH.out.upd 3 rfl (msA 9 (b0 + 3) (SM.put Y' (q, .int .i64 ((cc2 : Int) + 1)))) hc11 hm11 (fun b hb => .inl hb))
            generalize SM.put Y' (q, .int .i64 ((cc2 : Int) + 1)) = Y2 at *
            clear hm11 hc11 HH HMY hlk k42 hcell HC2 hcb2
            simp only [Act.put]
            go_wp2_with fail
            go_roundg g2
            case measure => omega
            case rel => exact ⟨j + 1, Y2, by omega, by simp, HL9.out, HP9.out, H11.out⟩
end Go.Proofs.YtmnknmpfkjhgbaaGreatDoor
/- THE LIBRARY's FORM of slices.SortFunc at structs, laid at this translation by the shelf's own program (lay-plain). -/
namespace Go.Proofs
open Go.Shelf
def Tryz.sortMb_ren : Go.Shelf.Ren := ⟨fun | 6 => 81 | 15 => 124 | 14 => 123 | 28 => 151 | 29 => 152 | 20 => 143 | 21 => 144 | 22 => 145 | 23 => 146 | 24 => 147 | 25 => 148 | 26 => 149 | 27 => 150 | 46 => 163 | 47 => 164 | 48 => 165 | 49 => 166 | 50 => 167 | 57 => 185 | n => n, fun | 22 => 23 | 24 => 41 | 25 => 114 | 3 => 3 | 39 => 144 | 0 => 0 | 53 => 35 | 55 => 159 | 4 => 4 | 46 => 152 | 45 => 151 | 50 => 132 | 5 => 5 | 9 => 9 | 66 => 174 | 70 => 178 | 76 => 194 | 77 => 195 | n => n, fun | n => n⟩
theorem Tryz.sortMb : Go.Proofs.SlLaysF0.n6 Tryz.prog Tryz.sortMb_ren := {
  mixed := by kernel_rfl
  f6 := ⟨Tryz.f81.name, by decide, Tryz.func81.trans (congrArg some (by kernel_rfl))⟩
  f14 := ⟨Tryz.f123.name, by decide, Tryz.func123.trans (congrArg some (by kernel_rfl))⟩
  f15 := Tryz.func124.trans (congrArg some (by kernel_rfl))
  f20 := ⟨Tryz.f143.name, by decide, Tryz.func143.trans (congrArg some (by kernel_rfl))⟩
  f21 := ⟨Tryz.f144.name, by decide, Tryz.func144.trans (congrArg some (by kernel_rfl))⟩
  f22 := ⟨Tryz.f145.name, by decide, Tryz.func145.trans (congrArg some (by kernel_rfl))⟩
  f23 := ⟨Tryz.f146.name, by decide, Tryz.func146.trans (congrArg some (by kernel_rfl))⟩
  f24 := ⟨Tryz.f147.name, by decide, Tryz.func147.trans (congrArg some (by kernel_rfl))⟩
  f25 := ⟨Tryz.f148.name, by decide, Tryz.func148.trans (congrArg some (by kernel_rfl))⟩
  f26 := ⟨Tryz.f149.name, by decide, Tryz.func149.trans (congrArg some (by kernel_rfl))⟩
  f27 := ⟨Tryz.f150.name, by decide, Tryz.func150.trans (congrArg some (by kernel_rfl))⟩
  f28 := Tryz.func151.trans (congrArg some (by kernel_rfl))
  f29 := Tryz.func152.trans (congrArg some (by kernel_rfl))
  f46 := ⟨Tryz.f163.name, by decide, Tryz.func163.trans (congrArg some (by kernel_rfl))⟩
  f47 := Tryz.func164.trans (congrArg some (by kernel_rfl))
  f48 := Tryz.func165.trans (congrArg some (by kernel_rfl))
  f49 := ⟨Tryz.f166.name, by decide, Tryz.func166.trans (congrArg some (by kernel_rfl))⟩
  f50 := ⟨Tryz.f167.name, by decide, Tryz.func167.trans (congrArg some (by kernel_rfl))⟩
  f57 := ⟨Tryz.f185.name, by decide, Tryz.func185.trans (congrArg some (by kernel_rfl))⟩
  t0 := Tryz.underlying0
  a0 := Tryz.isAgg0
  z0 := Tryz.sizeOf0
  v0 := Tryz.zeroValue0
  t3 := Tryz.underlying3
  a3 := Tryz.isAgg3
  z3 := Tryz.sizeOf3
  v3 := Tryz.zeroValue3
  t4 := Tryz.underlying4
  a4 := Tryz.isAgg4
  z4 := Tryz.sizeOf4
  v4 := Tryz.zeroValue4
  t5 := Tryz.underlying5
  a5 := Tryz.isAgg5
  z5 := Tryz.sizeOf5
  v5 := Tryz.zeroValue5
  t9 := Tryz.underlying9
  a9 := Tryz.isAgg9
  z9 := Tryz.sizeOf9
  v9 := Tryz.zeroValue9
  t22 := Tryz.underlying23
  a22 := Tryz.isAgg23
  z22 := Tryz.sizeOf23
  v22 := Tryz.zeroValue23
  t25 := Tryz.underlying114
  a25 := Tryz.isAgg114
  z25 := Tryz.sizeOf114
  v25 := Tryz.zeroValue114
  t39 := Tryz.underlying144
  a39 := Tryz.isAgg144
  z39 := Tryz.sizeOf144
  v39 := Tryz.zeroValue144
  t45 := Tryz.underlying151
  a45 := Tryz.isAgg151
  z45 := Tryz.sizeOf151
  v45 := Tryz.zeroValue151
  t46 := Tryz.underlying152
  a46 := Tryz.isAgg152
  z46 := Tryz.sizeOf152
  v46 := Tryz.zeroValue152
  t50 := Tryz.underlying132
  a50 := Tryz.isAgg132
  z50 := Tryz.sizeOf132
  v50 := Tryz.zeroValue132
  t53 := Tryz.underlying35
  a53 := Tryz.isAgg35
  z53 := Tryz.sizeOf35
  v53 := Tryz.zeroValue35
  t55 := Tryz.underlying159
  a55 := Tryz.isAgg159
  z55 := Tryz.sizeOf159
  v55 := Tryz.zeroValue159
  t66 := Tryz.underlying174
  a66 := Tryz.isAgg174
  z66 := Tryz.sizeOf174
  v66 := Tryz.zeroValue174
  t70 := Tryz.underlying178
  a70 := Tryz.isAgg178
  z70 := Tryz.sizeOf178
  v70 := Tryz.zeroValue178
  t76 := Tryz.underlying194
  a76 := Tryz.isAgg194
  z76 := Tryz.sizeOf194
  v76 := Tryz.zeroValue194
  t77 := Tryz.underlying195
  a77 := Tryz.isAgg195
  z77 := Tryz.sizeOf195
  v77 := Tryz.zeroValue195 }
end Go.Proofs
/- slices.SortFunc over Members of one's own, by their paths (differ.all's closure, cmp.Compare). -/
namespace Go.Proofs.YtmnknmpfkjhgbaaGreatDoor
open Go.RowKit Go.Sort Go.Shelf
abbrev MvS := {x : Mv // NdS x}
instance : Inhabited MvS := ⟨⟨(([], nd0), nilV, nilV), ⟨none, 0, 0, none, 0, 0, rfl, rfl⟩⟩⟩
def encS (x : MvS) : List Value := (mcell x.1).toList
def cmpS (a b : Tx) : Int := if a < b then -1 else if b < a then 1 else 0
def cfS (x y : MvS) : Int := cmpS x.1.1.1 y.1.1.1
theorem ltS (x y : MvS) : ltOf cfS x y = decide (x.1.1.1 < y.1.1.1) := by
  unfold ltOf cfS cmpS
  by_cases h : x.1.1.1 < y.1.1.1
  · simp [h]
  · by_cases k : y.1.1.1 < x.1.1.1 <;> simp [h, k]
theorem swoS : SWO (ltOf cfS) where
  irrefl x := by rw [ltS]; simp [tx_irrefl]
  trans x y z h1 h2 := by
    rw [ltS] at *
    simp only [decide_eq_true_eq] at *
    exact tx_trans h1 h2
  ntrans x y z h1 h2 := by
    rw [ltS] at *
    simp only [decide_eq_false_iff_not, List.not_lt] at *
    exact List.le_trans h2 h1
theorem nan_any (x : Tx) (w : World) : Calls Tryz.prog 125 #[.string ⟨x.toArray⟩] w fun e w' => e = .returned (.bool false) ∧ w = w' := by
  have hx : (x != x) = false := by simp
  go_enter Tryz.func125, Tryz.ntmps125
  go_wp2_with fail
  go_ret
  exact ⟨rfl, rfl⟩
set_option maxHeartbeats 1000000 in
theorem cmp_any (x y : Tx) (w : World) : Calls Tryz.prog 83 #[.string ⟨x.toArray⟩, .string ⟨y.toArray⟩] w fun e w' => e = .returned (.int .i64 (cmpS x y)) ∧ w = w' := by
  have HN := Keep.keep nan_any
  have HX : Keep (cmpS x y = if Op.bytesLess x y = true then -1 else if (x == y) = true then 0 else 1) := ⟨by
    unfold cmpS
    rw [less_lt]
    rcases tx_tri x y with e | e | e
    · simp [e]
    · subst e; simp [tx_irrefl]
    · have e2 : ¬ x = y := fun h => tx_irrefl x (by rw [← h] at e; exact e)
      simp [tx_asymm e, e, e2]⟩
  obtain ⟨b1, h1⟩ : ∃ b, Op.bytesLess x y = b := ⟨_, rfl⟩
  obtain ⟨b2, h2⟩ : ∃ b, (x == y) = b := ⟨_, rfl⟩
  rw [h1, h2] at HX
  generalize cmpS x y = out at *
  go_enter Tryz.func83, Tryz.ntmps83
  go_wp2_with fail
  refine (HN.out x _).mono ?_
  rintro e w' ⟨rfl, rfl⟩
  go_wp2_with fail
  refine (HN.out y _).mono ?_
  rintro e w' ⟨rfl, rfl⟩
  cases b1 with
  | true =>
    go_wp2_with fail
    go_ret
    exact ⟨by rw [HX.out]; rfl, rfl⟩
  | false =>
  cases b2 with
  | true =>
    go_wp2_with fail
    go_ret
    exact ⟨by rw [HX.out]; rfl, rfl⟩
  | false =>
    go_wp2_with fail
    go_ret
    exact ⟨by rw [HX.out]; rfl, rfl⟩
set_option maxHeartbeats 1000000 in
set_option maxRecDepth 100000 in
theorem all1_any (x y : MvS) (W : World) : Calls Tryz.prog 82 #[.agg (encS x).toArray, .agg (encS y).toArray] W fun e w' => e = .returned (.int .i64 (cfS x y)) ∧ ∃ q os', w' = grow (W.drewN q) os' := by
  obtain ⟨⟨⟨xp, ⟨kind, mode, uid, gid, time, attrs, data, link⟩⟩, av, dv⟩, ⟨aa, la, ca, ad, ld, cd, e1, e2⟩⟩ := x
  obtain ⟨⟨⟨yp, ⟨kind', mode', uid', gid', time', attrs', data', link'⟩⟩, bv, ev⟩, ⟨ba, lb, cb, bd, ldb, cdb, f1, f2⟩⟩ := y
  dsimp only at e1 e2 f1 f2
  subst e1 e2 f1 f2
  have HC := Keep.keep (fun w => cmp_any xp yp w)
  have hx : (encS ⟨((xp, ⟨kind, mode, uid, gid, time, attrs, data, link⟩), .slice aa la ca, .slice ad ld cd), ⟨aa, la, ca, ad, ld, cd, rfl, rfl⟩⟩).toArray = #[.string ⟨xp.toArray⟩, .int .i64 kind, .int .u32 mode, .int .u32 uid, .int .u32 gid, .int .i64 time, .slice aa la ca, .slice ad ld cd, .string ⟨link.toArray⟩] := rfl
  have hy : (encS ⟨((yp, ⟨kind', mode', uid', gid', time', attrs', data', link'⟩), .slice ba lb cb, .slice bd ldb cdb), ⟨ba, lb, cb, bd, ldb, cdb, rfl, rfl⟩⟩).toArray = #[.string ⟨yp.toArray⟩, .int .i64 kind', .int .u32 mode', .int .u32 uid', .int .u32 gid', .int .i64 time', .slice ba lb cb, .slice bd ldb cdb, .string ⟨link'.toArray⟩] := rfl
  rw [hx, hy]
  have hcf : cfS ⟨((xp, ⟨kind, mode, uid, gid, time, attrs, data, link⟩), .slice aa la ca, .slice ad ld cd), ⟨aa, la, ca, ad, ld, cd, rfl, rfl⟩⟩ ⟨((yp, ⟨kind', mode', uid', gid', time', attrs', data', link'⟩), .slice ba lb cb, .slice bd ldb cdb), ⟨ba, lb, cb, bd, ldb, cdb, rfl, rfl⟩⟩ = cmpS xp yp := rfl
  rw [hcf]
  clear hx hy hcf
  generalize cmpS xp yp = r at *
  go_enter Tryz.func82, Tryz.ntmps82
  go_wp2_with fail
  refine (HC.out _).mono ?_
  rintro e w' ⟨rfl, rfl⟩
  go_wp2_with fail
  go_ret
  exact ⟨rfl, 0, _, by rw [alloc_eq_grow, alloc_eq_grow, grow_grow]; rfl⟩
theorem ent_all1 : ∀ args w, (callFunc 82 args).run Tryz.prog w = .ok (.enter 82 args) w := enters_of Tryz.func82 (by kernel_rfl) rfl
theorem list_sub (l : List Mv) (h : ∀ x ∈ l, NdS x) : ∃ ls : List MvS, ls.map (·.1) = l := by
  induction l with
  | nil => exact ⟨[], rfl⟩
  | cons x l ih =>
    obtain ⟨ls, hls⟩ := ih (fun y hy => h y (by simp [hy]))
    exact ⟨⟨x, h x (by simp)⟩ :: ls, by simp [hls]⟩
theorem flat_get (d : Array MvS) (t : Nat) (h : t < d.size * 9) : (mcells (d.toList.map (·.1)))[t]? = some ((flatK encS 9 d)[t]!) := by
  rw [get_flatK _ _ _ _ h]
  have ht : t = t / 9 * 9 + t % 9 := by omega
  have hlt : t / 9 < d.size := by omega
  conv => lhs; rw [ht, mcells_at _ _ _ (Nat.mod_lt _ (by omega))]
  rw [List.getElem?_map, Array.getElem?_toList, Array.getElem?_eq_getElem hlt]
  have h9 : t % 9 < (encS d[t / 9]).length := by
    show t % 9 < (mcell _).toList.length
    rw [mcell_len]; exact Nat.mod_lt _ (by omega)
  rw [getElem!_pos d _ hlt, getElem!_pos (encS d[t / 9]) _ h9]
  show (encS d[t / 9])[t % 9]? = _
  rw [List.getElem?_eq_getElem h9]
theorem flat_list (d : Array MvS) : (flatK encS 9 d).toList = mcells (d.toList.map (·.1)) := by
  apply List.ext_getElem?
  intro t
  by_cases h : t < d.size * 9
  · rw [flat_get d t h, Array.getElem?_toList, Array.getElem?_eq_getElem (by rw [size_flatK]; exact h), getElem!_pos _ _ (by rw [size_flatK]; exact h)]
  · rw [List.getElem?_eq_none (by simp; omega), List.getElem?_eq_none (by rw [mcells_length]; simp; omega)]
theorem heap_sortedK {w : World} {g n : Nat} {os : Array Obj} {cur : Array Value} {e : TypeId} {fr : Nat × Nat} (F : Array Value) (hb : w.heap[g]? = some (.cells cur e fr)) :
    (grow (putRow id (Sort.ahead w n) g 0 F) os).heap[g]? = some (.cells (putCells id 0 F cur) e fr) := by
  have hg : g < w.heap.size := (Array.getElem?_eq_some_iff.1 hb).1
  rw [heap_grow_old _ _ (by simpa using hg)]
  simp [putRow, mapBlock, Sort.ahead, Array.getElem?_modify, hb, onCells]
theorem grownBy_sortedK {w : World} {g n : Nat} {os : Array Obj} (F : Array Value) : w.grownBy (grow (putRow id (Sort.ahead w n) g 0 F) os) (some g) := by
  refine ⟨rfl, rfl, rfl, by simp, fun k hk hne => ?_⟩
  rw [heap_grow_old _ _ (by simpa using hk)]
  have : g ≠ k := fun e => hne (by rw [e])
  simp [putRow, mapBlock, Sort.ahead, Array.getElem?_modify, this]
theorem take_putCellsK (cur F : Array Value) (h : F.size ≤ cur.size) : (putCells id 0 F cur).toList.take F.size = F.toList := by
  apply List.ext_getElem?
  intro j
  by_cases hj : j < F.size
  · rw [List.getElem?_take_of_lt hj, Array.getElem?_toList]
    simp [putCells, hj, show j < cur.size by omega]
  · rw [List.getElem?_take_eq_none (by omega), List.getElem?_eq_none (by simp; omega)]
end Go.Proofs.YtmnknmpfkjhgbaaGreatDoor
/- As in DfSort, with nodes whose slices are rows of their types (printed by gen_o.py). -/
namespace Go.Proofs.YtmnknmpfkjhgbaaGreatDoor
open Go.RowKit Go.Sort Go.Shelf
instance : Inhabited MvS := ⟨⟨(([], nd0), nilV, nilV), ⟨none, 0, 0, none, 0, 0, rfl, rfl⟩⟩⟩
set_option maxHeartbeats 1000000 in
theorem sort_mbO (base : Nat) (K : Nat → Prop) (v : Value) (l : List Mv) (w : World) (hB : base ≤ w.heap.size) (h : RowO base K w v l) (hl : l.length ≤ 1000000000000) :
    Calls Tryz.prog 81 #[v, .func (.func 82) #[] #[]] w fun e w' => e = .returned (.tuple #[]) ∧ (∃ l', RowO base K w' v l' ∧ l'.Perm l ∧ l'.Pairwise (fun x y => x.1.1 ≤ y.1.1)) ∧ Below base w w' := by
  have h0 := h
  rcases h.own.2 with ⟨rfl, hz⟩ | ⟨g, cap, cur, rfl, hb, hh, hn, hm, hs, ht⟩
  · obtain rfl : l = [] := List.eq_nil_of_length_eq_zero hz
    refine (AnyF.slices_SortFunc_none Tryz.sortMb none 0 _ w).mono ?_
    rintro e w' ⟨rfl, rfl⟩
    exact ⟨rfl, ⟨[], h0, List.Perm.refl _, List.Pairwise.nil⟩, Below.refl _ _⟩
  · obtain ⟨ls, rfl⟩ := list_sub l (fun x hx => (h.nd x hx).shape)
    have hlt : g < w.heap.size := (Array.getElem?_eq_some_iff.1 hh).1
    have hsz : ls.toArray.size = (ls.map (·.1)).length := by simp
    have hH : HoldsK encS 9 w g 0 ls.toArray := by
      intro j hj
      rw [size_flatK, hsz] at hj
      have h1 := flat_get ls.toArray j (by rw [hsz]; exact hj)
      rw [Nat.zero_add, h.own.cellAt j hj, h.own.frozenAt j]
      exact ⟨h1, rfl⟩
    have hcon := AnyQ.slices_SortFunc Tryz.sortMb 9 (fun w => by kernel_rfl) (fun w => by kernel_rfl) encS (fun x => mcell_len x.1) (fun x v hv => by
      have := mcells_one (l := [x.1]) (fun y hy => by rw [List.mem_singleton.1 hy]; exact x.2) v (by rw [mcells_cons]; exact List.mem_append_left _ hv)
      exact this) cfS swoS 82 #[] g 0 cap ls.toArray w ent_all1 (fun m os dk _ x y => all1_any x y _) hH hlt (by rw [hsz]; omega)
    rw [hsz] at hcon
    refine hcon.mono ?_
    rintro e w' ⟨rfl, d', n, os, ⟨hp1, _, hp3⟩, hs2, rfl⟩
    have hd' : d'.size = (ls.map (·.1)).length := by rw [hp1, hsz]
    have hperm : d'.toList.Perm ls := by
      have e1 : d'.extract 0 (ls.map (·.1)).length = d' := by rw [← hd']; simp
      have e2 : ls.toArray.extract 0 (ls.map (·.1)).length = ls.toArray := by rw [← hsz]; simp
      rw [e1, e2] at hp3
      exact hp3
    have hlen : (d'.toList.map (·.1)).length = (ls.map (·.1)).length := by simpa using hd'
    have hF : (flatK encS 9 d').size = (ls.map (·.1)).length * 9 := by rw [size_flatK, hd']
    have hgr := grownBy_sortedK (w := w) (g := g) (n := n) (os := os) (flatK encS 9 d')
    refine ⟨rfl, ⟨d'.toList.map (·.1), ⟨?_, fun x hx => ?_⟩, hperm.map _, ?_⟩, ?_⟩
    · rw [hlen]
      refine ⟨by rw [mcells_length, hlen], .inr ⟨g, cap, _, rfl, hb, heap_sortedK _ hh, hn, hm, by simp [putCells, hs], ?_⟩⟩
      rw [← hF, take_putCellsK _ _ (by rw [hF, hs]; exact Nat.mul_le_mul_right 9 hn), flat_list]
    · have hx2 : x ∈ ls.map (·.1) := (hperm.map _).mem_iff.1 hx
      refine ((h.nd x hx2).loc (fun b e => hgr.block b e.2.1 (fun e2 => e.2.2 (by injection e2 with e2; rw [e2]; rfl)))).mono (fun b e => ⟨e.1, Nat.lt_of_lt_of_le e.2.1 hgr.size, e.2.2⟩)
    · rw [List.pairwise_map, List.pairwise_iff_getElem]
      intro i j hi hj hij
      have hjd : j < d'.size := by simpa using hj
      have := hs2 i j (Nat.zero_le _) hij (by rw [← hd']; exact hjd)
      rw [ltS, getElem!_pos d' j hjd, getElem!_pos d' i (by omega)] at this
      have h2 := of_decide_eq_false this
      rw [List.not_lt] at h2
      simpa using h2
    · exact (Chg.grown (M := NoM) (.refl _ _ _) hgr hB (fun k e => .inl (by injection e with e; omega))).below (fun _ _ h => h)
end Go.Proofs.YtmnknmpfkjhgbaaGreatDoor
/- differ.told, all, Of, Cost. -/
namespace Go.Proofs.YtmnknmpfkjhgbaaGreatDoor
open Go.RowKit
theorem kid_facts {A B : List Mb} (hA : WellL A) (hB : WellL B) {n : Nat} {dir c : Tx} (hf : ∀ x, x ∈ A ∨ x ∈ B → x.1.length < n + dir.length) (hp : ∀ x, x ∈ A ∨ x ∈ B → x.1.length ≤ 400000) (hc : c ∈ ksT A B dir) : c.length ≤ 400000 ∧ dir.length + 1 ≤ c.length ∧ c.length < n + dir.length := by
  have hk := ksT_kids hA hB
  obtain ⟨h1, h2, h3⟩ := hk.path hA hB hc
  have hlt := parent_lt h2
  rw [h3] at hlt
  rcases ((hk.mem dir c).1 hc).2 with h4 | h4
  · obtain ⟨v, hv⟩ := Option.isSome_iff_exists.1 h4
    have hm : (c, v) ∈ A ∨ (c, v) ∈ B := .inl (SM.look_mem hv)
    exact ⟨hp _ hm, by omega, hf _ hm⟩
  · obtain ⟨v, hv⟩ := Option.isSome_iff_exists.1 h4
    have hm : (c, v) ∈ A ∨ (c, v) ∈ B := .inr (SM.look_mem hv)
    exact ⟨hp _ hm, by omega, hf _ hm⟩
theorem RowM.widen {B B' : Nat} {K : Nat → Prop} {w : World} {v : Value} {l : List Mv} (h : RowM B K w v l) (hB : B' ≤ B) (hK : ∀ b, K b → B' ≤ b) : RowM B' NoM w v l :=
  ⟨ownsRow_base h.own hB, fun x hx => (h.nd x hx).mono (fun b e => ⟨.inr (e.1.elim (hK b) (Nat.le_trans hB)), e.2⟩)⟩
theorem run_storeF {ρ : Operand → Value} {d : Option Tmp} {x y : Operand} {t : TypeId} {pos : String} {af : Array Edge} {g : Option (Nat × Bool)} {w : World} {b off : Nat} {F : FuncId} {fi cs : Array Value} {v : Value} (hc : w.cell? ⟨b, off, none⟩ = some v) (hf : w.frozen? ⟨b, off, none⟩ = false) (hx : ρ x = .pointer (some ⟨b, off, none⟩)) (hy : ρ y = .func (.func F) fi cs) :
    (execOp ρ (⟨d, .store 44 x y, t, pos, af, g⟩ : Oper)).run Tryz.prog w = .ok .skip (w.setCell ⟨b, off, none⟩ (.func (.func F) fi cs)) := by
  have hz : (sizeOf 44).run Tryz.prog w = .ok 1 w := by kernel_rfl
  have hs : ∀ m, (store ⟨b, off, none⟩ (.func (.func F) fi cs) m).run Tryz.prog w = .ok () (w.setCell ⟨b, off, none⟩ (.func (.func F) fi cs)) := fun m => by
    rw [run_store Tryz.prog w _ _ m rfl, hc]
    simp [hf]
  simp [go_sem, execOp, hx, hy, hz, Instr.storeAt, storeCells, hs]
def toldL (A B : List Mb) : List Mb := belF A B (ksT A B) 500000 []
def srtM (l : List Mv) : Prop := l.Pairwise (fun x y => x.1.1 ≤ y.1.1)
end Go.Proofs.YtmnknmpfkjhgbaaGreatDoor
/- As in DfTold, with nodes whose slices are rows of their types (printed by gen_o.py). -/
namespace Go.Proofs.YtmnknmpfkjhgbaaGreatDoor
open Go.RowKit
theorem bel_anyO (d : TD) (T : Nat) (hA : WellL d.A) (hB : WellL d.B) (hLA : d.A.length ≤ 100000) (hLB : d.B.length ≤ 100000) (hp : ∀ x, x ∈ d.A ∨ x ∈ d.B → x.1.length ≤ 400000) :
    ∀ (n : Nat) (dir : Tx) (w : World), Tabs T w → TInO w d → dir.length ≤ 400000 → (dir = [] ∨ dirB d.B dir = true) → (∀ x, x ∈ d.A ∨ x ∈ d.B → x.1.length < n + dir.length) →
    Calls Tryz.prog 120 #[.string ⟨dir.toArray⟩, .pointer (some ⟨d.ba, 0, none⟩), .pointer (some ⟨d.bb, 0, none⟩), .pointer (some ⟨d.bo, 0, none⟩)] w (BelAnsO d (belF d.A d.B (ksT d.A d.B) n dir) w) := by
  intro n
  induction n with
  | zero =>
    intro dir w hT h hdl hdir hf
    rw [bel_step hA hB (ksT_kids hA hB) 0 dir hf]
    exact below_anyO d _ dir T w hT hA hB hLA hLB hdl hdir (fun c => by
      have := bel_len d.A d.B (ksT d.A d.B) (0 - 1) c
      have h2 := List.countP_le_length (p := fun q : Mb => underP c q.1) (l := d.B)
      omega) h (fun c hc wx hb => by
      have := kid_facts hA hB hf hp hc
      omega)
  | succ n ih =>
    intro dir w hT h hdl hdir hf
    rw [bel_step hA hB (ksT_kids hA hB) (n + 1) dir hf]
    have hlen : ∀ c, (belF d.A d.B (ksT d.A d.B) n c).length ≤ 1 + d.B.length := fun c => by
      have := bel_len d.A d.B (ksT d.A d.B) n c
      have h2 := List.countP_le_length (p := fun q : Mb => underP c q.1) (l := d.B)
      omega
    refine below_anyO d _ dir T w hT hA hB hLA hLB hdl hdir hlen h (fun c hc wx hb => ?_)
    obtain ⟨f1, f2, f3⟩ := kid_facts hA hB hf hp hc
    refine one_anyO d c _ T wx (hT.on (hb.mono hT.b)) f1 hLB (Nat.le_trans (hlen c) (by omega)) (h.below hb) (fun ⟨y, hy, hk⟩ wy hb2 => ?_)
    refine ih c wy ((hT.on (hb.mono hT.b)).on (hb2.mono (hT.on (hb.mono hT.b)).b)) ((h.below hb).below hb2) f1 (.inr (dirB_iff.2 ⟨y, hy, hk⟩)) (fun x hx => ?_)
    have := hf x hx
    omega
theorem RowO.widen {B B' : Nat} {K : Nat → Prop} {w : World} {v : Value} {l : List Mv} (h : RowO B K w v l) (hB : B' ≤ B) (hK : ∀ b, K b → B' ≤ b) : RowO B' NoM w v l :=
  ⟨ownsRow_base h.own hB, fun x hx => (h.nd x hx).mono (fun b e => ⟨.inr (e.1.elim (hK b) (Nat.le_trans hB)), e.2⟩)⟩
set_option maxHeartbeats 4000000 in
set_option maxRecDepth 100000 in
theorem told_anyO (na ma ya Ta nb mb yb Tb tb : Nat) (Na Nb Bk : Nat → Prop) (f : Tx → Value × Value) (A B : List Mb) (T : Nat) (w : World) (hT : Tabs T w) (hA : WellL A) (hB : WellL B) (hLA : A.length ≤ 100000) (hLB : B.length ≤ 100000) (hp : ∀ x, x ∈ A ∨ x ∈ B → x.1.length ≤ 400000)
    (sa : SideInO w Na na ma ya A) (sb : SideInO w Nb nb mb yb B) (tr : TreeIn w Tb tb Bk f B) (lt : ∀ b, Na b ∨ Nb b ∨ Bk b → b < w.heap.size) :
    Calls Tryz.prog 79 #[.agg #[.map (some na), .map (some ma), .map (some ya), .func (.func 18) #[.pointer (some ⟨Ta, 0, none⟩)] #[]], .agg #[.map (some nb), .map (some mb), .map (some yb), .func (.func 18) #[.pointer (some ⟨Tb, 0, none⟩)] #[]]] w fun e w' => ∃ v l, e = .returned v ∧ l.map (·.1) = toldL A B ∧ RowO w.heap.size Nb w' v l ∧ Below w.heap.size w w' := by
  have HBEL : Keep (∀ b0 b6 wx, Below w.heap.size w wx → TInO wx ⟨b0, b0 + 1, b0 + 1 + 1, b6, na, ma, ya, Ta, nb, mb, yb, Tb, tb, Na, Nb, Bk, f, A, B⟩ → Calls Tryz.prog 120 #[.string ⟨#[]⟩, .pointer (some ⟨b0, 0, none⟩), .pointer (some ⟨b0 + 1, 0, none⟩), .pointer (some ⟨b6, 0, none⟩)] wx (fun e w' => ∃ v l, e = .returned v ∧ l.map (·.1) = toldL A B ∧ RowO wx.heap.size Nb w' v l ∧ Below wx.heap.size wx w')) := ⟨fun b0 b6 wx hb h => bel_anyO ⟨b0, b0 + 1, b0 + 1 + 1, b6, na, ma, ya, Ta, nb, mb, yb, Tb, tb, Na, Nb, Bk, f, A, B⟩ T hA hB hLA hLB hp 500000 [] wx (hT.on (hb.mono hT.b)) h (by simp) (.inl rfl) (fun x hx => by have := hp x hx; simp; omega)⟩
  have HSA := Keep.keep sa; have HSB := Keep.keep sb; have HTR := Keep.keep tr; have HLT := Keep.keep lt
  have hent2 := ent_below
  clear hT hA hB sa sb tr lt
  go_enter Tryz.func79, Tryz.ntmps79
  go_upto_region 2 with fail
  refine wp_world (R := fun w1 => Hp NoM w w1 [rowA w.heap.size 110 #[.map (some na), .map (some ma), .map (some ya), .func (.func 18) #[.pointer (some ⟨Ta, 0, none⟩)] #[]], rowA (w.heap.size + 1) 110 #[.map (some nb), .map (some mb), .map (some yb), .func (.func 18) #[.pointer (some ⟨Tb, 0, none⟩)] #[]], rowA (w.heap.size + 1 + 1) 44 #[.nilFunc]]) ?_ ?_
  · have := (((Hp.begin NoM w).newRow 110 #[.map (some na), .map (some ma), .map (some ya), .func (.func 18) #[.pointer (some ⟨Ta, 0, none⟩)] #[]]).newRow 110 #[.map (some nb), .map (some mb), .map (some yb), .func (.func 18) #[.pointer (some ⟨Tb, 0, none⟩)] #[]]).newRow 44 #[.nilFunc]
    simpa using this
  intro w1 H1
  obtain ⟨b0, hb0⟩ : ∃ b, w.heap.size = b := ⟨_, rfl⟩
  have HB0 := Keep.keep hb0
  have hw1 : w1.heap.size = w1.heap.size := rfl
  rw [hb0] at H1 ⊢
  clear hb0 hw1
  go_wp2_with (with_reducible refine arm_sSt ?_)
  refine StM.out ?_
  refine wpList_world (R := fun w2 => Hp NoM w w2 [rowA b0 110 #[.map (some na), .map (some ma), .map (some ya), .func (.func 18) #[.pointer (some ⟨Ta, 0, none⟩)] #[]], rowA (b0 + 1) 110 #[.map (some nb), .map (some mb), .map (some yb), .func (.func 18) #[.pointer (some ⟨Tb, 0, none⟩)] #[]], rowA (b0 + 1 + 1) 44 #[.nilFunc], rowA w1.heap.size 44 #[.nilFunc]]) (H1.out.newRow _ _) ?_
  intro w2 H2
  obtain ⟨b6, hb6⟩ : ∃ b, w1.heap.size = b := ⟨_, rfl⟩
  rw [hb6] at H2 ⊢
  clear hb6 H1
  refine wpList_skip rfl (run_storeF ((H2.out.row 3 rfl).cell (i := 0) rfl) ((H2.out.row 3 rfl).frozen 0) rfl rfl) ?_
  refine wpList_world (R := fun w3 => Hp NoM w w3 [rowA b0 110 #[.map (some na), .map (some ma), .map (some ya), .func (.func 18) #[.pointer (some ⟨Ta, 0, none⟩)] #[]], rowA (b0 + 1) 110 #[.map (some nb), .map (some mb), .map (some yb), .func (.func 18) #[.pointer (some ⟨Tb, 0, none⟩)] #[]], rowA (b0 + 1 + 1) 44 #[.nilFunc], rowA b6 44 #[.func (.func 119) #[] #[.pointer (some ⟨b0, 0, none⟩), .pointer (some ⟨b0 + 1, 0, none⟩), .pointer (some ⟨b0 + 1 + 1, 0, none⟩)]]]) (H2.out.setCell 3 rfl 0 _ rfl) ?_
  intro w3 H3
  clear H2
  simp only [Act.put]
  go_wp2_with (with_reducible refine arm_sSt ?_)
  refine StM.out ?_
  refine wpList_skip rfl (run_storeF ((H3.out.row 2 rfl).cell (i := 0) rfl) ((H3.out.row 2 rfl).frozen 0) rfl rfl) ?_
  refine wpList_world (R := fun w4 => Hp NoM w w4 [rowA b0 110 #[.map (some na), .map (some ma), .map (some ya), .func (.func 18) #[.pointer (some ⟨Ta, 0, none⟩)] #[]], rowA (b0 + 1) 110 #[.map (some nb), .map (some mb), .map (some yb), .func (.func 18) #[.pointer (some ⟨Tb, 0, none⟩)] #[]], rowA (b0 + 1 + 1) 44 #[.func (.func 120) #[] #[.pointer (some ⟨b0, 0, none⟩), .pointer (some ⟨b0 + 1, 0, none⟩), .pointer (some ⟨b6, 0, none⟩)]], rowA b6 44 #[.func (.func 119) #[] #[.pointer (some ⟨b0, 0, none⟩), .pointer (some ⟨b0 + 1, 0, none⟩), .pointer (some ⟨b0 + 1 + 1, 0, none⟩)]]]) (H3.out.setCell 2 rfl 0 _ rfl) ?_
  intro w4 H4
  clear H3
  simp only [Act.put]
  have hb4 := H4.out.below
  have hsw := HB0.out
  have HTIN : Keep (TInO w4 ⟨b0, b0 + 1, b0 + 1 + 1, b6, na, ma, ya, Ta, nb, mb, yb, Tb, tb, Na, Nb, Bk, f, A, B⟩) := ⟨⟨H4.out.row 0 rfl, H4.out.row 1 rfl, H4.out.row 2 rfl, H4.out.row 3 rfl, HSA.out.loc (fun b hb => hb4.block b (by
      have := HSA.out.lt
      rcases hb with rfl | rfl | rfl | h
      · omega
      · omega
      · omega
      · exact HLT.out b (.inl h))), HSB.out.loc (fun b hb => hb4.block b (by
      have := HSB.out.lt
      rcases hb with rfl | rfl | rfl | h
      · omega
      · omega
      · omega
      · exact HLT.out b (.inr (.inl h)))), HTR.out.loc (fun b hb => hb4.block b (by
      rcases hb with rfl | rfl | h
      · exact HTR.out.row.lt
      · exact HTR.out.map.lt
      · exact HLT.out b (.inr (.inr h)))), fun b hb => Nat.lt_of_lt_of_le (HLT.out b hb) hb4.size⟩⟩
  have cw := (H4.out.row 2 rfl).cell (i := 0) rfl
  have HB4 := Keep.keep hb4
  clear hb4 hsw H4
  go_wp2_with fail
  refine (HBEL.out b0 b6 w4 HB4.out HTIN.out).mono ?_
  rintro e w5 ⟨v5, l5, rfl, hl5, hr5, hb5⟩
  have HL5 := Keep.keep hl5
  have HR5 := Keep.keep (hr5.lower HB4.out.size (fun b hb => hb))
  have HB5 := Keep.keep (HB4.out.trans (hb5.mono HB4.out.size))
  obtain ⟨a5, c5, hv5, -⟩ := (ownsV_reads hr5.own).shape
  generalize l5.length = n5 at hv5
  clear hl5 hr5 hb5 cw
  subst hv5
  go_wp2_with fail
  go_ret
  exact ⟨_, l5, rfl, HL5.out, by first | exact HR5.out | (rw [← HB0.out]; exact HR5.out), by first | exact HB5.out | (rw [← HB0.out]; exact HB5.out)⟩
set_option maxHeartbeats 4000000 in
set_option maxRecDepth 100000 in
theorem all_anyO (Ta ta : Nat) (Ba : Nat → Prop) (fa : Tx → Value × Value) (A : List Mb) (Tb tb : Nat) (Bb : Nat → Prop) (fb : Tx → Value × Value) (B : List Mb) (T : Nat) (w : World) (hT : Tabs T w) (hA : WellL A) (hB : WellL B) (hLA : A.length ≤ 100000) (hLB : B.length ≤ 100000)
    (ha : TreeIn w Ta ta Ba fa A) (hBa : ∀ b, Ba b → b < w.heap.size) (hb : TreeIn w Tb tb Bb fb B) (hBb : ∀ b, Bb b → b < w.heap.size) :
    Calls Tryz.prog 39 #[.pointer (some ⟨Ta, 0, none⟩), .pointer (some ⟨Tb, 0, none⟩)] w fun e w' => ∃ v l, e = .returned (.tuple #[v, .int .i64 0]) ∧ (l.map (·.1)).Perm (toldL A B) ∧ srtM l ∧ RowO w.heap.size NoM w' v l ∧ Below w.heap.size w w' := by
  have HAO : Keep (∀ wx, Below w.heap.size w wx → TreeIn wx Ta ta Ba fa A) := ⟨fun wx hx => ha.loc (fun b hb' => hx.block b (by
    rcases hb' with rfl | rfl | h
    · exact ha.row.lt
    · exact ha.map.lt
    · exact hBa b h))⟩
  have HBO : Keep (∀ wx, Below w.heap.size w wx → TreeIn wx Tb tb Bb fb B) := ⟨fun wx hx => hb.loc (fun b hb' => hx.block b (by
    rcases hb' with rfl | rfl | h
    · exact hb.row.lt
    · exact hb.map.lt
    · exact hBb b h))⟩
  have HBa := Keep.keep hBa; have HBb := Keep.keep hBb; have HT := Keep.keep hT
  have HWA := Keep.keep hA; have HWB := Keep.keep hB
  have HP : Keep (∀ x, x ∈ A ∨ x ∈ B → x.1.length ≤ 400000) := ⟨fun x hx => by
    rcases hx with h | h
    · exact (ha.sm x h).p
    · exact (hb.sm x h).p⟩
  clear hBa hBb hT hA hB ha hb
  go_enter Tryz.func39, Tryz.ntmps39
  go_wp2_with fail
  refine (dnone_any Ta ta Ba fa A w (HAO.out w (Below.refl _ _)) HBa.out).mono ?_
  rintro e w1 ⟨rfl, hb1⟩
  have HW1 := Keep.keep hb1
  clear hb1
  go_wp2_with fail
  refine (dnone_any Tb tb Bb fb B w1 (HBO.out w1 HW1.out) (fun b hb => Nat.lt_of_lt_of_le (HBb.out b hb) HW1.out.size)).mono ?_
  rintro e w2 ⟨rfl, hb2⟩
  have HW2 := Keep.keep (HW1.out.trans (hb2.mono HW1.out.size))
  clear hb2
  go_wp2_with fail
  refine (dof_anyO Ta ta Ba fa A w2 hLA (HAO.out w2 HW2.out) (fun b hb => Nat.lt_of_lt_of_le (HBa.out b hb) HW2.out.size)).mono ?_
  rintro e w3 ⟨na, ma, ya, rfl, hsa, hga, hb3⟩
  have HSA := Keep.keep hsa
  have HW3 := Keep.keep (HW2.out.trans (hb3.mono HW2.out.size))
  clear hsa hga hb3
  go_wp2_with fail
  refine (dof_anyO Tb tb Bb fb B w3 hLB (HBO.out w3 HW3.out) (fun b hb => Nat.lt_of_lt_of_le (HBb.out b hb) HW3.out.size)).mono ?_
  rintro e w4 ⟨nb, mb, yb, rfl, hsb, hgb, hb4⟩
  have hsa4 : SideInO w4 (Fresh w2.heap.size w3) na ma ya A := HSA.out.loc (fun b hb => hb4.block b (by
    have := HSA.out.lt
    rcases hb with rfl | rfl | rfl | h
    · omega
    · omega
    · omega
    · exact h.2))
  have HW4 := Keep.keep (HW3.out.trans (hb4.mono HW3.out.size))
  have hs4 := hb4.size
  have HTO := Keep.keep (told_anyO na ma ya Ta nb mb yb Tb tb (Fresh w2.heap.size w3) (Fresh w3.heap.size w4) Bb fb A B T w4 (HT.out.on (HW4.out.mono HT.out.b)) HWA.out HWB.out hLA hLB HP.out hsa4 hsb (HBO.out w4 HW4.out) (fun b hb => by
    rcases hb with h | h | h
    · have := h.2; omega
    · exact h.2
    · exact Nat.lt_of_lt_of_le (HBb.out b h) HW4.out.size))
  clear hsb hgb hb4 hsa4 HSA
  go_wp2_with fail
  refine HTO.out.mono ?_
  rintro e w5 ⟨v5, l5, rfl, hl5, hr5, hb5⟩
  have HL5 := Keep.keep hl5
  have HW5 := Keep.keep (HW4.out.trans (hb5.mono HW4.out.size))
  have HR5 : Keep (RowO w.heap.size NoM w5 v5 l5) := ⟨hr5.widen HW4.out.size (fun b hb => Nat.le_trans HW3.out.size hb.1)⟩
  have hn5 : l5.length ≤ 100001 := by
    rw [← List.length_map (f := fun x : Mv => x.1), hl5]
    have := bel_len A B (ksT A B) 500000 []
    have h2 := List.countP_le_length (p := fun q : Mb => underP [] q.1) (l := B)
    unfold toldL
    omega
  have HSO := Keep.keep (sort_mbO w.heap.size NoM v5 l5 w5 HW5.out.size HR5.out (by omega))
  obtain ⟨a5, c5, hv5, -⟩ := (ownsV_reads hr5.own).shape
  generalize l5.length = n5 at hv5
  clear hl5 hr5 hb5 HTO hs4
  subst hv5
  go_wp2_with fail
  refine HSO.out.mono ?_
  rintro e w6 ⟨rfl, ⟨l6, hr6, hp6, hs6⟩, hb6⟩
  have HR6 := Keep.keep hr6; have HP6 := Keep.keep hp6; have HS6 := Keep.keep hs6
  have HW6 : Keep (Below w.heap.size w w6) := ⟨HW5.out.trans hb6⟩
  clear hr6 hp6 hs6 hb6 HSO
  go_wp2_with fail
  go_ret2
  exact ⟨_, l6, rfl, by rw [← HL5.out]; exact HP6.out.map _, HS6.out, HR6.out, HW6.out⟩
set_option maxHeartbeats 1000000 in
set_option maxRecDepth 100000 in
theorem Of_anyO (Ta ta : Nat) (Ba : Nat → Prop) (fa : Tx → Value × Value) (A : List Mb) (Tb tb : Nat) (Bb : Nat → Prop) (fb : Tx → Value × Value) (B : List Mb) (T : Nat) (w : World) (hT : Tabs T w) (hA : WellL A) (hB : WellL B) (hLA : A.length ≤ 100000) (hLB : B.length ≤ 4095)
    (ha : TreeIn w Ta ta Ba fa A) (hBa : ∀ b, Ba b → b < w.heap.size) (hb : TreeIn w Tb tb Bb fb B) (hBb : ∀ b, Bb b → b < w.heap.size) :
    Calls Tryz.prog 9 #[.pointer (some ⟨Ta, 0, none⟩), .pointer (some ⟨Tb, 0, none⟩)] w fun e w' => ∃ v l, e = .returned (.tuple #[v, .int .i64 0]) ∧ (l.map (·.1)).Perm (toldL A B) ∧ srtM l ∧ RowO w.heap.size NoM w' v l ∧ Below w.heap.size w w' := by
  have HAL := Keep.keep (all_anyO Ta ta Ba fa A Tb tb Bb fb B T w hT hA hB hLA (by omega) ha hBa hb hBb)
  clear hT hA hB ha hb hBa hBb
  go_enter Tryz.func9, Tryz.ntmps9
  go_wp2_with fail
  refine HAL.out.mono ?_
  rintro e w1 ⟨v, l, rfl, hp, hs, hr, hb⟩
  have HP := Keep.keep hp; have HS := Keep.keep hs; have HR := Keep.keep hr; have HB := Keep.keep hb
  obtain ⟨a1, c1, hv1, -⟩ := (ownsV_reads hr.own).shape
  have hn : l.length ≤ 4096 := by
    have h1 := hp.length_eq
    rw [List.length_map] at h1
    have := bel_len A B (ksT A B) 500000 []
    have h2 := List.countP_le_length (p := fun q : Mb => underP [] q.1) (l := B)
    unfold toldL at h1
    omega
  generalize l.length = n at hv1 hn
  have hd : decide (4096 < (n : Int)) = false := decide_eq_false (by omega)
  have hd2 : decide (4096 < n) = false := decide_eq_false (by omega)
  clear hp hs hr hb HAL
  subst hv1
  go_wp2_with fail
  go_ret2
  exact ⟨_, l, rfl, HP.out, HS.out, HR.out, HB.out⟩
end Go.Proofs.YtmnknmpfkjhgbaaGreatDoor
/- CHANGESETS, plainly: from a tree to itself, from nothing, to nothing. -/
namespace Go.Proofs.YtmnknmpfkjhgbaaGreatDoor
theorem may_nil' : mayP [] = true := by decide
theorem good_all {A B : List Mb} {ks : Tx → List Tx} (hA : WellL A) (hB : WellL B) (hk : KidsOf A B ks) (n : Nat) (hf : ∀ x, x ∈ A ∨ x ∈ B → x.1.length < n) : Good A B (belF A B ks n []) (underP []) (fun m => underP [] m.1 = true) := good_below hA hB hk n [] may_nil' (fun x hx => by have := hf x hx; simpa using this)
end Go.Proofs.YtmnknmpfkjhgbaaGreatDoor
/- portolanlaw18.tells: the chapter's rows. -/
namespace Go.Proofs.YtmnknmpfkjhgbaaGreatDoor
open Go.RowKit
def dirN : Nd := ⟨1, 0, 0, 0, 0, [], [], []⟩
end Go.Proofs.YtmnknmpfkjhgbaaGreatDoor
/- CHANGESETS, plainly: what differ.Of tells, sorted: it may be, it leads there; the chapter's rows. -/
namespace Go.Proofs.YtmnknmpfkjhgbaaGreatDoor
/-- the paths of either tree, each once -/
def ksU (A B : List Mb) (d : Tx) : List Tx := (kids d A).map (·.1) ++ ((kids d B).map (·.1)).filter (fun p => !(SM.look A p).isSome)
theorem kids_look {L : List Mb} (h : WellL L) {d p : Tx} : p ∈ (kids d L).map (·.1) ↔ parentP p = d ∧ (SM.look L p).isSome = true := by
  rw [List.mem_map]
  constructor
  · rintro ⟨a, ha, rfl⟩
    obtain ⟨h1, h2⟩ := mem_kids.1 ha
    have : SM.look L a.1 = some a.2 := h.s.look.2 h1
    exact ⟨h2, by rw [this]; rfl⟩
  · rintro ⟨h1, h2⟩
    obtain ⟨v, hv⟩ := Option.isSome_iff_exists.1 h2
    exact ⟨(p, v), mem_kids.2 ⟨SM.look_mem hv, h1⟩, rfl⟩
theorem kids_nodup {L : List Mb} (h : WellL L) (d : Tx) : ((kids d L).map (·.1)).Nodup := by
  unfold kids
  exact srt_nodup (h.s.filter _)
theorem ksU_kids {A B : List Mb} (hA : WellL A) (hB : WellL B) : KidsOf A B (ksU A B) := by
  refine ⟨fun d => ?_, fun d p => ?_⟩
  · unfold ksU
    refine List.nodup_append.2 ⟨kids_nodup hA d, (kids_nodup hB d).filter _, fun a ha b hb e => ?_⟩
    subst e
    have h1 := (kids_look hA).1 ha
    have h2 := (List.mem_filter.1 hb).2
    rw [h1.2] at h2
    cases h2
  · unfold ksU
    rw [List.mem_append, kids_look hA, List.mem_filter, kids_look hB]
    constructor
    · rintro (⟨a, b⟩ | ⟨⟨a, b⟩, _⟩)
      · exact ⟨a, .inl b⟩
      · exact ⟨a, .inr b⟩
    · rintro ⟨a, b⟩
      by_cases hx : (SM.look A p).isSome = true
      · exact .inl ⟨a, hx⟩
      · exact .inr ⟨⟨a, b.resolve_left hx⟩, by simpa using hx⟩
theorem white_len (p : Tx) : (whiteoutP p).length ≤ 2 * p.length + 10 := by
  unfold whiteoutP
  split
  · simp
  · have h1 := joinP_two_len (parentP p) (whiteB ++ baseP p)
    have h2 : (parentP p).length ≤ p.length := by unfold parentP; simp; omega
    have h3 : (baseP p).length ≤ p.length := by unfold baseP; simp
    have h4 : (whiteB ++ baseP p).length ≤ p.length + 4 := by simp [whiteB]; omega
    omega
theorem opaque_len (p : Tx) : (opaqueP p).length ≤ p.length + 20 := by
  unfold opaqueP
  split
  · simp
  · have h1 := joinP_two_len p markB
    have h2 : markB.length = 12 := rfl
    omega
theorem bare_sm {p : Tx} (hp : p.length ≤ 400000) : Sm (p, bareN) := ⟨hp, by simp [bareN], by simp [bareN], by simp [bareN], fun x hx => by simp [bareN] at hx, by simp [bareN]⟩
/-- what is told is no longer than it may be -/
theorem good_sm {A B l : List Mb} {R : Tx → Bool} {Q : Mb → Prop} (h : Good A B l R Q) (hB : ∀ x ∈ B, Sm x) : ∀ x ∈ l, Sm x := fun x hx => by
  rcases h.cl x hx with ⟨_, h1⟩ | ⟨h1, h2⟩
  · exact hB x h1
  · have hsh : x = (x.1, bareN) := by rw [← h1]
    rw [hsh]
    refine bare_sm ?_
    have hcl : (classP x.1).1 = 2 ∨ (classP x.1).1 = 3 := h2
    rcases told x.1 with ⟨hc, _⟩ | ⟨hc, _, _⟩ | ⟨t, hc, hw, hm, _⟩ | ⟨t, hc, ho, hm, hl⟩ | ⟨hc, _, _⟩
    · rw [hc] at hcl; omega
    · rw [hc] at hcl; omega
    · rw [hc] at hcl
      have hmt : t = [] ∨ mayP t = true := by
        unfold whiteoutP at hw
        by_cases e : (t.isEmpty || !mayP t) = true
        · rw [if_pos e] at hw
          rw [← hw] at hc
          have h4 := kn_c4
          rw [hc] at h4
          cases h4
        · right
          have : ¬ t = [] ∧ mayP t = true := by simpa using e
          exact this.2
      have hl : t.length ≤ 4080 := by
        rcases hmt with e | e
        · subst e; simp
        · unfold mayP at e
          simp only [Bool.and_eq_true, decide_eq_true_eq] at e
          exact e.1.1
      rw [← hw]
      have := white_len t
      omega
    · rw [hc] at hcl
      have hmt : mayP t = true := by
        unfold opaqueP at ho
        by_cases e : (!mayP t) = true
        · rw [if_pos e] at ho
          rw [← ho] at hc
          have h4 := kn_c4
          rw [hc] at h4
          cases h4
        · simpa using e
      have hl : t.length ≤ 4080 := by
        unfold mayP at hmt
        simp only [Bool.and_eq_true, decide_eq_true_eq] at hmt
        exact hmt.1.1
      rw [← ho]
      have := opaque_len t
      omega
    · rw [hc] at hcl; omega
/-- WHAT differ.Of TELLS -/
structure OfL (A B K : List Mb) : Prop where
  srt : SM.Srt K
  may : mayC K = 0
  app : applyC A K = (0, some B)
  len : K.length = (toldL A B).length
  sm : ∀ x ∈ K, Sm x
  le : K.length ≤ 1 + B.length
theorem of_leads {A B K : List Mb} (hA : WellL A) (hB : WellL B) (hlB : B.length ≤ 4095) (hsA : ∀ x ∈ A, Sm x) (hsB : ∀ x ∈ B, Sm x) (hp : K.Perm (toldL A B)) (hs : K.Pairwise (fun x y => x.1 ≤ y.1)) : OfL A B K := by
  have hg := good_all hA hB (ksT_kids hA hB) 500000 (fun x hx => by
    rcases hx with h | h
    · have := (hsA x h).p; omega
    · have := (hsB x h).p; omega)
  obtain ⟨S', h1, h2, h3⟩ := srt_of hg.nd
  have hK := h3 K hp hs
  have hsrt : SM.Srt K := by rw [hK]; exact h1
  have hln := bel_len A B (ksT A B) 500000 []
  have hcp := List.countP_le_length (p := fun q : Mb => underP [] q.1) (l := B)
  have hpl := hp.length_eq
  have hle : K.length ≤ 1 + B.length := by unfold toldL at hpl; omega
  exact ⟨hsrt, may_good hB hg hp hsrt (by omega), leads_there hA hB hg hp hsrt (by omega) (by omega), hpl, fun x hx => good_sm hg hsB x (hp.mem_iff.1 hx), hle⟩
end Go.Proofs.YtmnknmpfkjhgbaaGreatDoor
/- []byte(s) OF ANY TEXT: the capacity that is drawn stays hidden. -/
namespace Go.Proofs.YtmnknmpfkjhgbaaGreatDoor
open Go.RowKit
theorem convS (l : List UInt8) (n : Nat) (hn : l.length = n) (hl : l.length ≤ maxLen) : ∃ cf : World → Nat, ∃ rf : World → Array Value, ∃ mf : World → Nat × Nat,
    (∀ w, (convert 9 37 (.string ⟨l.toArray⟩)).run Tryz.prog w = .ok (.slice (some ⟨w.heap.size, 0, none⟩) n (cf w)) (w.drew.alloc (.cells (rf w) 5 (mf w)))) ∧
    (∀ w, Reads (w.drew.alloc (.cells (rf w) 5 (mf w))) (fun b => b = w.heap.size) (.slice (some ⟨w.heap.size, 0, none⟩) n (cf w)) l) := by
  subst hn
  have hsz : (⟨l.toArray⟩ : ByteArray).size = l.length := by simp [ByteArray.size]
  refine ⟨fun w => grownCap w l.length 0 5, fun w => bytesRow ⟨l.toArray⟩ (grownCap w l.length 0 5), fun w => ((bytesRow ⟨l.toArray⟩ (grownCap w l.length 0 5)).size, (bytesRow ⟨l.toArray⟩ (grownCap w l.length 0 5)).size + 1), fun w => ?_, fun w => ?_⟩
  · have := run_bytes_of_string (P := Tryz.prog) w 9 37 5 ⟨l.toArray⟩ Tryz.underlying9 Tryz.underlying37 Tryz.underlying5
    rw [hsz] at this
    exact this
  · refine ⟨⟨_, _, rfl, grownCap_ge _ _ _ _, grownCap_le_maxLen _ _ _ _ hl, .inr ⟨_, _, rfl, rfl⟩⟩, fun b off m cap he j hj => ?_⟩
    injection he with e1 _ _; injection e1 with e1; injection e1 with e1 e2 _; subst e1 e2
    rw [show w.heap.size = w.drew.heap.size from rfl, World.cell?_alloc_mark, Nat.zero_add]
    have h2 : j < (bytesRow ⟨l.toArray⟩ (grownCap w l.length 0 5)).size := by simp [bytesRow]; omega
    simp [bytesRow, Array.getElem?_append, hj]
end Go.Proofs.YtmnknmpfkjhgbaaGreatDoor
