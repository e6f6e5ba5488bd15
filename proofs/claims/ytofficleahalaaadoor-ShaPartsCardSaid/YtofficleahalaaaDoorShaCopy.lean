/- State.Len, State.Copy. -/
import Derived.Test.YtofficleahalaaaDoorShaWriteO
import Derived.Test.YtofficleahalaaaDoorSpc
import Derived.Deep.Cut
namespace Go.Proofs.YtofficleahalaaaDoor
open Go.RowKit
theorem stA_st {S B : Nat} {left : Value} {l : List UInt8} {w : World} (h : (stA S B left l).P w) (hk : Consts w) (hg : 1 < S) (hsb : S < B) : St w S B l := ⟨⟨left, h.1, h.2⟩, hk, hg, hsb⟩
set_option maxHeartbeats 400000 in
set_option maxRecDepth 100000 in
theorem len_any (S B : Nat) (l : List UInt8) (w : World) (hs : St w S B l) :
    Calls Tryd.prog 17 #[.pointer (some ⟨S, 0, none⟩)] w fun e w' => e = .returned (.int .u64 (l.length : Int)) ∧ w = w' := by
  have HN := Keep.keep (none_any S B l w hs)
  obtain ⟨left, hr, _⟩ := hs.ex
  have hfd : (fed l).length = 8 := (ok8_fed l).len
  have c9 : w.cell? ⟨S, 9, none⟩ = some (.int .u64 (l.length : Int)) := hr.cell (by simp [stCells, words, hfd])
  clear hs hr hfd
  go_enter Tryd.func17, Tryd.ntmps17
  go_wp2_with fail
  refine HN.out.mono ?_
  rintro e w' ⟨rfl, rfl⟩
  go_wp2_with fail
  go_ret
  exact ⟨rfl, rfl⟩
theorem aggSt : AggTy Tryd.prog 51 11 := ⟨⟨_, Tryd.underlying51, rfl⟩, by kernel_rfl⟩
set_option maxHeartbeats 1000000 in
set_option maxRecDepth 100000 in
theorem copy_any (S B : Nat) (l : List UInt8) (w : World) (hs : St w S B l) (hlen : l.length ≤ 140737488355328) :
    Calls Tryd.prog 14 #[.pointer (some ⟨S, 0, none⟩)] w fun e w' => e = .returned (.pointer (some ⟨w.heap.size, 0, none⟩)) ∧ (∃ left', (stA w.heap.size (w.heap.size + 1) left' l).P w' ∧ (∀ b, left'.ownBlock = some b → w.heap.size + 1 ≤ b ∧ b < w'.heap.size)) ∧ w.heap.size + 1 ≤ w'.heap.size ∧ Below w.heap.size w w' := by
  have HN := Keep.keep (none_any S B l w hs)
  obtain ⟨left, hr, hown⟩ := hs.ex
  have hfd : (fed l).length = 8 := (ok8_fed l).len
  have HFD := Keep.keep hfd
  have hsz : (stCells (fed l) left l.length).size = 11 := by simp [stCells, words, hfd]
  have hone : (stCells (fed l) left l.length).all (·.oneCell') = true := by
    obtain ⟨a, c, rfl, -⟩ := hown.reads.shape
    obtain ⟨h0, h1, h2, h3, h4, h5, h6, h7, he, -⟩ := ok8_fed l
    rw [he]; simp [stCells, words, Value.oneCell']
  have HR := Keep.keep hr; have HO := Keep.keep hown; have HSZ := Keep.keep hsz; have HON := Keep.keep hone
  have c8 : w.cell? ⟨S, 8, none⟩ = some left := hr.cell (by simp [stCells, words, hfd])
  obtain ⟨aL, cL, hL, -⟩ := hown.reads.shape
  have hrl : (rest l).length ≤ 64 := by rw [rest_length]; omega
  have HRL := Keep.keep hrl
  generalize hst : stCells (fed l) left l.length = sc at *
  have HST := Keep.keep hst
  clear hs hr hown hfd hsz hone hst hrl
  have HLV := Keep.keep hL
  subst hL
  go_enter Tryd.func14, Tryd.ntmps14
  go_wp2_with fail
  refine HN.out.mono ?_
  rintro e w' ⟨rfl, rfl⟩
  go_upto_region 4 with (first
    | ((with_reducible refine arm_loadRow HR.out aggSt HSZ.out ?_ ?_); (focus rfl); simp only [Act.put, List.setIfInBounds_toArray, List.set_cons_succ, List.set_cons_zero])
    | ((with_reducible refine arm_storeRow (Row.new w 51 _) aggSt rfl HSZ.out HON.out ?_ ?_ ?_); (focus rfl); (focus rfl); simp only [Act.put, World.setRow_alloc_new]))
  refine wp_world (R := fun w1 => Hp NoM w w1 [rowA w.heap.size 51 sc]) ((Hp.begin NoM w).newRow _ _) ?_
  intro w1 H1
  have hz1 : w.heap.size + 1 ≤ w1.heap.size := (H1.out.row 0 rfl).lt
  have c8' : w1.cell? ⟨S, 8, none⟩ = some (.slice aL (rest l).length cL) := by
    rw [H1.out.below.cell (p := ⟨S, 8, none⟩) HR.out.lt]; exact c8
  clear c8
  go_wp2_with (with_reducible refine arm_stop ?_)
  refine Stopped.out ?_
  refine arm_append slB (Owns.nil w1 w1.heap.size 5) (m := rest l) ((HO.out.reads.mono (N' := (· < w.heap.size)) (fun b hb => hb.2.1)).below H1.out.below (fun b hb => hb)) (by have := HRL.out; simp; omega) (Nat.le_refl _) rfl rfl ?_
  intro v2 w2 ho hg hb
  have H2 := Keep.keep ((H1.out.nilB w1.heap.size 5).growB 1 rfl hg ho hb)
  obtain ⟨a2, c2, hv2, -⟩ := ho.reads.shape
  have hr2 := H2.out.row 0 rfl
  have hold := ho.lt
  have hsz2 : w1.heap.size ≤ w2.heap.size := hg.size
  have c82 : ∃ u, w2.cell? ⟨w.heap.size, 8, none⟩ = some u := ⟨_, hr2.cell (Array.getElem?_eq_getElem (by rw [HSZ.out]; decide))⟩
  obtain ⟨u82, c82⟩ := c82
  have f82 := hr2.frozen 8
  have hfin : (stA w.heap.size (w.heap.size + 1) v2 l).P (w2.setCell ⟨w.heap.size, 8, none⟩ v2) ∧ (∀ b, v2.ownBlock = some b → w.heap.size + 1 ≤ b ∧ b < (w2.setCell ⟨w.heap.size, 8, none⟩ v2).heap.size) ∧ Below w.heap.size w (w2.setCell ⟨w.heap.size, 8, none⟩ v2) := by
    have hset : Chg (fun x => x = w.heap.size) w2.heap.size w2 (w2.setCell ⟨w.heap.size, 8, none⟩ v2) := Chg.setCell (M := fun x => x = w.heap.size) (.refl _ _ _) (.inr rfl) _
    have ho2 := (ho.mono (base' := w.heap.size + 1) hz1).chg hset (fun k hk => ⟨(hold k hk).2, by have := (hold k hk).1; omega⟩)
    refine ⟨⟨hr2.set' 8 _ ?_, by simpa using ho2⟩, fun b hb' => ?_, H2.out.below.setCell (Nat.le_refl _) _⟩
    · rw [← HST.out]; apply Array.ext'; simp [stCells, words, HFD.out]
    · have h1 := hold b hb'
      exact ⟨by omega, by have := hset.size; omega⟩
  have HFIN := Keep.keep hfin
  clear ho hg hb hr2 hold hfin
  subst hv2
  simp only [Act.put, List.setIfInBounds_toArray, List.set_cons_succ, List.set_cons_zero]
  go_wp2_with fail
  go_ret
  exact ⟨rfl, ⟨_, HFIN.out.1, HFIN.out.2.1⟩, by simp only [World.setCell]; simp; omega, HFIN.out.2.2⟩
end Go.Proofs.YtofficleahalaaaDoor
