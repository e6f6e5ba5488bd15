/- ARGUMENTS WITH SLICES WITHIN SLICES, OPENED: what lies deeper has no word of its own on its blocks; its cells tell them. -/
import Derived.Test.YtofficleahalaaaDoorLaw
import Derived.Deep.Slices
namespace Go.Proofs.YtofficleahalaaaDoor
open Go.ChangeShapes Go.WideShapes Go.ChangeAt Go.RowKit
theorem cell_spot {w : World} {a : Addr} {v : Value} (h : w.cell? a = some v) : a.spot = none ∧ a.block < w.heap.size := by
  unfold World.cell? at h
  split at h
  · rename_i c e fr hb
    split at h
    · cases h
    · rename_i hs
      exact ⟨by simpa using hs, (Array.getElem?_eq_some_iff.1 hb).1⟩
  · cases h
/-- a []byte that lies anywhere within an argument -/
theorem reads_of_trod {P : Program} {H : Type} {enc : TypeId × Value → H} {t e : TypeId} {held : Bool} {fuel : Nat} (ht : P.underlying t = some (.slice e)) (he : P.underlying e = some (.int .u8)) (hc : P.cellsOf e = 1) {W : World} {v : Value} {x : DataW H × List MemPlace}
    (hf : DataW.trod enc P W 0 (fun _ => true) held fuel t [v] = some x) : ∃ l, Reads W (fun b => b < W.heap.size) v l := by
  rcases open_ints ht he hc hf with ⟨hcs, hx⟩ | ⟨⟨b, off, sp⟩, len, cap, zs, hcs, _, hl, hm, hz, hx, hcell, hwz⟩
  · injection hcs with hcs _
    subst hcs
    exact ⟨[], Reads.ofNil⟩
  · injection hcs with hcs _
    subst hcs
    simp only [if_true] at hz
    have hsp : cap = 0 ∨ (sp = none ∧ b < W.heap.size) := by
      rcases Nat.eq_zero_or_pos cap with h | h
      · exact .inl h
      · have := cell_spot (hcell 0 (by omega))
        exact .inr this
    refine ⟨(zs.take len).map fun x => UInt8.ofNat x.toNat, ⟨some ⟨b, off, sp⟩, cap, ?_, ?_, hm, ?_⟩, fun b' off' n' c' he' j hj => ?_⟩
    · congr 1; simp; omega
    · simp; omega
    · rcases hsp with h | ⟨rfl, h⟩
      · exact .inl h
      · exact .inr ⟨b, off, rfl, h⟩
    · injection he' with e1 _ _; injection e1 with e1; injection e1 with e1 e2 e3; subst e1 e2 e3
      have hj' : j < len := by simp at hj; omega
      have hjz : j < zs.length := by omega
      have hc := hcell j hjz
      rw [Addr.add_mid] at hc
      rw [hc]
      have hw := hwz _ (List.getElem_mem hjz)
      have hm1 : IntKind.u8.min = 0 := rfl
      have hm2 : IntKind.u8.max = 255 := rfl
      simp only [Lit.wf, Bool.and_eq_true, decide_eq_true_eq, hm1, hm2] at hw
      simp only [List.getElem_map, List.getElem_take, List.getD_eq_getElem?_getD, List.getElem?_eq_getElem hjz, Option.getD_some, UInt8.toNat_ofNat']
      congr 2
      omega
end Go.Proofs.YtofficleahalaaaDoor
