/- BLOCKS: Sum. -/
import Derived.Test.YtohballfhhndbaaDoorFldBlk
import Derived.Test.YtohballfhhndbaaDoorGen2
namespace Go.Proofs.YtohballfhhndbaaDoor
open Go.RowKit
/-- what Sum tells -/
def sumL (l : List UInt8) : Nat := (l.map UInt8.toNat).sum
def sumS (l : List UInt8) : Int := (sumL (setL l 148 (List.replicate 8 32)) : Int)
theorem aggBlk : AggTy Tryd.prog 37 512 := ⟨⟨_, Tryd.underlying37, rfl⟩, by kernel_rfl⟩
set_option maxHeartbeats 4000000 in
set_option maxRecDepth 100000 in
theorem sum_any (S : Nat) (e : TypeId) (l : List UInt8) (hl : l.length = 512) (B : Nat) (w : World) (hF : Flds B w) (hB : B ≤ w.heap.size) (hS : BlkAt w S e l) :
    Calls Tryd.prog 22 #[.pointer (some ⟨S, 0, none⟩)] w fun e' w' => e' = .returned (.int .i64 (sumS l)) ∧ Below w.heap.size w w' := by
  have HS := Keep.keep hS; have HF := Keep.keep hF
  have HSZ : Keep ((bcells l).toArray.size = 512) := ⟨by simp [bcells_length, hl]⟩
  clear hS hF
  have HZ : Keep (Tryd.zeroCells37.size = 512) := ⟨by kernel_rfl⟩
  have H1C : Keep ((bcells l).toArray.all (·.oneCell') = true) := ⟨all_oneCell_toArray (bcells_one _)⟩
  have kc := convB
  go_enter Tryd.func22, Tryd.ntmps22
  go_wp2_with (first
    | ((with_reducible refine arm_loadRow HS.out aggBlk HSZ.out ?_ ?_); (focus rfl); simp only [Act.put, List.setIfInBounds_toArray, List.set_cons_succ, List.set_cons_zero])
    | ((with_reducible refine arm_storeRow (Row.new w 37 _) aggBlk HZ.out HSZ.out H1C.out ?_ ?_ ?_); (focus rfl); (focus rfl); simp only [Act.put, World.setRow_alloc_new]))
  refine calls_at (R := fun wq => Hp NoM w wq [rowA w.heap.size 37 (bcells l).toArray] ∧ Reads wq (· < wq.heap.size) (.slice (some ⟨w.heap.size + 1, 0, none⟩) 1 1) [32]) ⟨((Hp.begin NoM w).newRow _ _).alloc _, (Reads.lit _ _ [32] _ _ _ (by simp) rfl rfl (by unfold maxLen; decide)).mono (fun b hb => by subst hb; simp)⟩ ?_
  intro w2 H2
  refine (rep_any _ 32 8 w2 H2.out.2 (by decide) (by decide)).mono ?_
  rintro e' w3 ⟨g3, rfl, hr3, -, hg3, hb3⟩
  have H3 := Keep.keep (H2.out.1.call hb3)
  have HR3 := Keep.keep (hr3.mono (N' := (· < w3.heap.size)) (fun b hb => by subst hb; exact hg3))
  clear hr3 hb3 hg3 H2
  have HSET := Keep.keep (set_is w.heap.size 37 l hl [99, 104, 107, 115, 117, 109] (by decide) 148 8 (by decide) (.slice (some ⟨g3, 0, none⟩) 8 8) (List.replicate 8 32) (by decide) B w3 (HF.out.on (H3.out.below.mono hB)) (H3.out.row 0 rfl) HR3.out)
  go_wp2_with fail
  refine HSET.out.mono ?_
  rintro e' w4 ⟨rfl, hrow4, hch4⟩
  have HB4 : Keep (Below w.heap.size w w4) := ⟨H3.out.below.trans ((hch4.lower H3.out.size).below (fun k hk e => by omega))⟩
  have hsl : (setL l 148 (List.replicate 8 32)).length = 512 := by rw [setL_length (by simp; omega), hl]
  have HE : Keep (sumS l = (sumL (setL l 148 (List.replicate 8 32)) : Int)) := ⟨rfl⟩
  generalize setL l 148 (List.replicate 8 32) = m at *
  have HROW := Keep.keep hrow4
  have HMZ : Keep ((bcells m).toArray.size = 512) := ⟨by simp [bcells_length, hsl]⟩
  clear hrow4 hch4 HSET H3 HR3
  have hidx : ∀ (i : Nat) (hi : i < 512) (wx : World), (Instr.index 37 (.agg (bcells m).toArray) (.int .i64 (i : Int))).run Tryd.prog wx = .ok (.int .u8 ((m[i]'(by omega)).toNat : Int)) wx := fun i hi wx => run_index_agg Tryd.underlying37 Tryd.underlying5 rfl (by kernel_rfl) _ .i64 i hi _ (by rw [List.getElem?_toArray, bcells_get _ _ (by omega)]) wx
  have HIDX := Keep.keep hidx
  clear hidx
  go_wp2_with ((with_reducible refine arm_loadRow HROW.out aggBlk HMZ.out ?_ ?_); (focus rfl); simp only [Act.put, List.setIfInBounds_toArray, List.set_cons_succ, List.set_cons_zero])
  clear HROW HMZ HZ H1C HSZ
  generalize (bcells m).toArray = cs at HIDX ⊢
  have HSUM : Keep (∀ k, k < 512 → ∀ h : k < m.length, sumL (m.take (k + 1)) = sumL (m.take k) + m[k].toNat) := ⟨fun k _ h => by
    unfold sumL
    rw [List.take_succ_eq_append_getElem h, List.map_append, List.sum_append]; simp⟩
  have HBD : Keep (∀ k, k ≤ 512 → sumL (m.take k) ≤ 255 * k) := ⟨fun k hk => by
    induction k with
    | zero => simp [sumL]
    | succ k ih =>
      have := HSUM.out k (by omega) (by omega)
      have h2 := ih (by omega)
      have h3 := (m[k]'(by omega)).toNat_lt
      omega⟩
  go_wp2_with fail
  go_loopg [4, 6, 17] 512 (fun g u4 _ u17 wx => ∃ k : Nat, k + g = 512 ∧ u17 = .int .i64 (k : Int) ∧ u4 = .int .i64 (sumL (m.take k) : Int) ∧ w4 = wx)
  case atStart => exact ⟨0, by omega, rfl, rfl, rfl⟩
  case round =>
    obtain ⟨k, hkg, rfl, rfl, rfl⟩ := hrel
    cases gk with
    | zero =>
      obtain rfl : k = 512 := by omega
      have HX : Keep (sumS l = (sumL (m.take 512) : Int)) := ⟨by rw [HE.out, List.take_of_length_le (by omega)]⟩
      go_wp2_with fail
      go_ret
      exact ⟨by rw [HX.out]; rfl, HB4.out⟩
    | succ g =>
      have hk : k < 512 := by omega
      have hx := HIDX.out k hk
      have hs := HSUM.out k hk (by omega)
      have hb1 := HBD.out k (by omega)
      have HS2 := Keep.keep hs
      have hd : decide ((k : Int) < 512) = true := decide_eq_true (by omega)
      have hc := (m[k]'(by omega)).toNat_lt
      clear hs
      generalize (m[k]'(by omega)) = c at *
      generalize sumL (m.take k) = a at *
      have hwr := IntWalk.i64_in ((a : Int) + (c.toNat : Int)) (by omega)
      go_wp2_with fail
      go_roundg g
      case measure => omega
      case rel => exact ⟨k + 1, by omega, by simp, by rw [HS2.out]; simp, rfl⟩
end Go.Proofs.YtohballfhhndbaaDoor
