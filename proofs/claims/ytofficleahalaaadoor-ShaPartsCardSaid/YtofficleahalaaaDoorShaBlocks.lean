/- sha.blocks takes as many blocks as there are. -/
import Derived.Test.YtofficleahalaaaDoorShaTake
namespace Go.Proofs.YtofficleahalaaaDoor
open Go.RowKit
/-- the memory between the blocks -/
structure Bk (w wr : World) (S : Nat) (e : TypeId) (h : List Nat) (left : Value) (many : Nat) (N : Nat → Prop) (u : Value) (l : List UInt8) : Prop where
  s : Row wr S e (stCells h left many)
  r : Reads wr N u l
  k : Consts wr
  b : Chg (fun x => x = S) w.heap.size w wr
set_option maxHeartbeats 400000 in
set_option maxRecDepth 100000 in
theorem blocks_any (v : Value) (l : List UInt8) (N : Nat → Prop) (S : Nat) (e : TypeId) (h : List Nat) (left : Value) (many : Nat) (w : World) (hv : Reads w N v l) (hN : ∀ b, N b → b < w.heap.size ∧ b ≠ S)
    (hS : Row w S e (stCells h left many)) (hok : Ok8 h) (hK : Consts w) (hgK : 1 < S) :
    Calls Tryd.prog 32 #[v, .func (.func 33) #[.pointer (some ⟨S, 0, none⟩)] #[]] w fun e' w' => ∃ v', e' = .returned v' ∧ Bk w w' S e (feed h l (l.length / 64)) left many N v' (l.drop (64 * (l.length / 64))) := by
  have HV := Keep.keep hv
  have HN := Keep.keep hN
  have HS := Keep.keep hS
  have HOK := Keep.keep hok
  have HK := Keep.keep hK
  clear hv hN hS hok hK
  go_enter Tryd.func32, Tryd.ntmps32
  go_wp2_with fail
  go_loopw [0] (fun u wr => ∃ k : Nat, 64 * k ≤ l.length ∧ Bk w wr S e (feed h l k) left many N u (l.drop (64 * k))) (fun u _ => lenV u)
  case atStart => exact ⟨0, by omega, HS.out, by simpa using HV.out, HK.out, .refl _ _ _⟩
  case round =>
    obtain ⟨k, hk, hs⟩ := hrel
    have HB := Keep.keep hs; clear hs
    by_cases hlt : 64 ≤ (l.drop (64 * k)).length
    · obtain ⟨b, off, cap, hu, hcap, hmax, hNb⟩ := HB.out.r.has (by omega)
      generalize hn : (l.drop (64 * k)).length = n at *
      have HU := Keep.keep hu
      have HNN := Keep.keep hn; clear hn
      unfold maxLen at hmax
      subst hu
      have hrd : Reads wr (· < wr.heap.size) (.slice (some ⟨b, off, none⟩) 64 cap) ((l.drop (64 * k)).take 64) := by
        have h0 := HB.out.r.sub 0 64 cap ((l.drop (64 * k)).take 64) (by simp) (by simp; omega) (Nat.le_refl _) 64 (by rw [List.length_take, HNN.out]; omega)
        exact h0.mono (fun b' hb' => Nat.lt_of_lt_of_le (HN.out b' hb').1 HB.out.b.size)
      have hl64 : ((l.drop (64 * k)).take 64).length = 64 := by rw [List.length_take, HNN.out]; omega
      have hct := take_any _ _ S e (feed h l k) left many wr hrd hl64 HB.out.s (ok8_feed HOK.out l k) HB.out.k hgK
      have HCT := Keep.keep hct
      have hfeed : compress (feed h l k) ((l.drop (64 * k)).take 64) = feed h l (k + 1) := rfl
      have HF := Keep.keep hfeed
      clear hrd hl64 hct hfeed
      have hstep : ∀ w2 v2, Row w2 S e (stCells (compress (feed h l k) ((l.drop (64 * k)).take 64)) left many) → Chg (fun x => x = S) wr.heap.size wr w2 → (v2 = .slice (some ⟨b, off + 64, none⟩) (n - 64) (cap - 64) ∨ (cap = 64 ∧ v2 = .slice (some ⟨b, off, none⟩) 0 0)) →
          64 * (k + 1) ≤ l.length ∧ Bk w w2 S e (feed h l (k + 1)) left many N v2 (l.drop (64 * (k + 1))) := by
        intro w2 v2 hs2 hc2 hv2
        have hn' := HNN.out
        rw [List.length_drop] at hn'
        refine ⟨by omega, hs2, ?_, HB.out.k.chg hc2 (by have := HB.out.s.lt; omega) (by omega), HB.out.b.trans (hc2.lower HB.out.b.size)⟩
        have hr2 := HB.out.r.chg hc2 (fun b' hb' => ⟨Nat.lt_of_lt_of_le (HN.out b' hb').1 HB.out.b.size, (HN.out b' hb').2⟩)
        rcases hv2 with rfl | ⟨rfl, rfl⟩
        · exact hr2.sub 64 (n - 64) (cap - 64) _ (by rw [List.drop_drop, show 64 * k + 64 = 64 * (k + 1) by omega, List.take_of_length_le (by rw [List.length_drop]; omega)]) (by rw [List.length_drop]; omega) (by omega) _ (by rw [List.length_drop]; omega)
        · rw [List.drop_eq_nil_of_le (by omega)]
          exact Reads.ofEmpty hNb (Nat.zero_le _)
      have HST := Keep.keep hstep; clear hstep
      by_cases hc : cap = 64
      · subst hc
        obtain rfl : n = 64 := by omega
        go_wp2_with (go_at_call 33; ((with_reducible refine HCT.out.mono ?_); rintro e' w2 ⟨rfl, hs2, hc2⟩; have HS2 := Keep.keep hs2; have HC2 := Keep.keep hc2; clear hs2 hc2))
        refine ⟨⟨k + 1, HST.out _ _ HS2.out HC2.out (.inr ⟨by first | trivial | rfl, rfl⟩)⟩, ?_⟩
        simp [lenV]
      · go_wp2_with (go_at_call 33; ((with_reducible refine HCT.out.mono ?_); rintro e' w2 ⟨rfl, hs2, hc2⟩; have HS2 := Keep.keep hs2; have HC2 := Keep.keep hc2; clear hs2 hc2))
        refine ⟨⟨k + 1, HST.out _ _ HS2.out HC2.out (.inl rfl)⟩, ?_⟩
        simp only [lenV]; omega
    · obtain ⟨a, cap, hu, h1, h2, h3⟩ := HB.out.r.shape
      have hk' : k = l.length / 64 := by rw [List.length_drop] at hlt; omega
      generalize hn : (l.drop (64 * k)).length = n at *
      have HNN := Keep.keep hn; clear hn
      have HKK := Keep.keep hk'; clear hk'
      unfold maxLen at h2
      subst hu
      go_wp2_with fail
      go_ret
      exact ⟨_, rfl, by rw [← HKK.out]; exact HB.out⟩
end Go.Proofs.YtofficleahalaaaDoor
