/- field.Text, field.String. -/
import Derived.Test.YtohballfhhndbaaDoorFldOct
import Derived.Test.YtohballfhhndbaaDoorRowF
import Derived.Test.YtohballfhhndbaaDoorCut2
namespace Go.Proofs.YtohballfhhndbaaDoor
open Go.RowKit
/-- what Text tells -/
def textS (s : List UInt8) (many : Int) : List UInt8 × Int :=
  if many < 1 ∨ 512 < many ∨ 0 ∈ s then ([], 1) else if many < s.length then ([], 3) else (s ++ List.replicate (many.toNat - s.length) 0, 0)
/-- what String tells -/
def cstr (l : List UInt8) : List UInt8 := l.takeWhile (· != 0)
theorem has_any (c : UInt8) (s : List UInt8) (w : World) : Calls Tryd.prog 31 #[.string ⟨s.toArray⟩, .string ⟨#[c]⟩] w fun e w' => e = .returned (.bool (s.contains c)) ∧ w' = w := by
  refine (Tryd.strings_Contains_one ⟨s.toArray⟩ c w).mono ?_
  rintro e w' ⟨rfl, rfl⟩
  refine ⟨?_, rfl⟩
  have : decide (0 ≤ Lib.indexByte s c) = s.contains c := by
    rcases cutB_index c s with ⟨h1, h2⟩ | ⟨o, h1, h2, h3⟩
    · rw [h1]
      cases hc : s.contains c with
      | false => rfl
      | true =>
        have hm : c ∈ s := by simpa using hc
        obtain ⟨k, hk⟩ := List.getElem?_of_mem hm
        exact (Lib.indexByte_none h1 k hk).elim
    · rw [h1, decide_eq_true (by omega)]
      have h4 := (Lib.indexByte_some h1).1
      have : c ∈ s := List.mem_of_getElem? h4
      simpa using this
  rw [← this]
set_option maxHeartbeats 1000000 in
set_option maxRecDepth 100000 in
theorem strf_any (v : Value) (l : List UInt8) (N : Nat → Prop) (w : World) (hr : Reads w N v l) (hl : l.length ≤ 1000000000) :
    Calls Tryd.prog 29 #[v] w fun e w' => e = .returned (.string ⟨(cstr l).toArray⟩) ∧ Below w.heap.size w w' := by
  obtain ⟨a, cap, rfl, -⟩ := hr.shape
  have hcv := run_string_of hr
  have HC := Keep.keep (cut_any 0 l hl w)
  unfold cutV at HC
  rw [show (cutB 0 l).1 = cstr l from rfl] at HC
  generalize cstr l = t at *
  generalize (cutB 0 l).2.getD [] = x2 at *
  generalize (cutB 0 l).2.isSome = x3 at *
  clear hr
  go_enter Tryd.func29, Tryd.ntmps29
  go_wp2_with fail
  refine HC.out.mono ?_
  rintro e w1 ⟨rfl, hb⟩
  go_wp2_with fail
  go_ret
  exact ⟨rfl, hb⟩
set_option maxHeartbeats 1000000 in
set_option maxRecDepth 100000 in
theorem text_any (s : List UInt8) (many : Int) (hs : s.length ≤ 600) (w : World) :
    Calls Tryd.prog 27 #[.string ⟨s.toArray⟩, .int .i64 many] w fun e w' => ∃ v, e = .returned (.tuple #[v, .int .i64 (textS s many).2]) ∧ Reads w' (NewIn w w') v (textS s many).1 ∧ Below w.heap.size w w' := by
  by_cases h1 : many < 1
  · have hd : decide (many < 1) = true := decide_eq_true h1
    have ht : textS s many = ([], 1) := by unfold textS; rw [if_pos (.inl h1)]
    rw [ht]
    clear ht h1
    go_enter Tryd.func27, Tryd.ntmps27
    go_wp2_with fail
    go_ret2
    exact ⟨_, rfl, Reads.none, Below.refl _ _⟩
  have hd : decide (many < 1) = false := decide_eq_false h1
  by_cases h2 : 512 < many
  · have hd2 : decide (512 < many) = true := decide_eq_true h2
    have ht : textS s many = ([], 1) := by unfold textS; rw [if_pos (.inr (.inl h2))]
    rw [ht]
    clear ht h1 h2
    go_enter Tryd.func27, Tryd.ntmps27
    go_wp2_with fail
    go_ret2
    exact ⟨_, rfl, Reads.none, Below.refl _ _⟩
  have hd2 : decide (512 < many) = false := decide_eq_false h2
  have HC := Keep.keep (fun w => has_any 0 s w)
  by_cases h3 : 0 ∈ s
  · have ht : textS s many = ([], 1) := by unfold textS; rw [if_pos (.inr (.inr h3))]
    rw [ht]
    rw [show s.contains 0 = true by simpa using h3] at HC
    clear ht h1 h2 h3
    go_enter Tryd.func27, Tryd.ntmps27
    go_wp2_with fail
    refine (HC.out _).mono ?_
    rintro e w1 ⟨rfl, rfl⟩
    go_wp2_with fail
    go_ret2
    exact ⟨_, rfl, Reads.none, Below.refl _ _⟩
  rw [show s.contains 0 = false by simpa using h3] at HC
  obtain ⟨m, rfl⟩ : ∃ m : Nat, many = (m : Int) := ⟨many.toNat, by omega⟩
  by_cases h4 : m < s.length
  · have ht : textS s (m : Int) = ([], 3) := by unfold textS; rw [if_neg (by rintro (h | h | h); exact h1 h; exact h2 h; exact h3 h), if_pos (by omega)]
    rw [ht]
    have hd3 : decide ((m : Int) < (s.length : Int)) = true := decide_eq_true (by omega)
    clear ht h1 h2 h3
    go_enter Tryd.func27, Tryd.ntmps27
    go_wp2_with fail
    refine (HC.out _).mono ?_
    rintro e w1 ⟨rfl, rfl⟩
    go_wp2_with fail
    go_ret2
    exact ⟨_, rfl, Reads.none, Below.refl _ _⟩
  obtain ⟨k, rfl⟩ : ∃ k, m = s.length + k := ⟨m - s.length, by omega⟩
  have ht : textS s ((s.length + k : Nat) : Int) = (s ++ List.replicate k 0, 0) := by
    unfold textS
    rw [if_neg (by rintro (h | h | h); exact h1 h; exact h2 h; exact h3 h), if_neg (by omega), Int.toNat_natCast, Nat.add_sub_cancel_left]
  rw [ht]
  have hd3 : decide (((s.length + k : Nat) : Int) < (s.length : Int)) = false := decide_eq_false (by omega)
  have hk : ((s.length + k : Nat) : Int) - (s.length : Int) = (k : Int) := by omega
  have hkm : s.length + k ≤ 512 := by omega
  obtain ⟨cf, rf, mf, kc, hrf⟩ := convF s (by omega)
  have HRF := Keep.keep hrf
  clear ht h1 h2 h3 h4 hrf
  obtain ⟨mm, hmm⟩ : ∃ mm : Int, ((s.length + k : Nat) : Int) = mm := ⟨_, rfl⟩
  rw [hmm] at hd hd2 hd3 hk ⊢
  clear hmm
  go_enter Tryd.func27, Tryd.ntmps27
  go_wp2_with fail
  refine (HC.out _).mono ?_
  rintro e w1 ⟨rfl, rfl⟩
  go_wp2_with (with_reducible refine arm_stop ?_)
  refine Stopped.out ?_
  obtain ⟨hf1, hf2, hf3, pad, hf4, hf5⟩ := HRF.out w1
  obtain ⟨ti, i1, i2, i3, i4⟩ := (SlTy.mk' (P := Tryd.prog) (t := 22) (e := 5) (z := .int .u8 0) (bytes := 1) Tryd.underlying22 (by kernel_rfl) rfl).i
  refine arm_appZ (g := w1.heap.size) (l := s) (pad := pad) (k := k) Tryd.underlying22 Tryd.underlying3 i1 i2 i3 i4 ⟨mf w1, by rw [← hf4]; exact heap_alloc_newF _ _, by rw [← hf4]; exact hf1⟩ hf5 (by omega) hf3 rfl rfl ?_
  intro v' w' hr hb
  have HR := Keep.keep hr; have HB := Keep.keep hb
  obtain ⟨a', c', rfl, -⟩ := hr.shape
  clear hr hb
  simp only [Act.put, List.setIfInBounds_toArray, List.set_cons_succ, List.set_cons_zero]
  go_wp2_with fail
  go_ret2
  exact ⟨_, rfl, HR.out, (((Below.refl w1.heap.size w1).alloc (Nat.le_refl _) _).drew).trans HB.out⟩
end Go.Proofs.YtohballfhhndbaaDoor
