/- portolanref09.Text, String. -/
import Derived.Test.YtohballfhhndbaaDoorFldText
import Derived.Test.YtohballfhhndbaaDoorMk
import Derived.Test.YtohballfhhndbaaDoorFldNum
import Derived.Test.YtohballfhhndbaaDoorSlTo
namespace Go.Proofs.YtohballfhhndbaaDoor
open Go.RowKit
def rowT (s : List UInt8) (m k : Nat) : Array Value := (bcells (s.take k ++ List.replicate (m - k) 0)).toArray
theorem rowT_size (s : List UInt8) (m k : Nat) (hk : k ≤ s.length) (hm : s.length ≤ m) : (rowT s m k).size = m := by
  simp [rowT, bcells_length]; omega
theorem rowT_zero (s : List UInt8) (m : Nat) : rowT s m 0 = Array.replicate m (.int .u8 0) := by
  apply Array.ext'
  simp [rowT, bcells]
theorem rowT_succ (s : List UInt8) (m k : Nat) (hk : k < s.length) (hm : s.length ≤ m) : (rowT s m k).setIfInBounds k (.int .u8 (s[k].toNat : Int)) = rowT s m (k + 1) := by
  have hl : (bcells (s.take k)).length = k := by rw [bcells_length, List.length_take]; omega
  have hr : m - k = (m - (k + 1)) + 1 := by omega
  unfold rowT
  rw [hr, List.replicate_succ, List.take_succ_eq_append_getElem hk, bcells_append, List.append_assoc, bcells_append, List.setIfInBounds_toArray, List.set_append_right _ _ (by omega), hl, Nat.sub_self]
  rfl
theorem rowT_all (s : List UInt8) (m : Nat) : rowT s m s.length = (bcells (s ++ List.replicate (m - s.length) 0)).toArray := by
  unfold rowT; rw [List.take_length]
set_option maxHeartbeats 1000000 in
set_option maxRecDepth 100000 in
theorem rtext_any (s : List UInt8) (many : Int) (hs : s.length ≤ 600) (w : World) :
    Calls Tryd.prog 28 #[.string ⟨s.toArray⟩, .int .i64 many] w fun e w' => ∃ v, e = .returned (.tuple #[v, .int .i64 (textS s many).2]) ∧ Reads w' (NewIn w w') v (textS s many).1 ∧ Below w.heap.size w w' := by
  by_cases h1 : many < 1
  · have hd : decide (many < 1) = true := decide_eq_true h1
    have ht : textS s many = ([], 1) := by unfold textS; rw [if_pos (.inl h1)]
    rw [ht]
    clear ht h1
    go_enter Tryd.func28, Tryd.ntmps28
    go_wp2_with fail
    go_ret2
    exact ⟨_, rfl, Reads.none, Below.refl _ _⟩
  have hd : decide (many < 1) = false := decide_eq_false h1
  by_cases h2 : 512 < many
  · have hd2 : decide (512 < many) = true := decide_eq_true h2
    have ht : textS s many = ([], 1) := by unfold textS; rw [if_pos (.inr (.inl h2))]
    rw [ht]
    clear ht h1 h2
    go_enter Tryd.func28, Tryd.ntmps28
    go_wp2_with fail
    go_ret2
    exact ⟨_, rfl, Reads.none, Below.refl _ _⟩
  have hd2 : decide (512 < many) = false := decide_eq_false h2
  obtain ⟨m, rfl⟩ : ∃ m : Nat, many = (m : Int) := ⟨many.toNat, by omega⟩
  have HT : Keep (textS s (m : Int) = if 0 ∈ s then ([], 1) else if m < s.length then ([], 3) else (s ++ List.replicate (m - s.length) 0, 0)) := ⟨by
    unfold textS
    by_cases h0 : 0 ∈ s
    · rw [if_pos (.inr (.inr h0)), if_pos h0]
    · rw [if_neg (by rintro (h | h | h); exact h1 h; exact h2 h; exact h0 h), if_neg h0, Int.toNat_natCast]
      by_cases h3 : m < s.length
      · rw [if_pos (by omega), if_pos h3]
      · rw [if_neg (by omega), if_neg h3]⟩
  have hm1 : 1 ≤ m := by omega
  have hm2 : m ≤ 512 := by omega
  clear h1 h2
  go_enter Tryd.func28, Tryd.ntmps28
  go_wp2_with fail
  go_loopg [6] s.length (fun g u6 wx => ∃ k : Nat, k + g = s.length ∧ u6 = .int .i64 (k : Int) ∧ (∀ j, (hj : j < k) → (hl : j < s.length) → s[j] ≠ 0) ∧ w = wx)
  case atStart => exact ⟨0, by omega, rfl, fun j hj => by omega, rfl⟩
  case round =>
    obtain ⟨k, hkg, rfl, hno, rfl⟩ := hrel
    have HNO := Keep.keep hno
    clear hno
    cases gk with
    | zero =>
      obtain rfl : k = s.length := by omega
      have H0 : Keep (¬ (0 : UInt8) ∈ s) := ⟨fun h => by
        obtain ⟨j, hj, e⟩ := List.mem_iff_getElem.1 h
        exact HNO.out j hj hj e⟩
      by_cases h3 : m < s.length
      · have hd3 : decide (m < s.length) = true := decide_eq_true h3
        have HX : Keep (textS s (m : Int) = ([], 3)) := ⟨by rw [HT.out, if_neg H0.out, if_pos h3]⟩
        clear h3
        go_wp2_with fail
        go_ret2
        exact ⟨_, by rw [HX.out]; rfl, by rw [HX.out]; exact Reads.none, Below.refl _ _⟩
      · have hd3 : decide (m < s.length) = false := decide_eq_false h3
        have HX : Keep (textS s (m : Int) = (s ++ List.replicate (m - s.length) 0, 0)) := ⟨by rw [HT.out, if_neg H0.out, if_neg h3]⟩
        have h4 : s.length ≤ m := by omega
        clear h3
        have hmk := mkS (P := Tryd.prog) (T := 22) (e := 5) (z := .int .u8 0) (b := 1) Tryd.underlying22 (by kernel_rfl) rfl (by decide) (m : Int) m rfl (by omega)
        have HH0 : Keep (Hp NoM w (w.alloc (.cells (Array.replicate m (.int .u8 0)) 5)) [rowA w.heap.size 5 (rowT s m 0)]) := ⟨by rw [rowT_zero]; exact (Hp.begin NoM w).newRow _ _⟩
        go_wp2_with fail
        go_loopg [8] s.length (fun g u8 wx => ∃ k : Nat, k + g = s.length ∧ u8 = .int .i64 (k : Int) ∧ Hp NoM w wx [rowA w.heap.size 5 (rowT s m k)])
        case atStart => exact ⟨0, by omega, rfl, HH0.out⟩
        case round =>
          obtain ⟨k, hkg, rfl, hH⟩ := hrel
          have HH := Keep.keep hH
          clear hH
          cases gk with
          | zero =>
            obtain rfl : k = s.length := by omega
            go_wp2_with fail
            go_ret2
            refine ⟨_, by rw [HX.out]; rfl, ?_, HH.out.below⟩
            rw [HX.out]
            have hll : (s ++ List.replicate (m - s.length) (0 : UInt8)).length = m := by simp; omega
            have hrow := HH.out.row 0 rfl
            rw [rowT_all] at hrow
            have h1 := RdV.ofRow (N := NewIn w wr) hrow (HH.out.new 0 rfl rfl) 1 0 m m (bcells (s ++ List.replicate (m - s.length) 0)) (by rw [bcells_length, hll]; omega) (Nat.le_refl _) (by unfold maxLen; omega) (fun j u hu => by rw [Nat.zero_add]; simpa using hu)
            refine RdV.toBytes ?_
            rw [hll]; exact h1
          | succ g =>
            have hk : k < s.length := by omega
            have hsz := rowT_size s m k (by omega) h4
            have hset := rowT_succ s m k hk h4
            have HSET := Keep.keep hset
            have hidx := run_index_str (P := Tryd.prog) Tryd.underlying9 ⟨s.toArray⟩ .i64 k s[k] (by simp [hk])
            have hgi : (⟨s.toArray⟩ : ByteArray)[k]'(hk) = s[k] := rfl
            have hc256 := s[k].toNat_lt
            have hrow := HH.out.row 0 rfl
            obtain ⟨vq, hvq⟩ : ∃ vq, (rowT s m k)[k]? = some vq := ⟨_, Array.getElem?_eq_getElem (by omega)⟩
            have hcell := hrow.cell hvq
            have hfz : wr.frozen? ⟨w.heap.size, k, none⟩ = false := hrow.frozen k
            have HS : Keep (Hp NoM w (wr.setCell ⟨w.heap.size, k, none⟩ (.int .u8 (s[k].toNat : Int))) [rowA w.heap.size 5 (rowT s m (k + 1))]) := ⟨HH.out.setCell 0 rfl k _ HSET.out⟩
            clear hset hrow hvq hsz HSET
            generalize s[k] = c at *
            go_wp2_with fail
            go_roundg g
            case measure => omega
            case rel => exact ⟨k + 1, by omega, by simp, HS.out⟩
    | succ g =>
      have hk : k < s.length := by omega
      have hidx := run_index_str (P := Tryd.prog) Tryd.underlying9 ⟨s.toArray⟩ .i64 k s[k] (by simp [hk])
      have hgi : (⟨s.toArray⟩ : ByteArray)[k]'(hk) = s[k] := rfl
      have HSTEP : Keep (s[k] ≠ 0 → ∀ j, (hj : j < k + 1) → (hl : j < s.length) → s[j] ≠ 0) := ⟨fun he j hj hl => by
        rcases Nat.lt_succ_iff_lt_or_eq.1 hj with h | rfl
        · exact HNO.out j h hl
        · exact he⟩
      by_cases h0 : s[k] = 0
      · have HX : Keep (textS s (m : Int) = ([], 1)) := ⟨by rw [HT.out, if_pos (by rw [← h0]; exact List.getElem_mem hk)]⟩
        rw [h0] at hidx hgi
        clear HSTEP h0
        go_wp2_with fail
        go_ret2
        exact ⟨_, by rw [HX.out]; rfl, by rw [HX.out]; exact Reads.none, Below.refl _ _⟩
      · have HST := Keep.keep (HSTEP.out h0)
        have hne : ((s[k].toNat : Int) == 0) = false := by
          rw [beq_eq_false_iff_ne]; intro e; exact h0 (UInt8.toNat_inj.1 (by show s[k].toNat = 0; omega))
        clear HSTEP h0
        generalize s[k] = c at *
        go_wp2_with fail
        go_roundg g
        case measure => omega
        case rel => exact ⟨k + 1, by omega, by simp, HST.out, rfl⟩
theorem cstr_take : ∀ {l : List UInt8} {k : Nat}, k ≤ l.length → (∀ j, (hj : j < k) → (hl : j < l.length) → l[j] ≠ 0) → (k = l.length ∨ ∃ h : k < l.length, l[k] = 0) → cstr l = l.take k
  | [], k, h, _, _ => by simp [cstr]
  | c :: l, 0, _, _, he => by
    rcases he with he | ⟨_, he⟩
    · simp at he
    · simp at he; simp [cstr, he]
  | c :: l, k + 1, h, hno, he => by
    have hc : c ≠ 0 := hno 0 (by omega) (by simp)
    have ih := cstr_take (l := l) (k := k) (by simpa using h) (fun j hj hl => hno (j + 1) (by omega) (by rw [List.length_cons]; omega)) (he.imp (fun e => by simpa using e) (fun ⟨a, b⟩ => ⟨by simpa using a, by simpa using b⟩))
    unfold cstr at ih ⊢
    rw [List.takeWhile_cons_of_pos (by simpa using hc), ih, List.take_succ_cons]
set_option maxHeartbeats 1000000 in
set_option maxRecDepth 100000 in
theorem rstr_any (v : Value) (l : List UInt8) (w : World) (hr : Reads w (· < w.heap.size) v l) (hl : l.length ≤ 1000000000) :
    Calls Tryd.prog 30 #[v] w fun e w' => e = .returned (.string ⟨(cstr l).toArray⟩) ∧ w = w' := by
  obtain ⟨a, cap, rfl, hcap, hmx, h3⟩ := hr.shape
  have HR := Keep.keep hr; have H3 := Keep.keep h3
  unfold maxLen at hmx
  clear hr h3
  go_enter Tryd.func30, Tryd.ntmps30
  go_wp2_with fail
  go_loopg [3] l.length (fun g u3 wx => ∃ k : Nat, k + g = l.length ∧ u3 = .int .i64 (k : Int) ∧ (∀ j, (hj : j < k) → (hl : j < l.length) → l[j] ≠ 0) ∧ w = wx)
  case atStart => exact ⟨0, by omega, rfl, fun j hj => by omega, rfl⟩
  case round =>
    obtain ⟨k, hkg, rfl, hno, rfl⟩ := hrel
    have HNO := Keep.keep hno
    clear hno
    have hst := slice_to (P := Tryd.prog) slU8 a l.length cap k .i64 (by omega) HR.out.spot w
    have hcv := run_string_of (reads_to HR.out k (by omega))
    have hlk : (l.take k).length = k := by simp; omega
    cases gk with
    | zero =>
      obtain rfl : k = l.length := by omega
      have HX := Keep.keep (cstr_take (Nat.le_refl _) HNO.out (.inl rfl))
      generalize l.take l.length = t at *
      go_wp2_with fail
      go_ret
      exact ⟨by rw [HX.out]; rfl, rfl⟩
    | succ g =>
      have hk : k < l.length := by omega
      rcases H3.out with ⟨_, h3⟩ | ⟨b, off, rfl, hbl⟩
      · omega
      have hcell := HR.out.cell b off _ _ rfl k hk
      by_cases h0 : l[k] = 0
      · have HX := Keep.keep (cstr_take (Nat.le_of_lt hk) HNO.out (.inr ⟨hk, h0⟩))
        rw [h0] at hcell
        generalize l.take k = t at *
        clear h0
        go_wp2_with fail
        go_ret
        exact ⟨by rw [HX.out]; rfl, rfl⟩
      · have HST : Keep (∀ j, (hj : j < k + 1) → (hl : j < l.length) → l[j] ≠ 0) := ⟨fun j hj hl => by
          rcases Nat.lt_succ_iff_lt_or_eq.1 hj with h | rfl
          · exact HNO.out j h hl
          · exact h0⟩
        have hne : ((l[k].toNat : Int) == 0) = false := by
          rw [beq_eq_false_iff_ne]; intro e; exact h0 (UInt8.toNat_inj.1 (by show l[k].toNat = 0; omega))
        clear h0 hst hcv hlk
        generalize l[k] = c at *
        go_wp2_with fail
        go_roundg g
        case measure => omega
        case rel => exact ⟨k + 1, by omega, by simp, HST.out, rfl⟩
end Go.Proofs.YtohballfhhndbaaDoor
