/- portolanref11: begins, Name, MayName, Split, May, Join. -/
import Derived.Test.YtkijhaibcnhedaaDoorPathWhiteL
import Derived.Test.YtkijhaibcnhedaaDoorPathWh
namespace Go.Proofs.YtkijhaibcnhedaaDoor
open Go.RowKit
theorem prefix_take (s t : List UInt8) (h : t.length ≤ s.length) : (s.take t.length == t) = t.isPrefixOf s := by
  rw [Bool.eq_iff_iff, beq_iff_eq, List.isPrefixOf_iff_prefix]
  constructor
  · intro e; rw [← e]; exact List.take_prefix _ _
  · intro hp; exact (List.prefix_iff_eq_take.1 hp).symm
theorem begins_any (s t : List UInt8) (w : World) : Calls Tryd.prog 51 #[.string ⟨s.toArray⟩, .string ⟨t.toArray⟩] w fun e w' => e = .returned (.bool (t.isPrefixOf s)) ∧ w = w' := by
  by_cases h : t.length ≤ s.length
  · have hd : decide ((t.length : Int) ≤ (s.length : Int)) = true := decide_eq_true (by omega)
    have hd2 : decide (t.length ≤ s.length) = true := decide_eq_true h
    have hst := run_slice_to (P := Tryd.prog) Tryd.underlying9 s .i64 t.length h
    have he := prefix_take s t h
    generalize s.take t.length = q at *
    generalize t.isPrefixOf s = b at *
    go_enter Tryd.func51, Tryd.ntmps51
    go_wp2_with fail
    go_ret
    exact ⟨rfl, rfl⟩
  · have hd : decide ((t.length : Int) ≤ (s.length : Int)) = false := decide_eq_false (by omega)
    have hd2 : decide (t.length ≤ s.length) = false := decide_eq_false h
    have he : t.isPrefixOf s = false := by
      cases hx : t.isPrefixOf s with
      | false => rfl
      | true => exact absurd (List.isPrefixOf_iff_prefix.1 hx).length_le h
    rw [he]
    clear he h
    go_enter Tryd.func51, Tryd.ntmps51
    go_wp2_with fail
    go_ret
    exact ⟨rfl, rfl⟩
def nameB (s : List UInt8) : Bool := !(s.any fun c => c == 47 || c == 0) && (decide (1 ≤ s.length) && decide (s.length ≤ 255) && s != [46] && s != [46, 46])
set_option maxHeartbeats 2000000 in
set_option maxRecDepth 100000 in
theorem rname_any (s : List UInt8) (hs : s.length ≤ 1000000) (w : World) : Calls Tryd.prog 52 #[.string ⟨s.toArray⟩] w fun e w' => e = .returned (.bool (nameB s)) ∧ w = w' := by
  go_enter Tryd.func52, Tryd.ntmps52
  go_wp2_with fail
  go_loopg [3] s.length (fun g u3 wx => ∃ k : Nat, k + g = s.length ∧ u3 = .int .i64 (k : Int) ∧ (∀ j, (hj : j < k) → (hl : j < s.length) → s[j] ≠ 47 ∧ s[j] ≠ 0) ∧ w = wx)
  case atStart => exact ⟨0, by omega, rfl, fun j hj => by omega, rfl⟩
  case round =>
    obtain ⟨k, hkg, rfl, hno, rfl⟩ := hrel
    have HNO := Keep.keep hno
    clear hno
    cases gk with
    | zero =>
      obtain rfl : k = s.length := by omega
      have HE : Keep (nameB s = (decide (1 ≤ s.length) && decide (s.length ≤ 255) && s != [46] && s != [46, 46])) := ⟨by
        have : (s.any fun c => c == 47 || c == 0) = false := by
          rw [List.any_eq_false]
          intro c hc
          obtain ⟨j, hj, rfl⟩ := List.mem_iff_getElem.1 hc
          obtain ⟨h1, h2⟩ := HNO.out j hj hj
          simp [h1, h2]
        unfold nameB; rw [this]; rfl⟩
      simp only [bne] at HE
      obtain ⟨b1, h1⟩ : ∃ b, decide (1 ≤ s.length) = b := ⟨_, rfl⟩
      obtain ⟨b2, h2⟩ : ∃ b, decide (s.length ≤ 255) = b := ⟨_, rfl⟩
      obtain ⟨b3, h3⟩ : ∃ b, (s == [46]) = b := ⟨_, rfl⟩
      obtain ⟨b4, h4⟩ : ∃ b, (s == [46, 46]) = b := ⟨_, rfl⟩
      simp only [h1, h2, h3, h4] at HE
      have h1i : decide ((1 : Int) ≤ (s.length : Int)) = b1 := by rw [← h1]; simp only [decide_eq_decide]; omega
      have h2i : decide ((s.length : Int) ≤ 255) = b2 := by rw [← h2]; simp only [decide_eq_decide]; omega
      clear HNO
      cases b1 with
      | false =>
        go_wp2_with fail
        go_ret
        exact ⟨by rw [HE.out]; rfl, rfl⟩
      | true =>
      cases b2 with
      | false =>
        go_wp2_with fail
        go_ret
        exact ⟨by rw [HE.out]; rfl, rfl⟩
      | true =>
      cases b3 with
      | true =>
        go_wp2_with fail
        go_ret
        exact ⟨by rw [HE.out]; rfl, rfl⟩
      | false =>
        cases b4 with
        | true =>
          go_wp2_with fail
          go_ret
          exact ⟨by rw [HE.out]; rfl, rfl⟩
        | false =>
          go_wp2_with fail
          go_ret
          exact ⟨by rw [HE.out]; rfl, rfl⟩
    | succ g =>
      have hk : k < s.length := by omega
      have hidx := run_index_str (P := Tryd.prog) Tryd.underlying9 ⟨s.toArray⟩ .i64 k s[k] (by simp [hk])
      have hgi : (⟨s.toArray⟩ : ByteArray)[k]'(hk) = s[k] := rfl
      have HSTEP : Keep (s[k] ≠ 47 ∧ s[k] ≠ 0 → ∀ j, (hj : j < k + 1) → (hl : j < s.length) → s[j] ≠ 47 ∧ s[j] ≠ 0) := ⟨fun he j hj hl => by
        rcases Nat.lt_succ_iff_lt_or_eq.1 hj with h | rfl
        · exact HNO.out j h hl
        · exact he⟩
      have HBAD : Keep (s[k] = 47 ∨ s[k] = 0 → nameB s = false) := ⟨fun h => by
        have : (s.any fun c => c == 47 || c == 0) = true := List.any_eq_true.2 ⟨_, List.getElem_mem hk, by rcases h with h | h <;> simp [h]⟩
        unfold nameB; rw [this]; rfl⟩
      by_cases h0 : s[k] = 0
      · have HX := Keep.keep (HBAD.out (.inr h0))
        rw [h0] at hidx hgi
        clear HSTEP HBAD h0 HNO
        go_wp2_with fail
        go_ret
        exact ⟨by rw [HX.out]; rfl, rfl⟩
      · by_cases h47 : s[k] = 47
        · have HX := Keep.keep (HBAD.out (.inl h47))
          rw [h47] at hidx hgi
          clear HSTEP HBAD h0 h47 HNO
          go_wp2_with fail
          go_ret
          exact ⟨by rw [HX.out]; rfl, rfl⟩
        · have HST := Keep.keep (HSTEP.out ⟨h47, h0⟩)
          have hn0 : ((s[k].toNat : Int) == 0) = false := by
            rw [beq_eq_false_iff_ne]; intro e; exact h0 (UInt8.toNat_inj.1 (by show s[k].toNat = 0; omega))
          have hn47 : ((s[k].toNat : Int) == 47) = false := by
            rw [beq_eq_false_iff_ne]; intro e; exact h47 (UInt8.toNat_inj.1 (by show s[k].toNat = 47; omega))
          clear HSTEP HBAD h0 h47 HNO
          generalize s[k] = c at *
          go_wp2_with fail
          go_roundg g
          case measure => omega
          case rel => exact ⟨k + 1, by omega, by simp, HST.out, rfl⟩
theorem mayN_name (s : List UInt8) : mayN s = (nameB s && decide (s.length ≤ 251) && !whiteB.isPrefixOf s) := by
  unfold mayN nameB
  have h1 : decide (1 ≤ s.length) = !s.isEmpty := by cases s <;> simp
  rw [h1, show ([46, 119, 104, 46] : List UInt8) = whiteB from rfl]
  by_cases h2 : s.length ≤ 251
  · rw [decide_eq_true h2, decide_eq_true (show s.length ≤ 255 by omega)]
    cases s.isEmpty <;> cases (s != [46]) <;> cases (s != [46, 46]) <;> cases (s.any fun c => c == 47 || c == 0) <;> cases whiteB.isPrefixOf s <;> rfl
  · rw [decide_eq_false h2]; simp
set_option maxHeartbeats 1000000 in
theorem rmayname_any (s : List UInt8) (hs : s.length ≤ 1000000) (w : World) : Calls Tryd.prog 25 #[.string ⟨s.toArray⟩] w fun e w' => e = .returned (.bool (mayN s)) ∧ w = w' := by
  have HN := Keep.keep (fun w => rname_any s hs w)
  have HB : Keep (∀ w, Calls Tryd.prog 51 #[.string ⟨s.toArray⟩, .string ⟨#[46, 119, 104, 46]⟩] w fun e w' => e = .returned (.bool (whiteB.isPrefixOf s)) ∧ w = w') := ⟨fun w => begins_any s whiteB w⟩
  rw [mayN_name]
  have h2i : decide ((s.length : Int) ≤ 251) = decide (s.length ≤ 251) := by simp only [decide_eq_decide]; omega
  generalize nameB s = b1 at *
  generalize decide (s.length ≤ 251) = b2 at *
  generalize whiteB.isPrefixOf s = b3 at *
  go_enter Tryd.func25, Tryd.ntmps25
  go_wp2_with fail
  refine (HN.out _).mono ?_
  rintro e w' ⟨rfl, rfl⟩
  cases b1 with
  | false =>
    go_wp2_with fail
    go_ret
    exact ⟨rfl, rfl⟩
  | true =>
  cases b2 with
  | false =>
    go_wp2_with fail
    go_ret
    exact ⟨rfl, rfl⟩
  | true =>
    go_wp2_with fail
    refine (HB.out _).mono ?_
    rintro e w' ⟨rfl, rfl⟩
    go_wp2_with fail
    go_ret
    exact ⟨rfl, rfl⟩
/-- how far Split is at place k -/
def SpAt (p : List UInt8) (k f : Nat) (D : List (List UInt8)) : Prop := (k ≤ p.length ∧ f ≤ k ∧ D ++ spl (p.drop f) = spl p ∧ ∀ j, f ≤ j → j < k → (hl : j < p.length) → p[j] ≠ 47) ∨ (k = p.length + 1 ∧ D = spl p)
theorem seg_noSl {p : List UInt8} {k f : Nat} (h : ∀ j, f ≤ j → j < k → (hl : j < p.length) → p[j] ≠ 47) : ∀ x ∈ (p.drop f).take (k - f), x ≠ 47 := by
  intro x hx
  obtain ⟨j, hj, rfl⟩ := List.mem_iff_getElem.1 hx
  rw [List.length_take, List.length_drop] at hj
  rw [List.getElem_take, List.getElem_drop]
  exact h (f + j) (by omega) (by omega) (by omega)
theorem SpAt.cut {p : List UInt8} {k f : Nat} {D : List (List UInt8)} (h : SpAt p k f D) (hk : k < p.length) (h47 : p[k] = 47) : SpAt p (k + 1) (k + 1) (D ++ [(p.drop f).take (k - f)]) := by
  rcases h with ⟨h1, h2, h3, h4⟩ | ⟨h1, _⟩
  · refine .inl ⟨hk, Nat.le_refl _, ?_, fun j a b _ => by omega⟩
    have e1 : p.drop f = (p.drop f).take (k - f) ++ 47 :: p.drop (k + 1) := by
      conv => lhs; rw [← List.take_append_drop (k - f) (p.drop f), List.drop_drop, show f + (k - f) = k by omega, List.drop_eq_getElem_cons hk, h47]
    rw [e1, spl_cut _ (seg_noSl h4)] at h3
    rw [List.append_assoc]; exact h3
  · omega
theorem SpAt.end_ {p : List UInt8} {f : Nat} {D : List (List UInt8)} (h : SpAt p p.length f D) : SpAt p (p.length + 1) (p.length + 1) (D ++ [(p.drop f).take (p.length - f)]) := by
  rcases h with ⟨h1, h2, h3, h4⟩ | ⟨h1, _⟩
  · refine .inr ⟨rfl, ?_⟩
    have e1 : (p.drop f).take (p.length - f) = p.drop f := by rw [List.take_of_length_le]; rw [List.length_drop]; omega
    have h5 := seg_noSl h4
    rw [e1] at h5 ⊢
    rw [spl_none h5] at h3
    exact h3
  · omega
theorem SpAt.skip {p : List UInt8} {k f : Nat} {D : List (List UInt8)} (h : SpAt p k f D) (hk : k < p.length) (h47 : p[k] ≠ 47) : SpAt p (k + 1) f D := by
  rcases h with ⟨h1, h2, h3, h4⟩ | ⟨h1, _⟩
  · refine .inl ⟨hk, by omega, h3, fun j a b c => ?_⟩
    rcases Nat.lt_succ_iff_lt_or_eq.1 b with h | rfl
    · exact h4 j a h c
    · exact h47
  · omega
theorem SpAt.le {p : List UInt8} {k f : Nat} {D : List (List UInt8)} (h : SpAt p k f D) (hk : k ≤ p.length) : f ≤ k := by
  rcases h with ⟨_, h2, _⟩ | ⟨h1, _⟩
  · exact h2
  · omega
theorem run_slice_mid {P : Program} {T : TypeId} (hu : P.underlying T = some .string) (l : List UInt8) (k1 k2 : IntKind) (i j : Nat) (h1 : i ≤ j) (h2 : j ≤ l.length) (w : World) :
    (Instr.slice T (.string ⟨l.toArray⟩) (some (.int k1 (i : Int))) (some (.int k2 (j : Int))) none).run P w = .ok (.string ⟨((l.drop i).take (j - i)).toArray⟩) w := by
  have h := run_slice_str (P := P) hu l k1 k2 (i : Int) (j : Int) (by omega) (by omega) (by omega) w
  rw [h]
  simp
set_option maxHeartbeats 4000000 in
set_option maxRecDepth 100000 in
theorem rsplit_any (p : List UInt8) (hp : p.length ≤ 1000000) (w : World) : Calls Tryd.prog 27 #[.string ⟨p.toArray⟩] w fun e w' => ∃ v, e = .returned v ∧ OwnS w' w.heap.size v (splitP p) ∧ Below w.heap.size w w' := by
  have heq := bne_nil p
  cases hl0 : p.isEmpty with
  | true =>
    have hs : splitP p = [] := by cases p with | nil => rfl | cons c l => cases hl0
    rw [hl0] at heq
    rw [hs]
    clear hs hl0
    go_enter Tryd.func27, Tryd.ntmps27
    go_wp2_with fail
    go_ret
    exact ⟨_, rfl, World.ownsRow_nil _ _ _ _, Below.refl _ _⟩
  | false =>
    have hs : splitP p = spl p := by cases p with | nil => cases hl0 | cons c l => rfl
    rw [hl0] at heq
    rw [hs]
    have hlen := spl_length p
    clear hs hl0
    go_enter Tryd.func27, Tryd.ntmps27
    go_wp2_with fail
    go_loopg [3, 4, 5] (p.length + 1) (fun g u3 u4 u5 wx => ∃ (k f : Nat) (D : List (List UInt8)), k + g = p.length + 1 ∧ u5 = .int .i64 (k : Int) ∧ u4 = .int .i64 (f : Int) ∧ SpAt p k f D ∧ D.length ≤ k ∧ Hp NoM w wx [slA w.heap.size 9 1 u3 D.length (D.map strV)])
    case atStart => exact ⟨0, 0, [], by omega, rfl, rfl, .inl ⟨Nat.zero_le _, Nat.le_refl _, rfl, fun j _ hj => by omega⟩, Nat.le_refl _, (Hp.begin NoM w).nilS _ _ _⟩
    case round =>
      obtain ⟨k, f, D, hkg, rfl, rfl, hsp, hDl, hH⟩ := hrel
      have HH := Keep.keep hH; have HSP := Keep.keep hsp
      have hown := hH.sl 0 rfl
      obtain ⟨a3, c3, rfl, -⟩ := (ownsV_reads hown).shape
      have HO := Keep.keep hown
      clear hH hown hsp
      cases gk with
      | zero =>
        obtain rfl : k = p.length + 1 := by omega
        have HD : Keep (D = spl p) := ⟨by
          rcases HSP.out with ⟨h, _⟩ | ⟨_, h⟩
          · omega
          · exact h⟩
        have hd : decide (((p.length + 1 : Nat) : Int) ≤ (p.length : Int)) = false := decide_eq_false (by omega)
        have hd2 : decide ((p.length : Int) + 1 ≤ (p.length : Int)) = false := decide_eq_false (by omega)
        have hd3 : decide (p.length + 1 ≤ p.length) = false := decide_eq_false (by omega)
        go_wp2_with fail
        go_ret
        exact ⟨_, rfl, by rw [← HD.out]; exact HO.out, HH.out.below⟩
      | succ g =>
        have hk1 : k ≤ p.length := by omega
        have hf := HSP.out.le hk1
        have hd : decide ((k : Int) ≤ (p.length : Int)) = true := decide_eq_true (by omega)
        have hd2 : decide (k ≤ p.length) = true := decide_eq_true hk1
        have hst := run_slice_mid (P := Tryd.prog) Tryd.underlying9 p .i64 .i64 f k hf hk1
        by_cases hke : k = p.length
        · have hek : ((k : Int) == (p.length : Int)) = true := by rw [hke]; exact beq_self_eq_true _
          have hek2 : (k == p.length) = true := by rw [hke]; exact beq_self_eq_true _
          have HNX : Keep (SpAt p (k + 1) (k + 1) (D ++ [(p.drop f).take (k - f)])) := ⟨by
            subst hke; exact HSP.out.end_⟩
          clear hke
          generalize (p.drop f).take (k - f) = x at *
          go_wp2_with (with_reducible refine arm_stop ?_)
          refine Stopped.out ?_
          refine arm_appendV slS ((HH.out.alloc _).sl 0 rfl) (RdV.new (N := fun _ => True) 9 [strV x] 1 1 _ rfl rfl (by unfold maxLen; omega) trivial) (by simp [strV, Value.oneCell']) (by unfold maxLen; omega) (by omega) (by simp; have := HH.out.size; omega) rfl rfl ?_
          intro v' w' ho hg hb _
          have HG := Keep.keep ((HH.out.alloc _).grow 0 rfl hg ho hb)
          obtain ⟨a4, c4, rfl, -⟩ := (ownsV_reads ho).shape
          clear ho hg hb
          simp only [Act.put, List.setIfInBounds_toArray, List.set_cons_succ, List.set_cons_zero]
          go_wp2_with fail
          go_roundg g
          case measure => omega
          case rel => exact ⟨k + 1, k + 1, _, by omega, by simp, by simp, HNX.out, by simp; omega, by rw [List.length_append, List.map_append]; exact HG.out⟩
        · have hk : k < p.length := by omega
          have hek : ((k : Int) == (p.length : Int)) = false := by rw [beq_eq_false_iff_ne]; omega
          have hek2 : (k == p.length) = false := by rw [beq_eq_false_iff_ne]; omega
          have hidx := run_index_str (P := Tryd.prog) Tryd.underlying9 ⟨p.toArray⟩ .i64 k p[k] (by simp [hk])
          have hgi : (⟨p.toArray⟩ : ByteArray)[k]'(hk) = p[k] := rfl
          have HCUT := Keep.keep (fun h => HSP.out.cut hk h)
          have HSKIP := Keep.keep (fun h => HSP.out.skip hk h)
          by_cases h47 : p[k] = 47
          · have HNX := Keep.keep (HCUT.out h47)
            rw [h47] at hidx hgi
            clear HCUT HSKIP h47 hke
            generalize (p.drop f).take (k - f) = x at *
            go_wp2_with (with_reducible refine arm_stop ?_)
            refine Stopped.out ?_
            refine arm_appendV slS ((HH.out.alloc _).sl 0 rfl) (RdV.new (N := fun _ => True) 9 [strV x] 1 1 _ rfl rfl (by unfold maxLen; omega) trivial) (by simp [strV, Value.oneCell']) (by unfold maxLen; omega) (by omega) (by simp; have := HH.out.size; omega) rfl rfl ?_
            intro v' w' ho hg hb _
            have HG := Keep.keep ((HH.out.alloc _).grow 0 rfl hg ho hb)
            obtain ⟨a4, c4, rfl, -⟩ := (ownsV_reads ho).shape
            clear ho hg hb
            simp only [Act.put, List.setIfInBounds_toArray, List.set_cons_succ, List.set_cons_zero]
            go_wp2_with fail
            go_roundg g
            case measure => omega
            case rel => exact ⟨k + 1, k + 1, _, by omega, by simp, by simp, HNX.out, by simp; omega, by rw [List.length_append, List.map_append]; exact HG.out⟩
          · have HNX := Keep.keep (HSKIP.out h47)
            have hn47 : ((p[k].toNat : Int) == 47) = false := by
              rw [beq_eq_false_iff_ne]; intro e; exact h47 (UInt8.toNat_inj.1 (by show p[k].toNat = 47; omega))
            clear HCUT HSKIP h47 hke hst
            generalize p[k] = c at *
            go_wp2_with fail
            go_roundg g
            case measure => omega
            case rel => exact ⟨k + 1, f, D, by omega, by simp, rfl, HNX.out, by omega, HH.out⟩
end Go.Proofs.YtkijhaibcnhedaaDoor
