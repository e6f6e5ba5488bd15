/- portolanref11: May, Join, cut, Parent, Base, Above, Under. -/
import Derived.Test.YtkijhaibcnhedaaDoorPathRef
namespace Go.Proofs.YtkijhaibcnhedaaDoor
open Go.RowKit
theorem mayP_eq (p : List UInt8) : mayP p = ((splitP p).all mayN && (decide ((splitP p).length ≤ 254) && decide (p.length ≤ 4080))) := by
  unfold mayP
  have h : decide ((splitP p).length < 255) = decide ((splitP p).length ≤ 254) := by simp only [decide_eq_decide]; omega
  rw [h]
  cases (splitP p).all mayN <;> cases decide ((splitP p).length ≤ 254) <;> cases decide (p.length ≤ 4080) <;> rfl
set_option maxHeartbeats 1000000 in
set_option maxRecDepth 100000 in
theorem rmay_any (p : List UInt8) (hp : p.length ≤ 1000000) (w : World) : Calls Tryd.prog 26 #[.string ⟨p.toArray⟩] w fun e w' => e = .returned (.bool (mayP p)) ∧ Below w.heap.size w w' := by
  have HS := Keep.keep (rsplit_any p hp w)
  have HM : Keep (∀ x ∈ splitP p, ∀ w, Calls Tryd.prog 25 #[.string ⟨x.toArray⟩] w fun e w' => e = .returned (.bool (mayN x)) ∧ w = w') := ⟨fun x hx w => rmayname_any x (Nat.le_trans (splitP_mem_len p x hx) hp) w⟩
  have hln : (splitP p).length ≤ 1000001 := by
    have := spl_length p
    unfold splitP; split
    · simp
    · omega
  have hq1 : decide ((p.length : Int) ≤ 4080) = decide (p.length ≤ 4080) := by simp only [decide_eq_decide]; omega
  have HE : Keep (mayP p = ((splitP p).all mayN && (decide ((splitP p).length ≤ 254) && decide (p.length ≤ 4080)))) := ⟨mayP_eq p⟩
  generalize mayP p = out at *
  generalize decide (p.length ≤ 4080) = b1 at *
  generalize splitP p = l at *
  go_enter Tryd.func26, Tryd.ntmps26
  go_wp2_with fail
  refine HS.out.mono ?_
  rintro e w1 ⟨v, rfl, ho, hb⟩
  have HR := Keep.keep ((ownsV_reads ho).mono (N' := (· < w1.heap.size)) (fun b hb => hb.2.1)); have HB := Keep.keep hb
  obtain ⟨a, c, rfl, hcap, -, h3⟩ := (ownsV_reads ho).shape
  have H3 := Keep.keep h3
  clear ho hb h3
  go_wp2_with fail
  go_loopg [4] l.length (fun g u4 wx => ∃ k : Nat, k + g = l.length ∧ u4 = .int .i64 (k : Int) ∧ (l.take k).all mayN = true ∧ w1 = wx)
  case atStart => exact ⟨0, by omega, rfl, rfl, rfl⟩
  case round =>
    obtain ⟨k, hkg, rfl, hal, rfl⟩ := hrel
    have HAL := Keep.keep hal
    clear hal
    cases gk with
    | zero =>
      obtain rfl : k = l.length := by omega
      have HAL2 : Keep (l.all mayN = true) := ⟨by have := HAL.out; rwa [List.take_length] at this⟩
      rw [HAL2.out] at HE
      have hq2 : decide ((l.length : Int) ≤ 254) = decide (l.length ≤ 254) := by simp only [decide_eq_decide]; omega
      generalize decide (l.length ≤ 254) = b2 at *
      cases b2 with
      | false =>
        go_wp2_with fail
        go_ret
        exact ⟨by rw [HE.out]; rfl, HB.out⟩
      | true =>
        go_wp2_with fail
        go_ret
        exact ⟨by rw [HE.out]; rfl, HB.out⟩
    | succ g =>
      have hk : k < l.length := by omega
      rcases H3.out with ⟨_, h3⟩ | ⟨b, off, rfl, hbl⟩
      · omega
      have hcell := HR.out.cell b off _ _ rfl k (strV l[k]) (by simp [hk])
      have HMN := Keep.keep (HM.out l[k] (List.getElem_mem hk))
      have HT : Keep ((l.take (k + 1)).all mayN = mayN l[k]) := ⟨by
        rw [List.take_succ_eq_append_getElem hk, List.all_append, HAL.out]; simp⟩
      have HF : Keep (mayN l[k] = false → out = false) := ⟨fun h => by
        rw [HE.out]
        have : l.all mayN = false := List.all_eq_false.2 ⟨_, List.getElem_mem hk, by rw [h]; decide⟩
        rw [this]; rfl⟩
      generalize l[k] = x at *
      unfold strV at hcell
      cases hm : mayN x with
      | false =>
        rw [hm] at HMN
        have HX := Keep.keep (HF.out hm)
        clear hm
        go_wp2_with fail
        refine (HMN.out _).mono ?_
        rintro e w' ⟨rfl, rfl⟩
        go_wp2_with fail
        go_ret
        exact ⟨by rw [HX.out]; rfl, HB.out⟩
      | true =>
        rw [hm] at HMN HT
        clear hm
        go_wp2_with fail
        refine (HMN.out _).mono ?_
        rintro e w' ⟨rfl, rfl⟩
        go_wp2_with fail
        go_roundg g
        case measure => omega
        case rel => exact ⟨k + 1, by omega, by simp, HT.out, rfl⟩
theorem joinS_app_len (a b : List (List UInt8)) : (joinS a).length ≤ (joinS (a ++ b)).length := by
  have := joinS_take_len (a ++ b) a.length
  rwa [List.take_left'] at this
  rfl
theorem flt_app_len (l : List (List UInt8)) (k : Nat) : (joinS (flt (l.take k))).length ≤ (joinP l).length := by
  have h : flt l = flt (l.take k) ++ flt (l.drop k) := by unfold flt; rw [← List.filter_append, List.take_append_drop]
  unfold joinP
  rw [show (l.filter fun x => !x.isEmpty) = flt l from rfl, h]
  exact joinS_app_len _ _
theorem joinS_flt_nil {l : List (List UInt8)} (hl : ∀ x ∈ l, x ≠ []) (h : joinS l = []) : l = [] := by
  cases l with
  | nil => rfl
  | cons x r =>
    exfalso
    cases r with
    | nil => exact hl x (by simp) h
    | cons y r =>
      rw [joinS] at h
      simp at h
theorem joinS_flt_snoc {l : List (List UInt8)} (hl : ∀ x ∈ l, x ≠ []) (x : List UInt8) : joinS (l ++ [x]) = if (joinS l).isEmpty then x else joinS l ++ [47] ++ x := by
  cases he : (joinS l).isEmpty with
  | true =>
    rw [joinS_flt_nil hl (List.isEmpty_iff.1 he)]; rfl
  | false =>
    have : l ≠ [] := fun e => by rw [e] at he; cases he
    rw [joinS_snoc _ _ this]; simp
theorem flt_ne (l : List (List UInt8)) : ∀ x ∈ flt l, x ≠ [] := fun x hx => by
  have := (List.mem_filter.1 hx).2
  cases x with
  | nil => cases this
  | cons c r => simp
set_option maxHeartbeats 2000000 in
set_option maxRecDepth 100000 in
theorem rjoin_any (v : Value) (l : List (List UInt8)) (w : World) (hr : RdS w (· < w.heap.size) v l) (hn : l.length ≤ 1000000000) (hj : (joinP l).length ≤ 1000000000) :
    Calls Tryd.prog 28 #[v] w fun e w' => e = .returned (.string ⟨(joinP l).toArray⟩) ∧ w = w' := by
  obtain ⟨a, cap, rfl, hcap, hmx, h3⟩ := hr.shape
  have HR := Keep.keep hr; have H3 := Keep.keep h3
  unfold maxLen at hmx
  clear hr h3
  have HPL := Keep.keep (fun k => flt_app_len l k)
  have HJ : Keep (joinP l = joinS (flt l)) := ⟨rfl⟩
  generalize joinP l = out at *
  go_enter Tryd.func28, Tryd.ntmps28
  go_wp2_with fail
  go_loopg [3, 4] l.length (fun g u3 u4 wx => ∃ k : Nat, k + g = l.length ∧ u4 = .int .i64 (k : Int) ∧ u3 = .string ⟨(joinS (flt (l.take k))).toArray⟩ ∧ w = wx)
  case atStart => exact ⟨0, by omega, rfl, rfl, rfl⟩
  case round =>
    obtain ⟨k, hkg, rfl, rfl, rfl⟩ := hrel
    cases gk with
    | zero =>
      obtain rfl : k = l.length := by omega
      have HO : Keep (joinS (flt (l.take l.length)) = out) := ⟨by rw [List.take_length, HJ.out]⟩
      generalize joinS (flt (l.take l.length)) = r at *
      go_wp2_with fail
      go_ret
      exact ⟨by rw [HO.out]; rfl, rfl⟩
    | succ g =>
      have hk : k < l.length := by omega
      rcases H3.out with ⟨_, h3⟩ | ⟨b, off, rfl, hbl⟩
      · omega
      have hcell := HR.out.cell b off _ _ rfl k (strV l[k]) (by simp [hk])
      have hft := flt_take hk
      have hnx := HPL.out (k + 1)
      have heq := bne_nil l[k]
      cases hem : l[k].isEmpty with
      | true =>
        rw [hem] at hft heq
        rw [if_pos rfl] at hft
        have HFT := Keep.keep (congrArg joinS hft)
        clear hft hem hnx
        generalize l[k] = x at *
        generalize joinS (flt (l.take k)) = r at *
        unfold strV at hcell
        go_wp2_with fail
        go_roundg g
        case measure => omega
        case rel => exact ⟨k + 1, by omega, by simp, by rw [HFT.out], rfl⟩
      | false =>
        rw [hem] at hft heq
        rw [if_neg (by decide)] at hft
        have hjs := congrArg joinS hft
        rw [joinS_flt_snoc (flt_ne _)] at hjs
        have hbr := bne_nil (joinS (flt (l.take k)))
        clear hft hem
        generalize l[k] = x at *
        obtain ⟨r2, hr2⟩ : ∃ r, joinS (flt (l.take (k + 1))) = r := ⟨_, rfl⟩
        rw [hr2] at hjs hnx
        have HR2 := Keep.keep hr2
        clear hr2
        generalize joinS (flt (l.take k)) = r at *
        unfold strV at hcell
        cases her : r.isEmpty with
        | true =>
          rw [her, if_pos rfl] at hjs
          rw [her] at hbr
          have hre : r = [] := List.isEmpty_iff.1 her
          have hcat := run_cat (P := Tryd.prog) r x (by rw [hre]; simp; rw [← hjs]; omega)
          rw [show r ++ x = r2 by rw [hre, hjs]; rfl] at hcat
          have HJS := Keep.keep hjs
          clear hre her hnx hjs
          go_wp2_with fail
          go_roundg g
          case measure => omega
          case rel => exact ⟨k + 1, by omega, by simp, by rw [HR2.out, HJS.out], rfl⟩
        | false =>
          rw [her, if_neg (by decide)] at hjs
          rw [her] at hbr
          have hlen : r2.length = r.length + 1 + x.length := by rw [hjs]; simp; omega
          have hcat1 := run_cat (P := Tryd.prog) r [47] (by simp; omega)
          have hcat := run_cat (P := Tryd.prog) (r ++ [47]) x (by simp; omega)
          rw [← hjs] at hcat
          generalize r ++ [47] = r1 at *
          clear her hjs hlen hnx
          go_wp2_with fail
          go_roundg g
          case measure => omega
          case rel => exact ⟨k + 1, by omega, by simp, by rw [HR2.out], rfl⟩
set_option maxHeartbeats 1000000 in
theorem rcut_any (p : List UInt8) (hp : p.length ≤ 1000000) (w : World) : Calls Tryd.prog 53 #[.string ⟨p.toArray⟩] w fun e w' => e = .returned (.int .i64 ((cutAt p : Int) - 1)) ∧ w = w' := by
  go_enter Tryd.func53, Tryd.ntmps53
  go_wp2_with fail
  go_loopg [3, 4] p.length (fun g u3 u4 wx => ∃ k : Nat, k + g = p.length ∧ u4 = .int .i64 (k : Int) ∧ u3 = .int .i64 ((cutAt (p.take k) : Int) - 1) ∧ w = wx)
  case atStart => exact ⟨0, by omega, rfl, rfl, rfl⟩
  case round =>
    obtain ⟨k, hkg, rfl, rfl, rfl⟩ := hrel
    cases gk with
    | zero =>
      obtain rfl : k = p.length := by omega
      have HO : Keep ((cutAt (p.take p.length) : Int) - 1 = (cutAt p : Int) - 1) := ⟨by rw [List.take_length]⟩
      generalize (cutAt (p.take p.length) : Int) - 1 = r at *
      go_wp2_with fail
      go_ret
      exact ⟨by rw [HO.out]; rfl, rfl⟩
    | succ g =>
      have hk : k < p.length := by omega
      have hidx := run_index_str (P := Tryd.prog) Tryd.underlying9 ⟨p.toArray⟩ .i64 k p[k] (by simp [hk])
      have hgi : (⟨p.toArray⟩ : ByteArray)[k]'(hk) = p[k] := rfl
      have hsu := cutAt_take p k hk
      by_cases h47 : p[k] = 47
      · rw [if_pos h47] at hsu
        rw [h47] at hgi hidx
        have HS : Keep ((cutAt (p.take (k + 1)) : Int) - 1 = k) := ⟨by rw [hsu]; omega⟩
        clear hsu h47
        generalize (cutAt (p.take k) : Int) - 1 = r at *
        go_wp2_with fail
        go_roundg g
        case measure => omega
        case rel => exact ⟨k + 1, by omega, by simp, by rw [HS.out], rfl⟩
      · rw [if_neg h47] at hsu
        have HS : Keep ((cutAt (p.take (k + 1)) : Int) - 1 = (cutAt (p.take k) : Int) - 1) := ⟨by rw [hsu]⟩
        have hne : ((p[k].toNat : Int) == 47) = false := by
          rw [beq_eq_false_iff_ne]; intro e; exact h47 (UInt8.toNat_inj.1 (by show p[k].toNat = 47; omega))
        clear hsu h47
        generalize p[k] = c at *
        generalize (cutAt (p.take k) : Int) - 1 = r at *
        go_wp2_with fail
        go_roundg g
        case measure => omega
        case rel => exact ⟨k + 1, by omega, by simp, by rw [HS.out], rfl⟩
set_option maxHeartbeats 1000000 in
theorem rparent_any (p : List UInt8) (hp : p.length ≤ 1000000) (w : World) : Calls Tryd.prog 29 #[.string ⟨p.toArray⟩] w fun e w' => e = .returned (.string ⟨(parentP p).toArray⟩) ∧ w = w' := by
  have HL := Keep.keep (fun w => rcut_any p hp w)
  have hle := cutAt_le p
  have hk := run_slice_to (P := Tryd.prog) Tryd.underlying9 p .i64 (cutAt p - 1) (by omega)
  rw [show p.take (cutAt p - 1) = parentP p from rfl] at hk
  rcases Nat.eq_zero_or_pos (cutAt p) with h0 | h0
  · have he : parentP p = [] := by unfold parentP; rw [h0]; rfl
    rw [h0] at HL
    rw [he]
    clear he h0 hk
    go_enter Tryd.func29, Tryd.ntmps29
    go_wp2_with fail
    refine (HL.out _).mono ?_
    rintro e w1 ⟨rfl, rfl⟩
    go_wp2_with fail
    go_ret
    exact ⟨rfl, rfl⟩
  · rw [show (cutAt p : Int) - 1 = ((cutAt p - 1 : Nat) : Int) by omega] at HL
    generalize cutAt p - 1 = n at *
    generalize parentP p = q at *
    have hd : decide ((n : Int) < 0) = false := decide_eq_false (by omega)
    go_enter Tryd.func29, Tryd.ntmps29
    go_wp2_with fail
    refine (HL.out _).mono ?_
    rintro e w1 ⟨rfl, rfl⟩
    go_wp2_with fail
    go_ret
    exact ⟨rfl, rfl⟩
set_option maxHeartbeats 1000000 in
theorem rbase_any (p : List UInt8) (hp : p.length ≤ 1000000) (w : World) : Calls Tryd.prog 30 #[.string ⟨p.toArray⟩] w fun e w' => e = .returned (.string ⟨(baseP p).toArray⟩) ∧ w = w' := by
  have HL := Keep.keep (fun w => rcut_any p hp w)
  have hle := cutAt_le p
  have hk := run_slice_from (P := Tryd.prog) Tryd.underlying9 p .i64 (cutAt p) (by omega)
  rw [show p.drop (cutAt p) = baseP p from rfl] at hk
  have hm : (cutAt p : Int) - 1 + 1 = ((cutAt p : Nat) : Int) := by omega
  have hr : -1 ≤ (cutAt p : Int) - 1 ∧ (cutAt p : Int) - 1 ≤ 1000000 := by omega
  generalize (cutAt p : Int) - 1 = t at *
  generalize cutAt p = n at *
  generalize baseP p = q at *
  clear hle
  go_enter Tryd.func30, Tryd.ntmps30
  go_wp2_with fail
  refine (HL.out _).mono ?_
  rintro e w1 ⟨rfl, rfl⟩
  go_wp2_with fail
  go_ret
  exact ⟨rfl, rfl⟩
set_option maxHeartbeats 1000000 in
set_option maxRecDepth 100000 in
theorem rabove_any (p : List UInt8) (hp : p.length ≤ 1000000) (w : World) :
    Calls Tryd.prog 31 #[.string ⟨p.toArray⟩] w fun e w' => ∃ v, e = .returned v ∧ OwnS w' w.heap.size v (aboveP p) ∧ Below w.heap.size w w' := by
  go_enter Tryd.func31, Tryd.ntmps31
  go_wp2_with fail
  go_loopg [3, 4] p.length (fun g u3 u7 wx => ∃ k : Nat, k + g = p.length ∧ u7 = .int .i64 (k : Int) ∧ Hp NoM w wx [slA w.heap.size 9 1 u3 (abvT p k).length ((abvT p k).map strV)])
  case atStart => exact ⟨0, by omega, rfl, (Hp.begin NoM w).nilS _ _ _⟩
  case round =>
    obtain ⟨k, hkg, rfl, hH⟩ := hrel
    have HH := Keep.keep hH
    have hown := hH.sl 0 rfl
    obtain ⟨a3, c3, rfl, -⟩ := (ownsV_reads hown).shape
    have HO := Keep.keep hown
    clear hH hown
    cases gk with
    | zero =>
      obtain rfl : k = p.length := by omega
      go_wp2_with fail
      go_ret
      exact ⟨_, rfl, HO.out, HH.out.below⟩
    | succ g =>
      have hk : k < p.length := by omega
      have hidx := run_index_str (P := Tryd.prog) Tryd.underlying9 ⟨p.toArray⟩ .i64 k p[k] (by simp [hk])
      have hgi : (⟨p.toArray⟩ : ByteArray)[k]'(hk) = p[k] := rfl
      have hst := run_slice_to (P := Tryd.prog) Tryd.underlying9 p .i64 k (by omega)
      have hsu := abvT_succ p k hk
      have hal := abvT_len p k
      by_cases h47 : p[k] = 47
      · rw [if_pos h47] at hsu
        rw [h47] at hgi hidx
        have HS := Keep.keep hsu
        clear hsu h47
        generalize p.take k = x at *
        go_wp2_with (with_reducible refine arm_stop ?_)
        refine Stopped.out ?_
        refine arm_appendV slS ((HH.out.alloc _).sl 0 rfl) (RdV.new (N := fun _ => True) 9 [strV x] 1 1 _ rfl rfl (by unfold maxLen; omega) trivial) (by simp [strV, Value.oneCell']) (by unfold maxLen; omega) (by omega) (by simp; have := HH.out.size; omega) rfl rfl ?_
        intro v' w' ho hg hb _
        have HG := Keep.keep ((HH.out.alloc _).grow 0 rfl hg ho hb)
        obtain ⟨a4, c4, rfl, -⟩ := (ownsV_reads ho).shape
        clear ho hg hb
        simp only [Act.put, List.setIfInBounds_toArray, List.set_cons_succ, List.set_cons_zero]
        go_wp2_with fail
        go_roundg g
        case measure => omega
        case rel => exact ⟨k + 1, by omega, by simp, by rw [HS.out, List.length_append, List.map_append]; exact HG.out⟩
      · rw [if_neg h47] at hsu
        have HS := Keep.keep hsu
        have hne : ((p[k].toNat : Int) == 47) = false := by
          rw [beq_eq_false_iff_ne]; intro e; exact h47 (UInt8.toNat_inj.1 (by show p[k].toNat = 47; omega))
        clear hsu h47
        generalize p[k] = c at *
        go_wp2_with fail
        go_roundg g
        case measure => omega
        case rel => exact ⟨k + 1, by omega, by simp, by rw [HS.out]; exact HH.out⟩
set_option maxHeartbeats 1000000 in
theorem runder_any (d p : List UInt8) (hd : d.length ≤ 1000000) (w : World) :
    Calls Tryd.prog 32 #[.string ⟨d.toArray⟩, .string ⟨p.toArray⟩] w fun e w' => e = .returned (.bool (underP d p)) ∧ w = w' := by
  have HP : Keep (∀ w, Calls Tryd.prog 51 #[.string ⟨p.toArray⟩, .string ⟨(d ++ [47]).toArray⟩] w fun e w' => e = .returned (.bool ((d ++ [47]).isPrefixOf p)) ∧ w = w') := ⟨fun w => begins_any _ _ w⟩
  have e1 := bne_nil p
  have e2 := bne_nil d
  have hc := run_cat (P := Tryd.prog) d [47] (by simp; omega)
  unfold underP
  generalize p.isEmpty = b1 at *
  generalize d.isEmpty = b2 at *
  generalize (d ++ [47]).isPrefixOf p = b3 at *
  generalize d ++ [47] = q at *
  cases b1 with
  | true =>
    go_enter Tryd.func32, Tryd.ntmps32
    go_wp2_with fail
    go_ret
    exact ⟨rfl, rfl⟩
  | false =>
  cases b2 with
  | true =>
    go_enter Tryd.func32, Tryd.ntmps32
    go_wp2_with fail
    go_ret
    exact ⟨rfl, rfl⟩
  | false =>
    go_enter Tryd.func32, Tryd.ntmps32
    go_wp2_with fail
    refine (HP.out _).mono ?_
    rintro e w2 ⟨rfl, rfl⟩
    go_wp2_with fail
    go_ret
    exact ⟨rfl, rfl⟩
end Go.Proofs.YtkijhaibcnhedaaDoor
