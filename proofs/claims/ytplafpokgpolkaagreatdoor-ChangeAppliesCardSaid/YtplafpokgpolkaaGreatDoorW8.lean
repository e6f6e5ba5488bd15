/- PARTS OF ONE PROOF, set in one file: PathRef2, PathRef4, RMay, RTree, RTreeB. Each part tells its own conditions. -/
import Derived.Test.YtplafpokgpolkaaGreatDoorW7
/- portolanref11: May, Join, cut, Parent, Base, Above, Under. -/
namespace Go.Proofs.YtplafpokgpolkaaGreatDoor
open Go.RowKit
theorem mayP_eq (p : List UInt8) : mayP p = ((splitP p).all mayN && (decide ((splitP p).length ≤ 254) && decide (p.length ≤ 4080))) := by
  unfold mayP
  have h : decide ((splitP p).length < 255) = decide ((splitP p).length ≤ 254) := by simp only [decide_eq_decide]; omega
  rw [h]
  cases (splitP p).all mayN <;> cases decide ((splitP p).length ≤ 254) <;> cases decide (p.length ≤ 4080) <;> rfl
set_option maxHeartbeats 1000000 in
set_option maxRecDepth 100000 in
theorem rmay_any (p : List UInt8) (hp : p.length ≤ 1000000) (w : World) : Calls Tryz.prog 111 #[.string ⟨p.toArray⟩] w fun e w' => e = .returned (.bool (mayP p)) ∧ Below w.heap.size w w' := by
  have HS := Keep.keep (rsplit_any p hp w)
  have HM : Keep (∀ x ∈ splitP p, ∀ w, Calls Tryz.prog 108 #[.string ⟨x.toArray⟩] w fun e w' => e = .returned (.bool (mayN x)) ∧ w = w') := ⟨fun x hx w => rmayname_any x (Nat.le_trans (splitP_mem_len p x hx) hp) w⟩
  have hln : (splitP p).length ≤ 1000001 := by
    have := spl_length p
    unfold splitP; split
    · simp
    · omega
  have hq1 : decide ((p.length : Int) ≤ 4080) = decide (p.length ≤ 4080) := by simp only [decide_eq_decide]; omega
  have HE : Keep (mayP p = ((splitP p).all mayN && (decide ((splitP p).length ≤ 254) && decide (p.length ≤ 4080)))) := ⟨mayP_eq p⟩
  generalize mayP p = out at *
  generalize decide (p.length ≤ 4080) = b1 at *
  generalize splitP p = l at *
  go_enter Tryz.func111, Tryz.ntmps111
  go_wp2_with fail
  refine HS.out.mono ?_
  rintro e w1 ⟨v, rfl, ho, hb⟩
  have HR := Keep.keep ((ownsV_reads ho).mono (N' := (· < w1.heap.size)) (fun b hb => hb.2.1)); have HB := Keep.keep hb
  obtain ⟨a, c, rfl, hcap, -, h3⟩ := (ownsV_reads ho).shape
  have H3 := Keep.keep h3
  clear ho hb h3
  go_wp2_with fail
  go_loopg [4] l.length (fun g u4 wx => ∃ k : Nat, k + g = l.length ∧ u4 = .int .i64 (k : Int) ∧ (l.take k).all mayN = true ∧ w1 = wx)
  case atStart => exact ⟨0, by omega, rfl, rfl, rfl⟩
  case round =>
    obtain ⟨k, hkg, rfl, hal, rfl⟩ := hrel
    have HAL := Keep.keep hal
    clear hal
    cases gk with
    | zero =>
      obtain rfl : k = l.length := by omega
      have HAL2 : Keep (l.all mayN = true) := ⟨by have := HAL.out; rwa [List.take_length] at this⟩
      rw [HAL2.out] at HE
      have hq2 : decide ((l.length : Int) ≤ 254) = decide (l.length ≤ 254) := by simp only [decide_eq_decide]; omega
      generalize decide (l.length ≤ 254) = b2 at *
      cases b2 with
      | false =>
        go_wp2_with fail
        go_ret
        exact ⟨by rw [HE.out]; rfl, HB.out⟩
      | true =>
        go_wp2_with fail
        go_ret
        exact ⟨by rw [HE.out]; rfl, HB.out⟩
    | succ g =>
      have hk : k < l.length := by omega
      rcases H3.out with ⟨_, h3⟩ | ⟨b, off, rfl, hbl⟩
      · omega
      have hcell := HR.out.cell b off _ _ rfl k (strV l[k]) (by simp [hk])
      have HMN := Keep.keep (HM.out l[k] (List.getElem_mem hk))
      have HT : Keep ((l.take (k + 1)).all mayN = mayN l[k]) := ⟨by
        rw [List.take_succ_eq_append_getElem hk, List.all_append, HAL.out]; simp⟩
      have HF : Keep (mayN l[k] = false → out = false) := ⟨fun h => by
        rw [HE.out]
        have : l.all mayN = false := List.all_eq_false.2 ⟨_, List.getElem_mem hk, by rw [h]; decide⟩
        rw [this]; rfl⟩
      generalize l[k] = x at *
      unfold strV at hcell
      cases hm : mayN x with
      | false =>
        rw [hm] at HMN
        have HX := Keep.keep (HF.out hm)
        clear hm
        go_wp2_with fail
        refine (HMN.out _).mono ?_
        rintro e w' ⟨rfl, rfl⟩
        go_wp2_with fail
        go_ret
        exact ⟨by rw [HX.out]; rfl, HB.out⟩
      | true =>
        rw [hm] at HMN HT
        clear hm
        go_wp2_with fail
        refine (HMN.out _).mono ?_
        rintro e w' ⟨rfl, rfl⟩
        go_wp2_with fail
        go_roundg g
        case measure => omega
        case rel => exact ⟨k + 1, by omega, by simp, HT.out, rfl⟩
theorem joinS_app_len (a b : List (List UInt8)) : (joinS a).length ≤ (joinS (a ++ b)).length := by
  have := joinS_take_len (a ++ b) a.length
  rwa [List.take_left'] at this
  rfl
theorem flt_app_len (l : List (List UInt8)) (k : Nat) : (joinS (flt (l.take k))).length ≤ (joinP l).length := by
  have h : flt l = flt (l.take k) ++ flt (l.drop k) := by unfold flt; rw [← List.filter_append, List.take_append_drop]
  unfold joinP
  rw [show (l.filter fun x => !x.isEmpty) = flt l from rfl, h]
  exact joinS_app_len _ _
theorem joinS_flt_nil {l : List (List UInt8)} (hl : ∀ x ∈ l, x ≠ []) (h : joinS l = []) : l = [] := by
  cases l with
  | nil => rfl
  | cons x r =>
    exfalso
    cases r with
    | nil => exact hl x (by simp) h
    | cons y r =>
      rw [joinS] at h
      simp at h
theorem joinS_flt_snoc {l : List (List UInt8)} (hl : ∀ x ∈ l, x ≠ []) (x : List UInt8) : joinS (l ++ [x]) = if (joinS l).isEmpty then x else joinS l ++ [47] ++ x := by
  cases he : (joinS l).isEmpty with
  | true =>
    rw [joinS_flt_nil hl (List.isEmpty_iff.1 he)]; rfl
  | false =>
    have : l ≠ [] := fun e => by rw [e] at he; cases he
    rw [joinS_snoc _ _ this]; simp
theorem flt_ne (l : List (List UInt8)) : ∀ x ∈ flt l, x ≠ [] := fun x hx => by
  have := (List.mem_filter.1 hx).2
  cases x with
  | nil => cases this
  | cons c r => simp
set_option maxHeartbeats 2000000 in
set_option maxRecDepth 100000 in
theorem rjoin_any (v : Value) (l : List (List UInt8)) (w : World) (hr : RdS w (· < w.heap.size) v l) (hn : l.length ≤ 1000000000) (hj : (joinP l).length ≤ 1000000000) :
    Calls Tryz.prog 109 #[v] w fun e w' => e = .returned (.string ⟨(joinP l).toArray⟩) ∧ w = w' := by
  obtain ⟨a, cap, rfl, hcap, hmx, h3⟩ := hr.shape
  have HR := Keep.keep hr; have H3 := Keep.keep h3
  unfold maxLen at hmx
  clear hr h3
  have HPL := Keep.keep (fun k => flt_app_len l k)
  have HJ : Keep (joinP l = joinS (flt l)) := ⟨rfl⟩
  generalize joinP l = out at *
  go_enter Tryz.func109, Tryz.ntmps109
  go_wp2_with fail
  go_loopg [3, 4] l.length (fun g u3 u4 wx => ∃ k : Nat, k + g = l.length ∧ u4 = .int .i64 (k : Int) ∧ u3 = .string ⟨(joinS (flt (l.take k))).toArray⟩ ∧ w = wx)
  case atStart => exact ⟨0, by omega, rfl, rfl, rfl⟩
  case round =>
    obtain ⟨k, hkg, rfl, rfl, rfl⟩ := hrel
    cases gk with
    | zero =>
      obtain rfl : k = l.length := by omega
      have HO : Keep (joinS (flt (l.take l.length)) = out) := ⟨by rw [List.take_length, HJ.out]⟩
      generalize joinS (flt (l.take l.length)) = r at *
      go_wp2_with fail
      go_ret
      exact ⟨by rw [HO.out]; rfl, rfl⟩
    | succ g =>
      have hk : k < l.length := by omega
      rcases H3.out with ⟨_, h3⟩ | ⟨b, off, rfl, hbl⟩
      · omega
      have hcell := HR.out.cell b off _ _ rfl k (strV l[k]) (by simp [hk])
      have hft := flt_take hk
      have hnx := HPL.out (k + 1)
      have heq := bne_nil l[k]
      cases hem : l[k].isEmpty with
      | true =>
        rw [hem] at hft heq
        rw [if_pos rfl] at hft
        have HFT := Keep.keep (congrArg joinS hft)
        clear hft hem hnx
        generalize l[k] = x at *
        generalize joinS (flt (l.take k)) = r at *
        unfold strV at hcell
        go_wp2_with fail
        go_roundg g
        case measure => omega
        case rel => exact ⟨k + 1, by omega, by simp, by rw [HFT.out], rfl⟩
      | false =>
        rw [hem] at hft heq
        rw [if_neg (by decide)] at hft
        have hjs := congrArg joinS hft
        rw [joinS_flt_snoc (flt_ne _)] at hjs
        have hbr := bne_nil (joinS (flt (l.take k)))
        clear hft hem
        generalize l[k] = x at *
        obtain ⟨r2, hr2⟩ : ∃ r, joinS (flt (l.take (k + 1))) = r := ⟨_, rfl⟩
        rw [hr2] at hjs hnx
        have HR2 := Keep.keep hr2
        clear hr2
        generalize joinS (flt (l.take k)) = r at *
        unfold strV at hcell
        cases her : r.isEmpty with
        | true =>
          rw [her, if_pos rfl] at hjs
          rw [her] at hbr
          have hre : r = [] := List.isEmpty_iff.1 her
          have hcat := run_cat (P := Tryz.prog) r x (by rw [hre]; simp; rw [← hjs]; omega)
          rw [show r ++ x = r2 by rw [hre, hjs]; rfl] at hcat
          have HJS := Keep.keep hjs
          clear hre her hnx hjs
          go_wp2_with fail
          go_roundg g
          case measure => omega
          case rel => exact ⟨k + 1, by omega, by simp, by rw [HR2.out, HJS.out], rfl⟩
        | false =>
          rw [her, if_neg (by decide)] at hjs
          rw [her] at hbr
          have hlen : r2.length = r.length + 1 + x.length := by rw [hjs]; simp; omega
          have hcat1 := run_cat (P := Tryz.prog) r [47] (by simp; omega)
          have hcat := run_cat (P := Tryz.prog) (r ++ [47]) x (by simp; omega)
          rw [← hjs] at hcat
          generalize r ++ [47] = r1 at *
          clear her hjs hlen hnx
          go_wp2_with fail
          go_roundg g
          case measure => omega
          case rel => exact ⟨k + 1, by omega, by simp, by rw [HR2.out], rfl⟩
set_option maxHeartbeats 1000000 in
theorem rcut_any (p : List UInt8) (hp : p.length ≤ 1000000) (w : World) : Calls Tryz.prog 140 #[.string ⟨p.toArray⟩] w fun e w' => e = .returned (.int .i64 ((cutAt p : Int) - 1)) ∧ w = w' := by
  go_enter Tryz.func140, Tryz.ntmps140
  go_wp2_with fail
  go_loopg [3, 4] p.length (fun g u3 u4 wx => ∃ k : Nat, k + g = p.length ∧ u4 = .int .i64 (k : Int) ∧ u3 = .int .i64 ((cutAt (p.take k) : Int) - 1) ∧ w = wx)
  case atStart => exact ⟨0, by omega, rfl, rfl, rfl⟩
  case round =>
    obtain ⟨k, hkg, rfl, rfl, rfl⟩ := hrel
    cases gk with
    | zero =>
      obtain rfl : k = p.length := by omega
      have HO : Keep ((cutAt (p.take p.length) : Int) - 1 = (cutAt p : Int) - 1) := ⟨by rw [List.take_length]⟩
      generalize (cutAt (p.take p.length) : Int) - 1 = r at *
      go_wp2_with fail
      go_ret
      exact ⟨by rw [HO.out]; rfl, rfl⟩
    | succ g =>
      have hk : k < p.length := by omega
      have hidx := run_index_str (P := Tryz.prog) Tryz.underlying9 ⟨p.toArray⟩ .i64 k p[k] (by simp [hk])
      have hgi : (⟨p.toArray⟩ : ByteArray)[k]'(hk) = p[k] := rfl
      have hsu := cutAt_take p k hk
      by_cases h47 : p[k] = 47
      · rw [if_pos h47] at hsu
        rw [h47] at hgi hidx
        have HS : Keep ((cutAt (p.take (k + 1)) : Int) - 1 = k) := ⟨by rw [hsu]; omega⟩
        clear hsu h47
        generalize (cutAt (p.take k) : Int) - 1 = r at *
        go_wp2_with fail
        go_roundg g
        case measure => omega
        case rel => exact ⟨k + 1, by omega, by simp, by rw [HS.out], rfl⟩
      · rw [if_neg h47] at hsu
        have HS : Keep ((cutAt (p.take (k + 1)) : Int) - 1 = (cutAt (p.take k) : Int) - 1) := ⟨by rw [hsu]⟩
        have hne : ((p[k].toNat : Int) == 47) = false := by
          rw [beq_eq_false_iff_ne]; intro e; exact h47 (UInt8.toNat_inj.1 (by show p[k].toNat = 47; omega))
        clear hsu h47
        generalize p[k] = c at *
        generalize (cutAt (p.take k) : Int) - 1 = r at *
        go_wp2_with fail
        go_roundg g
        case measure => omega
        case rel => exact ⟨k + 1, by omega, by simp, by rw [HS.out], rfl⟩
set_option maxHeartbeats 1000000 in
theorem rparent_any (p : List UInt8) (hp : p.length ≤ 1000000) (w : World) : Calls Tryz.prog 115 #[.string ⟨p.toArray⟩] w fun e w' => e = .returned (.string ⟨(parentP p).toArray⟩) ∧ w = w' := by
  have HL := Keep.keep (fun w => rcut_any p hp w)
  have hle := cutAt_le p
  have hk := run_slice_to (P := Tryz.prog) Tryz.underlying9 p .i64 (cutAt p - 1) (by omega)
  rw [show p.take (cutAt p - 1) = parentP p from rfl] at hk
  rcases Nat.eq_zero_or_pos (cutAt p) with h0 | h0
  · have he : parentP p = [] := by unfold parentP; rw [h0]; rfl
    rw [h0] at HL
    rw [he]
    clear he h0 hk
    go_enter Tryz.func115, Tryz.ntmps115
    go_wp2_with fail
    refine (HL.out _).mono ?_
    rintro e w1 ⟨rfl, rfl⟩
    go_wp2_with fail
    go_ret
    exact ⟨rfl, rfl⟩
  · rw [show (cutAt p : Int) - 1 = ((cutAt p - 1 : Nat) : Int) by omega] at HL
    generalize cutAt p - 1 = n at *
    generalize parentP p = q at *
    have hd : decide ((n : Int) < 0) = false := decide_eq_false (by omega)
    go_enter Tryz.func115, Tryz.ntmps115
    go_wp2_with fail
    refine (HL.out _).mono ?_
    rintro e w1 ⟨rfl, rfl⟩
    go_wp2_with fail
    go_ret
    exact ⟨rfl, rfl⟩
set_option maxHeartbeats 1000000 in
set_option maxRecDepth 100000 in
theorem rabove_any (p : List UInt8) (hp : p.length ≤ 1000000) (w : World) :
    Calls Tryz.prog 80 #[.string ⟨p.toArray⟩] w fun e w' => ∃ v, e = .returned v ∧ OwnS w' w.heap.size v (aboveP p) ∧ Below w.heap.size w w' := by
  go_enter Tryz.func80, Tryz.ntmps80
  go_wp2_with fail
  go_loopg [3, 4] p.length (fun g u3 u7 wx => ∃ k : Nat, k + g = p.length ∧ u7 = .int .i64 (k : Int) ∧ Hp NoM w wx [slA w.heap.size 9 1 u3 (abvT p k).length ((abvT p k).map strV)])
  case atStart => exact ⟨0, by omega, rfl, (Hp.begin NoM w).nilS _ _ _⟩
  case round =>
    obtain ⟨k, hkg, rfl, hH⟩ := hrel
    have HH := Keep.keep hH
    have hown := hH.sl 0 rfl
    obtain ⟨a3, c3, rfl, -⟩ := (ownsV_reads hown).shape
    have HO := Keep.keep hown
    clear hH hown
    cases gk with
    | zero =>
      obtain rfl : k = p.length := by omega
      go_wp2_with fail
      go_ret
      exact ⟨_, rfl, HO.out, HH.out.below⟩
    | succ g =>
      have hk : k < p.length := by omega
      have hidx := run_index_str (P := Tryz.prog) Tryz.underlying9 ⟨p.toArray⟩ .i64 k p[k] (by simp [hk])
      have hgi : (⟨p.toArray⟩ : ByteArray)[k]'(hk) = p[k] := rfl
      have hst := run_slice_to (P := Tryz.prog) Tryz.underlying9 p .i64 k (by omega)
      have hsu := abvT_succ p k hk
      have hal := abvT_len p k
      by_cases h47 : p[k] = 47
      · rw [if_pos h47] at hsu
        rw [h47] at hgi hidx
        have HS := Keep.keep hsu
        clear hsu h47
        generalize p.take k = x at *
        go_wp2_with (with_reducible refine arm_stop ?_)
        refine Stopped.out ?_
        refine arm_appendV slS ((HH.out.alloc _).sl 0 rfl) (RdV.new (N := fun _ => True) 9 [strV x] 1 1 _ rfl rfl (by unfold maxLen; omega) trivial) (by simp [strV, Value.oneCell']) (by unfold maxLen; omega) (by omega) (by simp; have := HH.out.size; omega) rfl rfl ?_
        intro v' w' ho hg hb _
        have HG := Keep.keep ((HH.out.alloc _).grow 0 rfl hg ho hb)
        obtain ⟨a4, c4, rfl, -⟩ := (ownsV_reads ho).shape
        clear ho hg hb
        simp only [Act.put, List.setIfInBounds_toArray, List.set_cons_succ, List.set_cons_zero]
        go_wp2_with fail
        go_roundg g
        case measure => omega
        case rel => exact ⟨k + 1, by omega, by simp, by rw [HS.out, List.length_append, List.map_append]; exact HG.out⟩
      · rw [if_neg h47] at hsu
        have HS := Keep.keep hsu
        have hne : ((p[k].toNat : Int) == 47) = false := by
          rw [beq_eq_false_iff_ne]; intro e; exact h47 (UInt8.toNat_inj.1 (by show p[k].toNat = 47; omega))
        clear hsu h47
        generalize p[k] = c at *
        go_wp2_with fail
        go_roundg g
        case measure => omega
        case rel => exact ⟨k + 1, by omega, by simp, by rw [HS.out]; exact HH.out⟩
set_option maxHeartbeats 1000000 in
theorem runder_any (d p : List UInt8) (hd : d.length ≤ 1000000) (w : World) :
    Calls Tryz.prog 82 #[.string ⟨d.toArray⟩, .string ⟨p.toArray⟩] w fun e w' => e = .returned (.bool (underP d p)) ∧ w = w' := by
  have HP : Keep (∀ w, Calls Tryz.prog 110 #[.string ⟨p.toArray⟩, .string ⟨(d ++ [47]).toArray⟩] w fun e w' => e = .returned (.bool ((d ++ [47]).isPrefixOf p)) ∧ w = w') := ⟨fun w => begins_any _ _ w⟩
  have e1 := bne_nil p
  have e2 := bne_nil d
  have hc := run_cat (P := Tryz.prog) d [47] (by simp; omega)
  unfold underP
  generalize p.isEmpty = b1 at *
  generalize d.isEmpty = b2 at *
  generalize (d ++ [47]).isPrefixOf p = b3 at *
  generalize d ++ [47] = q at *
  cases b1 with
  | true =>
    go_enter Tryz.func82, Tryz.ntmps82
    go_wp2_with fail
    go_ret
    exact ⟨rfl, rfl⟩
  | false =>
  cases b2 with
  | true =>
    go_enter Tryz.func82, Tryz.ntmps82
    go_wp2_with fail
    go_ret
    exact ⟨rfl, rfl⟩
  | false =>
    go_enter Tryz.func82, Tryz.ntmps82
    go_wp2_with fail
    refine (HP.out _).mono ?_
    rintro e w2 ⟨rfl, rfl⟩
    go_wp2_with fail
    go_ret
    exact ⟨rfl, rfl⟩
end Go.Proofs.YtplafpokgpolkaaGreatDoor
/- portolanref11.Class. -/
namespace Go.Proofs.YtplafpokgpolkaaGreatDoor
open Go.RowKit
theorem rclass_tab (p : List UInt8) (ht : (p == tableB) = true) (w : World) :
    Calls Tryz.prog 71 #[.string ⟨p.toArray⟩] w fun e w' => e = .returned (.tuple #[.int .i64 (classP p).1, .string ⟨(classP p).2.toArray⟩]) ∧ Below w.heap.size w w' := by
  have HE : Keep (classP p = (4, [])) := ⟨by unfold classP; rw [ht]; rfl⟩
  have htab : (p == [46, 119, 104, 46, 46, 119, 104, 46, 116, 111, 99]) = true := ht
  clear ht
  go_enter Tryz.func71, Tryz.ntmps71
  go_wp2_with fail
  go_ret2
  exact ⟨by rw [HE.out]; rfl, Below.refl _ _⟩
theorem rclass_nil (w : World) :
    Calls Tryz.prog 71 #[.string ⟨#[]⟩] w fun e w' => e = .returned (.tuple #[.int .i64 (classP []).1, .string ⟨(classP []).2.toArray⟩]) ∧ Below w.heap.size w w' := by
  have HE : Keep (classP [] = (0, [])) := ⟨by decide⟩
  have HS : Keep (Calls Tryz.prog 107 #[.string ⟨#[]⟩] w fun e w' => ∃ v, e = .returned v ∧ OwnS w' w.heap.size v (splitP []) ∧ Below w.heap.size w w') := ⟨rsplit_any [] (by simp) w⟩
  go_enter Tryz.func71, Tryz.ntmps71
  go_wp2_with fail
  refine HS.out.mono ?_
  rintro e w1 ⟨v, rfl, ho, hb⟩
  have HB := Keep.keep hb
  obtain ⟨a, c, hv, -⟩ := (ownsV_reads ho).shape
  rw [show (splitP []).length = 0 from rfl] at hv
  subst hv
  clear ho hb
  go_wp2_with fail
  go_ret2
  exact ⟨by rw [HE.out]; rfl, HB.out⟩
set_option maxHeartbeats 8000000 in
set_option maxRecDepth 100000 in
theorem rclass_any (p : List UInt8) (hp4 : p.length ≤ 400000) (w : World) :
    Calls Tryz.prog 71 #[.string ⟨p.toArray⟩] w fun e w' => e = .returned (.tuple #[.int .i64 (classP p).1, .string ⟨(classP p).2.toArray⟩]) ∧ Below w.heap.size w w' := by
  cases ht : p == tableB with
  | true => exact rclass_tab p ht w
  | false =>
  by_cases h0 : p = []
  · subst h0; exact rclass_nil w
  have hp : p.length ≤ 1000000 := by omega
  obtain ⟨init, base, hsp, hbn, hcs⟩ := split_parts h0
  have HS := Keep.keep (rsplit_any p hp w)
  have HE : Keep (classP p = refC p init base) := ⟨class_ref h0 ht hbn hcs⟩
  have hml := splitP_mem_len p
  have hlen : (splitP p).length ≤ p.length + 1 := by
    have := spl_length p
    unfold splitP; split
    · simp
    · omega
  have hj0 : (joinP init).length ≤ p.length := by
    rcases hcs with ⟨rfl, -⟩ | ⟨d, rfl, rfl⟩
    · simp [joinP, joinS]
    · have := joinS_filter_len (fun x => !x.isEmpty) (spl d) (spl_ne d)
      rw [joinS_spl] at this
      unfold joinP
      simp
      omega
  rw [hsp] at HS hml hlen
  have hbl : base.length ≤ p.length := hml base (by simp)
  have hil : init.length ≤ p.length := by simp at hlen; omega
  have HMN : Keep (∀ x ∈ init, ∀ w, Calls Tryz.prog 108 #[.string ⟨x.toArray⟩] w fun e w' => e = .returned (.bool (mayN x)) ∧ w = w') := ⟨fun x hx w => rmayname_any x (Nat.le_trans (hml x (by simp [hx])) hp) w⟩
  have HMB := Keep.keep (fun w => rmayname_any base (by omega) w)
  have HMD := Keep.keep (fun w => rmayname_any (base.drop 4) (by simp; omega) w)
  have HBG : Keep (∀ w, Calls Tryz.prog 110 #[.string ⟨base.toArray⟩, .string ⟨#[46, 119, 104, 46]⟩] w fun e w' => e = .returned (.bool (whiteB.isPrefixOf base)) ∧ w = w') := ⟨fun w => begins_any base whiteB w⟩
  have HMP := Keep.keep (fun w => rmay_any p hp w)
  have HMJ := Keep.keep (fun w => rmay_any (joinP init) (by omega) w)
  have hj2 := joinP_two_len (joinP init) (base.drop 4)
  have hdl : (base.drop 4).length ≤ base.length := by simp
  have HMT := Keep.keep (fun w => rmay_any (joinP [joinP init, base.drop 4]) (by omega) w)
  have HJ1 := Keep.keep (fun v w (h : RdS w (· < w.heap.size) v init) => rjoin_any v init w h (by omega) (by omega))
  have HJ2 := Keep.keep (fun v w (h : RdS w (· < w.heap.size) v [joinP init, base.drop 4]) => rjoin_any v [joinP init, base.drop 4] w h (by simp) (by omega))
  have HK4 : Keep (whiteB.isPrefixOf base = true → ∀ w, (Instr.slice 9 (.string ⟨base.toArray⟩) (some (.int .i64 4)) none none).run Tryz.prog w = .ok (.string ⟨(base.drop 4).toArray⟩) w) := ⟨fun h =>
    run_slice_from (P := Tryz.prog) Tryz.underlying9 base .i64 4 (by
      obtain ⟨b, rfl⟩ := List.isPrefixOf_iff_prefix.1 h
      simp [whiteB])⟩
  have htab : (p == [46, 119, 104, 46, 46, 119, 104, 46, 116, 111, 99]) = false := ht
  have hbml : (base == markB) = (base == [46, 119, 104, 46, 46, 119, 104, 46, 46, 111, 112, 113]) := rfl
  have hll : (init ++ [base]).length = init.length + 1 := by simp
  obtain ⟨n, hn⟩ : ∃ n, init.length = n := ⟨_, rfl⟩
  rw [hn] at hll hil
  clear hml hlen hcs hbn hsp ht h0 hj0 hj2 hdl hbl
  generalize classP p = out at *
  go_enter Tryz.func71, Tryz.ntmps71
  go_wp2_with fail
  refine HS.out.mono ?_
  rintro e w1 ⟨v, rfl, ho, hb⟩
  have hr0 := (ownsV_reads ho).mono (N' := (· < w1.heap.size)) (fun b hb => hb.2.1)
  have HB := Keep.keep hb
  rw [hll] at hr0
  obtain ⟨a, c, hv, hcap, hcm, h3⟩ := hr0.shape
  subst hv
  rcases h3 with ⟨_, h3⟩ | ⟨b, off, rfl, hbl2⟩
  · omega
  have HR := Keep.keep hr0
  have hcellB := hr0.cell b off _ _ rfl n (strV base) (by simp [hn])
  have HRI : Keep (RdS w1 (· < w1.heap.size) (.slice (some ⟨b, off, none⟩) n c) init) := ⟨by
    have := hr0.sub 0 n c off (init.map strV) (by rw [List.map_append]; simp [hn]) (by simp [hn]) (by simp) (by omega) (Nat.le_refl _)
    rw [← hn] at this
    rw [← hn]
    exact this⟩
  have hst := slice_to slSt (some ⟨b, off, none⟩) (n + 1) c n .i64 (by omega)
  unfold strV at hcellB
  have hm1 : (((n + 1 : Nat) : Int)) - 1 = (n : Int) := by omega
  have hm2 : ((n : Int) + 1) - 1 = (n : Int) := by omega
  have hz1 : decide (((n + 1 : Nat) : Int) = 0) = false := decide_eq_false (by omega)
  clear ho hb hr0 HS hll
  go_wp2_with fail
  go_loopg [6] n (fun g u6 wx => ∃ k : Nat, k + g = n ∧ u6 = .int .i64 (k : Int) ∧ (init.take k).all mayN = true ∧ w1 = wx)
  case atStart => exact ⟨0, by omega, rfl, rfl, rfl⟩
  case round =>
    obtain ⟨k, hkg, rfl, hal, rfl⟩ := hrel
    have HAL := Keep.keep hal
    clear hal
    cases gk with
    | succ g =>
      have hk : k < init.length := by omega
      have hcell := HR.out.cell b off _ _ rfl k (strV init[k]) (by simp [hk, List.getElem?_append_left])
      have HM1 := Keep.keep (HMN.out init[k] (List.getElem_mem hk))
      have HT : Keep ((init.take (k + 1)).all mayN = mayN init[k]) := ⟨by
        rw [List.take_succ_eq_append_getElem hk, List.all_append, HAL.out]; simp⟩
      have HF : Keep (mayN init[k] = false → out = (0, [])) := ⟨fun h => by
        rw [HE.out]
        unfold refC
        have : init.all mayN = false := List.all_eq_false.2 ⟨_, List.getElem_mem hk, by rw [h]; decide⟩
        rw [this]; rfl⟩
      generalize init[k] = x at *
      unfold strV at hcell
      clear hcellB hst hn hk
      cases hm : mayN x with
      | false =>
        rw [hm] at HM1
        have HX := Keep.keep (HF.out hm)
        clear hm
        go_wp2_with fail
        refine (HM1.out _).mono ?_
        rintro e w' ⟨rfl, rfl⟩
        go_wp2_with fail
        go_ret2
        exact ⟨by rw [HX.out]; rfl, HB.out⟩
      | true =>
        rw [hm] at HM1 HT
        clear hm
        go_wp2_with fail
        refine (HM1.out _).mono ?_
        rintro e w' ⟨rfl, rfl⟩
        go_wp2_with fail
        go_roundg g
        case measure => omega
        case rel => exact ⟨k + 1, by omega, by simp, HT.out, rfl⟩
    | zero =>
      obtain rfl : k = n := by omega
      have HC : Keep (out = refF (refT p base (joinP init))) := ⟨by
        have h := HAL.out
        rw [List.take_of_length_le (by omega)] at h
        rw [HE.out]; unfold refC; rw [h]; rfl⟩
      have HRT : Keep (refT p base (joinP init) = if mayN base then (1, p) else if base == markB then (3, joinP init) else if whiteB.isPrefixOf base && mayN (base.drop 4) then (2, joinP [joinP init, base.drop 4]) else (0, [])) := ⟨rfl⟩
      clear HMN HAL HR
      generalize refT p base (joinP init) = rt at *
      generalize joinP [joinP init, base.drop 4] = jt at *
      generalize joinP init = dir at *
      generalize mayN base = b1 at *
      generalize hb2 : (base == markB) = b2 at *
      generalize hb3 : whiteB.isPrefixOf base = b3 at *
      generalize base.drop 4 = b4s at *
      generalize mayN b4s = b4 at *
      have hbm2 := hbml.symm
      clear hb2 hbml hb3
      cases b1 with
      | true =>
        have HX : Keep (out = if mayP p then (1, p) else (0, [])) := ⟨by
          rw [HC.out, HRT.out]; unfold refF; cases hm : mayP p <;> simp [hm]⟩
        generalize mayP p = b5 at *
        go_wp2_with fail
        refine (HJ1.out _ _ HRI.out).mono ?_
        rintro e w' ⟨rfl, rfl⟩
        go_wp2_with fail
        refine (HMB.out _).mono ?_
        rintro e w' ⟨rfl, rfl⟩
        go_wp2_with fail
        refine (HMP.out _).mono ?_
        rintro e w2 ⟨rfl, hb2⟩
        have HB2 := Keep.keep (HB.out.trans (hb2.mono HB.out.size))
        clear hb2
        cases b5 with
        | false =>
          go_wp2_with fail
          go_ret2
          exact ⟨by rw [HX.out]; rfl, HB2.out⟩
        | true =>
          go_wp2_with fail
          go_ret2
          exact ⟨by rw [HX.out]; rfl, HB2.out⟩
      | false =>
      cases b2 with
      | true =>
        have HX : Keep (out = if mayP dir then (3, dir) else (0, [])) := ⟨by
          rw [HC.out, HRT.out]; unfold refF; cases hm : mayP dir <;> simp [hm]⟩
        generalize mayP dir = b5 at *
        go_wp2_with fail
        refine (HJ1.out _ _ HRI.out).mono ?_
        rintro e w' ⟨rfl, rfl⟩
        go_wp2_with fail
        refine (HMB.out _).mono ?_
        rintro e w' ⟨rfl, rfl⟩
        go_wp2_with fail
        refine (HMJ.out _).mono ?_
        rintro e w2 ⟨rfl, hb2⟩
        have HB2 := Keep.keep (HB.out.trans (hb2.mono HB.out.size))
        clear hb2
        cases b5 with
        | false =>
          go_wp2_with fail
          go_ret2
          exact ⟨by rw [HX.out]; rfl, HB2.out⟩
        | true =>
          go_wp2_with fail
          go_ret2
          exact ⟨by rw [HX.out]; rfl, HB2.out⟩
      | false =>
      cases b3 with
      | false =>
        have HX : Keep (out = (0, [])) := ⟨by rw [HC.out, HRT.out]; rfl⟩
        go_wp2_with fail
        refine (HJ1.out _ _ HRI.out).mono ?_
        rintro e w' ⟨rfl, rfl⟩
        go_wp2_with fail
        refine (HMB.out _).mono ?_
        rintro e w' ⟨rfl, rfl⟩
        go_wp2_with fail
        refine (HBG.out _).mono ?_
        rintro e w' ⟨rfl, rfl⟩
        go_wp2_with fail
        go_ret2
        exact ⟨by rw [HX.out]; rfl, HB.out⟩
      | true =>
      have hk4 := HK4.out rfl
      cases b4 with
      | false =>
        have HX : Keep (out = (0, [])) := ⟨by rw [HC.out, HRT.out]; rfl⟩
        go_wp2_with fail
        refine (HJ1.out _ _ HRI.out).mono ?_
        rintro e w' ⟨rfl, rfl⟩
        go_wp2_with fail
        refine (HMB.out _).mono ?_
        rintro e w' ⟨rfl, rfl⟩
        go_wp2_with fail
        refine (HBG.out _).mono ?_
        rintro e w' ⟨rfl, rfl⟩
        go_wp2_with fail
        refine (HMD.out _).mono ?_
        rintro e w' ⟨rfl, rfl⟩
        go_wp2_with fail
        go_ret2
        exact ⟨by rw [HX.out]; rfl, HB.out⟩
      | true =>
        have HX : Keep (out = if mayP jt then (2, jt) else (0, [])) := ⟨by
          rw [HC.out, HRT.out]; unfold refF; cases hm : mayP jt <;> simp [hm]⟩
        generalize mayP jt = b5 at *
        go_wp2_with fail
        refine (HJ1.out _ _ HRI.out).mono ?_
        rintro e w' ⟨rfl, rfl⟩
        go_wp2_with fail
        refine (HMB.out _).mono ?_
        rintro e w' ⟨rfl, rfl⟩
        go_wp2_with fail
        refine (HBG.out _).mono ?_
        rintro e w' ⟨rfl, rfl⟩
        go_wp2_with fail
        refine (HMD.out _).mono ?_
        rintro e w' ⟨rfl, rfl⟩
        go_wp2_with fail
        refine calls_at (R := fun wq => Below w1.heap.size w1 wq ∧ RdS wq (· < wq.heap.size) (.slice (some ⟨w1.heap.size, 0, none⟩) 2 2) [dir, b4s]) ⟨(Below.refl _ _).alloc (Nat.le_refl _) _, rdS_two w1 dir b4s⟩ ?_
        intro w2 H2
        refine (HJ2.out _ w2 H2.out.2).mono ?_
        rintro e w' ⟨rfl, rfl⟩
        have HB2 := Keep.keep (HB.out.trans (H2.out.1.mono HB.out.size))
        go_wp2_with fail
        refine (HMT.out _).mono ?_
        rintro e w3 ⟨rfl, hb3⟩
        have HB3 := Keep.keep (HB2.out.trans (hb3.mono HB2.out.size))
        clear hb3
        cases b5 with
        | false =>
          go_wp2_with fail
          go_ret2
          exact ⟨by rw [HX.out]; rfl, HB3.out⟩
        | true =>
          go_wp2_with fail
          go_ret2
          exact ⟨by rw [HX.out]; rfl, HB3.out⟩
end Go.Proofs.YtplafpokgpolkaaGreatDoor
/- portolanref12.has, May; portolanref18.May. -/
namespace Go.Proofs.YtplafpokgpolkaaGreatDoor
open Go.RowKit
set_option maxHeartbeats 1000000 in
set_option maxRecDepth 100000 in
theorem hasb_any (s : Tx) (hsl : s.length ≤ 1000000) (c : UInt8) (cv : Int) (hc : cv = (c.toNat : Int)) (w : World) : Calls Tryz.prog 119 #[.string ⟨s.toArray⟩, .int .u8 cv] w fun e w' => e = .returned (.bool (decide (c ∈ s))) ∧ w = w' := by
  have HC := Keep.keep hc
  clear hc
  go_enter Tryz.func119, Tryz.ntmps119
  go_wp2_with fail
  go_loopg [5] s.length (fun g u3 wx => ∃ k : Nat, k + g = s.length ∧ u3 = .int .i64 (k : Int) ∧ (∀ j, (hj : j < k) → (hl : j < s.length) → s[j] ≠ c) ∧ w = wx)
  case atStart => exact ⟨0, by omega, rfl, fun j hj => by omega, rfl⟩
  case round =>
    obtain ⟨k, hkg, rfl, hno, rfl⟩ := hrel
    have HNO := Keep.keep hno
    clear hno
    cases gk with
    | zero =>
      obtain rfl : k = s.length := by omega
      have HE : Keep (decide (c ∈ s) = false) := ⟨decide_eq_false (fun h => by
        obtain ⟨j, hj, e⟩ := List.mem_iff_getElem.1 h
        exact HNO.out j hj hj e)⟩
      go_wp2_with fail
      go_ret
      exact ⟨by (rw [HE.out]) <;> rfl, rfl⟩
    | succ g =>
      have hk : k < s.length := by omega
      have hidx := run_index_str (P := Tryz.prog) Tryz.underlying9 ⟨s.toArray⟩ .i64 k s[k] (by simp [hk])
      have hgi : (⟨s.toArray⟩ : ByteArray)[k]'(hk) = s[k] := rfl
      by_cases h0 : s[k] = c
      · have hb : ((s[k].toNat : Int) == cv) = true := by rw [HC.out, h0]; exact beq_self_eq_true _
        have HE : Keep (decide (c ∈ s) = true) := ⟨decide_eq_true (h0 ▸ List.getElem_mem hk)⟩
        clear h0 HNO
        generalize s[k] = x at *
        go_wp2_with fail
        go_ret
        exact ⟨by (rw [HE.out]) <;> rfl, rfl⟩
      · have hb : ((s[k].toNat : Int) == cv) = false := by
          rw [HC.out, beq_eq_false_iff_ne]
          intro e
          exact h0 (UInt8.toNat_inj.1 (by omega))
        have HST : Keep (∀ j, (hj : j < k + 1) → (hl : j < s.length) → s[j] ≠ c) := ⟨fun j hj hl => by
          rcases Nat.lt_succ_iff_lt_or_eq.1 hj with h | rfl
          · exact HNO.out j h hl
          · exact h0⟩
        clear h0 HNO
        generalize s[k] = x at *
        go_wp2_with fail
        go_roundg g
        case measure => omega
        case rel => exact ⟨k + 1, by omega, by simp, HST.out, rfl⟩
theorem any_bad (s : Tx) : s.any ([0, 61, 10].contains ·) = (decide ((0 : UInt8) ∈ s) || decide ((61 : UInt8) ∈ s) || decide ((10 : UInt8) ∈ s)) := by
  rw [Bool.eq_iff_iff]
  simp only [List.any_eq_true, Bool.or_eq_true, decide_eq_true_eq, List.contains_cons, beq_iff_eq]
  constructor
  · rintro ⟨x, hx, (h | h | h | h)⟩
    · exact .inl (.inl (h ▸ hx))
    · exact .inl (.inr (h ▸ hx))
    · exact .inr (h ▸ hx)
    · simp at h
  · rintro ((h | h) | h)
    · exact ⟨_, h, .inl rfl⟩
    · exact ⟨_, h, .inr (.inl rfl)⟩
    · exact ⟨_, h, .inr (.inr (.inl rfl))⟩
set_option maxHeartbeats 4000000 in
set_option maxRecDepth 100000 in
theorem rmay12_any (m : Mb) (av dv : Value) (hsm : Sm m) (w : World) (hr : NdR w (· < w.heap.size) m.2 av dv) :
    Calls Tryz.prog 79 #[.agg (mbC m av dv)] w fun e w' => e = .returned (.bool (mayT m)) ∧ Below w.heap.size w w' := by
  obtain ⟨p, nd⟩ := m
  obtain ⟨kind, mode, uid, gid, time, attrs, data, link⟩ := nd
  obtain ⟨sp, sl, sd, sa, sn, sk⟩ := hsm
  simp only at sp sl sd sa sn sk
  obtain ⟨ra, rd⟩ := hr
  simp only at ra rd
  have HCL := Keep.keep (fun wx => rclass_any p sp wx)
  obtain ⟨ad, cd, hdv, hd1, hd2, -⟩ := rd.shape
  obtain ⟨aa, ca, hav, ha1, ha2, ha3⟩ := ra.shape
  have HRA := Keep.keep ra; have HA3 := Keep.keep ha3; have HSN := Keep.keep sn
  unfold maxLen at ha2 hd2
  have HMT : Keep (mayT (p, ⟨kind, mode, uid, gid, time, attrs, data, link⟩) = (decide (¬ (classP p).1 = 0) && decide (1 ≤ kind ∧ kind ≤ 4) && decide (mode ≤ 4095) && mayA attrs && mayL link (decide (kind = 3)) && decide (data.length ≤ 16777216) && (decide (kind = 2) || decide (data.length = 0)))) := ⟨rfl⟩
  have HA16 : Keep (16 < attrs.length → mayA attrs = false) := ⟨fun h => by unfold mayA; rw [decide_eq_false (show ¬ attrs.length ≤ 16 by omega), Bool.and_false]⟩
  have HAOK : Keep ((∀ k, k < attrs.length → badA attrs k = false) → attrs.length ≤ 16 → mayA attrs = true) := ⟨fun h h16 => by rw [mayA_ok h]; exact decide_eq_true h16⟩
  have HABAD : Keep (∀ k, k < attrs.length → badA attrs k = true → mayA attrs = false) := ⟨fun k hk h => mayA_bad hk h⟩
  generalize mayT (p, ⟨kind, mode, uid, gid, time, attrs, data, link⟩) = mt at *
  clear ra rd ha3 sn
  generalize classP p = cp at *
  obtain ⟨cl, tg⟩ := cp
  generalize mayA attrs = ma at *
  unfold mbC strV
  simp only at HCL HMT ⊢
  subst hdv hav
  go_enter Tryz.func79, Tryz.ntmps79
  go_wp2_with fail
  refine calls_at (R := fun w1 => Hp NoM w w1 [rowA w.heap.size 32 #[.string ⟨p.toArray⟩, .int .i64 kind, .int .u32 mode, .int .u32 uid, .int .u32 gid, .int .i64 time, .slice aa attrs.length ca, .slice ad data.length cd, .string ⟨link.toArray⟩]]) ?_ ?_
  · exact (Hp.begin NoM w).newRow _ _
  intro w1 H1
  refine (HCL.out w1).mono ?_
  rintro e w2 ⟨rfl, hb2⟩
  have H2 := Keep.keep (H1.out.call hb2)
  have hrow := H2.out.row 0 rfl
  have c1 := hrow.cell (i := 1) rfl
  have c2 := hrow.cell (i := 2) rfl
  have c3 := hrow.cell (i := 3) rfl
  have c4 := hrow.cell (i := 4) rfl
  have c5 := hrow.cell (i := 5) rfl
  have c6 := hrow.cell (i := 6) rfl
  have c7 := hrow.cell (i := 7) rfl
  have c8 := hrow.cell (i := 8) rfl
  clear hrow hb2 H1
  go_upto_region 3 with fail
  refine wp_world (R := fun w3 => Hp NoM w w3 [rowA w.heap.size 32 #[.string ⟨p.toArray⟩, .int .i64 kind, .int .u32 mode, .int .u32 uid, .int .u32 gid, .int .i64 time, .slice aa attrs.length ca, .slice ad data.length cd, .string ⟨link.toArray⟩],
    rowA w2.heap.size 30 #[.int .i64 kind, .int .u32 mode, .int .u32 uid, .int .u32 gid, .int .i64 time, .slice aa attrs.length ca, .slice ad data.length cd, .string ⟨link.toArray⟩]]) ?_ ?_
  · exact H2.out.newRow _ _
  intro w3 H3
  clear c1 c2 c3 c4 c5 c6 c7 c8
  have hrow := H3.out.row 1 rfl
  generalize w2.heap.size = T at *
  have c0 := hrow.cell (i := 0) rfl
  have c1 := hrow.cell (i := 1) rfl
  have c5 := hrow.cell (i := 5) rfl
  have c6 := hrow.cell (i := 6) rfl
  have c7 := hrow.cell (i := 7) rfl
  clear hrow
  have HW : Keep (Below w.heap.size w w3) := ⟨H3.out.below⟩
  have HRA3 := Keep.keep (HRA.out.below H3.out.below (fun b hb => hb))
  clear H2 H3 HCL HRA
  obtain ⟨b0, hb0⟩ : ∃ b, (cl == 0) = b := ⟨_, rfl⟩
  have e0 : decide (¬ cl = 0) = !b0 := by rw [← hb0, Bool.eq_iff_iff]; simp
  obtain ⟨b1, hb1⟩ : ∃ b, decide (kind < 1) = b := ⟨_, rfl⟩
  obtain ⟨b2, hb2⟩ : ∃ b, decide (4 < kind) = b := ⟨_, rfl⟩
  have e1 : decide (1 ≤ kind ∧ kind ≤ 4) = (!b1 && !b2) := by rw [← hb1, ← hb2, Bool.eq_iff_iff]; simp
  obtain ⟨b3, hb3⟩ : ∃ b, decide (4095 < mode) = b := ⟨_, rfl⟩
  have e3 : decide (mode ≤ 4095) = !b3 := by rw [← hb3, Bool.eq_iff_iff]; simp
  obtain ⟨b4, hb4⟩ : ∃ b, decide (16 < attrs.length) = b := ⟨_, rfl⟩
  have hb4i : decide ((16 : Int) < (attrs.length : Int)) = b4 := by rw [← hb4, Bool.eq_iff_iff]; simp; omega
  rw [e0, e1, e3] at HMT
  have H4T : Keep (b4 = true → ma = false) := ⟨fun h => HA16.out (by rw [h] at hb4; exact of_decide_eq_true hb4)⟩
  have H4F : Keep (b4 = false → attrs.length ≤ 16) := ⟨fun h => by rw [h] at hb4; have := of_decide_eq_false hb4; omega⟩
  clear e0 e1 e3 hb4 HA16
  cases b0 with
  | true =>
    go_wp2_with fail
    go_ret
    exact ⟨by rw [HMT.out]; rfl, HW.out⟩
  | false =>
  cases b1 with
  | true =>
    go_wp2_with fail
    go_ret
    exact ⟨by rw [HMT.out]; rfl, HW.out⟩
  | false =>
  cases b2 with
  | true =>
    go_wp2_with fail
    go_ret
    exact ⟨by rw [HMT.out]; rfl, HW.out⟩
  | false =>
  cases b3 with
  | true =>
    go_wp2_with fail
    go_ret
    exact ⟨by rw [HMT.out]; rfl, HW.out⟩
  | false =>
  cases b4 with
  | true =>
    go_wp2_with fail
    go_ret
    exact ⟨by rw [HMT.out, H4T.out (by simp)]; rfl, HW.out⟩
  | false =>
  have HM2 : Keep (mt = (ma && mayL link (decide (kind = 3)) && decide (data.length ≤ 16777216) && (decide (kind = 2) || decide (data.length = 0)))) := ⟨by rw [HMT.out]; rfl⟩
  have H16 := Keep.keep (H4F.out (by simp))
  clear HMT H4T H4F
  go_wp2_with fail
  go_loopg [6, 7] attrs.length (fun g u6 _ wx => ∃ k : Nat, k + g = attrs.length ∧ u6 = .int .i64 (k : Int) ∧ (∀ j, j < k → badA attrs j = false) ∧ w3 = wx)
  case atStart => exact ⟨0, by omega, rfl, fun j hj => by omega, rfl⟩
  case round =>
    obtain ⟨k, hkg, rfl, hok, rfl⟩ := hrel
    have HOK := Keep.keep hok
    clear hok
    cases gk with
    | zero =>
      obtain rfl : k = attrs.length := by omega
      have hma : ma = true := HAOK.out HOK.out H16.out
      subst hma
      have h3 : (kind == 3) = decide (kind = 3) := by rw [Bool.eq_iff_iff]; simp
      have h3n : (kind != 3) = !decide (kind = 3) := by rw [Bool.eq_iff_iff]; simp
      obtain ⟨s3, hs3⟩ : ∃ s3, decide (kind = 3) = s3 := ⟨_, rfl⟩
      have hdl : decide ((data.length : Int) ≤ 16777216) = true := decide_eq_true (by omega)
      have hdn : decide (data.length ≤ 16777216) = true := decide_eq_true (by omega)
      have h2 : (kind == 2) = decide (kind = 2) := by rw [Bool.eq_iff_iff]; simp
      obtain ⟨s2, hs2⟩ : ∃ s2, decide (kind = 2) = s2 := ⟨_, rfl⟩
      have hz : ((data.length : Int) == 0) = decide (data.length = 0) := by rw [Bool.eq_iff_iff]; simp
      obtain ⟨z, hz2⟩ : ∃ z, decide (data.length = 0) = z := ⟨_, rfl⟩
      have hle : (link == []) = link.isEmpty := by cases link <;> rfl
      have hlen : (link != []) = !link.isEmpty := by cases link <;> rfl
      have HHL := Keep.keep (fun wx => hasb_any link sl 0 0 rfl wx)
      rw [hs3] at h3 h3n HM2
      rw [hs2] at h2 HM2
      rw [hz2] at hz HM2
      rw [hdn] at HM2
      have HML : Keep (mayL link s3 = if s3 then !link.isEmpty && decide (link.length ≤ 4096) && !decide ((0 : UInt8) ∈ link) else link.isEmpty) := ⟨by unfold mayL; rw [hlen, hle]⟩
      obtain ⟨ml, hml⟩ : ∃ ml, mayL link s3 = ml := ⟨_, rfl⟩
      rw [hml] at HML HM2
      obtain ⟨le, hlie⟩ : ∃ b, link.isEmpty = b := ⟨_, rfl⟩
      obtain ⟨hz0, hhz⟩ : ∃ b, decide ((0 : UInt8) ∈ link) = b := ⟨_, rfl⟩
      obtain ⟨b5, hb5⟩ : ∃ b, decide (link.length ≤ 4096) = b := ⟨_, rfl⟩
      have hb5i : decide ((4096 : Int) < (link.length : Int)) = !b5 := by rw [← hb5, Bool.eq_iff_iff]; simp; omega
      rw [hlie] at hle hlen
      rw [hlie, hhz, hb5] at HML
      simp only [hhz] at HHL
      clear hs3 hs2 hz2 hdn hml hhz hb5 HOK HAOK HABAD
      cases s3 with
      | false =>
        cases le with
        | false =>
          have HX : Keep (ml = false) := ⟨by rw [HML.out]; rfl⟩
          go_wp2_with fail
          go_ret
          exact ⟨by rw [HM2.out, HX.out]; rfl, HW.out⟩
        | true =>
          have HX : Keep (ml = true) := ⟨by rw [HML.out]; rfl⟩
          cases s2 <;> cases z
          all_goals
            go_wp2_with fail
            go_ret
            exact ⟨by rw [HM2.out, HX.out]; rfl, HW.out⟩
      | true =>
        cases le with
        | true =>
          have HX : Keep (ml = false) := ⟨by rw [HML.out]; rfl⟩
          go_wp2_with fail
          go_ret
          exact ⟨by rw [HM2.out, HX.out]; rfl, HW.out⟩
        | false =>
          cases b5 with
          | false =>
            have HX : Keep (ml = false) := ⟨by rw [HML.out]; rfl⟩
            go_wp2_with fail
            go_ret
            exact ⟨by rw [HM2.out, HX.out]; rfl, HW.out⟩
          | true =>
            go_wp2_with fail
            refine (HHL.out _).mono ?_
            rintro e w4 ⟨rfl, rfl⟩
            cases hz0 with
            | true =>
              have HX : Keep (ml = false) := ⟨by rw [HML.out]; rfl⟩
              go_wp2_with fail
              go_ret
              exact ⟨by rw [HM2.out, HX.out]; rfl, HW.out⟩
            | false =>
              have HX : Keep (ml = true) := ⟨by rw [HML.out]; rfl⟩
              cases s2 <;> cases z
              all_goals
                go_wp2_with fail
                go_ret
                exact ⟨by rw [HM2.out, HX.out]; rfl, HW.out⟩
    | succ g =>
      have hkl : k < attrs.length := by omega
      obtain ⟨b, off, rfl, hbl⟩ : ∃ b off, aa = some ⟨b, off, none⟩ ∧ b < w.heap.size := by
        rcases HA3.out with h | ⟨b, off, h, hb⟩
        · omega
        · exact ⟨b, off, h, hb⟩
      obtain ⟨z1, z2⟩ := attr_cells HRA3.out hkl
      have hsm := (HSN.out _ (List.getElem_mem hkl)).1
      obtain ⟨x, hx⟩ : ∃ x, attrs[k] = x := ⟨_, rfl⟩
      have HX : Keep (attrs[k]? = some x) := ⟨by rw [List.getElem?_eq_getElem hkl, hx]⟩
      rw [hx] at z1 z2 hsm
      have HBA : Keep (badA attrs k = ((x.1 == []) || decide (242 < x.1.length) || (decide ((0 : UInt8) ∈ x.1) || decide ((61 : UInt8) ∈ x.1) || decide ((10 : UInt8) ∈ x.1)) || (match k with | 0 => false | j + 1 => (match attrs[j]? with | some b => decide (x.1 ≤ b.1) | none => false)))) := ⟨by
        rw [← any_bad]; unfold badA; (rw [HX.out]) <;> rfl⟩
      have HBX : Keep (badA attrs k = true → ma = false) := ⟨HABAD.out k hkl⟩
      have HST : Keep (badA attrs k = false → ∀ j, j < k + 1 → badA attrs j = false) := ⟨fun h j hj => by
        rcases Nat.lt_succ_iff_lt_or_eq.1 hj with h' | rfl
        · exact HOK.out j h'
        · exact h⟩
      have HPREV : Keep (∀ j, k = j + 1 → ∃ y, attrs[j]? = some y ∧ w3.cell? ⟨b, off + j * 2, none⟩ = some (strV y.1)) := ⟨fun j hj => by
        have hjl : j < attrs.length := by omega
        obtain ⟨y1, -⟩ := attr_cells HRA3.out hjl
        exact ⟨attrs[j], List.getElem?_eq_getElem hjl, y1⟩⟩
      have HH0 := Keep.keep (fun wx => hasb_any x.1 hsm 0 0 rfl wx)
      have HH1 := Keep.keep (fun wx => hasb_any x.1 hsm 61 61 rfl wx)
      have HH2 := Keep.keep (fun wx => hasb_any x.1 hsm 10 10 rfl wx)
      clear hx HX z2 HAOK HABAD HOK
      obtain ⟨xn, xv⟩ := x
      unfold strV at z1
      dsimp only at z1 hsm HBA HH0 HH1 HH2
      have hbe : (xn == []) = xn.isEmpty := by cases xn <;> rfl
      obtain ⟨d0, hd0⟩ : ∃ b, xn.isEmpty = b := ⟨_, rfl⟩
      obtain ⟨d1, hd1⟩ : ∃ b, decide (242 < xn.length) = b := ⟨_, rfl⟩
      have hd1i : decide ((242 : Int) < (xn.length : Int)) = d1 := by rw [← hd1, Bool.eq_iff_iff]; simp; omega
      obtain ⟨d2, hd2⟩ : ∃ b, decide ((0 : UInt8) ∈ xn) = b := ⟨_, rfl⟩
      obtain ⟨d3, hd3⟩ : ∃ b, decide ((61 : UInt8) ∈ xn) = b := ⟨_, rfl⟩
      obtain ⟨d4, hd4⟩ : ∃ b, decide ((10 : UInt8) ∈ xn) = b := ⟨_, rfl⟩
      rw [hd0] at hbe
      simp only [hd2] at HH0
      simp only [hd3] at HH1
      simp only [hd4] at HH2
      rw [hd2, hd3, hd4, hd1, hbe] at HBA
      generalize badA attrs k = bad at *
      clear hd1 hd2 hd3 hd4
      cases d0 with
      | true =>
        have hma := HBX.out (by rw [HBA.out]; rfl)
        have HMA := Keep.keep hma
        clear hma
        go_wp2_with fail
        go_ret
        exact ⟨by rw [HM2.out, HMA.out]; rfl, HW.out⟩
      | false =>
      cases d1 with
      | true =>
        have HMA := Keep.keep (HBX.out (by rw [HBA.out]; rfl))
        go_wp2_with fail
        go_ret
        exact ⟨by rw [HM2.out, HMA.out]; rfl, HW.out⟩
      | false =>
      go_wp2_with fail
      refine (HH0.out _).mono ?_
      rintro e w4 ⟨rfl, rfl⟩
      cases d2 with
      | true =>
        have HMA := Keep.keep (HBX.out (by rw [HBA.out]; rfl))
        go_wp2_with fail
        go_ret
        exact ⟨by rw [HM2.out, HMA.out]; rfl, HW.out⟩
      | false =>
      go_wp2_with fail
      refine (HH1.out _).mono ?_
      rintro e w4 ⟨rfl, rfl⟩
      cases d3 with
      | true =>
        have HMA := Keep.keep (HBX.out (by rw [HBA.out]; rfl))
        go_wp2_with fail
        go_ret
        exact ⟨by rw [HM2.out, HMA.out]; rfl, HW.out⟩
      | false =>
      go_wp2_with fail
      refine (HH2.out _).mono ?_
      rintro e w4 ⟨rfl, rfl⟩
      cases d4 with
      | true =>
        have HMA := Keep.keep (HBX.out (by rw [HBA.out]; rfl))
        go_wp2_with fail
        go_ret
        exact ⟨by rw [HM2.out, HMA.out]; rfl, HW.out⟩
      | false =>
      cases k with
      | zero =>
        have HBF := Keep.keep (HST.out (by rw [HBA.out]; rfl))
        go_wp2_with fail
        go_roundg g
        case measure => omega
        case rel => exact ⟨1, by omega, by simp, HBF.out, rfl⟩
      | succ j =>
        obtain ⟨y, hy, hcy⟩ := HPREV.out j rfl
        obtain ⟨yn, yv⟩ := y
        have HBB : Keep (bad = decide (xn ≤ yn)) := ⟨by rw [HBA.out]; simp only [hy]; rfl⟩
        unfold strV at hcy
        dsimp only at hcy
        have hls := less_lt yn xn
        have hns : (!decide (yn < xn)) = decide (xn ≤ yn) := by rw [Bool.eq_iff_iff]; simp
        have hgt : decide (((j + 1 : Nat) : Int) > 0) = true := decide_eq_true (by omega)
        have hgt2 : decide ((0 : Int) < ((j + 1 : Nat) : Int)) = true := decide_eq_true (by omega)
        have hsub : (((j + 1 : Nat) : Int) - 1) = (j : Int) := by omega
        obtain ⟨d5, hd5⟩ : ∃ b, decide (yn < xn) = b := ⟨_, rfl⟩
        rw [hd5] at hls hns
        rw [← hns] at HBB
        clear hns hd5 hy
        cases d5 with
        | false =>
          have HMA := Keep.keep (HBX.out (by rw [HBB.out]; rfl))
          go_wp2_with fail
          go_ret
          exact ⟨by rw [HM2.out, HMA.out]; rfl, HW.out⟩
        | true =>
          have HBF := Keep.keep (HST.out (by rw [HBB.out]; rfl))
          go_wp2_with fail
          go_roundg g
          case measure => omega
          case rel => exact ⟨j + 1 + 1, by omega, by simp, HBF.out, rfl⟩
set_option maxHeartbeats 1000000 in
set_option maxRecDepth 100000 in
theorem rmay18_any (m : Mb) (av dv : Value) (hsm : Sm m) (w : World) (hr : NdR w (· < w.heap.size) m.2 av dv) :
    Calls Tryz.prog 112 #[.agg (mbC m av dv)] w fun e w' => e = .returned (.bool (mayM m)) ∧ Below w.heap.size w w' := by
  have HCL := Keep.keep (fun wx => rclass_any m.1 hsm.p wx)
  have HTM : Keep (∀ wx, Below w.heap.size w wx → Calls Tryz.prog 79 #[.agg (mbC m av dv)] wx fun e w' => e = .returned (.bool (mayT m)) ∧ Below wx.heap.size wx w') :=
    ⟨fun wx h => rmay12_any m av dv hsm wx ((hr.below h (fun b hb => hb)).mono (fun b hb => Nat.lt_of_lt_of_le hb h.size))⟩
  have HMM : Keep (mayM m = (decide ((classP m.1).1 = 1) && mayT m)) := ⟨rfl⟩
  obtain ⟨ad, cd, hdv, -⟩ := hr.dt.shape
  obtain ⟨aa, ca, hav, -⟩ := hr.at_.shape
  obtain ⟨p, nd⟩ := m
  obtain ⟨kind, mode, uid, gid, time, attrs, data, link⟩ := nd
  clear hr hsm
  simp only at hdv hav
  subst hdv hav
  have HMC : Keep (mbC (p, ⟨kind, mode, uid, gid, time, attrs, data, link⟩) (.slice aa attrs.length ca) (.slice ad data.length cd) = #[.string ⟨p.toArray⟩, .int .i64 kind, .int .u32 mode, .int .u32 uid, .int .u32 gid, .int .i64 time, .slice aa attrs.length ca, .slice ad data.length cd, .string ⟨link.toArray⟩]) := ⟨rfl⟩
  rw [HMC.out] at HTM ⊢
  generalize mayM (p, ⟨kind, mode, uid, gid, time, attrs, data, link⟩) = mm at *
  generalize mayT (p, ⟨kind, mode, uid, gid, time, attrs, data, link⟩) = mt at *
  dsimp only at HCL HMM
  generalize classP p = cp at *
  obtain ⟨cl, tg⟩ := cp
  dsimp only at HCL HMM
  go_enter Tryz.func112, Tryz.ntmps112
  go_wp2_with fail
  refine calls_at (R := fun w1 => Hp NoM w w1 [rowA w.heap.size 32 #[.string ⟨p.toArray⟩, .int .i64 kind, .int .u32 mode, .int .u32 uid, .int .u32 gid, .int .i64 time, .slice aa attrs.length ca, .slice ad data.length cd, .string ⟨link.toArray⟩]]) ?_ ?_
  · exact (Hp.begin NoM w).newRow _ _
  intro w1 H1
  refine (HCL.out w1).mono ?_
  rintro e w2 ⟨rfl, hb2⟩
  have H2 := Keep.keep (H1.out.call hb2)
  have HRW := Keep.keep (H2.out.row 0 rfl)
  have HSZ : Keep ((#[.string ⟨p.toArray⟩, .int .i64 kind, .int .u32 mode, .int .u32 uid, .int .u32 gid, .int .i64 time, .slice aa attrs.length ca, .slice ad data.length cd, .string ⟨link.toArray⟩] : Array Value).size = 9) := ⟨rfl⟩
  clear hb2 H1
  by_cases h1 : cl = 1
  · have hb1 : (cl == 1) = true := by rw [h1]; rfl
    have HX : Keep (mm = mt) := ⟨by rw [HMM.out, decide_eq_true h1]; rfl⟩
    clear h1
    go_wp2_with ((with_reducible refine arm_loadRowG ?_ HRW.out aggM HSZ.out ?_ ?_); (focus rfl); (focus rfl); simp only [Act.put, List.setIfInBounds_toArray, List.set_cons_succ, List.set_cons_zero])
    refine (HTM.out w2 H2.out.below).mono ?_
    rintro e w3 ⟨rfl, hb3⟩
    have H3 := Keep.keep (H2.out.call hb3)
    clear hb3
    go_wp2_with fail
    go_ret
    exact ⟨by (rw [HX.out]) <;> rfl, H3.out.below⟩
  · have hb1 : (cl == 1) = false := by simpa using h1
    have HX : Keep (mm = false) := ⟨by rw [HMM.out, decide_eq_false h1]; rfl⟩
    clear h1
    go_wp2_with fail
    go_ret
    exact ⟨by (rw [HX.out]) <;> rfl, H2.out.below⟩
end Go.Proofs.YtplafpokgpolkaaGreatDoor
/- portolanref18's tree, a sorted row of Members: how it lies; Place, dir, set. -/
namespace Go.Proofs.YtplafpokgpolkaaGreatDoor
open Go.RowKit
/-- block R is the document's tree: its row is v, which reads as l -/
structure RefIn (w : World) (R : Nat) (N : Nat → Prop) (v : Value) (l : List Mv) : Prop where
  row : Row w R 103 #[v]
  mbs : Mbs w N N v l
  srt : SM.Srt (l.map (·.1))
  sm : ∀ x ∈ l, Sm x.1
  ne : ¬ N R
theorem RefIn.loc {w w' : World} {R : Nat} {N : Nat → Prop} {v : Value} {l : List Mv} (h : RefIn w R N v l) (hb : ∀ b, b = R ∨ N b → w'.heap[b]? = w.heap[b]?) : RefIn w' R N v l :=
  ⟨by unfold Row; rw [hb R (.inl rfl)]; exact h.row, h.mbs.loc (fun b hb' => hb b (.inr hb')) (fun b hb' => hb b (.inr hb')), h.srt, h.sm, h.ne⟩
theorem RefIn.below {w w' : World} {R B : Nat} {N : Nat → Prop} {v : Value} {l : List Mv} (h : RefIn w R N v l) (hb : Below B w w') (hR : R < B) (hN : ∀ b, N b → b < B) : RefIn w' R N v l :=
  h.loc (fun b hb' => hb.block b (by rcases hb' with rfl | h; exact hR; exact hN b h))
theorem RefIn.mono {w : World} {R : Nat} {N N' : Nat → Prop} {v : Value} {l : List Mv} (h : RefIn w R N v l) (hN : ∀ b, N b → N' b) (hR : ¬ N' R) : RefIn w R N' v l := ⟨h.row, h.mbs.mono hN hN, h.srt, h.sm, hR⟩
/-- a part of a slice of Members -/
theorem is_len {l : List Mv} {p : Tx} (hs : SM.Srt (l.map (·.1))) (h : SM.plc (l.map (·.1)) p = l.length) : (SM.look (l.map (·.1)) p).isSome = false := by
  rw [← hs.is_at p, List.getElem?_eq_none (by rw [List.length_map]; omega)]
theorem is_here {l : List Mv} {p : Tx} (hs : SM.Srt (l.map (·.1))) {k : Nat} (hk : k < l.length) (h : SM.plc (l.map (·.1)) p = k) : (SM.look (l.map (·.1)) p).isSome = (l[k].1.1 == p) := by
  rw [← hs.is_at p, h, List.getElem?_eq_getElem (by rw [List.length_map]; exact hk)]
  simp
set_option maxHeartbeats 1000000 in
set_option maxRecDepth 100000 in
theorem place_any (R : Nat) (N : Nat → Prop) (v : Value) (l : List Mv) (w : World) (h : RefIn w R N v l) (p : Tx) :
    Calls Tryz.prog 139 #[.pointer (some ⟨R, 0, none⟩), .string ⟨p.toArray⟩] w fun e w' => e = .returned (.tuple #[.int .i64 (SM.plc (l.map (·.1)) p : Int), .bool (SM.look (l.map (·.1)) p).isSome]) ∧ Below w.heap.size w w' := by
  have c0 := h.row.cell (i := 0) rfl
  obtain ⟨a, cap, rfl, hcap, hmx, h3⟩ := h.mbs.rd.shape
  have HR := Keep.keep h.mbs; have H3 := Keep.keep h3; have HS := Keep.keep h.srt
  unfold maxLen at hmx
  have HIL := Keep.keep (fun e => is_len (l := l) (p := p) h.srt e)
  have HIH := Keep.keep (fun k hk e => is_here (l := l) (p := p) h.srt (k := k) hk e)
  have HPA := Keep.keep (fun k (hk : k ≤ l.length) (h1 : ∀ j, (hj : j < k) → (hl : j < l.length) → l[j].1.1 < p) (h2 : ∀ hl : k < l.length, ¬ l[k].1.1 < p) => h.srt.plc_at (p := p) (k := k) (by rw [List.length_map]; exact hk) (fun j hj hl => by have := h1 j hj (by simpa using hl); simpa using this) (fun hl => by have := h2 (by simpa using hl); simpa using this))
  clear h h3 HS
  generalize SM.plc (l.map (·.1)) p = pl at *
  generalize (SM.look (l.map (·.1)) p).isSome = is at *
  go_enter Tryz.func139, Tryz.ntmps139
  go_wp2_with fail
  go_loopg [6] l.length (fun g u6 wx => ∃ k : Nat, k + g = l.length ∧ u6 = .int .i64 (k : Int) ∧ (∀ j, (hj : j < k) → (hl : j < l.length) → l[j].1.1 < p) ∧ w = wx)
  case atStart => exact ⟨0, by omega, rfl, fun j hj => by omega, rfl⟩
  case round =>
    obtain ⟨k, hkg, rfl, hno, rfl⟩ := hrel
    have HNO := Keep.keep hno
    clear hno
    cases gk with
    | zero =>
      obtain rfl : k = l.length := by omega
      have HK : Keep (l.length = pl) := ⟨HPA.out l.length (Nat.le_refl _) (fun j hj hl => HNO.out j hj hl) (fun hl => by omega)⟩
      have HI : Keep (is = false) := ⟨HIL.out HK.out.symm⟩
      go_upto_region 4 with fail
      (refine wp_region_quiet_lit (by kernel_rfl) (by kernel_rfl) ?_); (repeat (first | (fail) | go_big_quiet_step (fail))); (refine wpQuiet_nil ?_); (intro _ hwq); (obtain ⟨nq, hwq⟩ := hwq); (subst hwq)
      go_wp2_with fail
      go_ret2
      exact ⟨by (rw [HI.out, ← HK.out]) <;> rfl, below_drewN' (Below.refl _ _) _⟩
    | succ g =>
      have hk : k < l.length := by omega
      obtain ⟨b, off, rfl, hbl⟩ : ∃ b off, a = some ⟨b, off, none⟩ ∧ N b := by
        rcases H3.out with h | ⟨b, off, h, hb⟩
        · omega
        · exact ⟨b, off, h, hb⟩
      have hc := HR.out.cell hk 0 (by omega) (u := strV l[k].1.1) rfl
      have hls := less_lt l[k].1.1 p
      have hd : decide ((k : Int) < (l.length : Int)) = true := decide_eq_true (by omega)
      have HST : Keep (l[k].1.1 < p → ∀ j, (hj : j < k + 1) → (hl : j < l.length) → l[j].1.1 < p) := ⟨fun he j hj hl => by
        rcases Nat.lt_succ_iff_lt_or_eq.1 hj with h | rfl
        · exact HNO.out j h hl
        · exact he⟩
      have HK : Keep (¬ l[k].1.1 < p → k = pl) := ⟨fun hh => HPA.out k (by omega) HNO.out (fun _ => hh)⟩
      have HI : Keep (k = pl → is = (l[k].1.1 == p)) := ⟨fun e => HIH.out k hk e.symm⟩
      generalize l[k].1.1 = xp at *
      unfold strV at hc
      rw [Nat.add_zero] at hc
      by_cases hlt : xp < p
      · rw [decide_eq_true hlt] at hls
        have HST2 := Keep.keep (HST.out hlt)
        clear hlt HK HI HST HIL HIH HPA
        go_wp2_with fail
        go_roundg g
        case measure => omega
        case rel => exact ⟨k + 1, by omega, by simp, HST2.out, rfl⟩
      · rw [decide_eq_false hlt] at hls
        have HK2 := Keep.keep (HK.out hlt)
        have HI2 := Keep.keep (HI.out HK2.out)
        clear hlt HK HI HST HIL HIH HPA HNO
        go_upto_region 4 with fail
        (refine wp_region_quiet_lit (by kernel_rfl) (by kernel_rfl) ?_); (repeat (first | (fail) | go_big_quiet_step (fail))); (refine wpQuiet_nil ?_); (intro _ hwq); (obtain ⟨nq, hwq⟩ := hwq); (subst hwq)
        go_wp2_with fail
        go_ret2
        exact ⟨by (rw [HI2.out, ← HK2.out]) <;> rfl, below_drewN' (Below.refl _ _) _⟩
set_option maxHeartbeats 1000000 in
set_option maxRecDepth 100000 in
theorem rdir_any (R : Nat) (N : Nat → Prop) (v : Value) (l : List Mv) (w : World) (h : RefIn w R N v l) (hR : R < w.heap.size) (hN : ∀ b, N b → b < w.heap.size) (p : Tx) :
    Calls Tryz.prog 114 #[.pointer (some ⟨R, 0, none⟩), .string ⟨p.toArray⟩] w fun e w' => e = .returned (.bool (dirT (l.map (·.1)) p)) ∧ Below w.heap.size w w' := by
  have HPL := Keep.keep (place_any R N v l w h p)
  have HON : Keep (∀ wx, Below w.heap.size w wx → RefIn wx R N v l) := ⟨fun wx hb => h.below hb hR hN⟩
  have hbe : (p == []) = p.isEmpty := by cases p <;> rfl
  obtain ⟨pe, hpe⟩ : ∃ b, p.isEmpty = b := ⟨_, rfl⟩
  have HD : Keep (dirT (l.map (·.1)) p = (pe || (match SM.look (l.map (·.1)) p with | some n => n.kind == 1 | none => false))) := ⟨by rw [← hpe]; rfl⟩
  rw [hpe] at hbe
  clear hpe
  cases pe with
  | true =>
    go_enter Tryz.func114, Tryz.ntmps114
    go_wp2_with fail
    go_ret
    exact ⟨by rw [HD.out]; rfl, Below.refl _ _⟩
  | false =>
    have HAT : Keep (∀ n, SM.look (l.map (·.1)) p = some n → ∃ hk : SM.plc (l.map (·.1)) p < l.length, (l[SM.plc (l.map (·.1)) p]'hk).1 = (p, n)) := ⟨fun n hl => by
      have := h.srt.at_some hl
      obtain ⟨hk, e⟩ := List.getElem?_eq_some_iff.1 this
      rw [List.length_map] at hk
      exact ⟨hk, by rw [List.getElem_map] at e; exact e⟩⟩
    obtain ⟨a, cap, rfl, hcap, hmx, h3⟩ := h.mbs.rd.shape
    have H3 := Keep.keep h3
    unfold maxLen at hmx
    clear h h3
    generalize SM.plc (l.map (·.1)) p = pl at *
    cases hl : SM.look (l.map (·.1)) p with
    | none =>
      rw [hl] at HD HPL
      have HX : Keep (dirT (l.map (·.1)) p = false) := ⟨HD.out⟩
      clear hl HAT
      go_enter Tryz.func114, Tryz.ntmps114
      go_wp2_with fail
      refine HPL.out.mono ?_
      rintro e w1 ⟨rfl, hb1⟩
      have HB1 := Keep.keep hb1
      clear hb1
      go_wp2_with fail
      go_ret
      exact ⟨by (rw [HX.out]) <;> rfl, HB1.out⟩
    | some n =>
      obtain ⟨hk, he⟩ := HAT.out n hl
      rw [hl] at HD HPL
      have HX : Keep (dirT (l.map (·.1)) p = (n.kind == 1)) := ⟨HD.out⟩
      obtain ⟨b, off, rfl, hbl⟩ : ∃ b off, a = some ⟨b, off, none⟩ ∧ N b := by
        rcases H3.out with h | ⟨b, off, h, hb⟩
        · omega
        · exact ⟨b, off, h, hb⟩
      have HCL : Keep (∀ wx, Below w.heap.size w wx → wx.cell? ⟨R, 0, none⟩ = some (.slice (some ⟨b, off, none⟩) l.length cap) ∧ wx.cell? ⟨b, off + pl * 9 + 1, none⟩ = some (.int .i64 n.kind)) := ⟨fun wx hb => by
        have hx := HON.out wx hb
        exact ⟨hx.row.cell (i := 0) rfl, by
          refine hx.mbs.cell hk 1 (by omega) ?_
          unfold mcell
          rw [he]; rfl⟩⟩
      clear hl he HAT HON HD
      go_enter Tryz.func114, Tryz.ntmps114
      go_wp2_with fail
      refine HPL.out.mono ?_
      rintro e w1 ⟨rfl, hb1⟩
      have HB1 := Keep.keep hb1
      obtain ⟨c0, c1⟩ := HCL.out w1 hb1
      clear hb1
      go_wp2_with fail
      go_ret
      exact ⟨by (rw [HX.out]) <;> rfl, HB1.out⟩
theorem Mbs.ofOwn {w : World} {base : Nat} {N : Nat → Prop} {v : Value} {l : List Mv} (ho : w.ownsRow base 32 9 v l.length (mcells l)) (hn : ∀ x ∈ l, NdR w N x.1.2 x.2.1 x.2.2) (hN : ∀ b, base ≤ b → b < w.heap.size → N b) : Mbs w N N v l :=
  ⟨(ownsV_reads ho).mono (fun b hb => hN b hb.1 hb.2.1), hn⟩
set_option maxHeartbeats 4000000 in
set_option maxRecDepth 100000 in
theorem rset_any (R : Nat) (N : Nat → Prop) (v : Value) (l : List Mv) (w : World) (h : RefIn w R N v l) (hR : R < w.heap.size) (hN : ∀ b, N b → b < w.heap.size) (m : Mb) (av dv : Value) (hs : Sm m) (hm : NdR w N m.2 av dv) (hl : l.length ≤ 100000) :
    Calls Tryz.prog 113 #[.pointer (some ⟨R, 0, none⟩), .agg (mbC m av dv)] w fun e w' => e = .returned (.tuple #[]) ∧ (∃ v' l', RefIn w' R (fun b => N b ∨ Fresh w.heap.size w' b) v' l' ∧ l'.map (·.1) = SM.put (l.map (·.1)) m) ∧ Chg (fun k => k = R) w.heap.size w w' := by
  have HON : Keep (∀ wx, Below w.heap.size w wx → RefIn wx R N v l) := ⟨fun wx hb => h.below hb hR hN⟩
  have HPL : Keep (∀ wx, Below w.heap.size w wx → Calls Tryz.prog 139 #[.pointer (some ⟨R, 0, none⟩), .string ⟨m.1.toArray⟩] wx fun e w' => e = .returned (.tuple #[.int .i64 (SM.plc (l.map (·.1)) m.1 : Int), .bool (SM.look (l.map (·.1)) m.1).isSome]) ∧ Below wx.heap.size wx w') := ⟨fun wx hb => place_any R N v l wx (HON.out wx hb) m.1⟩
  have HPE := Keep.keep (h.srt.put_eq m)
  have HSP := Keep.keep (h.srt.put m)
  have hple := SM.plc_le (l.map (·.1)) m.1
  rw [List.length_map] at hple
  have HSL : Keep ((SM.look (l.map (·.1)) m.1).isSome = true → SM.plc (l.map (·.1)) m.1 < l.length) := ⟨fun e => by
    obtain ⟨n, hn⟩ := Option.isSome_iff_exists.1 e
    obtain ⟨hk, -⟩ := List.getElem?_eq_some_iff.1 (h.srt.at_some hn)
    rw [List.length_map] at hk; exact hk⟩
  have HSM := Keep.keep h.sm; have HND := Keep.keep h.mbs.nd; have HM := Keep.keep hm; have HS := Keep.keep hs; have HNE := Keep.keep h.ne; have HNN := Keep.keep hN
  obtain ⟨a, cap, hv, hcap, hmx, -⟩ := h.mbs.rd.shape
  obtain ⟨aa, la, ca, ad, ld, cd, e1, e2⟩ := hm.shape
  unfold maxLen at hmx
  subst e1 e2 hv
  have hone := mcells_one (l := [((m, .slice aa la ca, .slice ad ld cd) : Mv)]) (fun x hx => by
    have hx : x = (m, .slice aa la ca, .slice ad ld cd) := by simpa using hx
    subst hx
    exact ⟨_, _, _, _, _, _, rfl, rfl⟩)
  have HONE := Keep.keep hone
  have HMC : Keep (mbC m (.slice aa la ca) (.slice ad ld cd) = #[.string ⟨m.1.toArray⟩, .int .i64 m.2.kind, .int .u32 m.2.mode, .int .u32 m.2.uid, .int .u32 m.2.gid, .int .i64 m.2.time, .slice aa la ca, .slice ad ld cd, .string ⟨m.2.link.toArray⟩]) := ⟨rfl⟩
  have HMCL : Keep (mcells [((m, .slice aa la ca, .slice ad ld cd) : Mv)] = [.string ⟨m.1.toArray⟩, .int .i64 m.2.kind, .int .u32 m.2.mode, .int .u32 m.2.uid, .int .u32 m.2.gid, .int .i64 m.2.time, .slice aa la ca, .slice ad ld cd, .string ⟨m.2.link.toArray⟩]) := ⟨rfl⟩
  rw [HMC.out]
  generalize SM.plc (l.map (·.1)) m.1 = pl at *
  generalize (SM.look (l.map (·.1)) m.1).isSome = is at *
  clear h hm hs hN hone
  go_enter Tryz.func113, Tryz.ntmps113
  go_wp2_with fail
  refine calls_at (R := fun w1 => Hp NoM w w1 [rowA w.heap.size 32 #[.string ⟨m.1.toArray⟩, .int .i64 m.2.kind, .int .u32 m.2.mode, .int .u32 m.2.uid, .int .u32 m.2.gid, .int .i64 m.2.time, .slice aa la ca, .slice ad ld cd, .string ⟨m.2.link.toArray⟩]]) ((Hp.begin NoM w).newRow _ _) ?_
  intro w1 H1
  refine (HPL.out w1 H1.out.below).mono ?_
  rintro e w2 ⟨rfl, hb2⟩
  have H2 := Keep.keep (((H1.out.call hb2)).nilS w.heap.size 32 9)
  have c0 := (HON.out w2 H2.out.below).row.cell (i := 0) rfl
  have hsl := fun wx => slice_mto a l.length cap pl .i64 (by omega) wx
  have HRD := Keep.keep ((HON.out w2 H2.out.below).mbs.take pl hple)
  clear hb2 H1 HPL
  go_wp2_with (with_reducible refine arm_stop ?_)
  refine Stopped.out ?_
  refine arm_appendV slMbF (m := (l.take pl).length) (H2.out.sl 1 rfl) (HRD.out.rd) HRD.out.one (by unfold maxLen; rw [List.length_take]; omega) (by rw [List.length_take]; omega) H2.out.size rfl rfl ?_
  intro v3 w3 ho hg hov _
  have hlt : (l.take pl).length = pl := by rw [List.length_take]; omega
  rw [hlt, Nat.zero_add, List.nil_append] at ho
  have H3 := Keep.keep (H2.out.grow 1 rfl hg ho hov)
  obtain ⟨a3, c3, rfl, -⟩ := (ownsV_reads ho).shape
  clear ho hg hov H2 c0 hsl HRD
  simp only [Act.put, List.setIfInBounds_toArray, List.set_cons_succ, List.set_cons_zero]
  have HRW := Keep.keep (H3.out.row 0 rfl)
  have HSZ : Keep ((#[.string ⟨m.1.toArray⟩, .int .i64 m.2.kind, .int .u32 m.2.mode, .int .u32 m.2.uid, .int .u32 m.2.gid, .int .i64 m.2.time, .slice aa la ca, .slice ad ld cd, .string ⟨m.2.link.toArray⟩] : Array Value).size = 9) := ⟨rfl⟩
  go_wp2_with (first
    | ((with_reducible refine arm_loadRow HRW.out aggM HSZ.out ?_ ?_); (focus rfl); simp only [Act.put, List.setIfInBounds_toArray, List.set_cons_succ, List.set_cons_zero])
    | (with_reducible refine arm_stop ?_))
  refine Stopped.out ?_
  refine arm_appendV slMbF ((H3.out.alloc _).sl 1 rfl) (RdV.new (N := fun _ => True) 32 [.string ⟨m.1.toArray⟩, .int .i64 m.2.kind, .int .u32 m.2.mode, .int .u32 m.2.uid, .int .u32 m.2.gid, .int .i64 m.2.time, .slice aa la ca, .slice ad ld cd, .string ⟨m.2.link.toArray⟩] 9 1 _ rfl rfl (by unfold maxLen; omega) trivial) (by simp [Value.oneCell']) (by unfold maxLen; omega) (by omega) (H3.out.alloc _).size rfl rfl ?_
  intro v4 w4 ho hg hov _
  have hcl : mcells (l.take pl) ++ [.string ⟨m.1.toArray⟩, .int .i64 m.2.kind, .int .u32 m.2.mode, .int .u32 m.2.uid, .int .u32 m.2.gid, .int .i64 m.2.time, .slice aa la ca, .slice ad ld cd, .string ⟨m.2.link.toArray⟩] = mcells (l.take pl ++ [((m, .slice aa la ca, .slice ad ld cd) : Mv)]) := by rw [mcells_append, HMCL.out]
  rw [hcl] at ho
  have H4 := Keep.keep ((H3.out.alloc _).grow 1 rfl hg ho hov)
  obtain ⟨a4, c4, rfl, -⟩ := (ownsV_reads ho).shape
  clear ho hg hov H3 HRW hcl
  simp only [Act.put, List.setIfInBounds_toArray, List.set_cons_succ, List.set_cons_zero]
  have HFIN : Keep (∀ (q n5 : Nat) w5 v5 (l5 : List Mv), l5.length = n5 → l5 = l.take pl ++ [((m, .slice aa la ca, .slice ad ld cd) : Mv)] ++ l.drop q → q = (if is then pl + 1 else pl) → Hp NoM w w5 [rowA w.heap.size 32 #[.string ⟨m.1.toArray⟩, .int .i64 m.2.kind, .int .u32 m.2.mode, .int .u32 m.2.uid, .int .u32 m.2.gid, .int .i64 m.2.time, .slice aa la ca, .slice ad ld cd, .string ⟨m.2.link.toArray⟩], slA w.heap.size 32 9 v5 n5 (mcells l5)] → v5.oneCell' = true →
      (∃ v' l', RefIn (w5.setCell ⟨R, 0, none⟩ v5) R (fun b => N b ∨ Fresh w.heap.size (w5.setCell ⟨R, 0, none⟩ v5) b) v' l' ∧ l'.map (·.1) = SM.put (l.map (·.1)) m) ∧ Chg (fun k => k = R) w.heap.size w (w5.setCell ⟨R, 0, none⟩ v5)) := ⟨fun q n5 w5 v5 l5 hln hl5 hq H5 hv5 => by
    subst hln
    have hmap : l5.map (·.1) = SM.put (l.map (·.1)) m := by
      rw [HPE.out, hl5, hq]
      simp [List.map_take, List.map_drop]
    have hb5 := H5.below
    have hmem : ∀ x ∈ l5, x ∈ l ∨ x = ((m, .slice aa la ca, .slice ad ld cd) : Mv) := fun x hx => by
      rw [hl5] at hx
      rcases List.mem_append.1 hx with hx | hx
      · rcases List.mem_append.1 hx with hx | hx
        · exact .inl (List.mem_of_mem_take hx)
        · exact .inr (by simpa using hx)
      · exact .inl (List.mem_of_mem_drop hx)
    have hsz : (w5.setCell ⟨R, 0, none⟩ v5).heap.size = w5.heap.size := by simp [World.setCell]
    have hle := H5.size
    have hoth : ∀ b, b ≠ R → (w5.setCell ⟨R, 0, none⟩ v5).heap[b]? = w5.heap[b]? := fun b hb => heap_setCell_other w5 ⟨R, 0, none⟩ b v5 hb
    have hnd : ∀ x ∈ l5, NdR (w5.setCell ⟨R, 0, none⟩ v5) (fun b => N b ∨ Fresh w.heap.size (w5.setCell ⟨R, 0, none⟩ v5) b) x.1.2 x.2.1 x.2.2 := fun x hx => by
      have h0 : NdR w N x.1.2 x.2.1 x.2.2 := by
        rcases hmem x hx with hx | rfl
        · exact HND.out x hx
        · exact HM.out
      exact ((h0.below hb5 HNN.out).loc (fun b hb => hoth b (fun e => HNE.out (e ▸ hb)))).mono (fun b hb => .inl hb)
    have ho := H5.sl 1 rfl
    have hr5 : RdV (w5.setCell ⟨R, 0, none⟩ v5) (fun b => N b ∨ Fresh w.heap.size (w5.setCell ⟨R, 0, none⟩ v5) b) 9 v5 l5.length (mcells l5) :=
      ((ownsV_reads ho).loc (fun b hb => hoth b (by have := hb.1; omega))).mono (fun b hb => .inr ⟨hb.1, by rw [hsz]; exact hb.2.1⟩)
    refine ⟨⟨v5, l5, ⟨?_, ⟨hr5, hnd⟩, by rw [hmap]; exact HSP.out, fun x hx => ?_, fun h => ?_⟩, hmap⟩, (Chg.of_below hb5).setCell (M := fun k => k = R) (p := ⟨R, 0, none⟩) (.inr rfl) _⟩
    · exact ((HON.out w5 hb5).row).set' 0 v5 rfl
    · rcases hmem x hx with hx | rfl
      · exact HSM.out x hx
      · exact HS.out
    · rcases h with h | h
      · exact HNE.out h
      · have := h.1; omega⟩
  have c0 := (HON.out w4 H4.out.below).row.cell (i := 0) rfl
  have f0 := (HON.out w4 H4.out.below).row.frozen 0
  cases is with
  | true =>
    have hpl := HSL.out rfl
    obtain ⟨a6, hsl, hrd⟩ := slice_mfrom a l.length cap (pl + 1) .i64 (by omega) hcap
    have HRD := Keep.keep (hrd _ _ _ _ (HON.out w4 H4.out.below).mbs)
    clear hrd
    have hpi : (((pl + 1 : Nat)) : Int) = (pl : Int) + 1 := by omega
    simp only [hpi] at hsl
    go_wp2_with (with_reducible refine arm_stop ?_)
    refine Stopped.out ?_
    refine arm_appendV slMbF (m := l.length - (pl + 1)) (H4.out.sl 1 rfl) (by have := HRD.out.rd; rw [List.length_drop] at this; exact this) HRD.out.one (by unfold maxLen; omega) (by omega) H4.out.size rfl rfl ?_
    intro v5 w5 ho hg hov _
    obtain ⟨n5, hn5⟩ : ∃ n5, pl + 1 + (l.length - (pl + 1)) = n5 := ⟨_, rfl⟩
    have hlen5 : (l.take pl ++ [((m, .slice aa la ca, .slice ad ld cd) : Mv)] ++ l.drop (pl + 1)).length = n5 := by rw [← hn5]; simp; omega
    rw [← mcells_append, hn5] at ho
    have H5 := Keep.keep (H4.out.grow 1 rfl hg ho hov)
    obtain ⟨a5, c5, rfl, -⟩ := (ownsV_reads ho).shape
    have HE := Keep.keep (HFIN.out (pl + 1) n5 w5 _ _ hlen5 rfl rfl H5.out rfl)
    have c1 := (HON.out w5 H5.out.below).row.cell (i := 0) rfl
    have f1 := (HON.out w5 H5.out.below).row.frozen 0
    clear ho hg hov H4 c0 f0 hsl HRD HFIN
    simp only [Act.put, List.setIfInBounds_toArray, List.set_cons_succ, List.set_cons_zero]
    go_wp2_with fail
    go_end0
    exact ⟨rfl, HE.out⟩
  | false =>
    obtain ⟨a6, hsl, hrd⟩ := slice_mfrom a l.length cap pl .i64 (by omega) hcap
    have HRD := Keep.keep (hrd _ _ _ _ (HON.out w4 H4.out.below).mbs)
    clear hrd
    go_wp2_with (with_reducible refine arm_stop ?_)
    refine Stopped.out ?_
    refine arm_appendV slMbF (m := l.length - pl) (H4.out.sl 1 rfl) (by have := HRD.out.rd; rw [List.length_drop] at this; exact this) HRD.out.one (by unfold maxLen; omega) (by omega) H4.out.size rfl rfl ?_
    intro v5 w5 ho hg hov _
    obtain ⟨n5, hn5⟩ : ∃ n5, pl + 1 + (l.length - pl) = n5 := ⟨_, rfl⟩
    have hlen5 : (l.take pl ++ [((m, .slice aa la ca, .slice ad ld cd) : Mv)] ++ l.drop pl).length = n5 := by rw [← hn5]; simp; omega
    rw [← mcells_append, hn5] at ho
    have H5 := Keep.keep (H4.out.grow 1 rfl hg ho hov)
    obtain ⟨a5, c5, rfl, -⟩ := (ownsV_reads ho).shape
    have HE := Keep.keep (HFIN.out pl n5 w5 _ _ hlen5 rfl rfl H5.out rfl)
    have c1 := (HON.out w5 H5.out.below).row.cell (i := 0) rfl
    have f1 := (HON.out w5 H5.out.below).row.frozen 0
    clear ho hg hov H4 c0 f0 hsl HRD HFIN
    simp only [Act.put, List.setIfInBounds_toArray, List.set_cons_succ, List.set_cons_zero]
    go_wp2_with fail
    go_end0
    exact ⟨rfl, HE.out⟩
end Go.Proofs.YtplafpokgpolkaaGreatDoor
/- portolanref18's tree: clear, Put, Remove. -/
namespace Go.Proofs.YtplafpokgpolkaaGreatDoor
open Go.RowKit
/-- the document's tree behind a call: what it leads to is old, or new -/
def RefTo (w w' : World) (R : Nat) (N : Nat → Prop) (L : List Mb) : Prop := ∃ v' l', RefIn w' R (fun b => N b ∨ Fresh w.heap.size w' b) v' l' ∧ l'.map (·.1) = L
theorem RefTo.of {w w' : World} {R : Nat} {N : Nat → Prop} {v : Value} {l : List Mv} (h : RefIn w R N v l) (hR : R < w.heap.size) (hN : ∀ b, N b → b < w.heap.size) (hb : Below w.heap.size w w') : RefTo w w' R N (l.map (·.1)) :=
  ⟨v, l, (h.below hb hR hN).mono (fun b hb => .inl hb) (fun e => by
    rcases e with e | e
    · exact h.ne e
    · have := e.1; omega), rfl⟩
/-- upon a tree that the call itself left there -/
theorem RefTo.trans {w w1 w' : World} {R : Nat} {N : Nat → Prop} {L : List Mb} (h : RefTo w1 w' R (fun b => N b ∨ Fresh w.heap.size w1 b) L) (h1 : w.heap.size ≤ w1.heap.size) (h2 : w1.heap.size ≤ w'.heap.size) (hR : R < w.heap.size) (hNR : ¬ N R) : RefTo w w' R N L := by
  obtain ⟨v', l', h, e⟩ := h
  refine ⟨v', l', h.mono (fun b hb => ?_) (fun e => ?_), e⟩
  · rcases hb with (hb | hb) | hb
    · exact .inl hb
    · exact .inr ⟨hb.1, by have := hb.2; omega⟩
    · exact .inr ⟨by have := hb.1; omega, hb.2⟩
  · rcases e with e | e
    · exact hNR e
    · have := e.1; omega
end Go.Proofs.YtplafpokgpolkaaGreatDoor
