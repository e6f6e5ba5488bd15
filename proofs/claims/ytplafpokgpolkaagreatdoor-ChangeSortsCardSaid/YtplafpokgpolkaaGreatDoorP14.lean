/- PARTS OF ONE PROOF, set in one file: PathRef2, PathCleanL, PathRef3, PathRef4, RPlain, AttrEq, SpcF, Conv, Bytes, NodeSame. Each part tells its own conditions. -/
import Derived.Lib.Replace
import Derived.Shelf.Bytes.SlEqualAll
import Derived.Lib.SlBytesConst
import Derived.Lib.SmallJoins
import Derived.Test.YtplafpokgpolkaaGreatDoorP1
import Derived.Test.YtplafpokgpolkaaGreatDoorP2
import Derived.Test.YtplafpokgpolkaaGreatDoorP4
import Derived.Test.YtplafpokgpolkaaGreatDoorP5
import Derived.Test.YtplafpokgpolkaaGreatDoorP6
import Derived.Test.YtplafpokgpolkaaGreatDoorP10
import Derived.Test.YtplafpokgpolkaaGreatDoorP11
import Derived.Test.YtplafpokgpolkaaGreatDoorP13
/- portolanref11: May, Join, cut, Parent, Base, Above, Under. -/
namespace Go.Proofs.YtplafpokgpolkaaGreatDoor
open Go.RowKit
theorem mayP_eq (p : List UInt8) : mayP p = ((splitP p).all mayN && (decide ((splitP p).length ≤ 254) && decide (p.length ≤ 4080))) := by
  unfold mayP
  have h : decide ((splitP p).length < 255) = decide ((splitP p).length ≤ 254) := by simp only [decide_eq_decide]; omega
  rw [h]
  cases (splitP p).all mayN <;> cases decide ((splitP p).length ≤ 254) <;> cases decide (p.length ≤ 4080) <;> rfl
set_option maxHeartbeats 1000000 in
set_option maxRecDepth 100000 in
theorem rmay_any (p : List UInt8) (hp : p.length ≤ 1000000) (w : World) : Calls Tryz.prog 111 #[.string ⟨p.toArray⟩] w fun e w' => e = .returned (.bool (mayP p)) ∧ Below w.heap.size w w' := by
  have HS := Keep.keep (rsplit_any p hp w)
  have HM : Keep (∀ x ∈ splitP p, ∀ w, Calls Tryz.prog 108 #[.string ⟨x.toArray⟩] w fun e w' => e = .returned (.bool (mayN x)) ∧ w = w') := ⟨fun x hx w => rmayname_any x (Nat.le_trans (splitP_mem_len p x hx) hp) w⟩
  have hln : (splitP p).length ≤ 1000001 := by
    have := spl_length p
    unfold splitP; split
    · simp
    · omega
  have hq1 : decide ((p.length : Int) ≤ 4080) = decide (p.length ≤ 4080) := by simp only [decide_eq_decide]; omega
  have HE : Keep (mayP p = ((splitP p).all mayN && (decide ((splitP p).length ≤ 254) && decide (p.length ≤ 4080)))) := ⟨mayP_eq p⟩
  generalize mayP p = out at *
  generalize decide (p.length ≤ 4080) = b1 at *
  generalize splitP p = l at *
  go_enter Tryz.func111, Tryz.ntmps111
  go_wp2_with fail
  refine HS.out.mono ?_
  rintro e w1 ⟨v, rfl, ho, hb⟩
  have HR := Keep.keep ((ownsV_reads ho).mono (N' := (· < w1.heap.size)) (fun b hb => hb.2.1)); have HB := Keep.keep hb
  obtain ⟨a, c, rfl, hcap, -, h3⟩ := (ownsV_reads ho).shape
  have H3 := Keep.keep h3
  clear ho hb h3
  go_wp2_with fail
  go_loopg [4] l.length (fun g u4 wx => ∃ k : Nat, k + g = l.length ∧ u4 = .int .i64 (k : Int) ∧ (l.take k).all mayN = true ∧ w1 = wx)
  case atStart => exact ⟨0, by omega, rfl, rfl, rfl⟩
  case round =>
    obtain ⟨k, hkg, rfl, hal, rfl⟩ := hrel
    have HAL := Keep.keep hal
    clear hal
    cases gk with
    | zero =>
      obtain rfl : k = l.length := by omega
      have HAL2 : Keep (l.all mayN = true) := ⟨by have := HAL.out; rwa [List.take_length] at this⟩
      rw [HAL2.out] at HE
      have hq2 : decide ((l.length : Int) ≤ 254) = decide (l.length ≤ 254) := by simp only [decide_eq_decide]; omega
      generalize decide (l.length ≤ 254) = b2 at *
      cases b2 with
      | false =>
        go_wp2_with fail
        go_ret
        exact ⟨by rw [HE.out]; rfl, HB.out⟩
      | true =>
        go_wp2_with fail
        go_ret
        exact ⟨by rw [HE.out]; rfl, HB.out⟩
    | succ g =>
      have hk : k < l.length := by omega
      rcases H3.out with ⟨_, h3⟩ | ⟨b, off, rfl, hbl⟩
      · omega
      have hcell := HR.out.cell b off _ _ rfl k (strV l[k]) (by simp [hk])
      have HMN := Keep.keep (HM.out l[k] (List.getElem_mem hk))
      have HT : Keep ((l.take (k + 1)).all mayN = mayN l[k]) := ⟨by
        rw [List.take_succ_eq_append_getElem hk, List.all_append, HAL.out]; simp⟩
      have HF : Keep (mayN l[k] = false → out = false) := ⟨fun h => by
        rw [HE.out]
        have : l.all mayN = false := List.all_eq_false.2 ⟨_, List.getElem_mem hk, by rw [h]; decide⟩
        rw [this]; rfl⟩
      generalize l[k] = x at *
      unfold strV at hcell
      cases hm : mayN x with
      | false =>
        rw [hm] at HMN
        have HX := Keep.keep (HF.out hm)
        clear hm
        go_wp2_with fail
        refine (HMN.out _).mono ?_
        rintro e w' ⟨rfl, rfl⟩
        go_wp2_with fail
        go_ret
        exact ⟨by rw [HX.out]; rfl, HB.out⟩
      | true =>
        rw [hm] at HMN HT
        clear hm
        go_wp2_with fail
        refine (HMN.out _).mono ?_
        rintro e w' ⟨rfl, rfl⟩
        go_wp2_with fail
        go_roundg g
        case measure => omega
        case rel => exact ⟨k + 1, by omega, by simp, HT.out, rfl⟩
theorem joinS_app_len (a b : List (List UInt8)) : (joinS a).length ≤ (joinS (a ++ b)).length := by
  have := joinS_take_len (a ++ b) a.length
  rwa [List.take_left'] at this
  rfl
theorem flt_app_len (l : List (List UInt8)) (k : Nat) : (joinS (flt (l.take k))).length ≤ (joinP l).length := by
  have h : flt l = flt (l.take k) ++ flt (l.drop k) := by unfold flt; rw [← List.filter_append, List.take_append_drop]
  unfold joinP
  rw [show (l.filter fun x => !x.isEmpty) = flt l from rfl, h]
  exact joinS_app_len _ _
theorem joinS_flt_nil {l : List (List UInt8)} (hl : ∀ x ∈ l, x ≠ []) (h : joinS l = []) : l = [] := by
  cases l with
  | nil => rfl
  | cons x r =>
    exfalso
    cases r with
    | nil => exact hl x (by simp) h
    | cons y r =>
      rw [joinS] at h
      simp at h
theorem joinS_flt_snoc {l : List (List UInt8)} (hl : ∀ x ∈ l, x ≠ []) (x : List UInt8) : joinS (l ++ [x]) = if (joinS l).isEmpty then x else joinS l ++ [47] ++ x := by
  cases he : (joinS l).isEmpty with
  | true =>
    rw [joinS_flt_nil hl (List.isEmpty_iff.1 he)]; rfl
  | false =>
    have : l ≠ [] := fun e => by rw [e] at he; cases he
    rw [joinS_snoc _ _ this]; simp
theorem flt_ne (l : List (List UInt8)) : ∀ x ∈ flt l, x ≠ [] := fun x hx => by
  have := (List.mem_filter.1 hx).2
  cases x with
  | nil => cases this
  | cons c r => simp
set_option maxHeartbeats 2000000 in
set_option maxRecDepth 100000 in
theorem rjoin_any (v : Value) (l : List (List UInt8)) (w : World) (hr : RdS w (· < w.heap.size) v l) (hn : l.length ≤ 1000000000) (hj : (joinP l).length ≤ 1000000000) :
    Calls Tryz.prog 109 #[v] w fun e w' => e = .returned (.string ⟨(joinP l).toArray⟩) ∧ w = w' := by
  obtain ⟨a, cap, rfl, hcap, hmx, h3⟩ := hr.shape
  have HR := Keep.keep hr; have H3 := Keep.keep h3
  unfold maxLen at hmx
  clear hr h3
  have HPL := Keep.keep (fun k => flt_app_len l k)
  have HJ : Keep (joinP l = joinS (flt l)) := ⟨rfl⟩
  generalize joinP l = out at *
  go_enter Tryz.func109, Tryz.ntmps109
  go_wp2_with fail
  go_loopg [3, 4] l.length (fun g u3 u4 wx => ∃ k : Nat, k + g = l.length ∧ u4 = .int .i64 (k : Int) ∧ u3 = .string ⟨(joinS (flt (l.take k))).toArray⟩ ∧ w = wx)
  case atStart => exact ⟨0, by omega, rfl, rfl, rfl⟩
  case round =>
    obtain ⟨k, hkg, rfl, rfl, rfl⟩ := hrel
    cases gk with
    | zero =>
      obtain rfl : k = l.length := by omega
      have HO : Keep (joinS (flt (l.take l.length)) = out) := ⟨by rw [List.take_length, HJ.out]⟩
      generalize joinS (flt (l.take l.length)) = r at *
      go_wp2_with fail
      go_ret
      exact ⟨by rw [HO.out]; rfl, rfl⟩
    | succ g =>
      have hk : k < l.length := by omega
      rcases H3.out with ⟨_, h3⟩ | ⟨b, off, rfl, hbl⟩
      · omega
      have hcell := HR.out.cell b off _ _ rfl k (strV l[k]) (by simp [hk])
      have hft := flt_take hk
      have hnx := HPL.out (k + 1)
      have heq := bne_nil l[k]
      cases hem : l[k].isEmpty with
      | true =>
        rw [hem] at hft heq
        rw [if_pos rfl] at hft
        have HFT := Keep.keep (congrArg joinS hft)
        clear hft hem hnx
        generalize l[k] = x at *
        generalize joinS (flt (l.take k)) = r at *
        unfold strV at hcell
        go_wp2_with fail
        go_roundg g
        case measure => omega
        case rel => exact ⟨k + 1, by omega, by simp, by rw [HFT.out], rfl⟩
      | false =>
        rw [hem] at hft heq
        rw [if_neg (by decide)] at hft
        have hjs := congrArg joinS hft
        rw [joinS_flt_snoc (flt_ne _)] at hjs
        have hbr := bne_nil (joinS (flt (l.take k)))
        clear hft hem
        generalize l[k] = x at *
        obtain ⟨r2, hr2⟩ : ∃ r, joinS (flt (l.take (k + 1))) = r := ⟨_, rfl⟩
        rw [hr2] at hjs hnx
        have HR2 := Keep.keep hr2
        clear hr2
        generalize joinS (flt (l.take k)) = r at *
        unfold strV at hcell
        cases her : r.isEmpty with
        | true =>
          rw [her, if_pos rfl] at hjs
          rw [her] at hbr
          have hre : r = [] := List.isEmpty_iff.1 her
          have hcat := run_cat (P := Tryz.prog) r x (by rw [hre]; simp; rw [← hjs]; omega)
          rw [show r ++ x = r2 by rw [hre, hjs]; rfl] at hcat
          have HJS := Keep.keep hjs
          clear hre her hnx hjs
          go_wp2_with fail
          go_roundg g
          case measure => omega
          case rel => exact ⟨k + 1, by omega, by simp, by rw [HR2.out, HJS.out], rfl⟩
        | false =>
          rw [her, if_neg (by decide)] at hjs
          rw [her] at hbr
          have hlen : r2.length = r.length + 1 + x.length := by rw [hjs]; simp; omega
          have hcat1 := run_cat (P := Tryz.prog) r [47] (by simp; omega)
          have hcat := run_cat (P := Tryz.prog) (r ++ [47]) x (by simp; omega)
          rw [← hjs] at hcat
          generalize r ++ [47] = r1 at *
          clear her hjs hlen hnx
          go_wp2_with fail
          go_roundg g
          case measure => omega
          case rel => exact ⟨k + 1, by omega, by simp, by rw [HR2.out], rfl⟩
set_option maxHeartbeats 1000000 in
theorem rcut_any (p : List UInt8) (hp : p.length ≤ 1000000) (w : World) : Calls Tryz.prog 140 #[.string ⟨p.toArray⟩] w fun e w' => e = .returned (.int .i64 ((cutAt p : Int) - 1)) ∧ w = w' := by
  go_enter Tryz.func140, Tryz.ntmps140
  go_wp2_with fail
  go_loopg [3, 4] p.length (fun g u3 u4 wx => ∃ k : Nat, k + g = p.length ∧ u4 = .int .i64 (k : Int) ∧ u3 = .int .i64 ((cutAt (p.take k) : Int) - 1) ∧ w = wx)
  case atStart => exact ⟨0, by omega, rfl, rfl, rfl⟩
  case round =>
    obtain ⟨k, hkg, rfl, rfl, rfl⟩ := hrel
    cases gk with
    | zero =>
      obtain rfl : k = p.length := by omega
      have HO : Keep ((cutAt (p.take p.length) : Int) - 1 = (cutAt p : Int) - 1) := ⟨by rw [List.take_length]⟩
      generalize (cutAt (p.take p.length) : Int) - 1 = r at *
      go_wp2_with fail
      go_ret
      exact ⟨by rw [HO.out]; rfl, rfl⟩
    | succ g =>
      have hk : k < p.length := by omega
      have hidx := run_index_str (P := Tryz.prog) Tryz.underlying9 ⟨p.toArray⟩ .i64 k p[k] (by simp [hk])
      have hgi : (⟨p.toArray⟩ : ByteArray)[k]'(hk) = p[k] := rfl
      have hsu := cutAt_take p k hk
      by_cases h47 : p[k] = 47
      · rw [if_pos h47] at hsu
        rw [h47] at hgi hidx
        have HS : Keep ((cutAt (p.take (k + 1)) : Int) - 1 = k) := ⟨by rw [hsu]; omega⟩
        clear hsu h47
        generalize (cutAt (p.take k) : Int) - 1 = r at *
        go_wp2_with fail
        go_roundg g
        case measure => omega
        case rel => exact ⟨k + 1, by omega, by simp, by rw [HS.out], rfl⟩
      · rw [if_neg h47] at hsu
        have HS : Keep ((cutAt (p.take (k + 1)) : Int) - 1 = (cutAt (p.take k) : Int) - 1) := ⟨by rw [hsu]⟩
        have hne : ((p[k].toNat : Int) == 47) = false := by
          rw [beq_eq_false_iff_ne]; intro e; exact h47 (UInt8.toNat_inj.1 (by show p[k].toNat = 47; omega))
        clear hsu h47
        generalize p[k] = c at *
        generalize (cutAt (p.take k) : Int) - 1 = r at *
        go_wp2_with fail
        go_roundg g
        case measure => omega
        case rel => exact ⟨k + 1, by omega, by simp, by rw [HS.out], rfl⟩
set_option maxHeartbeats 1000000 in
theorem rparent_any (p : List UInt8) (hp : p.length ≤ 1000000) (w : World) : Calls Tryz.prog 115 #[.string ⟨p.toArray⟩] w fun e w' => e = .returned (.string ⟨(parentP p).toArray⟩) ∧ w = w' := by
  have HL := Keep.keep (fun w => rcut_any p hp w)
  have hle := cutAt_le p
  have hk := run_slice_to (P := Tryz.prog) Tryz.underlying9 p .i64 (cutAt p - 1) (by omega)
  rw [show p.take (cutAt p - 1) = parentP p from rfl] at hk
  rcases Nat.eq_zero_or_pos (cutAt p) with h0 | h0
  · have he : parentP p = [] := by unfold parentP; rw [h0]; rfl
    rw [h0] at HL
    rw [he]
    clear he h0 hk
    go_enter Tryz.func115, Tryz.ntmps115
    go_wp2_with fail
    refine (HL.out _).mono ?_
    rintro e w1 ⟨rfl, rfl⟩
    go_wp2_with fail
    go_ret
    exact ⟨rfl, rfl⟩
  · rw [show (cutAt p : Int) - 1 = ((cutAt p - 1 : Nat) : Int) by omega] at HL
    generalize cutAt p - 1 = n at *
    generalize parentP p = q at *
    have hd : decide ((n : Int) < 0) = false := decide_eq_false (by omega)
    go_enter Tryz.func115, Tryz.ntmps115
    go_wp2_with fail
    refine (HL.out _).mono ?_
    rintro e w1 ⟨rfl, rfl⟩
    go_wp2_with fail
    go_ret
    exact ⟨rfl, rfl⟩
set_option maxHeartbeats 1000000 in
set_option maxRecDepth 100000 in
theorem rabove_any (p : List UInt8) (hp : p.length ≤ 1000000) (w : World) :
    Calls Tryz.prog 80 #[.string ⟨p.toArray⟩] w fun e w' => ∃ v, e = .returned v ∧ OwnS w' w.heap.size v (aboveP p) ∧ Below w.heap.size w w' := by
  go_enter Tryz.func80, Tryz.ntmps80
  go_wp2_with fail
  go_loopg [3, 4] p.length (fun g u3 u7 wx => ∃ k : Nat, k + g = p.length ∧ u7 = .int .i64 (k : Int) ∧ Hp NoM w wx [slA w.heap.size 9 1 u3 (abvT p k).length ((abvT p k).map strV)])
  case atStart => exact ⟨0, by omega, rfl, (Hp.begin NoM w).nilS _ _ _⟩
  case round =>
    obtain ⟨k, hkg, rfl, hH⟩ := hrel
    have HH := Keep.keep hH
    have hown := hH.sl 0 rfl
    obtain ⟨a3, c3, rfl, -⟩ := (ownsV_reads hown).shape
    have HO := Keep.keep hown
    clear hH hown
    cases gk with
    | zero =>
      obtain rfl : k = p.length := by omega
      go_wp2_with fail
      go_ret
      exact ⟨_, rfl, HO.out, HH.out.below⟩
    | succ g =>
      have hk : k < p.length := by omega
      have hidx := run_index_str (P := Tryz.prog) Tryz.underlying9 ⟨p.toArray⟩ .i64 k p[k] (by simp [hk])
      have hgi : (⟨p.toArray⟩ : ByteArray)[k]'(hk) = p[k] := rfl
      have hst := run_slice_to (P := Tryz.prog) Tryz.underlying9 p .i64 k (by omega)
      have hsu := abvT_succ p k hk
      have hal := abvT_len p k
      by_cases h47 : p[k] = 47
      · rw [if_pos h47] at hsu
        rw [h47] at hgi hidx
        have HS := Keep.keep hsu
        clear hsu h47
        generalize p.take k = x at *
        go_wp2_with (with_reducible refine arm_stop ?_)
        refine Stopped.out ?_
        refine arm_appendV slS ((HH.out.alloc _).sl 0 rfl) (RdV.new (N := fun _ => True) 9 [strV x] 1 1 _ rfl rfl (by unfold maxLen; omega) trivial) (by simp [strV, Value.oneCell']) (by unfold maxLen; omega) (by omega) (by simp; have := HH.out.size; omega) rfl rfl ?_
        intro v' w' ho hg hb _
        have HG := Keep.keep ((HH.out.alloc _).grow 0 rfl hg ho hb)
        obtain ⟨a4, c4, rfl, -⟩ := (ownsV_reads ho).shape
        clear ho hg hb
        simp only [Act.put, List.setIfInBounds_toArray, List.set_cons_succ, List.set_cons_zero]
        go_wp2_with fail
        go_roundg g
        case measure => omega
        case rel => exact ⟨k + 1, by omega, by simp, by rw [HS.out, List.length_append, List.map_append]; exact HG.out⟩
      · rw [if_neg h47] at hsu
        have HS := Keep.keep hsu
        have hne : ((p[k].toNat : Int) == 47) = false := by
          rw [beq_eq_false_iff_ne]; intro e; exact h47 (UInt8.toNat_inj.1 (by show p[k].toNat = 47; omega))
        clear hsu h47
        generalize p[k] = c at *
        go_wp2_with fail
        go_roundg g
        case measure => omega
        case rel => exact ⟨k + 1, by omega, by simp, by rw [HS.out]; exact HH.out⟩
set_option maxHeartbeats 1000000 in
theorem runder_any (d p : List UInt8) (hd : d.length ≤ 1000000) (w : World) :
    Calls Tryz.prog 82 #[.string ⟨d.toArray⟩, .string ⟨p.toArray⟩] w fun e w' => e = .returned (.bool (underP d p)) ∧ w = w' := by
  have HP : Keep (∀ w, Calls Tryz.prog 110 #[.string ⟨p.toArray⟩, .string ⟨(d ++ [47]).toArray⟩] w fun e w' => e = .returned (.bool ((d ++ [47]).isPrefixOf p)) ∧ w = w') := ⟨fun w => begins_any _ _ w⟩
  have e1 := bne_nil p
  have e2 := bne_nil d
  have hc := run_cat (P := Tryz.prog) d [47] (by simp; omega)
  unfold underP
  generalize p.isEmpty = b1 at *
  generalize d.isEmpty = b2 at *
  generalize (d ++ [47]).isPrefixOf p = b3 at *
  generalize d ++ [47] = q at *
  cases b1 with
  | true =>
    go_enter Tryz.func82, Tryz.ntmps82
    go_wp2_with fail
    go_ret
    exact ⟨rfl, rfl⟩
  | false =>
  cases b2 with
  | true =>
    go_enter Tryz.func82, Tryz.ntmps82
    go_wp2_with fail
    go_ret
    exact ⟨rfl, rfl⟩
  | false =>
    go_enter Tryz.func82, Tryz.ntmps82
    go_wp2_with fail
    refine (HP.out _).mono ?_
    rintro e w2 ⟨rfl, rfl⟩
    go_wp2_with fail
    go_ret
    exact ⟨rfl, rfl⟩
end Go.Proofs.YtplafpokgpolkaaGreatDoor
/- PATHS CLEANED: plain facts. -/
namespace Go.Proofs.YtplafpokgpolkaaGreatDoor
/-- a slash becomes two, a dot between, and a slash more -/
def repl : List UInt8 → List UInt8
  | [] => []
  | c :: l => if c = 47 then 47 :: 46 :: 47 :: 47 :: repl l else c :: repl l
theorem repl_none : ∀ {a : List UInt8}, (∀ x ∈ a, x ≠ 47) → repl a = a
  | [], _ => rfl
  | c :: a, h => by rw [repl, if_neg (h c (by simp)), repl_none (fun x hx => h x (by simp [hx]))]
theorem repl_cut : ∀ {a : List UInt8} (b : List UInt8), (∀ x ∈ a, x ≠ 47) → repl (a ++ 47 :: b) = a ++ [47, 46, 47, 47] ++ repl b
  | [], b, _ => by rw [List.nil_append, repl, if_pos rfl]; rfl
  | c :: a, b, h => by
    rw [List.cons_append, repl, if_neg (h c (by simp)), repl_cut b (fun x hx => h x (by simp [hx]))]; rfl
theorem repl_len : ∀ a : List UInt8, (repl a).length ≤ 4 * a.length
  | [] => by simp [repl]
  | c :: a => by
    have := repl_len a
    unfold repl
    split <;> simp <;> omega
theorem replaceK_repl : ∀ (k : Nat) (l : List UInt8), l.count 47 = k → Lib.replaceK [47] [47, 46, 47, 47] k l = repl l
  | 0, l, h => by
    rw [repl_none (fun x hx e => by subst e; exact absurd hx (List.count_eq_zero.1 h))]; rfl
  | k + 1, l, h => by
    rcases first_of 47 l with ⟨h1, h2⟩ | ⟨o, h1, h2, h3, h4⟩
    · exfalso
      have : l.count 47 = 0 := List.count_eq_zero.2 (fun hm => h2 47 hm rfl)
      omega
    · have hc : (l.drop (o + 1)).count 47 = k := by
        rw [h3, List.count_append, List.count_cons_self, List.count_eq_zero.2 (fun hm => h4 47 hm rfl)] at h
        omega
      rw [Lib.replaceK_hit [47] [47, 46, 47, 47] k l o (by rw [Lib.index_one]; exact h1)]
      conv => rhs; rw [h3]
      rw [repl_cut _ h4, ← replaceK_repl k _ hc]
      rfl
theorem replaceAll_repl (l : List UInt8) : Lib.replaceAll l [47] [47, 46, 47, 47] = repl l := by
  unfold Lib.replaceAll Lib.replace Lib.replaceNum
  rw [if_neg (by decide), if_pos (.inl (by decide)), Lib.count_one]
  exact replaceK_repl _ _ rfl
/-- parts that are none, put between -/
def ilv : List (List UInt8) → List (List UInt8)
  | [] => []
  | [x] => [x]
  | x :: y :: r => x :: [46] :: [] :: ilv (y :: r)
theorem spl_cons (c : UInt8) (l : List UInt8) : spl (c :: l) = if c = 47 then [] :: spl l else match spl l with | [] => [[c]] | h :: t => (c :: h) :: t := rfl
theorem spl_repl : ∀ l, spl (repl l) = ilv (spl l)
  | [] => rfl
  | c :: l => by
    have ih := spl_repl l
    have hne := spl_ne l
    rw [repl, spl_cons]
    by_cases hc : c = 47
    · rw [if_pos hc, if_pos hc]
      cases hs : spl l with
      | nil => exact absurd hs hne
      | cons h t =>
        rw [hs] at ih
        rw [spl_cons, if_pos rfl, spl_cons, if_neg (by decide), spl_cons, if_pos rfl, spl_cons, if_pos rfl, ih, ilv]
    · rw [if_neg hc, if_neg hc, spl_cons, if_neg hc, ih]
      cases hs : spl l with
      | nil => exact absurd hs hne
      | cons h t =>
        cases t with
        | nil => rfl
        | cons y r => rfl
abbrev keepB (s : List UInt8) : Bool := !(s.isEmpty || s == [46])
theorem ilv_filter : ∀ l, (ilv l).filter keepB = l.filter keepB
  | [] => rfl
  | [x] => rfl
  | x :: y :: r => by
    have ih := ilv_filter (y :: r)
    rw [ilv, List.filter_cons, List.filter_cons (x := x) (xs := y :: r), ← ih]
    rfl
theorem ilv_contains : ∀ l, (ilv l).contains [46, 46] = l.contains [46, 46]
  | [] => rfl
  | [x] => rfl
  | x :: y :: r => by
    have ih := ilv_contains (y :: r)
    rw [ilv, List.contains_cons, List.contains_cons (a := x), ← ih]
    rfl
def wrapR (raw : List UInt8) : List UInt8 := [46, 47] ++ repl raw ++ [47, 46]
theorem spl_wrapR (raw : List UInt8) : spl (wrapR raw) = [46] :: (ilv (spl raw) ++ [[46]]) := by
  have h : wrapR raw = [46] ++ 47 :: (repl raw ++ 47 :: [46]) := by unfold wrapR; simp
  rw [h, spl_cut _ (by decide), spl_app _ [46] (by decide), spl_repl]
theorem repl_zero : ∀ l : List UInt8, (repl l).contains 0 = l.contains 0
  | [] => rfl
  | c :: l => by
    have ih := repl_zero l
    rw [repl]
    by_cases hc : c = 47
    · rw [if_pos hc, List.contains_cons, List.contains_cons, List.contains_cons, List.contains_cons, ih, List.contains_cons (a := c), hc]
      simp
    · rw [if_neg hc, List.contains_cons, ih, List.contains_cons (a := c)]
theorem clean_wrapR {raw : List UInt8} (h : ([47] : List UInt8).isPrefixOf raw = false) : cleanP (wrapR raw) = cleanP raw := by
  have h1 : (wrapR raw).contains 0 = raw.contains 0 := by
    rw [← repl_zero raw]
    unfold wrapR
    cases hc : (repl raw).contains 0 <;> simp_all
  have h2 : ([47] : List UInt8).isPrefixOf (wrapR raw) = false := rfl
  have h3 : (spl (wrapR raw)).contains [46, 46] = (spl raw).contains [46, 46] := by
    rw [spl_wrapR, ← ilv_contains (spl raw)]
    cases hc : (ilv (spl raw)).contains [46, 46] <;> simp_all
  have h4 : keptP (wrapR raw) = keptP raw := by
    show (spl (wrapR raw)).filter keepB = (spl raw).filter keepB
    rw [spl_wrapR, List.filter_cons, List.filter_append, ilv_filter]
    simp [keepB]
  unfold cleanP
  rw [h1, h2, h3, h4, h]
theorem clean_slash (raw : List UInt8) : cleanP (47 :: raw) = ([], 30) := by
  unfold cleanP
  rw [if_pos]
  have : ([47] : List UInt8).isPrefixOf (47 :: raw) = true := by simp [List.isPrefixOf]
  rw [this]; simp
theorem clean_behind (raw : List UInt8) : cleanP (raw ++ [47, 46, 46]) = ([], 30) := by
  unfold cleanP
  rw [if_pos]
  have : (spl (raw ++ [47, 46, 46])).contains [46, 46] = true := by
    rw [show raw ++ [47, 46, 46] = raw ++ 47 :: [46, 46] from rfl, spl_app _ _ (by decide)]; simp
  rw [this]; simp
theorem clean_ahead (raw : List UInt8) : cleanP ([46, 46, 47] ++ raw) = ([], 30) := by
  unfold cleanP
  rw [if_pos]
  have : (spl ([46, 46, 47] ++ raw)).contains [46, 46] = true := by
    rw [show [46, 46, 47] ++ raw = [46, 46] ++ 47 :: raw from rfl, spl_cut _ (by decide)]; simp
  rw [this]; simp
/-- what is cleaned is clean -/
structure Cleaned (p : List UInt8) : Prop where
  each : ∀ s ∈ splitP p, s.isEmpty = false ∧ (s == [46]) = false ∧ (s == [46, 46]) = false ∧ s.length ≤ 255 ∧ s.any (([47, 0] : List UInt8).contains ·) = false
  again : cleanP p = (p, 0)
  len : p.length ≤ 4096
inductive CleanR (raw : List UInt8) : Prop
  | path (h : cleanP raw = ([], 30))
  | long (h : cleanP raw = ([], 3)) (hs : ([47] : List UInt8).isPrefixOf raw = false)
  | ok (p : List UInt8) (h : cleanP raw = (p, 0)) (hs : ([47] : List UInt8).isPrefixOf raw = false) (hc : Cleaned p)
theorem mem_joinS : ∀ (l : List (List UInt8)) (c : UInt8), c ∈ joinS l → c = 47 ∨ ∃ x ∈ l, c ∈ x
  | [], c, h => by cases h
  | [x], c, h => .inr ⟨x, by simp, h⟩
  | x :: y :: r, c, h => by
    rw [joinS] at h
    rcases List.mem_append.1 h with h | h
    · exact .inr ⟨x, by simp, h⟩
    · rcases List.mem_cons.1 h with h | h
      · exact .inl h
      · rcases mem_joinS (y :: r) c h with h | ⟨z, hz, hc⟩
        · exact .inl h
        · exact .inr ⟨z, by simp [hz], hc⟩
theorem mem_spl : ∀ (l : List UInt8), ∀ x ∈ spl l, ∀ c ∈ x, c ∈ l
  | [], x, hx, c, hc => by simp [spl] at hx; subst hx; cases hc
  | a :: l, x, hx, c, hc => by
    have ih := mem_spl l
    rw [spl_cons] at hx
    split at hx
    · rcases List.mem_cons.1 hx with rfl | hx
      · cases hc
      · exact List.mem_cons_of_mem _ (ih x hx c hc)
    · split at hx
      · obtain rfl := List.mem_singleton.1 hx
        simp at hc; simp [hc]
      · rename_i h t he
        rw [he] at ih
        rcases List.mem_cons.1 hx with rfl | hx
        · rcases List.mem_cons.1 hc with rfl | hc
          · simp
          · exact List.mem_cons_of_mem _ (ih h (by simp) c hc)
        · exact List.mem_cons_of_mem _ (ih x (by simp [hx]) c hc)
theorem cleanR (raw : List UInt8) : CleanR raw := by
  cases hA : (raw.contains 0 || ([47] : List UInt8).isPrefixOf raw || (spl raw).contains [46, 46]) with
  | true => exact .path (by unfold cleanP; rw [hA]; rfl)
  | false =>
    have hs : ([47] : List UInt8).isPrefixOf raw = false := by
      simp only [Bool.or_eq_false_iff] at hA; exact hA.1.2
    have h0 : raw.contains 0 = false := by
      simp only [Bool.or_eq_false_iff] at hA; exact hA.1.1
    have hd : (spl raw).contains [46, 46] = false := by
      simp only [Bool.or_eq_false_iff] at hA; exact hA.2
    cases hB : (decide (255 < (keptP raw).length) || decide (4096 < (joinS (keptP raw)).length) || (keptP raw).any (fun s => decide (255 < s.length))) with
    | true => exact .long (by unfold cleanP; rw [hA, hB]; rfl) hs
    | false =>
      refine .ok (joinS (keptP raw)) (by unfold cleanP; rw [hA, hB]; rfl) hs ?_
      have hB2 := hB
      simp only [Bool.or_eq_false_iff, decide_eq_false_iff_not] at hB2
      obtain ⟨⟨b1, b2⟩, b3⟩ := hB2
      have hk : ∀ s ∈ keptP raw, s ≠ [] ∧ s ≠ [46] ∧ s ∈ spl raw := fun s hs => by
        obtain ⟨h1, h2⟩ := List.mem_filter.1 hs
        simp only [Bool.not_eq_true', Bool.or_eq_false_iff, beq_eq_false_iff_ne] at h2
        refine ⟨fun e => ?_, h2.2, h1⟩
        rw [e] at h2; simp at h2
      have hns : NoSl (keptP raw) := fun x hx c hc => spl_nosl raw x (hk x hx).2.2 c hc
      have hne0 : joinS (keptP raw) = [] → keptP raw = [] := fun e => by
        cases hq : keptP raw with
        | nil => rfl
        | cons x r =>
          rw [hq] at e
          have hx := (hk x (by rw [hq]; simp)).1
          cases r with
          | nil => exact absurd e hx
          | cons y r => rw [joinS] at e; simp at e
      have hsp : splitP (joinS (keptP raw)) = keptP raw := by
        unfold splitP
        by_cases he : joinS (keptP raw) = []
        · rw [if_pos he, hne0 he]
        · rw [if_neg he]
          exact spl_joinS _ (fun e => he (by rw [e]; rfl)) hns
      have hz : ∀ s ∈ keptP raw, ∀ c ∈ s, c ≠ 0 := fun s hs c hc e => by
        have := mem_spl raw s (hk s hs).2.2 c hc
        rw [e] at this
        have h9 : raw.contains 0 = true := by simpa using this
        rw [h0] at h9; cases h9
      have hdd : ∀ s ∈ keptP raw, s ≠ [46, 46] := fun s hs e => by
        have := (hk s hs).2.2
        rw [e] at this
        have h9 : (spl raw).contains [46, 46] = true := by simpa using this
        rw [hd] at h9; cases h9
      refine ⟨?_, ?_, by omega⟩
      · rw [hsp]
        intro s hs
        obtain ⟨k1, k2, k3⟩ := hk s hs
        refine ⟨by cases s with | nil => exact absurd rfl k1 | cons c s => rfl, beq_eq_false_iff_ne.2 k2, beq_eq_false_iff_ne.2 (hdd s hs), ?_, ?_⟩
        · have := List.any_eq_false.1 b3 s hs
          simp at this; omega
        · rw [List.any_eq_false]
          intro c hc
          have e1 := hns s hs c hc
          have e2 := hz s hs c hc
          simp [e1, e2]
      · have g1 : (joinS (keptP raw)).contains 0 = false := by
          cases hq : (joinS (keptP raw)).contains 0 with
          | false => rfl
          | true =>
            have hm : (0 : UInt8) ∈ joinS (keptP raw) := by simpa using hq
            rcases mem_joinS _ _ hm with e | ⟨x, hx, hc⟩
            · exact absurd e (by decide)
            · exact absurd rfl (hz x hx 0 hc)
        by_cases he : keptP raw = []
        · rw [he]; decide
        · have hj : joinS (keptP raw) ≠ [] := fun e => he (hne0 e)
          have hspl : spl (joinS (keptP raw)) = keptP raw := spl_joinS _ he hns
          have g2 : ([47] : List UInt8).isPrefixOf (joinS (keptP raw)) = false := by
            cases hq : keptP raw with
            | nil => exact absurd hq he
            | cons x r =>
              have hx := (hk x (by rw [hq]; simp)).1
              have hxs := hns x (by rw [hq]; simp)
              cases x with
              | nil => exact absurd rfl hx
              | cons c x =>
                have hc := hxs c (by simp)
                have hcc : (47 == c) = false := beq_eq_false_iff_ne.2 (fun e => hc e.symm)
                cases r with
                | nil => simp [joinS, List.isPrefixOf, hcc]
                | cons y r => simp [joinS, List.isPrefixOf, hcc]
          have g3 : (spl (joinS (keptP raw))).contains [46, 46] = false := by
            rw [hspl]
            cases hq : (keptP raw).contains [46, 46] with
            | false => rfl
            | true => exact absurd rfl (hdd [46, 46] (by simpa using hq))
          have g4 : keptP (joinS (keptP raw)) = keptP raw := by
            show (spl (joinS (keptP raw))).filter keepB = keptP raw
            rw [hspl, List.filter_eq_self]
            intro s hs
            obtain ⟨k1, k2, -⟩ := hk s hs
            have e1 : s.isEmpty = false := by cases s with | nil => exact absurd rfl k1 | cons c s => rfl
            have e2 : (s == [46]) = false := beq_eq_false_iff_ne.2 k2
            simp [keepB, e1, e2]
          unfold cleanP
          rw [g1, g2, g3, g4, hB]; rfl
end Go.Proofs.YtplafpokgpolkaaGreatDoor
/- portolanref11: Whiteout, Opaque, Clean. -/
namespace Go.Proofs.YtplafpokgpolkaaGreatDoor
open Go.RowKit
/-- the parts that stay, of the cut text -/
abbrev kpt (l : List (List UInt8)) : List (List UInt8) := l.filter keepB
theorem kpt_take {l : List (List UInt8)} {k : Nat} (hk : k < l.length) : kpt (l.take (k + 1)) = if keepB l[k] then kpt (l.take k) ++ [l[k]] else kpt (l.take k) := by
  rw [List.take_succ_eq_append_getElem hk, kpt, List.filter_append]
  by_cases h : keepB l[k] = true
  · rw [List.filter_cons_of_pos h, if_pos h]; rfl
  · rw [List.filter_cons_of_neg h, if_neg h]; simp
theorem kpt_split (p : List UInt8) : keptP p = kpt (splitP p) := by
  unfold splitP
  split
  · rename_i h; subst h; rfl
  · rfl
theorem dots_split (p : List UInt8) : (spl p).contains [46, 46] = (splitP p).contains [46, 46] := by
  unfold splitP
  split
  · rename_i h; subst h; rfl
  · rfl
theorem kpt_joinP (p : List UInt8) : joinP (kpt (splitP p)) = joinS (keptP p) := by
  unfold joinP
  rw [← kpt_split]
  congr 1
  rw [List.filter_eq_self]
  intro x hx
  have := (List.mem_filter.1 hx).2
  cases x with
  | nil => cases this
  | cons c x => rfl
end Go.Proofs.YtplafpokgpolkaaGreatDoor
/- portolanref11.Class. -/
namespace Go.Proofs.YtplafpokgpolkaaGreatDoor
open Go.RowKit
theorem rclass_tab (p : List UInt8) (ht : (p == tableB) = true) (w : World) :
    Calls Tryz.prog 71 #[.string ⟨p.toArray⟩] w fun e w' => e = .returned (.tuple #[.int .i64 (classP p).1, .string ⟨(classP p).2.toArray⟩]) ∧ Below w.heap.size w w' := by
  have HE : Keep (classP p = (4, [])) := ⟨by unfold classP; rw [ht]; rfl⟩
  have htab : (p == [46, 119, 104, 46, 46, 119, 104, 46, 116, 111, 99]) = true := ht
  clear ht
  go_enter Tryz.func71, Tryz.ntmps71
  go_wp2_with fail
  go_ret2
  exact ⟨by rw [HE.out]; rfl, Below.refl _ _⟩
theorem rclass_nil (w : World) :
    Calls Tryz.prog 71 #[.string ⟨#[]⟩] w fun e w' => e = .returned (.tuple #[.int .i64 (classP []).1, .string ⟨(classP []).2.toArray⟩]) ∧ Below w.heap.size w w' := by
  have HE : Keep (classP [] = (0, [])) := ⟨by decide⟩
  have HS : Keep (Calls Tryz.prog 107 #[.string ⟨#[]⟩] w fun e w' => ∃ v, e = .returned v ∧ OwnS w' w.heap.size v (splitP []) ∧ Below w.heap.size w w') := ⟨rsplit_any [] (by simp) w⟩
  go_enter Tryz.func71, Tryz.ntmps71
  go_wp2_with fail
  refine HS.out.mono ?_
  rintro e w1 ⟨v, rfl, ho, hb⟩
  have HB := Keep.keep hb
  obtain ⟨a, c, hv, -⟩ := (ownsV_reads ho).shape
  rw [show (splitP []).length = 0 from rfl] at hv
  subst hv
  clear ho hb
  go_wp2_with fail
  go_ret2
  exact ⟨by rw [HE.out]; rfl, HB.out⟩
set_option maxHeartbeats 8000000 in
set_option maxRecDepth 100000 in
theorem rclass_any (p : List UInt8) (hp4 : p.length ≤ 400000) (w : World) :
    Calls Tryz.prog 71 #[.string ⟨p.toArray⟩] w fun e w' => e = .returned (.tuple #[.int .i64 (classP p).1, .string ⟨(classP p).2.toArray⟩]) ∧ Below w.heap.size w w' := by
  cases ht : p == tableB with
  | true => exact rclass_tab p ht w
  | false =>
  by_cases h0 : p = []
  · subst h0; exact rclass_nil w
  have hp : p.length ≤ 1000000 := by omega
  obtain ⟨init, base, hsp, hbn, hcs⟩ := split_parts h0
  have HS := Keep.keep (rsplit_any p hp w)
  have HE : Keep (classP p = refC p init base) := ⟨class_ref h0 ht hbn hcs⟩
  have hml := splitP_mem_len p
  have hlen : (splitP p).length ≤ p.length + 1 := by
    have := spl_length p
    unfold splitP; split
    · simp
    · omega
  have hj0 : (joinP init).length ≤ p.length := by
    rcases hcs with ⟨rfl, -⟩ | ⟨d, rfl, rfl⟩
    · simp [joinP, joinS]
    · have := joinS_filter_len (fun x => !x.isEmpty) (spl d) (spl_ne d)
      rw [joinS_spl] at this
      unfold joinP
      simp
      omega
  rw [hsp] at HS hml hlen
  have hbl : base.length ≤ p.length := hml base (by simp)
  have hil : init.length ≤ p.length := by simp at hlen; omega
  have HMN : Keep (∀ x ∈ init, ∀ w, Calls Tryz.prog 108 #[.string ⟨x.toArray⟩] w fun e w' => e = .returned (.bool (mayN x)) ∧ w = w') := ⟨fun x hx w => rmayname_any x (Nat.le_trans (hml x (by simp [hx])) hp) w⟩
  have HMB := Keep.keep (fun w => rmayname_any base (by omega) w)
  have HMD := Keep.keep (fun w => rmayname_any (base.drop 4) (by simp; omega) w)
  have HBG : Keep (∀ w, Calls Tryz.prog 110 #[.string ⟨base.toArray⟩, .string ⟨#[46, 119, 104, 46]⟩] w fun e w' => e = .returned (.bool (whiteB.isPrefixOf base)) ∧ w = w') := ⟨fun w => begins_any base whiteB w⟩
  have HMP := Keep.keep (fun w => rmay_any p hp w)
  have HMJ := Keep.keep (fun w => rmay_any (joinP init) (by omega) w)
  have hj2 := joinP_two_len (joinP init) (base.drop 4)
  have hdl : (base.drop 4).length ≤ base.length := by simp
  have HMT := Keep.keep (fun w => rmay_any (joinP [joinP init, base.drop 4]) (by omega) w)
  have HJ1 := Keep.keep (fun v w (h : RdS w (· < w.heap.size) v init) => rjoin_any v init w h (by omega) (by omega))
  have HJ2 := Keep.keep (fun v w (h : RdS w (· < w.heap.size) v [joinP init, base.drop 4]) => rjoin_any v [joinP init, base.drop 4] w h (by simp) (by omega))
  have HK4 : Keep (whiteB.isPrefixOf base = true → ∀ w, (Instr.slice 9 (.string ⟨base.toArray⟩) (some (.int .i64 4)) none none).run Tryz.prog w = .ok (.string ⟨(base.drop 4).toArray⟩) w) := ⟨fun h =>
    run_slice_from (P := Tryz.prog) Tryz.underlying9 base .i64 4 (by
      obtain ⟨b, rfl⟩ := List.isPrefixOf_iff_prefix.1 h
      simp [whiteB])⟩
  have htab : (p == [46, 119, 104, 46, 46, 119, 104, 46, 116, 111, 99]) = false := ht
  have hbml : (base == markB) = (base == [46, 119, 104, 46, 46, 119, 104, 46, 46, 111, 112, 113]) := rfl
  have hll : (init ++ [base]).length = init.length + 1 := by simp
  obtain ⟨n, hn⟩ : ∃ n, init.length = n := ⟨_, rfl⟩
  rw [hn] at hll hil
  clear hml hlen hcs hbn hsp ht h0 hj0 hj2 hdl hbl
  generalize classP p = out at *
  go_enter Tryz.func71, Tryz.ntmps71
  go_wp2_with fail
  refine HS.out.mono ?_
  rintro e w1 ⟨v, rfl, ho, hb⟩
  have hr0 := (ownsV_reads ho).mono (N' := (· < w1.heap.size)) (fun b hb => hb.2.1)
  have HB := Keep.keep hb
  rw [hll] at hr0
  obtain ⟨a, c, hv, hcap, hcm, h3⟩ := hr0.shape
  subst hv
  rcases h3 with ⟨_, h3⟩ | ⟨b, off, rfl, hbl2⟩
  · omega
  have HR := Keep.keep hr0
  have hcellB := hr0.cell b off _ _ rfl n (strV base) (by simp [hn])
  have HRI : Keep (RdS w1 (· < w1.heap.size) (.slice (some ⟨b, off, none⟩) n c) init) := ⟨by
    have := hr0.sub 0 n c off (init.map strV) (by rw [List.map_append]; simp [hn]) (by simp [hn]) (by simp) (by omega) (Nat.le_refl _)
    rw [← hn] at this
    rw [← hn]
    exact this⟩
  have hst := slice_to slSt (some ⟨b, off, none⟩) (n + 1) c n .i64 (by omega)
  unfold strV at hcellB
  have hm1 : (((n + 1 : Nat) : Int)) - 1 = (n : Int) := by omega
  have hm2 : ((n : Int) + 1) - 1 = (n : Int) := by omega
  have hz1 : decide (((n + 1 : Nat) : Int) = 0) = false := decide_eq_false (by omega)
  clear ho hb hr0 HS hll
  go_wp2_with fail
  go_loopg [6] n (fun g u6 wx => ∃ k : Nat, k + g = n ∧ u6 = .int .i64 (k : Int) ∧ (init.take k).all mayN = true ∧ w1 = wx)
  case atStart => exact ⟨0, by omega, rfl, rfl, rfl⟩
  case round =>
    obtain ⟨k, hkg, rfl, hal, rfl⟩ := hrel
    have HAL := Keep.keep hal
    clear hal
    cases gk with
    | succ g =>
      have hk : k < init.length := by omega
      have hcell := HR.out.cell b off _ _ rfl k (strV init[k]) (by simp [hk, List.getElem?_append_left])
      have HM1 := Keep.keep (HMN.out init[k] (List.getElem_mem hk))
      have HT : Keep ((init.take (k + 1)).all mayN = mayN init[k]) := ⟨by
        rw [List.take_succ_eq_append_getElem hk, List.all_append, HAL.out]; simp⟩
      have HF : Keep (mayN init[k] = false → out = (0, [])) := ⟨fun h => by
        rw [HE.out]
        unfold refC
        have : init.all mayN = false := List.all_eq_false.2 ⟨_, List.getElem_mem hk, by rw [h]; decide⟩
        rw [this]; rfl⟩
      generalize init[k] = x at *
      unfold strV at hcell
      clear hcellB hst hn hk
      cases hm : mayN x with
      | false =>
        rw [hm] at HM1
        have HX := Keep.keep (HF.out hm)
        clear hm
        go_wp2_with fail
        refine (HM1.out _).mono ?_
        rintro e w' ⟨rfl, rfl⟩
        go_wp2_with fail
        go_ret2
        exact ⟨by rw [HX.out]; rfl, HB.out⟩
      | true =>
        rw [hm] at HM1 HT
        clear hm
        go_wp2_with fail
        refine (HM1.out _).mono ?_
        rintro e w' ⟨rfl, rfl⟩
        go_wp2_with fail
        go_roundg g
        case measure => omega
        case rel => exact ⟨k + 1, by omega, by simp, HT.out, rfl⟩
    | zero =>
      obtain rfl : k = n := by omega
      have HC : Keep (out = refF (refT p base (joinP init))) := ⟨by
        have h := HAL.out
        rw [List.take_of_length_le (by omega)] at h
        rw [HE.out]; unfold refC; rw [h]; rfl⟩
      have HRT : Keep (refT p base (joinP init) = if mayN base then (1, p) else if base == markB then (3, joinP init) else if whiteB.isPrefixOf base && mayN (base.drop 4) then (2, joinP [joinP init, base.drop 4]) else (0, [])) := ⟨rfl⟩
      clear HMN HAL HR
      generalize refT p base (joinP init) = rt at *
      generalize joinP [joinP init, base.drop 4] = jt at *
      generalize joinP init = dir at *
      generalize mayN base = b1 at *
      generalize hb2 : (base == markB) = b2 at *
      generalize hb3 : whiteB.isPrefixOf base = b3 at *
      generalize base.drop 4 = b4s at *
      generalize mayN b4s = b4 at *
      have hbm2 := hbml.symm
      clear hb2 hbml hb3
      cases b1 with
      | true =>
        have HX : Keep (out = if mayP p then (1, p) else (0, [])) := ⟨by
          rw [HC.out, HRT.out]; unfold refF; cases hm : mayP p <;> simp [hm]⟩
        generalize mayP p = b5 at *
        go_wp2_with fail
        refine (HJ1.out _ _ HRI.out).mono ?_
        rintro e w' ⟨rfl, rfl⟩
        go_wp2_with fail
        refine (HMB.out _).mono ?_
        rintro e w' ⟨rfl, rfl⟩
        go_wp2_with fail
        refine (HMP.out _).mono ?_
        rintro e w2 ⟨rfl, hb2⟩
        have HB2 := Keep.keep (HB.out.trans (hb2.mono HB.out.size))
        clear hb2
        cases b5 with
        | false =>
          go_wp2_with fail
          go_ret2
          exact ⟨by rw [HX.out]; rfl, HB2.out⟩
        | true =>
          go_wp2_with fail
          go_ret2
          exact ⟨by rw [HX.out]; rfl, HB2.out⟩
      | false =>
      cases b2 with
      | true =>
        have HX : Keep (out = if mayP dir then (3, dir) else (0, [])) := ⟨by
          rw [HC.out, HRT.out]; unfold refF; cases hm : mayP dir <;> simp [hm]⟩
        generalize mayP dir = b5 at *
        go_wp2_with fail
        refine (HJ1.out _ _ HRI.out).mono ?_
        rintro e w' ⟨rfl, rfl⟩
        go_wp2_with fail
        refine (HMB.out _).mono ?_
        rintro e w' ⟨rfl, rfl⟩
        go_wp2_with fail
        refine (HMJ.out _).mono ?_
        rintro e w2 ⟨rfl, hb2⟩
        have HB2 := Keep.keep (HB.out.trans (hb2.mono HB.out.size))
        clear hb2
        cases b5 with
        | false =>
          go_wp2_with fail
          go_ret2
          exact ⟨by rw [HX.out]; rfl, HB2.out⟩
        | true =>
          go_wp2_with fail
          go_ret2
          exact ⟨by rw [HX.out]; rfl, HB2.out⟩
      | false =>
      cases b3 with
      | false =>
        have HX : Keep (out = (0, [])) := ⟨by rw [HC.out, HRT.out]; rfl⟩
        go_wp2_with fail
        refine (HJ1.out _ _ HRI.out).mono ?_
        rintro e w' ⟨rfl, rfl⟩
        go_wp2_with fail
        refine (HMB.out _).mono ?_
        rintro e w' ⟨rfl, rfl⟩
        go_wp2_with fail
        refine (HBG.out _).mono ?_
        rintro e w' ⟨rfl, rfl⟩
        go_wp2_with fail
        go_ret2
        exact ⟨by rw [HX.out]; rfl, HB.out⟩
      | true =>
      have hk4 := HK4.out rfl
      cases b4 with
      | false =>
        have HX : Keep (out = (0, [])) := ⟨by rw [HC.out, HRT.out]; rfl⟩
        go_wp2_with fail
        refine (HJ1.out _ _ HRI.out).mono ?_
        rintro e w' ⟨rfl, rfl⟩
        go_wp2_with fail
        refine (HMB.out _).mono ?_
        rintro e w' ⟨rfl, rfl⟩
        go_wp2_with fail
        refine (HBG.out _).mono ?_
        rintro e w' ⟨rfl, rfl⟩
        go_wp2_with fail
        refine (HMD.out _).mono ?_
        rintro e w' ⟨rfl, rfl⟩
        go_wp2_with fail
        go_ret2
        exact ⟨by rw [HX.out]; rfl, HB.out⟩
      | true =>
        have HX : Keep (out = if mayP jt then (2, jt) else (0, [])) := ⟨by
          rw [HC.out, HRT.out]; unfold refF; cases hm : mayP jt <;> simp [hm]⟩
        generalize mayP jt = b5 at *
        go_wp2_with fail
        refine (HJ1.out _ _ HRI.out).mono ?_
        rintro e w' ⟨rfl, rfl⟩
        go_wp2_with fail
        refine (HMB.out _).mono ?_
        rintro e w' ⟨rfl, rfl⟩
        go_wp2_with fail
        refine (HBG.out _).mono ?_
        rintro e w' ⟨rfl, rfl⟩
        go_wp2_with fail
        refine (HMD.out _).mono ?_
        rintro e w' ⟨rfl, rfl⟩
        go_wp2_with fail
        refine calls_at (R := fun wq => Below w1.heap.size w1 wq ∧ RdS wq (· < wq.heap.size) (.slice (some ⟨w1.heap.size, 0, none⟩) 2 2) [dir, b4s]) ⟨(Below.refl _ _).alloc (Nat.le_refl _) _, rdS_two w1 dir b4s⟩ ?_
        intro w2 H2
        refine (HJ2.out _ w2 H2.out.2).mono ?_
        rintro e w' ⟨rfl, rfl⟩
        have HB2 := Keep.keep (HB.out.trans (H2.out.1.mono HB.out.size))
        go_wp2_with fail
        refine (HMT.out _).mono ?_
        rintro e w3 ⟨rfl, hb3⟩
        have HB3 := Keep.keep (HB2.out.trans (hb3.mono HB2.out.size))
        clear hb3
        cases b5 with
        | false =>
          go_wp2_with fail
          go_ret2
          exact ⟨by rw [HX.out]; rfl, HB3.out⟩
        | true =>
          go_wp2_with fail
          go_ret2
          exact ⟨by rw [HX.out]; rfl, HB3.out⟩
end Go.Proofs.YtplafpokgpolkaaGreatDoor
/- portolanref19.Plain. -/
namespace Go.Proofs.YtplafpokgpolkaaGreatDoor
open Go.RowKit
set_option maxHeartbeats 4000000 in
set_option maxRecDepth 100000 in
theorem rplain_any (v : Value) (l : List Mv) (w : World) (K : Nat → Prop) (hK : ∀ b, K b → b < w.heap.size) (hr : Mbs w (· < w.heap.size) K v l) (hs : ∀ x ∈ l, Sm x.1) (hl : l.length ≤ 1000000) :
    Calls Tryz.prog 28 #[v] w fun e w' => ∃ v', e = .returned v' ∧ RowM w.heap.size K w' v' (l.filter isPl) ∧ Below w.heap.size w w' := by
  obtain ⟨a, cap, hv, hcap, hmx, h3⟩ := hr.rd.shape
  have HR := Keep.keep hr; have H3 := Keep.keep h3; have HS := Keep.keep hs; have HKK := Keep.keep hK
  unfold maxLen at hmx
  clear hr h3 hs hK
  subst hv
  go_enter Tryz.func28, Tryz.ntmps28
  go_wp2_with fail
  go_loopg [3, 4] l.length (fun g u3 u4 wx => ∃ (k : Nat), k + g = l.length ∧ u4 = .int .i64 (k : Int) ∧ RowM w.heap.size K wx u3 ((l.take k).filter isPl) ∧ Below w.heap.size w wx)
  case atStart => exact ⟨0, by omega, rfl, RowM.nil _ _ _, Below.refl _ _⟩
  case round =>
    obtain ⟨k, hkg, rfl, hrow, hb⟩ := hrel
    have HRW := Keep.keep hrow; have HB := Keep.keep hb
    obtain ⟨a3, c3, hv3, -⟩ := (ownsV_reads hrow.own).shape
    clear hrow hb
    subst hv3
    cases gk with
    | zero =>
      obtain rfl : k = l.length := by omega
      have HTK : Keep (l.take l.length = l) := ⟨List.take_length⟩
      rw [HTK.out] at HRW ⊢
      go_wp2_with fail
      go_ret
      exact ⟨_, rfl, HRW.out, HB.out⟩
    | succ g =>
      have hk : k < l.length := by omega
      have hd : decide ((k : Int) < (l.length : Int)) = true := decide_eq_true (by omega)
      obtain ⟨b, off, rfl, hbl⟩ : ∃ b off, a = some ⟨b, off, none⟩ ∧ b < w.heap.size := by
        rcases H3.out with h | ⟨b, off, h, hb⟩
        · omega
        · exact ⟨b, off, h, hb⟩
      have hrx := HR.out.below HB.out (fun b hb => hb) HKK.out
      have hc0 := hrx.cell hk 0 (by omega) (u := .string ⟨l[k].1.1.toArray⟩) rfl
      rw [Nat.add_zero] at hc0
      have HLD : Keep (∀ wx, Below w.heap.size w wx → (Instr.loadAt 32 (.pointer (some ⟨b, off + k * 9, none⟩))).run Tryz.prog wx = .ok (.agg (mcell l[k])) wx) := ⟨fun wx hx => (HR.out.below hx (fun b hb => hb) HKK.out).load hk⟩
      have HTK : Keep ((l.take (k + 1)).filter isPl = (l.take k).filter isPl ++ (if isPl l[k] = true then [l[k]] else [])) := ⟨by
        rw [List.take_succ_eq_append_getElem hk, List.filter_append]
        cases h : isPl l[k] <;> simp [h]⟩
      have hsx := HS.out l[k] (List.getElem_mem hk)
      have HND := Keep.keep (HR.out.nd l[k] (List.getElem_mem hk))
      have hlen : ((l.take k).filter isPl).length ≤ k := Nat.le_trans (List.length_filter_le _ _) (by rw [List.length_take]; omega)
      clear hrx
      generalize l[k] = x at *
      generalize (l.take k).filter isPl = acc at *
      obtain ⟨⟨xp, ⟨kind, mode, uid, gid, time, attrs, data, link⟩⟩, av, dv⟩ := x
      obtain ⟨aa, la, ca, ad, ld, cd, e1, e2⟩ := HND.out.shape
      dsimp only at e1 e2 hsx HTK hc0
      have hxp := hsx.p
      dsimp only at hxp
      subst e1 e2
      have HMC : Keep (mcell ((xp, ⟨kind, mode, uid, gid, time, attrs, data, link⟩), .slice aa la ca, .slice ad ld cd) = #[.string ⟨xp.toArray⟩, .int .i64 kind, .int .u32 mode, .int .u32 uid, .int .u32 gid, .int .i64 time, .slice aa la ca, .slice ad ld cd, .string ⟨link.toArray⟩]) := ⟨rfl⟩
      rw [HMC.out] at HLD
      have HCL := Keep.keep (fun wx => rclass_any xp (by omega) wx)
      have HPL : Keep (isPl ((xp, ⟨kind, mode, uid, gid, time, attrs, data, link⟩), .slice aa la ca, .slice ad ld cd) = ((classP xp).1 == 1)) := ⟨rfl⟩
      obtain ⟨⟨cl, tg⟩, hcp⟩ : ∃ c, classP xp = c := ⟨_, rfl⟩
      rw [hcp] at HCL HPL
      dsimp only at HCL HPL
      clear hsx hcp
      go_wp2_with fail
      refine (HCL.out wr).mono ?_
      rintro e w3 ⟨rfl, hb3⟩
      have HB3 := Keep.keep (HB.out.trans (hb3.mono HB.out.size))
      have HRW3 := Keep.keep (HRW.out.below hb3)
      have hsw3 := HB3.out.size
      clear hb3 HCL HRW hc0
      cases hz : (cl == 1) with
      | false =>
        rw [hz] at HPL
        rw [HPL.out, if_neg (by decide), List.append_nil] at HTK
        go_wp2_with fail
        go_roundg g
        case measure => omega
        case rel => exact ⟨k + 1, by omega, by simp, by rw [HTK.out]; exact HRW3.out, HB3.out⟩
      | true =>
        rw [hz] at HPL
        rw [HPL.out, if_pos rfl] at HTK
        have hld := HLD.out w3 HB3.out
        go_wp2_with (first | ((with_reducible refine arm_loadM hld ?_ ?_); (focus rfl); simp only [Act.put, List.setIfInBounds_toArray, List.set_cons_succ, List.set_cons_zero]) | (with_reducible refine arm_stop ?_))
        refine Stopped.out ?_
        have hal : Below w3.heap.size w3 (w3.alloc (.cells #[.string ⟨xp.toArray⟩, .int .i64 kind, .int .u32 mode, .int .u32 uid, .int .u32 gid, .int .i64 time, .slice aa la ca, .slice ad ld cd, .string ⟨link.toArray⟩] 32)) := (Below.refl _ _).alloc (Nat.le_refl _) _
        have HAL := Keep.keep hal
        have hrA := HRW3.out.below hal
        have hm : Mbs (w3.alloc (.cells #[.string ⟨xp.toArray⟩, .int .i64 kind, .int .u32 mode, .int .u32 uid, .int .u32 gid, .int .i64 time, .slice aa la ca, .slice ad ld cd, .string ⟨link.toArray⟩] 32)) (fun _ => True) K (.slice (some ⟨w3.heap.size, 0, none⟩) 1 1) [((xp, ⟨kind, mode, uid, gid, time, attrs, data, link⟩), .slice aa la ca, .slice ad ld cd)] :=
          ⟨RdV.new (N := fun _ => True) 32 [.string ⟨xp.toArray⟩, .int .i64 kind, .int .u32 mode, .int .u32 uid, .int .u32 gid, .int .i64 time, .slice aa la ca, .slice ad ld cd, .string ⟨link.toArray⟩] 9 1 _ rfl rfl (by unfold maxLen; omega) trivial, fun y hy => by
            obtain rfl : y = ((xp, ⟨kind, mode, uid, gid, time, attrs, data, link⟩), .slice aa la ca, .slice ad ld cd) := by simpa using hy
            exact ((HND.out.below HB3.out HKK.out).below (hal.mono HB3.out.size) HKK.out)⟩
        refine arm_appM (B := w.heap.size) hrA (Nat.le_trans hsw3 hal.size) hm (fun b hb => ⟨.inl hb, by have := HKK.out b hb; have := hal.size; omega, fun e => by have := (hrA.lt e).1; have := HKK.out b hb; omega⟩) (by simp; omega) rfl rfl ?_
        intro v4 w4 hr4 hg4 hov4 hsh4
        obtain ⟨a4, c4, rfl⟩ := hsh4
        have HR4 := Keep.keep hr4
        have HB4 : Keep (Below w.heap.size w w4) := ⟨(HB3.out.trans (hal.mono HB3.out.size)).trans (hrA.chg (Nat.le_trans hsw3 hal.size) hg4)⟩
        clear hr4 hg4 hov4 hm hrA hal HRW3 HAL
        simp only [Act.put, List.setIfInBounds_toArray, List.set_cons_succ, List.set_cons_zero]
        go_wp2_with fail
        go_roundg g
        case measure => omega
        case rel => exact ⟨k + 1, by omega, by simp, by rw [HTK.out]; exact HR4.out, HB4.out⟩
end Go.Proofs.YtplafpokgpolkaaGreatDoor
/- slices.Equal OVER ATTRIBUTES; two attributes set side by side. -/
namespace Go.Proofs.YtplafpokgpolkaaGreatDoor
open Go.RowKit
set_option maxRecDepth 100000 in
theorem neq_attr (x y : R2) (w : World) : (binOp .neq 97 (.agg #[.string ⟨x.1.toArray⟩, .string ⟨x.2.toArray⟩]) (.agg #[.string ⟨y.1.toArray⟩, .string ⟨y.2.toArray⟩])).run Tryz.prog w = .ok (.bool (!decide (x = y))) w := by
  obtain ⟨k, v⟩ := x
  obtain ⟨l, u⟩ := y
  have h := run_equalIn_struct (P := Tryz.prog) w 9999 97 #[.string ⟨k.toArray⟩, .string ⟨v.toArray⟩] #[.string ⟨l.toArray⟩, .string ⟨u.toArray⟩] (by kernel_rfl) (by kernel_rfl)
  have p0 := run_part_one (P := Tryz.prog) (e := 9) Tryz.underlying9 rfl #[.string ⟨k.toArray⟩, .string ⟨v.toArray⟩] 0 (.string ⟨k.toArray⟩) rfl
  have p1 := run_part_one (P := Tryz.prog) (e := 9) Tryz.underlying9 rfl #[.string ⟨k.toArray⟩, .string ⟨v.toArray⟩] 1 (.string ⟨v.toArray⟩) rfl
  have q0 := run_part_one (P := Tryz.prog) (e := 9) Tryz.underlying9 rfl #[.string ⟨l.toArray⟩, .string ⟨u.toArray⟩] 0 (.string ⟨l.toArray⟩) rfl
  have q1 := run_part_one (P := Tryz.prog) (e := 9) Tryz.underlying9 rfl #[.string ⟨l.toArray⟩, .string ⟨u.toArray⟩] 1 (.string ⟨u.toArray⟩) rfl
  simp only [Program.fieldsOf, Tryz.underlying97] at h
  rw [run_neq_struct]
  have e2 : ∀ (l m : List UInt8) (d : Nat) (w : World), (Op.equalIn (d + 1) 9 (.string ⟨l.toArray⟩) (.string ⟨m.toArray⟩)).run Tryz.prog w = .ok (l == m) w := fun l m d w => by
    rw [run_equalIn_string w d 9 _ _ Tryz.underlying9]
    congr 1
    rw [Bool.eq_iff_iff]
    simp
  have h2 : (Op.equalIn 10000 97 (.agg #[.string ⟨k.toArray⟩, .string ⟨v.toArray⟩]) (.agg #[.string ⟨l.toArray⟩, .string ⟨u.toArray⟩])).run Tryz.prog w = .ok (decide ((k, v) = (l, u))) w := by
    refine h.trans ?_
    by_cases e1 : k = l
    · by_cases e3 : v = u
      · subst e1 e3; simp [Op.eqFields, p0, p1, e2]
      · subst e1; simp [Op.eqFields, p0, p1, q0, q1, e2, e3]
    · simp [Op.eqFields, p0, q0, e2, e1]
  rw [h2]; rfl
set_option maxHeartbeats 1000000 in
set_option maxRecDepth 100000 in
theorem aequal_any (v1 v2 : Value) (l1 l2 : List R2) (w : World) (h1 : RdV w (· < w.heap.size) 2 v1 l1.length (rcells l1)) (h2 : RdV w (· < w.heap.size) 2 v2 l2.length (rcells l2)) :
    Calls Tryz.prog 95 #[v1, v2] w fun e w' => e = .returned (.bool (decide (l1 = l2))) ∧ Below w.heap.size w w' := by
  obtain ⟨a1, c1, rfl, hc1, hm1, g1⟩ := h1.shape
  obtain ⟨a2, c2, rfl, hc2, hm2, g2⟩ := h2.shape
  unfold maxLen at hm1 hm2
  have H1 := Keep.keep h1; have H2 := Keep.keep h2; have G1 := Keep.keep g1; have G2 := Keep.keep g2
  clear h1 h2 g1 g2
  by_cases hl : l1.length = l2.length
  · have HL := Keep.keep hl
    rw [← hl] at H2 hc2 ⊢
    clear hl
    obtain ⟨n, hn⟩ : ∃ n, l1.length = n := ⟨_, rfl⟩
    have HN := Keep.keep hn
    rw [hn] at H1 H2 hc1 hc2 HL ⊢
    clear hn
    go_enter Tryz.func95, Tryz.ntmps95
    go_wp2_with fail
    go_loopg [5, 13] n (fun g _ u13 wx => ∃ (k : Nat), k + g = n ∧ u13 = .int .i64 (k : Int) ∧ l1.take k = l2.take k ∧ Below w.heap.size w wx)
    case atStart => exact ⟨0, by omega, rfl, rfl, Below.refl _ _⟩
    case round =>
      obtain ⟨k, hkg, rfl, heq, hb⟩ := hrel
      have HEQ := Keep.keep heq; have HB := Keep.keep hb
      clear heq hb
      cases gk with
      | zero =>
        obtain rfl : k = n := by omega
        have HF : Keep (decide (l1 = l2) = true) := ⟨by
          have h := HEQ.out
          rw [List.take_of_length_le (by rw [HN.out]; exact Nat.le_refl _), List.take_of_length_le (by rw [← HL.out]; exact Nat.le_refl _)] at h
          exact decide_eq_true h⟩
        go_wp2_with fail
        go_ret
        exact ⟨by rw [HF.out]; rfl, HB.out⟩
      | succ g =>
        have hk : k < n := by omega
        have hk1 : k < l1.length := by rw [HN.out]; exact hk
        have hk2 : k < l2.length := by rw [← HL.out]; exact hk
        have hd : decide ((k : Int) < (n : Int)) = true := decide_eq_true (by omega)
        obtain ⟨b1, o1, rfl, hb1⟩ : ∃ b off, a1 = some ⟨b, off, none⟩ ∧ b < w.heap.size := by
          rcases G1.out with h | ⟨b, off, h, hb⟩
          · omega
          · exact ⟨b, off, h, hb⟩
        obtain ⟨b2, o2, rfl, hb2⟩ : ∃ b off, a2 = some ⟨b, off, none⟩ ∧ b < w.heap.size := by
          rcases G2.out with h | ⟨b, off, h, hb⟩
          · omega
          · exact ⟨b, off, h, hb⟩
        have hr1 := H1.out.below HB.out (fun b hb => hb)
        have hr2 := H2.out.below HB.out (fun b hb => hb)
        obtain ⟨s1, s2⟩ := rcells_get l1 k hk1
        obtain ⟨t1, t2⟩ := rcells_get l2 k hk2
        have x1 := hr1.cell b1 o1 _ _ rfl _ _ s1
        have x2 := hr1.cell b1 o1 _ _ rfl _ _ s2
        have y1 := hr2.cell b2 o2 _ _ rfl _ _ t1
        have y2 := hr2.cell b2 o2 _ _ rfl _ _ t2
        rw [← Nat.add_assoc] at x2 y2
        have HST : Keep (l1[k] = l2[k] → l1.take (k + 1) = l2.take (k + 1)) := ⟨fun e => by rw [List.take_succ_eq_append_getElem hk1, List.take_succ_eq_append_getElem hk2, HEQ.out, e]⟩
        have HNE : Keep (l1[k] ≠ l2[k] → decide (l1 = l2) = false) := ⟨fun e => decide_eq_false (fun h => e (by simp only [h]))⟩
        clear hr1 hr2 s1 s2 t1 t2
        generalize l1[k] = p at *
        generalize l2[k] = q at *
        have hneq := neq_attr p q
        unfold strV at x1 x2 y1 y2
        obtain ⟨pk, pv⟩ := p
        obtain ⟨qk, qv⟩ := q
        dsimp only at x1 x2 y1 y2 hneq
        by_cases e : ((pk, pv) : R2) = (qk, qv)
        · have HE := Keep.keep (HST.out e)
          rw [decide_eq_true e] at hneq
          clear e HST HNE
          go_upto_region 6 with fail
          (refine wp_region_quiet_lit (by kernel_rfl) (by kernel_rfl) ?_); (repeat (first | (fail) | go_big_quiet_step (fail))); (refine wpQuiet_nil ?_); (intro _ hwq); (obtain ⟨nq, hwq⟩ := hwq); (subst hwq)
          go_wp2_with fail
          go_roundg g
          case measure => omega
          case rel => exact ⟨k + 1, by omega, by simp, HE.out, below_drewN' HB.out _⟩
        · have HE := Keep.keep (HNE.out e)
          rw [decide_eq_false e] at hneq
          clear e HST HNE
          go_upto_region 6 with fail
          (refine wp_region_quiet_lit (by kernel_rfl) (by kernel_rfl) ?_); (repeat (first | (fail) | go_big_quiet_step (fail))); (refine wpQuiet_nil ?_); (intro _ hwq); (obtain ⟨nq, hwq⟩ := hwq); (subst hwq)
          go_wp2_with fail
          go_ret
          exact ⟨by rw [HE.out]; rfl, below_drewN' HB.out _⟩
  · have HE : Keep (decide (l1 = l2) = false) := ⟨decide_eq_false (fun e => hl (by rw [e]))⟩
    have hd : ((l1.length : Int) != (l2.length : Int)) = true := by simp; omega
    clear hl
    go_enter Tryz.func95, Tryz.ntmps95
    go_wp2_with fail
    go_ret
    exact ⟨by rw [HE.out]; rfl, Below.refl _ _⟩
end Go.Proofs.YtplafpokgpolkaaGreatDoor
/- A REGION THAT DRAWS ITS ORDER, one fact an operation, each of all slots and of the memory; stores into boxes that the region itself makes. -/
namespace Go.Proofs.YtplafpokgpolkaaGreatDoor
open Go.RowKit
theorem wp_region_spcF {P : Program} {ops : Array Oper} {id : Nat} {Q : Exit → Act → World → Prop} {a : Act} {w : World} (D : List (Option Nat)) (C : (Nat → Value) → World → Prop) (T : Nat → (Nat → Value) → World → Prop) (hm : P.follows .mixedOrders = true)
    (hD : ops.toList.map (·.dst) = D) (hB : inOrderB ops = true) (h0 : C (slot a) w.drew)
    (hs : ∀ i, i < ops.size → ∀ a1 w1, Fr a (D.filterMap (·)) a1 → C (slot a1) w1 → (∀ j, Region.waitsFor .any ops i j = true → T j (slot a1) w1) →
      wpOp P ops Q i (fun a2 w2 => ∃ v, a2 = a1.put (D.getD i none) v ∧ C (slot a2) w2 ∧ T i (slot a2) w2 ∧ ∀ j, j ≠ i → Region.waitsFor .any ops j i = false → T j (slot a1) w1 → T j (slot a2) w2) a1 w1)
    (he : ∀ a1 w1, a1 = (D.filterMap (·)).foldl (fun b d => b.put (some d) (slot a1 d)) a → C (slot a1) w1 → (∀ j, j < ops.size → T j (slot a1) w1) → Q .normal a1 w1) : (Code.region id ops true).wp P Q a w := by
  have hlen : D.length = ops.size := by rw [← hD]; simp
  have hget : ∀ i, i < ops.size → D.getD i none ∈ D := fun i hi => by
    rw [List.getD_eq_getElem?_getD, List.getElem?_eq_getElem (by omega)]
    exact List.getElem_mem _
  refine wp_region_fr (D.filterMap (·)) (fun done s w1 => C s w1 ∧ ∀ j, j < ops.size → done.getD j false = true → T j s w1) hm ⟨h0, fun j hj hd => ?_⟩ ?_ ?_
  · simp [Array.getD_eq_getD_getElem?, hj] at hd
  · intro done a1 w1 hF hI hz hcl i hi
    have hlt := ready_lt hi
    refine wpOp_mono ?_ (hs i hlt a1 w1 hF hI.1 (fun j hj => ?_))
    · rintro a2 w2 ⟨v, rfl, hC2, hT, hst⟩
      have hFr : Fr a (D.filterMap (·)) (a1.put (D.getD i none) v) := by
        cases hd : D.getD i none with
        | none => exact hF
        | some d =>
          refine hF.put d ?_ v
          rw [List.mem_filterMap]
          exact ⟨some d, hd ▸ hget i hlt, rfl⟩
      refine ⟨hFr, hC2, fun j hj hd => ?_⟩
      by_cases e : i = j
      · subst e; exact hT
      · have hd' := (getD_set_iff hd).resolve_left e
        refine hst j (Ne.symm e) ?_ (hI.2 j hj hd')
        rw [Bool.eq_false_iff]
        intro hw
        obtain ⟨ed, he1, he2, he3⟩ := waits_of (Array.getElem?_eq_getElem hj) hw
        have := hcl j _ (Array.getElem?_eq_getElem hj) hd' ed he1 he2
        rw [he3] at this
        have hr := (ready_at hi (Array.getElem?_eq_getElem hlt)).1
        rw [getD_both hr] at this; cases this
    · obtain ⟨e, he1, he2, he3⟩ := waits_of (Array.getElem?_eq_getElem hlt) hj
      have hdn := (ready_at hi (Array.getElem?_eq_getElem hlt)).2 e he1 he2
      rw [he3] at hdn
      have hjlt : j < ops.size := by
        rcases Nat.lt_or_ge j done.size with h | h
        · omega
        · simp [Array.getD_eq_getD_getElem?, Array.getElem?_eq_none h] at hdn
      exact hI.2 j hjlt hdn
  · intro done a1 w1 ha hI hz hr
    exact he a1 w1 ha hI.1 (fun j hj => hI.2 j hj (all_done hB hz hr j hj))
section
variable {P : Program} {ops : Array Oper} {Q : Exit → Act → World → Prop} {C : (Nat → Value) → World → Prop} {T : Nat → (Nat → Value) → World → Prop} {i d : Nat} {a1 : Act} {w1 w2 : World} {op : Op} {tp : TypeId} {pos : String} {af : Array Edge} {g : Option (Nat × Bool)} {v : Value}
theorem spcF_val (hi : ops[i]? = some ⟨some d, op, tp, pos, af, g⟩) (hg : Region.wanted (⟨some d, op, tp, pos, af, g⟩ : Oper) (yielded ops a1.tmps) = true)
    (hr : (execOp a1.eval (⟨some d, op, tp, pos, af, g⟩ : Oper)).run P w1 = .ok (.value v) w2) (hd : d < a1.tmps.size)
    (h : ∀ s : Nat → Value, s d = v → (∀ j, j ≠ d → s j = slot a1 j) → C s w2 ∧ T i s w2 ∧ ∀ j, j ≠ i → Region.waitsFor .any ops j i = false → T j (slot a1) w1 → T j s w2) :
    wpOp P ops Q i (fun a2 w2 => ∃ v, a2 = a1.put (some d) v ∧ C (slot a2) w2 ∧ T i (slot a2) w2 ∧ ∀ j, j ≠ i → Region.waitsFor .any ops j i = false → T j (slot a1) w1 → T j (slot a2) w2) a1 w1 := by
  unfold wpOp
  rw [hi]
  simp only
  rw [if_pos hg]
  refine .inl ?_
  unfold Oper.wp
  rw [hr]
  exact ⟨v, rfl, h _ (slot_put_same _ _ _ hd) (fun j hj => slot_put_ne _ _ _ _ (Ne.symm hj))⟩
theorem spcF_skip (hi : ops[i]? = some ⟨none, op, tp, pos, af, g⟩) (hg : Region.wanted (⟨none, op, tp, pos, af, g⟩ : Oper) (yielded ops a1.tmps) = true)
    (hr : (execOp a1.eval (⟨none, op, tp, pos, af, g⟩ : Oper)).run P w1 = .ok .skip w2)
    (h : C (slot a1) w2 ∧ T i (slot a1) w2 ∧ ∀ j, j ≠ i → Region.waitsFor .any ops j i = false → T j (slot a1) w1 → T j (slot a1) w2) :
    wpOp P ops Q i (fun a2 w2 => ∃ v, a2 = a1.put none v ∧ C (slot a2) w2 ∧ T i (slot a2) w2 ∧ ∀ j, j ≠ i → Region.waitsFor .any ops j i = false → T j (slot a1) w1 → T j (slot a2) w2) a1 w1 := by
  unfold wpOp
  rw [hi]
  simp only
  rw [if_pos hg]
  refine .inl ?_
  unfold Oper.wp
  rw [hr]
  exact ⟨undef, rfl, h⟩
end
end Go.Proofs.YtplafpokgpolkaaGreatDoor
/- string(b) of what reads as bytes; []byte of a text that is written out. -/
namespace Go.Proofs.YtplafpokgpolkaaGreatDoor
open Go.RowKit
def ints (l : List UInt8) : List Int := l.map fun c => (c.toNat : Int)
theorem ints_length (l : List UInt8) : (ints l).length = l.length := by simp [ints]
theorem bytesOf_ints (l : List UInt8) : Lib.bytesOf (ints l) = l := by simp [Lib.bytesOf, ints, Function.comp_def]
theorem ints_cells (l : List UInt8) : (ints l).map (Value.int .u8) = bcells l := by simp [ints, bcells, Function.comp_def]
theorem Reads.bytesIn {w : World} {N : Nat → Prop} {p : Option Addr} {n c : Nat} {l : List UInt8} (h : Reads w N (.slice p n c) l) : n = l.length ∧ Lib.BytesIn w p n (ints l) := by
  obtain ⟨⟨a, cap, he, h1, h2, h3⟩, hc⟩ := h
  injection he with e1 e2 e3; subst e1 e2 e3
  refine ⟨rfl, fun hn => ?_⟩
  rcases h3 with h3 | ⟨b, off, rfl, _⟩
  · omega
  · refine ⟨b, off, rfl, fun i hi => ?_⟩
    rw [hc b off _ _ rfl i hi]
    simp [ints, List.getD_eq_getElem?_getD, hi]
theorem run_string_of {w : World} {N : Nat → Prop} {v : Value} {l : List UInt8} (h : Reads w N v l) : (convert 28 9 v).run Tryz.prog w = .ok (.string ⟨l.toArray⟩) w := by
  obtain ⟨a, cap, hu, _⟩ := h.shape
  subst hu
  have := Lib.BytesIn.convert h.bytesIn.2 (ints_length l) cap 28 5 9 Tryz.underlying28 Tryz.underlying5 Tryz.underlying9
  rw [this]
  rw [show strOfNums (ints l) = ⟨l.toArray⟩ by simp [strOfNums, ints, Function.comp_def]]
/-- []byte of a text that is written out: the row that the walk leaves -/
theorem Reads.lit {w : World} (e : TypeId) (c : Array Value) (l : List UInt8) (fr : Nat × Nat) (g n : Nat) (hg : g = w.heap.size) (hc : c = (bcells l).toArray) (hn : n = l.length) (hm : l.length ≤ maxLen) : Reads (w.alloc (.cells c e fr)) (fun b => b = w.heap.size) (.slice (some ⟨g, 0, none⟩) n n) l := by
  subst hg hc hn
  refine ⟨⟨_, _, rfl, Nat.le_refl _, hm, .inr ⟨_, _, rfl, rfl⟩⟩, fun b off m cap he j hj => ?_⟩
  injection he with e1 _ _; injection e1 with e1; injection e1 with e1 e2 _; subst e1 e2
  rw [World.cell?_alloc_mark, Nat.zero_add]
  simpa using bcells_get l j hj
/-- .. as a rule of the walk -/
theorem convB (w : World) (C : Array Value) (n c g : Nat) (hg : g = w.heap.size) : (convert 28 28 (.slice (some ⟨g, 0, none⟩) n c)).run Tryz.prog (w.alloc (.cells C 5)) = .ok (.slice (some ⟨g, 0, none⟩) n c) (w.alloc (.cells C 5 (C.size, C.size + 1))) :=
  Go.Joins.run_convert_bytes_const_at w 28 5 C n c g hg Tryz.underlying28 Tryz.underlying5
end Go.Proofs.YtplafpokgpolkaaGreatDoor
/- bytes.Clone, bytes.Equal, string(b): on what reads as bytes. -/
namespace Go.Proofs.YtplafpokgpolkaaGreatDoor
open Go.RowKit
theorem equal_any (v1 v2 : Value) (l1 l2 : List UInt8) (N1 N2 : Nat → Prop) (w : World) (h1 : Reads w N1 v1 l1) (h2 : Reads w N2 v2 l2) :
    Calls Tryz.prog 94 #[v1, v2] w fun e w' => e = .returned (.bool (l1 == l2)) ∧ w = w' := by
  obtain ⟨a, cap, hu, _⟩ := h1.shape
  obtain ⟨a2, cap2, hu2, _⟩ := h2.shape
  subst hu hu2
  refine (Tryz.bytes_Equal_all a a2 _ _ _ _ (ints l1) (ints l2) w (ints_length _) (ints_length _) h1.bytesIn.2 h2.bytesIn.2).mono ?_
  rintro e w' ⟨rfl, rfl⟩
  exact ⟨by rw [bytesOf_ints, bytesOf_ints], rfl⟩
end Go.Proofs.YtplafpokgpolkaaGreatDoor
/- tar.Same: two Members are the same. -/
namespace Go.Proofs.YtplafpokgpolkaaGreatDoor
open Go.RowKit
/-- the box at slot d: a new row -/
def Bx (n d : Nat) (c : Array Value) (s : Nat → Value) (w : World) : Prop := ∃ b, s d = .pointer (some ⟨b, 0, none⟩) ∧ n ≤ b ∧ Row w b 30 c
def Bx8 (n d : Nat) (s : Nat → Value) (w : World) : Prop := ∃ c, Bx n d c s w ∧ c.size = 8
def twT (n b2 b3 : Nat) (A B : Array Value) : Nat → (Nat → Value) → World → Prop
  | 0, s, _ => s 7 = .pointer (some ⟨b2, 1, none⟩)
  | 1, s, _ => s 8 = .agg A
  | 2, s, _ => s 9 = .pointer (some ⟨b3, 1, none⟩)
  | 3, s, _ => s 10 = .agg B
  | 4, s, w => Bx8 n 5 s w
  | 5, s, w => Bx8 n 6 s w
  | 6, s, w => Bx n 5 A s w
  | 7, s, w => Bx n 6 B s w
  | _, _, _ => True
theorem Bx.keep {n d : Nat} {c : Array Value} {s s' : Nat → Value} {w w' : World} (h : Bx n d c s w) (hs : s' d = s d) (hb : ∀ b, s d = .pointer (some ⟨b, 0, none⟩) → w'.heap[b]? = w.heap[b]?) : Bx n d c s' w' := by
  obtain ⟨b, h1, h2, h3⟩ := h
  exact ⟨b, hs.trans h1, h2, (hb b h1).trans h3⟩
theorem Bx8.keep {n d : Nat} {s s' : Nat → Value} {w w' : World} (h : Bx8 n d s w) (hs : s' d = s d) (hb : ∀ b, s d = .pointer (some ⟨b, 0, none⟩) → w'.heap[b]? = w.heap[b]?) : Bx8 n d s' w' := by
  obtain ⟨c, h1, h2⟩ := h
  exact ⟨c, h1.keep hs hb, h2⟩
theorem Bx.lt {n d : Nat} {c : Array Value} {s : Nat → Value} {w : World} (h : Bx n d c s w) {b : Nat} (hb : s d = .pointer (some ⟨b, 0, none⟩)) : b < w.heap.size := by
  obtain ⟨b', h1, _, h3⟩ := h
  rw [h1] at hb; cases hb
  exact Row.lt h3
theorem Bx8.lt {n d : Nat} {s : Nat → Value} {w : World} (h : Bx8 n d s w) {b : Nat} (hb : s d = .pointer (some ⟨b, 0, none⟩)) : b < w.heap.size := by
  obtain ⟨c, h1, _⟩ := h
  exact h1.lt hb
/-- what holds throughout: two boxes lie apart -/
structure twC (n : Nat) (w : World) (s : Nat → Value) (wx : World) : Prop where
  b : Below w.heap.size w wx
  p : ∀ b, s 5 = .pointer (some ⟨b, 0, none⟩) → n ≤ b ∧ b < wx.heap.size
  q : ∀ b, s 6 = .pointer (some ⟨b, 0, none⟩) → n ≤ b ∧ b < wx.heap.size
  a : ∀ b b', s 5 = .pointer (some ⟨b, 0, none⟩) → s 6 = .pointer (some ⟨b', 0, none⟩) → b ≠ b'
/-- a quiet operation of slot d, or one that makes a new row -/
theorem twT_keep {n b2 b3 : Nat} {A B : Array Value} {s s' : Nat → Value} {w w' : World} (d : Nat) (hs : ∀ j, j ≠ d → s' j = s j) (hw : ∀ b, b < w.heap.size → w'.heap[b]? = w.heap[b]?) (j : Nat) (hj : (j = 0 → d ≠ 7) ∧ (j = 1 → d ≠ 8) ∧ (j = 2 → d ≠ 9) ∧ (j = 3 → d ≠ 10) ∧ (j = 4 ∨ j = 6 → d ≠ 5) ∧ (j = 5 ∨ j = 7 → d ≠ 6)) (h : twT n b2 b3 A B j s w) : twT n b2 b3 A B j s' w' := by
  obtain ⟨j0, j1, j2, j3, j4, j5⟩ := hj
  rcases (by omega : j = 0 ∨ j = 1 ∨ j = 2 ∨ j = 3 ∨ j = 4 ∨ j = 5 ∨ j = 6 ∨ j = 7 ∨ 8 ≤ j) with rfl | rfl | rfl | rfl | rfl | rfl | rfl | rfl | h8
  · exact (hs 7 (Ne.symm (j0 rfl))).trans h
  · exact (hs 8 (Ne.symm (j1 rfl))).trans h
  · exact (hs 9 (Ne.symm (j2 rfl))).trans h
  · exact (hs 10 (Ne.symm (j3 rfl))).trans h
  · have h : Bx8 n 5 s w := h
    exact h.keep (hs 5 (Ne.symm (j4 (.inl rfl)))) (fun b hb => hw b (h.lt hb))
  · have h : Bx8 n 6 s w := h
    exact h.keep (hs 6 (Ne.symm (j5 (.inl rfl)))) (fun b hb => hw b (h.lt hb))
  · have h : Bx n 5 A s w := h
    exact h.keep (hs 5 (Ne.symm (j4 (.inr rfl)))) (fun b hb => hw b (h.lt hb))
  · have h : Bx n 6 B s w := h
    exact h.keep (hs 6 (Ne.symm (j5 (.inr rfl)))) (fun b hb => hw b (h.lt hb))
  · obtain ⟨i, rfl⟩ : ∃ i, j = i + 8 := ⟨j - 8, by omega⟩
    trivial
/-- the first box is written -/
theorem twT_store5 {n b2 b3 b : Nat} {A B c : Array Value} {w0 : World} {s : Nat → Value} {w : World} (hC : twC n w0 s w) (h5 : s 5 = .pointer (some ⟨b, 0, none⟩)) (hrow : Row w b 30 c) (hA : A.size = 8) (j : Nat) (h : twT n b2 b3 A B j s w) : twT n b2 b3 A B j s (w.setRow b A) := by
  have hoth : ∀ k, k ≠ b → (w.setRow b A).heap[k]? = w.heap[k]? := fun k hk => Go.setRow_other w b k A hk
  have h6 : ∀ b', s 6 = .pointer (some ⟨b', 0, none⟩) → (w.setRow b A).heap[b']? = w.heap[b']? := fun b' h' => hoth b' (Ne.symm (hC.a b b' h5 h'))
  rcases (by omega : j = 0 ∨ j = 1 ∨ j = 2 ∨ j = 3 ∨ j = 4 ∨ j = 5 ∨ j = 6 ∨ j = 7 ∨ 8 ≤ j) with rfl | rfl | rfl | rfl | rfl | rfl | rfl | rfl | h8
  · exact h
  · exact h
  · exact h
  · exact h
  · exact ⟨A, ⟨b, h5, (hC.p b h5).1, hrow.setRow A⟩, hA⟩
  · have h : Bx8 n 6 s w := h
    exact h.keep rfl h6
  · exact ⟨b, h5, (hC.p b h5).1, hrow.setRow A⟩
  · have h : Bx n 6 B s w := h
    exact h.keep rfl h6
  · obtain ⟨i, rfl⟩ : ∃ i, j = i + 8 := ⟨j - 8, by omega⟩
    trivial
/-- the second box is written -/
theorem twT_store6 {n b2 b3 b : Nat} {A B c : Array Value} {w0 : World} {s : Nat → Value} {w : World} (hC : twC n w0 s w) (h5 : s 6 = .pointer (some ⟨b, 0, none⟩)) (hrow : Row w b 30 c) (hB : B.size = 8) (j : Nat) (h : twT n b2 b3 A B j s w) : twT n b2 b3 A B j s (w.setRow b B) := by
  have hoth : ∀ k, k ≠ b → (w.setRow b B).heap[k]? = w.heap[k]? := fun k hk => Go.setRow_other w b k B hk
  have h6 : ∀ b', s 5 = .pointer (some ⟨b', 0, none⟩) → (w.setRow b B).heap[b']? = w.heap[b']? := fun b' h' => hoth b' (hC.a b' b h' h5)
  rcases (by omega : j = 0 ∨ j = 1 ∨ j = 2 ∨ j = 3 ∨ j = 4 ∨ j = 5 ∨ j = 6 ∨ j = 7 ∨ 8 ≤ j) with rfl | rfl | rfl | rfl | rfl | rfl | rfl | rfl | h8
  · exact h
  · exact h
  · exact h
  · exact h
  · have h : Bx8 n 5 s w := h
    exact h.keep rfl h6
  · exact ⟨B, ⟨b, h5, (hC.q b h5).1, hrow.setRow B⟩, hB⟩
  · have h : Bx n 5 A s w := h
    exact h.keep rfl h6
  · exact ⟨b, h5, (hC.q b h5).1, hrow.setRow B⟩
  · obtain ⟨i, rfl⟩ : ∃ i, j = i + 8 := ⟨j - 8, by omega⟩
    trivial
/-- a bool is handed back, which tells whether P -/
def SaysB (P : Prop) (e : Ending) : Prop := ∃ r : Bool, e = .returned (.bool r) ∧ (r = true ↔ P)
theorem mb_eq {a b : Mb} : a = b ↔ a.1 = b.1 ∧ a.2.kind = b.2.kind ∧ a.2.mode = b.2.mode ∧ a.2.uid = b.2.uid ∧ a.2.gid = b.2.gid ∧ a.2.time = b.2.time ∧ a.2.link = b.2.link ∧ a.2.data = b.2.data ∧ a.2.attrs = b.2.attrs := by
  obtain ⟨p, ⟨k, m, u, g, t, at_, d, l⟩⟩ := a
  obtain ⟨p', ⟨k', m', u', g', t', at', d', l'⟩⟩ := b
  simp only [Prod.mk.injEq, Nd.mk.injEq]
  constructor
  · rintro ⟨h1, h2, h3, h4, h5, h6, h7, h8, h9⟩; exact ⟨h1, h2, h3, h4, h5, h6, h9, h8, h7⟩
  · rintro ⟨h1, h2, h3, h4, h5, h6, h7, h8, h9⟩; exact ⟨h1, h2, h3, h4, h5, h6, h9, h8, h7⟩
set_option maxHeartbeats 4000000 in
set_option maxRecDepth 100000 in
theorem same_tar (a b : Mb) (av dv bv ev : Value) (w : World) (ha : NdR w (· < w.heap.size) a.2 av dv) (hb : NdR w (· < w.heap.size) b.2 bv ev) :
    Calls Tryz.prog 49 #[.agg (mbC a av dv), .agg (mbC b bv ev)] w fun e w' => SaysB (a = b) e ∧ Below w.heap.size w w' := by
  obtain ⟨aa, la, ca, ad, ld, cd, e1, e2⟩ := ha.shape
  obtain ⟨ba, lb, cb, bd, le, ce, e3, e4⟩ := hb.shape
  subst e1 e2 e3 e4
  have HA := Keep.keep ha; have HB := Keep.keep hb
  have HEQ := Keep.keep (mb_eq (a := a) (b := b))
  clear ha hb
  obtain ⟨ap, ⟨kind, mode, uid, gid, time, attrs, data, link⟩⟩ := a
  obtain ⟨bp, ⟨kind2, mode2, uid2, gid2, time2, attrs2, data2, link2⟩⟩ := b
  unfold mbC strV
  dsimp only at HEQ HA HB ⊢
  obtain ⟨PEQ, hP⟩ : ∃ P : Prop, (((ap, ⟨kind, mode, uid, gid, time, attrs, data, link⟩) : Mb) = (bp, ⟨kind2, mode2, uid2, gid2, time2, attrs2, data2, link2⟩)) = P := ⟨_, rfl⟩
  rw [hP] at HEQ ⊢
  clear hP
  go_enter Tryz.func49, Tryz.ntmps49
  go_upto_region 1 with fail
  refine wp_world (R := fun w1 => Hp NoM w w1 [rowA w.heap.size 32 #[.string ⟨ap.toArray⟩, .int .i64 kind, .int .u32 mode, .int .u32 uid, .int .u32 gid, .int .i64 time, .slice aa la ca, .slice ad ld cd, .string ⟨link.toArray⟩], rowA (w.heap.size + 1) 32 #[.string ⟨bp.toArray⟩, .int .i64 kind2, .int .u32 mode2, .int .u32 uid2, .int .u32 gid2, .int .i64 time2, .slice ba lb cb, .slice bd le ce, .string ⟨link2.toArray⟩]]) ?_ ?_
  · exact ((Hp.begin NoM w).newRow _ _).newRow' _ _ _ _ (by simp) rfl
  intro w1 H1
  obtain ⟨b2, hb2⟩ : ∃ b2, w.heap.size = b2 := ⟨_, rfl⟩
  have HB2 := Keep.keep hb2
  have hsz1 := (H1.out.row 1 rfl).lt
  rw [hb2] at H1 hsz1 ⊢
  clear hb2
  obtain ⟨A, hA⟩ : ∃ A : Array Value, #[.int .i64 kind, .int .u32 mode, .int .u32 uid, .int .u32 gid, .int .i64 time, .slice aa la ca, .slice ad ld cd, .string ⟨link.toArray⟩] = A := ⟨_, rfl⟩
  obtain ⟨C, hC⟩ : ∃ C : Array Value, #[.int .i64 kind2, .int .u32 mode2, .int .u32 uid2, .int .u32 gid2, .int .i64 time2, .slice ba lb cb, .slice bd le ce, .string ⟨link2.toArray⟩] = C := ⟨_, rfl⟩
  refine wp_region_spcF [some 7, some 8, some 9, some 10, some 5, some 6, none, none] (twC w1.heap.size w1) (twT w1.heap.size b2 (b2 + 1) A C) (by kernel_rfl) rfl (by kernel_rfl) ?_ ?_ ?_
  · exact ⟨(Below.refl _ _).drew, fun b h => (by cases h), fun b h => (by cases h), fun b b' h => (by cases h)⟩
  · intro k hk a1 w2 hF hCC hT
    have s2 : a1.eval (.tmp 2) = .pointer (some ⟨b2, 0, none⟩) := (hF.same 2 (by decide)).trans rfl
    have s3 : a1.eval (.tmp 3) = .pointer (some ⟨b2 + 1, 0, none⟩) := (hF.same 3 (by decide)).trans rfl
    have hsz : a1.tmps.size = 72 := hF.size
    have HP := H1.out.call hCC.b
    have hb12 := HP.size
    have hk : k < 8 := hk
    have hoC : C.all (·.oneCell') = true := by rw [← hC]; simp [Value.oneCell']
    have hoA : A.all (·.oneCell') = true := by rw [← hA]; simp [Value.oneCell']
    have hzA : A.size = 8 := by rw [← hA]; rfl
    have hzC : C.size = 8 := by rw [← hC]; rfl
    have hcq : ∀ d, d ≠ 5 → d ≠ 6 → ∀ s : Nat → Value, (∀ j, j ≠ d → s j = slot a1 j) → twC w1.heap.size w1 s w2 := fun d h5 h6 s hs => ⟨hCC.b, fun b h => hCC.p b (by rw [← hs 5 (Ne.symm h5)]; exact h), fun b h => hCC.q b (by rw [← hs 6 (Ne.symm h6)]; exact h), fun b b' h h' => hCC.a b b' (by rw [← hs 5 (Ne.symm h5)]; exact h) (by rw [← hs 6 (Ne.symm h6)]; exact h')⟩
    rcases (by omega : k = 0 ∨ k = 1 ∨ k = 2 ∨ k = 3 ∨ k = 4 ∨ k = 5 ∨ k = 6 ∨ k = 7) with rfl | rfl | rfl | rfl | rfl | rfl | rfl | rfl
    · refine spcF_val (d := 7) rfl (wanted_none rfl) (run_fieldAddr (m := 7) Tryz.underlying32 rfl (by kernel_rfl) s2) (by omega) (fun s hd hs => ⟨hcq 7 (by decide) (by decide) s hs, hd, fun j hj _ h => twT_keep 7 hs (fun _ _ => rfl) j (by omega) h⟩)
    · have hx : a1.eval (.tmp 7) = .pointer (some ⟨b2, 1, none⟩) := hT 0 (by kernel_rfl)
      have HL := Keep.keep (HP)
      exact spcF_val (d := 8) rfl (wanted_none rfl) (run_loadNd (m := (ap, ⟨kind, mode, uid, gid, time, attrs, data, link⟩)) (HL.out.row 0 rfl) hx) (by omega) (fun s hd hs => ⟨hcq 8 (by decide) (by decide) s hs, hd.trans (by rw [← hA]; rfl), fun j hj _ h => twT_keep 8 hs (fun _ _ => rfl) j (by omega) h⟩)
    · exact spcF_val (d := 9) rfl (wanted_none rfl) (run_fieldAddr (m := 7) Tryz.underlying32 rfl (by kernel_rfl) s3) (by omega) (fun s hd hs => ⟨hcq 9 (by decide) (by decide) s hs, hd, fun j hj _ h => twT_keep 9 hs (fun _ _ => rfl) j (by omega) h⟩)
    · have hx : a1.eval (.tmp 9) = .pointer (some ⟨b2 + 1, 1, none⟩) := hT 2 (by kernel_rfl)
      have HL := Keep.keep (HP)
      exact spcF_val (d := 10) rfl (wanted_none rfl) (run_loadNd (m := (bp, ⟨kind2, mode2, uid2, gid2, time2, attrs2, data2, link2⟩)) (HL.out.row 1 rfl) hx) (by omega) (fun s hd hs => ⟨hcq 10 (by decide) (by decide) s hs, hd.trans (by rw [← hC]; rfl), fun j hj _ h => twT_keep 10 hs (fun _ _ => rfl) j (by omega) h⟩)
    · have hws := hCC.b.size
      refine spcF_val (d := 5) (v := .pointer (some ⟨w2.heap.size, 0, none⟩)) (w2 := w2.alloc (.cells zeroNd 30)) rfl (wanted_none rfl) (by simp [execOp, run_newN]) (by omega) (fun s hd hs => ⟨⟨hCC.b.alloc hCC.b.size _, fun b h => ?_, fun b h => ?_, fun b b' h h' => ?_⟩, ⟨zeroNd, ⟨w2.heap.size, hd, hws, Row.new _ _ _⟩, rfl⟩, fun j hj hw h => twT_keep 5 hs (fun b hb => Below.heap_alloc w2 _ b hb) j ?_ h⟩)
      · rw [hd] at h; cases h; simp; omega
      · rw [hs 6 (by decide)] at h
        have := hCC.q b h
        simp; omega
      · rw [hd] at h; cases h
        rw [hs 6 (by decide)] at h'
        have := (hCC.q b' h').2
        omega
      · have h6 : j ≠ 6 := by rintro rfl; exact Bool.false_ne_true (hw.symm.trans (by kernel_rfl))
        omega
    · have hws := hCC.b.size
      refine spcF_val (d := 6) (v := .pointer (some ⟨w2.heap.size, 0, none⟩)) (w2 := w2.alloc (.cells zeroNd 30)) rfl (wanted_none rfl) (by simp [execOp, run_newN]) (by omega) (fun s hd hs => ⟨⟨hCC.b.alloc hCC.b.size _, fun b h => ?_, fun b h => ?_, fun b b' h h' => ?_⟩, ⟨zeroNd, ⟨w2.heap.size, hd, hws, Row.new _ _ _⟩, rfl⟩, fun j hj hw h => ?_⟩)
      · rw [hs 5 (by decide)] at h
        have := hCC.p b h
        simp; omega
      · rw [hd] at h; cases h; simp; omega
      · rw [hd] at h'; cases h'
        rw [hs 5 (by decide)] at h
        have := (hCC.p b h).2
        omega
      · have h7 : j ≠ 7 := by rintro rfl; exact Bool.false_ne_true (hw.symm.trans (by kernel_rfl))
        exact twT_keep 6 hs (fun b hb => Below.heap_alloc w2 _ b hb) j (by omega) h
    · obtain ⟨c, ⟨b, h5, hnb, hrow⟩, hc8⟩ : Bx8 w1.heap.size 5 (slot a1) w2 := hT 4 (by kernel_rfl)
      have h8 : a1.eval (.tmp 8) = .agg A := hT 1 (by kernel_rfl)
      have hx : a1.eval (.tmp 5) = .pointer (some ⟨b, 0, none⟩) := h5
      have hst := hrow.storeAt (P := Tryz.prog) 30 A (by rw [hzA]; exact aggN.i) (by rw [hzA, hc8]) hoA
      refine spcF_skip (w2 := w2.setRow b A) rfl (wanted_none rfl) (by unfold execOp; simp only [hx, h8, Sem.run_bind, Sem.run_pure, Result.andThen_ok, hst]) ⟨⟨(Chg.setRow (M := NoM) (.of_below hCC.b) (.inl hnb) A).below (fun _ _ h => h), fun b' h => ?_, fun b' h => ?_, hCC.a⟩, ⟨b, h5, hnb, hrow.setRow A⟩, fun j hj hw h => twT_store5 hCC h5 hrow hzA j h⟩
      · have := hCC.p b' h; exact ⟨this.1, by have := (Chg.setRow (M := fun x => x = b) (.refl _ 0 w2) (.inr rfl) A).size; omega⟩
      · have := hCC.q b' h; exact ⟨this.1, by have := (Chg.setRow (M := fun x => x = b) (.refl _ 0 w2) (.inr rfl) A).size; omega⟩
    · obtain ⟨c, ⟨b, h5, hnb, hrow⟩, hc8⟩ : Bx8 w1.heap.size 6 (slot a1) w2 := hT 5 (by kernel_rfl)
      have h8 : a1.eval (.tmp 10) = .agg C := hT 3 (by kernel_rfl)
      have hx : a1.eval (.tmp 6) = .pointer (some ⟨b, 0, none⟩) := h5
      have hst := hrow.storeAt (P := Tryz.prog) 30 C (by rw [hzC]; exact aggN.i) (by rw [hzC, hc8]) hoC
      refine spcF_skip (w2 := w2.setRow b C) rfl (wanted_none rfl) (by unfold execOp; simp only [hx, h8, Sem.run_bind, Sem.run_pure, Result.andThen_ok, hst]) ⟨⟨(Chg.setRow (M := NoM) (.of_below hCC.b) (.inl hnb) C).below (fun _ _ h => h), fun b' h => ?_, fun b' h => ?_, hCC.a⟩, ⟨b, h5, hnb, hrow.setRow C⟩, fun j hj hw h => twT_store6 hCC h5 hrow hzC j h⟩
      · have := hCC.p b' h; exact ⟨this.1, by have := (Chg.setRow (M := fun x => x = b) (.refl _ 0 w2) (.inr rfl) C).size; omega⟩
      · have := hCC.q b' h; exact ⟨this.1, by have := (Chg.setRow (M := fun x => x = b) (.refl _ 0 w2) (.inr rfl) C).size; omega⟩
  · intro a1 w2 ha hCC hT
    have t7 : slot a1 7 = .pointer (some ⟨b2, 1, none⟩) := hT 0 (by decide)
    have t8 : slot a1 8 = .agg A := hT 1 (by decide)
    have t9 : slot a1 9 = .pointer (some ⟨b2 + 1, 1, none⟩) := hT 2 (by decide)
    have t10 : slot a1 10 = .agg C := hT 3 (by decide)
    obtain ⟨b5, t5, _, r5⟩ : Bx w1.heap.size 5 A (slot a1) w2 := hT 6 (by decide)
    obtain ⟨b6, t6, _, r6⟩ : Bx w1.heap.size 6 C (slot a1) w2 := hT 7 (by decide)
    have H2 := H1.out.call hCC.b
    have m20 := (H2.row 0 rfl).cell (i := 0) rfl
    have m30 := (H2.row 1 rfl).cell (i := 0) rfl
    have HA2 := Keep.keep (HA.out.below H2.below (fun b hb => hb))
    have HB3 := Keep.keep (HB.out.below H2.below (fun b hb => hb))
    have HBL := Keep.keep H2.below
    rw [← hA] at r5
    rw [← hC] at r6
    have x0 := r5.cell (i := 0) rfl
    have x1 := r5.cell (i := 1) rfl
    have x2 := r5.cell (i := 2) rfl
    have x3 := r5.cell (i := 3) rfl
    have x4 := r5.cell (i := 4) rfl
    have x5 := r5.cell (i := 5) rfl
    have x6 := r5.cell (i := 6) rfl
    have x7 := r5.cell (i := 7) rfl
    have y0 := r6.cell (i := 0) rfl
    have y1 := r6.cell (i := 1) rfl
    have y2 := r6.cell (i := 2) rfl
    have y3 := r6.cell (i := 3) rfl
    have y4 := r6.cell (i := 4) rfl
    have y5 := r6.cell (i := 5) rfl
    have y6 := r6.cell (i := 6) rfl
    have y7 := r6.cell (i := 7) rfl
    simp only [List.filterMap_cons, List.filterMap_nil, List.foldl_cons, List.foldl_nil, t5, t6, t7, t8, t9, t10] at ha
    clear hT t5 t6 t7 t8 t9 t10 r5 r6 hCC H2 hA hC
    subst ha
    simp only [Act.put, List.setIfInBounds_toArray, List.set_cons_succ, List.set_cons_zero]
    go_wp2_with fail
    rotate_left
    all_goals try (
      go_ret
      refine ⟨⟨false, rfl, ⟨fun h => (by cases h), fun h => ?_⟩⟩, HBL.out⟩
      obtain ⟨e1, e2, e3, e4, e5, e6, e7, e8, e9⟩ := HEQ.out.1 h
      contradiction)
    have HE : Keep (ap = bp ∧ kind = kind2 ∧ mode = mode2 ∧ uid = uid2 ∧ gid = gid2 ∧ time = time2 ∧ link = link2) := ⟨⟨by assumption, by assumption, by assumption, by assumption, by assumption, by assumption, by assumption⟩⟩
    have hle := HBL.out.size
    refine (equal_any _ _ _ _ _ _ w2 HA2.out.dt HB3.out.dt).mono ?_
    rintro e w3 ⟨rfl, rfl⟩
    by_cases hdt : data = data2
    · have HD := Keep.keep hdt
      have hbd : (data == data2) = true := by simpa using hdt
      rw [hbd]
      clear hdt hbd
      go_wp2_with fail
      refine (aequal_any _ _ _ _ w2 (HA2.out.at_.mono (fun b hb => Nat.lt_of_lt_of_le hb hle)) (HB3.out.at_.mono (fun b hb => Nat.lt_of_lt_of_le hb hle))).mono ?_
      rintro e w4 ⟨rfl, hb4⟩
      have HB4 := Keep.keep (HBL.out.trans (hb4.mono hle))
      have HR : Keep (decide (attrs = attrs2) = true ↔ PEQ) := ⟨by
        rw [decide_eq_true_eq, HEQ.out]
        exact ⟨fun h => ⟨HE.out.1, HE.out.2.1, HE.out.2.2.1, HE.out.2.2.2.1, HE.out.2.2.2.2.1, HE.out.2.2.2.2.2.1, HE.out.2.2.2.2.2.2, HD.out, h⟩, fun h => h.2.2.2.2.2.2.2.2⟩⟩
      clear hb4
      generalize decide (attrs = attrs2) = rb at *
      go_wp2_with fail
      go_ret
      exact ⟨⟨rb, rfl, HR.out⟩, HB4.out⟩
    · have hbd : (data == data2) = false := by simpa using hdt
      have HD := Keep.keep hdt
      rw [hbd]
      clear hdt hbd
      go_wp2_with fail
      go_ret
      exact ⟨⟨false, rfl, ⟨fun h => (by cases h), fun h => (HD.out (HEQ.out.1 h).2.2.2.2.2.2.2.1).elim⟩⟩, HBL.out⟩
end Go.Proofs.YtplafpokgpolkaaGreatDoor
