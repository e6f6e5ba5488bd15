/- PARTS OF ONE PROOF, set in one file: PathRef2, PathCleanL, PathRef3, PathRefL, PathRef4, RMay. Each part tells its own conditions. -/
import Derived.Lib.Replace
import Derived.Test.YtphgmkhbhboklaaGreatDoorP3
import Derived.Test.YtphgmkhbhboklaaGreatDoorP5
import Derived.Test.YtphgmkhbhboklaaGreatDoorP8
/- portolanref11: May, Join, cut, Parent, Base, Above, Under. -/
namespace Go.Proofs.YtphgmkhbhboklaaGreatDoor
open Go.RowKit
theorem mayP_eq (p : List UInt8) : mayP p = ((splitP p).all mayN && (decide ((splitP p).length ≤ 254) && decide (p.length ≤ 4080))) := by
  unfold mayP
  have h : decide ((splitP p).length < 255) = decide ((splitP p).length ≤ 254) := by simp only [decide_eq_decide]; omega
  rw [h]
  cases (splitP p).all mayN <;> cases decide ((splitP p).length ≤ 254) <;> cases decide (p.length ≤ 4080) <;> rfl
set_option maxHeartbeats 1000000 in
set_option maxRecDepth 100000 in
theorem rmay_any (p : List UInt8) (hp : p.length ≤ 1000000) (w : World) : Calls Tryz.prog 79 #[.string ⟨p.toArray⟩] w fun e w' => e = .returned (.bool (mayP p)) ∧ Below w.heap.size w w' := by
  have HS := Keep.keep (rsplit_any p hp w)
  have HM : Keep (∀ x ∈ splitP p, ∀ w, Calls Tryz.prog 76 #[.string ⟨x.toArray⟩] w fun e w' => e = .returned (.bool (mayN x)) ∧ w = w') := ⟨fun x hx w => rmayname_any x (Nat.le_trans (splitP_mem_len p x hx) hp) w⟩
  have hln : (splitP p).length ≤ 1000001 := by
    have := spl_length p
    unfold splitP; split
    · simp
    · omega
  have hq1 : decide ((p.length : Int) ≤ 4080) = decide (p.length ≤ 4080) := by simp only [decide_eq_decide]; omega
  have HE : Keep (mayP p = ((splitP p).all mayN && (decide ((splitP p).length ≤ 254) && decide (p.length ≤ 4080)))) := ⟨mayP_eq p⟩
  generalize mayP p = out at *
  generalize decide (p.length ≤ 4080) = b1 at *
  generalize splitP p = l at *
  go_enter Tryz.func79, Tryz.ntmps79
  go_wp2_with fail
  refine HS.out.mono ?_
  rintro e w1 ⟨v, rfl, ho, hb⟩
  have HR := Keep.keep ((ownsV_reads ho).mono (N' := (· < w1.heap.size)) (fun b hb => hb.2.1)); have HB := Keep.keep hb
  obtain ⟨a, c, rfl, hcap, -, h3⟩ := (ownsV_reads ho).shape
  have H3 := Keep.keep h3
  clear ho hb h3
  go_wp2_with fail
  go_loopg [4] l.length (fun g u4 wx => ∃ k : Nat, k + g = l.length ∧ u4 = .int .i64 (k : Int) ∧ (l.take k).all mayN = true ∧ w1 = wx)
  case atStart => exact ⟨0, by omega, rfl, rfl, rfl⟩
  case round =>
    obtain ⟨k, hkg, rfl, hal, rfl⟩ := hrel
    have HAL := Keep.keep hal
    clear hal
    cases gk with
    | zero =>
      obtain rfl : k = l.length := by omega
      have HAL2 : Keep (l.all mayN = true) := ⟨by have := HAL.out; rwa [List.take_length] at this⟩
      rw [HAL2.out] at HE
      have hq2 : decide ((l.length : Int) ≤ 254) = decide (l.length ≤ 254) := by simp only [decide_eq_decide]; omega
      generalize decide (l.length ≤ 254) = b2 at *
      cases b2 with
      | false =>
        go_wp2_with fail
        go_ret
        exact ⟨by rw [HE.out]; rfl, HB.out⟩
      | true =>
        go_wp2_with fail
        go_ret
        exact ⟨by rw [HE.out]; rfl, HB.out⟩
    | succ g =>
      have hk : k < l.length := by omega
      rcases H3.out with ⟨_, h3⟩ | ⟨b, off, rfl, hbl⟩
      · omega
      have hcell := HR.out.cell b off _ _ rfl k (strV l[k]) (by simp [hk])
      have HMN := Keep.keep (HM.out l[k] (List.getElem_mem hk))
      have HT : Keep ((l.take (k + 1)).all mayN = mayN l[k]) := ⟨by
        rw [List.take_succ_eq_append_getElem hk, List.all_append, HAL.out]; simp⟩
      have HF : Keep (mayN l[k] = false → out = false) := ⟨fun h => by
        rw [HE.out]
        have : l.all mayN = false := List.all_eq_false.2 ⟨_, List.getElem_mem hk, by rw [h]; decide⟩
        rw [this]; rfl⟩
      generalize l[k] = x at *
      unfold strV at hcell
      cases hm : mayN x with
      | false =>
        rw [hm] at HMN
        have HX := Keep.keep (HF.out hm)
        clear hm
        go_wp2_with fail
        refine (HMN.out _).mono ?_
        rintro e w' ⟨rfl, rfl⟩
        go_wp2_with fail
        go_ret
        exact ⟨by rw [HX.out]; rfl, HB.out⟩
      | true =>
        rw [hm] at HMN HT
        clear hm
        go_wp2_with fail
        refine (HMN.out _).mono ?_
        rintro e w' ⟨rfl, rfl⟩
        go_wp2_with fail
        go_roundg g
        case measure => omega
        case rel => exact ⟨k + 1, by omega, by simp, HT.out, rfl⟩
theorem joinS_app_len (a b : List (List UInt8)) : (joinS a).length ≤ (joinS (a ++ b)).length := by
  have := joinS_take_len (a ++ b) a.length
  rwa [List.take_left'] at this
  rfl
theorem flt_app_len (l : List (List UInt8)) (k : Nat) : (joinS (flt (l.take k))).length ≤ (joinP l).length := by
  have h : flt l = flt (l.take k) ++ flt (l.drop k) := by unfold flt; rw [← List.filter_append, List.take_append_drop]
  unfold joinP
  rw [show (l.filter fun x => !x.isEmpty) = flt l from rfl, h]
  exact joinS_app_len _ _
theorem joinS_flt_nil {l : List (List UInt8)} (hl : ∀ x ∈ l, x ≠ []) (h : joinS l = []) : l = [] := by
  cases l with
  | nil => rfl
  | cons x r =>
    exfalso
    cases r with
    | nil => exact hl x (by simp) h
    | cons y r =>
      rw [joinS] at h
      simp at h
theorem joinS_flt_snoc {l : List (List UInt8)} (hl : ∀ x ∈ l, x ≠ []) (x : List UInt8) : joinS (l ++ [x]) = if (joinS l).isEmpty then x else joinS l ++ [47] ++ x := by
  cases he : (joinS l).isEmpty with
  | true =>
    rw [joinS_flt_nil hl (List.isEmpty_iff.1 he)]; rfl
  | false =>
    have : l ≠ [] := fun e => by rw [e] at he; cases he
    rw [joinS_snoc _ _ this]; simp
theorem flt_ne (l : List (List UInt8)) : ∀ x ∈ flt l, x ≠ [] := fun x hx => by
  have := (List.mem_filter.1 hx).2
  cases x with
  | nil => cases this
  | cons c r => simp
set_option maxHeartbeats 2000000 in
set_option maxRecDepth 100000 in
theorem rjoin_any (v : Value) (l : List (List UInt8)) (w : World) (hr : RdS w (· < w.heap.size) v l) (hn : l.length ≤ 1000000000) (hj : (joinP l).length ≤ 1000000000) :
    Calls Tryz.prog 77 #[v] w fun e w' => e = .returned (.string ⟨(joinP l).toArray⟩) ∧ w = w' := by
  obtain ⟨a, cap, rfl, hcap, hmx, h3⟩ := hr.shape
  have HR := Keep.keep hr; have H3 := Keep.keep h3
  unfold maxLen at hmx
  clear hr h3
  have HPL := Keep.keep (fun k => flt_app_len l k)
  have HJ : Keep (joinP l = joinS (flt l)) := ⟨rfl⟩
  generalize joinP l = out at *
  go_enter Tryz.func77, Tryz.ntmps77
  go_wp2_with fail
  go_loopg [3, 4] l.length (fun g u3 u4 wx => ∃ k : Nat, k + g = l.length ∧ u4 = .int .i64 (k : Int) ∧ u3 = .string ⟨(joinS (flt (l.take k))).toArray⟩ ∧ w = wx)
  case atStart => exact ⟨0, by omega, rfl, rfl, rfl⟩
  case round =>
    obtain ⟨k, hkg, rfl, rfl, rfl⟩ := hrel
    cases gk with
    | zero =>
      obtain rfl : k = l.length := by omega
      have HO : Keep (joinS (flt (l.take l.length)) = out) := ⟨by rw [List.take_length, HJ.out]⟩
      generalize joinS (flt (l.take l.length)) = r at *
      go_wp2_with fail
      go_ret
      exact ⟨by rw [HO.out]; rfl, rfl⟩
    | succ g =>
      have hk : k < l.length := by omega
      rcases H3.out with ⟨_, h3⟩ | ⟨b, off, rfl, hbl⟩
      · omega
      have hcell := HR.out.cell b off _ _ rfl k (strV l[k]) (by simp [hk])
      have hft := flt_take hk
      have hnx := HPL.out (k + 1)
      have heq := bne_nil l[k]
      cases hem : l[k].isEmpty with
      | true =>
        rw [hem] at hft heq
        rw [if_pos rfl] at hft
        have HFT := Keep.keep (congrArg joinS hft)
        clear hft hem hnx
        generalize l[k] = x at *
        generalize joinS (flt (l.take k)) = r at *
        unfold strV at hcell
        go_wp2_with fail
        go_roundg g
        case measure => omega
        case rel => exact ⟨k + 1, by omega, by simp, by rw [HFT.out], rfl⟩
      | false =>
        rw [hem] at hft heq
        rw [if_neg (by decide)] at hft
        have hjs := congrArg joinS hft
        rw [joinS_flt_snoc (flt_ne _)] at hjs
        have hbr := bne_nil (joinS (flt (l.take k)))
        clear hft hem
        generalize l[k] = x at *
        obtain ⟨r2, hr2⟩ : ∃ r, joinS (flt (l.take (k + 1))) = r := ⟨_, rfl⟩
        rw [hr2] at hjs hnx
        have HR2 := Keep.keep hr2
        clear hr2
        generalize joinS (flt (l.take k)) = r at *
        unfold strV at hcell
        cases her : r.isEmpty with
        | true =>
          rw [her, if_pos rfl] at hjs
          rw [her] at hbr
          have hre : r = [] := List.isEmpty_iff.1 her
          have hcat := run_cat (P := Tryz.prog) r x (by rw [hre]; simp; rw [← hjs]; omega)
          rw [show r ++ x = r2 by rw [hre, hjs]; rfl] at hcat
          have HJS := Keep.keep hjs
          clear hre her hnx hjs
          go_wp2_with fail
          go_roundg g
          case measure => omega
          case rel => exact ⟨k + 1, by omega, by simp, by rw [HR2.out, HJS.out], rfl⟩
        | false =>
          rw [her, if_neg (by decide)] at hjs
          rw [her] at hbr
          have hlen : r2.length = r.length + 1 + x.length := by rw [hjs]; simp; omega
          have hcat1 := run_cat (P := Tryz.prog) r [47] (by simp; omega)
          have hcat := run_cat (P := Tryz.prog) (r ++ [47]) x (by simp; omega)
          rw [← hjs] at hcat
          generalize r ++ [47] = r1 at *
          clear her hjs hlen hnx
          go_wp2_with fail
          go_roundg g
          case measure => omega
          case rel => exact ⟨k + 1, by omega, by simp, by rw [HR2.out], rfl⟩
set_option maxHeartbeats 1000000 in
theorem rcut_any (p : List UInt8) (hp : p.length ≤ 1000000) (w : World) : Calls Tryz.prog 74 #[.string ⟨p.toArray⟩] w fun e w' => e = .returned (.int .i64 ((cutAt p : Int) - 1)) ∧ w = w' := by
  go_enter Tryz.func74, Tryz.ntmps74
  go_wp2_with fail
  go_loopg [3, 4] p.length (fun g u3 u4 wx => ∃ k : Nat, k + g = p.length ∧ u4 = .int .i64 (k : Int) ∧ u3 = .int .i64 ((cutAt (p.take k) : Int) - 1) ∧ w = wx)
  case atStart => exact ⟨0, by omega, rfl, rfl, rfl⟩
  case round =>
    obtain ⟨k, hkg, rfl, rfl, rfl⟩ := hrel
    cases gk with
    | zero =>
      obtain rfl : k = p.length := by omega
      have HO : Keep ((cutAt (p.take p.length) : Int) - 1 = (cutAt p : Int) - 1) := ⟨by rw [List.take_length]⟩
      generalize (cutAt (p.take p.length) : Int) - 1 = r at *
      go_wp2_with fail
      go_ret
      exact ⟨by rw [HO.out]; rfl, rfl⟩
    | succ g =>
      have hk : k < p.length := by omega
      have hidx := run_index_str (P := Tryz.prog) Tryz.underlying9 ⟨p.toArray⟩ .i64 k p[k] (by simp [hk])
      have hgi : (⟨p.toArray⟩ : ByteArray)[k]'(hk) = p[k] := rfl
      have hsu := cutAt_take p k hk
      by_cases h47 : p[k] = 47
      · rw [if_pos h47] at hsu
        rw [h47] at hgi hidx
        have HS : Keep ((cutAt (p.take (k + 1)) : Int) - 1 = k) := ⟨by rw [hsu]; omega⟩
        clear hsu h47
        generalize (cutAt (p.take k) : Int) - 1 = r at *
        go_wp2_with fail
        go_roundg g
        case measure => omega
        case rel => exact ⟨k + 1, by omega, by simp, by rw [HS.out], rfl⟩
      · rw [if_neg h47] at hsu
        have HS : Keep ((cutAt (p.take (k + 1)) : Int) - 1 = (cutAt (p.take k) : Int) - 1) := ⟨by rw [hsu]⟩
        have hne : ((p[k].toNat : Int) == 47) = false := by
          rw [beq_eq_false_iff_ne]; intro e; exact h47 (UInt8.toNat_inj.1 (by show p[k].toNat = 47; omega))
        clear hsu h47
        generalize p[k] = c at *
        generalize (cutAt (p.take k) : Int) - 1 = r at *
        go_wp2_with fail
        go_roundg g
        case measure => omega
        case rel => exact ⟨k + 1, by omega, by simp, by rw [HS.out], rfl⟩
set_option maxHeartbeats 1000000 in
theorem rparent_any (p : List UInt8) (hp : p.length ≤ 1000000) (w : World) : Calls Tryz.prog 46 #[.string ⟨p.toArray⟩] w fun e w' => e = .returned (.string ⟨(parentP p).toArray⟩) ∧ w = w' := by
  have HL := Keep.keep (fun w => rcut_any p hp w)
  have hle := cutAt_le p
  have hk := run_slice_to (P := Tryz.prog) Tryz.underlying9 p .i64 (cutAt p - 1) (by omega)
  rw [show p.take (cutAt p - 1) = parentP p from rfl] at hk
  rcases Nat.eq_zero_or_pos (cutAt p) with h0 | h0
  · have he : parentP p = [] := by unfold parentP; rw [h0]; rfl
    rw [h0] at HL
    rw [he]
    clear he h0 hk
    go_enter Tryz.func46, Tryz.ntmps46
    go_wp2_with fail
    refine (HL.out _).mono ?_
    rintro e w1 ⟨rfl, rfl⟩
    go_wp2_with fail
    go_ret
    exact ⟨rfl, rfl⟩
  · rw [show (cutAt p : Int) - 1 = ((cutAt p - 1 : Nat) : Int) by omega] at HL
    generalize cutAt p - 1 = n at *
    generalize parentP p = q at *
    have hd : decide ((n : Int) < 0) = false := decide_eq_false (by omega)
    go_enter Tryz.func46, Tryz.ntmps46
    go_wp2_with fail
    refine (HL.out _).mono ?_
    rintro e w1 ⟨rfl, rfl⟩
    go_wp2_with fail
    go_ret
    exact ⟨rfl, rfl⟩
set_option maxHeartbeats 1000000 in
theorem rbase_any (p : List UInt8) (hp : p.length ≤ 1000000) (w : World) : Calls Tryz.prog 82 #[.string ⟨p.toArray⟩] w fun e w' => e = .returned (.string ⟨(baseP p).toArray⟩) ∧ w = w' := by
  have HL := Keep.keep (fun w => rcut_any p hp w)
  have hle := cutAt_le p
  have hk := run_slice_from (P := Tryz.prog) Tryz.underlying9 p .i64 (cutAt p) (by omega)
  rw [show p.drop (cutAt p) = baseP p from rfl] at hk
  have hm : (cutAt p : Int) - 1 + 1 = ((cutAt p : Nat) : Int) := by omega
  have hr : -1 ≤ (cutAt p : Int) - 1 ∧ (cutAt p : Int) - 1 ≤ 1000000 := by omega
  generalize (cutAt p : Int) - 1 = t at *
  generalize cutAt p = n at *
  generalize baseP p = q at *
  clear hle
  go_enter Tryz.func82, Tryz.ntmps82
  go_wp2_with fail
  refine (HL.out _).mono ?_
  rintro e w1 ⟨rfl, rfl⟩
  go_wp2_with fail
  go_ret
  exact ⟨rfl, rfl⟩
set_option maxHeartbeats 1000000 in
theorem runder_any (d p : List UInt8) (hd : d.length ≤ 1000000) (w : World) :
    Calls Tryz.prog 81 #[.string ⟨d.toArray⟩, .string ⟨p.toArray⟩] w fun e w' => e = .returned (.bool (underP d p)) ∧ w = w' := by
  have HP : Keep (∀ w, Calls Tryz.prog 78 #[.string ⟨p.toArray⟩, .string ⟨(d ++ [47]).toArray⟩] w fun e w' => e = .returned (.bool ((d ++ [47]).isPrefixOf p)) ∧ w = w') := ⟨fun w => begins_any _ _ w⟩
  have e1 := bne_nil p
  have e2 := bne_nil d
  have hc := run_cat (P := Tryz.prog) d [47] (by simp; omega)
  unfold underP
  generalize p.isEmpty = b1 at *
  generalize d.isEmpty = b2 at *
  generalize (d ++ [47]).isPrefixOf p = b3 at *
  generalize d ++ [47] = q at *
  cases b1 with
  | true =>
    go_enter Tryz.func81, Tryz.ntmps81
    go_wp2_with fail
    go_ret
    exact ⟨rfl, rfl⟩
  | false =>
  cases b2 with
  | true =>
    go_enter Tryz.func81, Tryz.ntmps81
    go_wp2_with fail
    go_ret
    exact ⟨rfl, rfl⟩
  | false =>
    go_enter Tryz.func81, Tryz.ntmps81
    go_wp2_with fail
    refine (HP.out _).mono ?_
    rintro e w2 ⟨rfl, rfl⟩
    go_wp2_with fail
    go_ret
    exact ⟨rfl, rfl⟩
end Go.Proofs.YtphgmkhbhboklaaGreatDoor
/- PATHS CLEANED: plain facts. -/
namespace Go.Proofs.YtphgmkhbhboklaaGreatDoor
/-- a slash becomes two, a dot between, and a slash more -/
def repl : List UInt8 → List UInt8
  | [] => []
  | c :: l => if c = 47 then 47 :: 46 :: 47 :: 47 :: repl l else c :: repl l
theorem repl_none : ∀ {a : List UInt8}, (∀ x ∈ a, x ≠ 47) → repl a = a
  | [], _ => rfl
  | c :: a, h => by rw [repl, if_neg (h c (by simp)), repl_none (fun x hx => h x (by simp [hx]))]
theorem repl_cut : ∀ {a : List UInt8} (b : List UInt8), (∀ x ∈ a, x ≠ 47) → repl (a ++ 47 :: b) = a ++ [47, 46, 47, 47] ++ repl b
  | [], b, _ => by rw [List.nil_append, repl, if_pos rfl]; rfl
  | c :: a, b, h => by
    rw [List.cons_append, repl, if_neg (h c (by simp)), repl_cut b (fun x hx => h x (by simp [hx]))]; rfl
theorem repl_len : ∀ a : List UInt8, (repl a).length ≤ 4 * a.length
  | [] => by simp [repl]
  | c :: a => by
    have := repl_len a
    unfold repl
    split <;> simp <;> omega
theorem replaceK_repl : ∀ (k : Nat) (l : List UInt8), l.count 47 = k → Lib.replaceK [47] [47, 46, 47, 47] k l = repl l
  | 0, l, h => by
    rw [repl_none (fun x hx e => by subst e; exact absurd hx (List.count_eq_zero.1 h))]; rfl
  | k + 1, l, h => by
    rcases first_of 47 l with ⟨h1, h2⟩ | ⟨o, h1, h2, h3, h4⟩
    · exfalso
      have : l.count 47 = 0 := List.count_eq_zero.2 (fun hm => h2 47 hm rfl)
      omega
    · have hc : (l.drop (o + 1)).count 47 = k := by
        rw [h3, List.count_append, List.count_cons_self, List.count_eq_zero.2 (fun hm => h4 47 hm rfl)] at h
        omega
      rw [Lib.replaceK_hit [47] [47, 46, 47, 47] k l o (by rw [Lib.index_one]; exact h1)]
      conv => rhs; rw [h3]
      rw [repl_cut _ h4, ← replaceK_repl k _ hc]
      rfl
theorem replaceAll_repl (l : List UInt8) : Lib.replaceAll l [47] [47, 46, 47, 47] = repl l := by
  unfold Lib.replaceAll Lib.replace Lib.replaceNum
  rw [if_neg (by decide), if_pos (.inl (by decide)), Lib.count_one]
  exact replaceK_repl _ _ rfl
/-- parts that are none, put between -/
def ilv : List (List UInt8) → List (List UInt8)
  | [] => []
  | [x] => [x]
  | x :: y :: r => x :: [46] :: [] :: ilv (y :: r)
theorem spl_cons (c : UInt8) (l : List UInt8) : spl (c :: l) = if c = 47 then [] :: spl l else match spl l with | [] => [[c]] | h :: t => (c :: h) :: t := rfl
theorem spl_repl : ∀ l, spl (repl l) = ilv (spl l)
  | [] => rfl
  | c :: l => by
    have ih := spl_repl l
    have hne := spl_ne l
    rw [repl, spl_cons]
    by_cases hc : c = 47
    · rw [if_pos hc, if_pos hc]
      cases hs : spl l with
      | nil => exact absurd hs hne
      | cons h t =>
        rw [hs] at ih
        rw [spl_cons, if_pos rfl, spl_cons, if_neg (by decide), spl_cons, if_pos rfl, spl_cons, if_pos rfl, ih, ilv]
    · rw [if_neg hc, if_neg hc, spl_cons, if_neg hc, ih]
      cases hs : spl l with
      | nil => exact absurd hs hne
      | cons h t =>
        cases t with
        | nil => rfl
        | cons y r => rfl
abbrev keepB (s : List UInt8) : Bool := !(s.isEmpty || s == [46])
theorem ilv_filter : ∀ l, (ilv l).filter keepB = l.filter keepB
  | [] => rfl
  | [x] => rfl
  | x :: y :: r => by
    have ih := ilv_filter (y :: r)
    rw [ilv, List.filter_cons, List.filter_cons (x := x) (xs := y :: r), ← ih]
    rfl
theorem ilv_contains : ∀ l, (ilv l).contains [46, 46] = l.contains [46, 46]
  | [] => rfl
  | [x] => rfl
  | x :: y :: r => by
    have ih := ilv_contains (y :: r)
    rw [ilv, List.contains_cons, List.contains_cons (a := x), ← ih]
    rfl
def wrapR (raw : List UInt8) : List UInt8 := [46, 47] ++ repl raw ++ [47, 46]
theorem spl_wrapR (raw : List UInt8) : spl (wrapR raw) = [46] :: (ilv (spl raw) ++ [[46]]) := by
  have h : wrapR raw = [46] ++ 47 :: (repl raw ++ 47 :: [46]) := by unfold wrapR; simp
  rw [h, spl_cut _ (by decide), spl_app _ [46] (by decide), spl_repl]
theorem repl_zero : ∀ l : List UInt8, (repl l).contains 0 = l.contains 0
  | [] => rfl
  | c :: l => by
    have ih := repl_zero l
    rw [repl]
    by_cases hc : c = 47
    · rw [if_pos hc, List.contains_cons, List.contains_cons, List.contains_cons, List.contains_cons, ih, List.contains_cons (a := c), hc]
      simp
    · rw [if_neg hc, List.contains_cons, ih, List.contains_cons (a := c)]
theorem clean_wrapR {raw : List UInt8} (h : ([47] : List UInt8).isPrefixOf raw = false) : cleanP (wrapR raw) = cleanP raw := by
  have h1 : (wrapR raw).contains 0 = raw.contains 0 := by
    rw [← repl_zero raw]
    unfold wrapR
    cases hc : (repl raw).contains 0 <;> simp_all
  have h2 : ([47] : List UInt8).isPrefixOf (wrapR raw) = false := rfl
  have h3 : (spl (wrapR raw)).contains [46, 46] = (spl raw).contains [46, 46] := by
    rw [spl_wrapR, ← ilv_contains (spl raw)]
    cases hc : (ilv (spl raw)).contains [46, 46] <;> simp_all
  have h4 : keptP (wrapR raw) = keptP raw := by
    show (spl (wrapR raw)).filter keepB = (spl raw).filter keepB
    rw [spl_wrapR, List.filter_cons, List.filter_append, ilv_filter]
    simp [keepB]
  unfold cleanP
  rw [h1, h2, h3, h4, h]
theorem clean_slash (raw : List UInt8) : cleanP (47 :: raw) = ([], 30) := by
  unfold cleanP
  rw [if_pos]
  have : ([47] : List UInt8).isPrefixOf (47 :: raw) = true := by simp [List.isPrefixOf]
  rw [this]; simp
theorem clean_behind (raw : List UInt8) : cleanP (raw ++ [47, 46, 46]) = ([], 30) := by
  unfold cleanP
  rw [if_pos]
  have : (spl (raw ++ [47, 46, 46])).contains [46, 46] = true := by
    rw [show raw ++ [47, 46, 46] = raw ++ 47 :: [46, 46] from rfl, spl_app _ _ (by decide)]; simp
  rw [this]; simp
theorem clean_ahead (raw : List UInt8) : cleanP ([46, 46, 47] ++ raw) = ([], 30) := by
  unfold cleanP
  rw [if_pos]
  have : (spl ([46, 46, 47] ++ raw)).contains [46, 46] = true := by
    rw [show [46, 46, 47] ++ raw = [46, 46] ++ 47 :: raw from rfl, spl_cut _ (by decide)]; simp
  rw [this]; simp
/-- what is cleaned is clean -/
structure Cleaned (p : List UInt8) : Prop where
  each : ∀ s ∈ splitP p, s.isEmpty = false ∧ (s == [46]) = false ∧ (s == [46, 46]) = false ∧ s.length ≤ 255 ∧ s.any (([47, 0] : List UInt8).contains ·) = false
  again : cleanP p = (p, 0)
  len : p.length ≤ 4096
inductive CleanR (raw : List UInt8) : Prop
  | path (h : cleanP raw = ([], 30))
  | long (h : cleanP raw = ([], 3)) (hs : ([47] : List UInt8).isPrefixOf raw = false)
  | ok (p : List UInt8) (h : cleanP raw = (p, 0)) (hs : ([47] : List UInt8).isPrefixOf raw = false) (hc : Cleaned p)
theorem mem_joinS : ∀ (l : List (List UInt8)) (c : UInt8), c ∈ joinS l → c = 47 ∨ ∃ x ∈ l, c ∈ x
  | [], c, h => by cases h
  | [x], c, h => .inr ⟨x, by simp, h⟩
  | x :: y :: r, c, h => by
    rw [joinS] at h
    rcases List.mem_append.1 h with h | h
    · exact .inr ⟨x, by simp, h⟩
    · rcases List.mem_cons.1 h with h | h
      · exact .inl h
      · rcases mem_joinS (y :: r) c h with h | ⟨z, hz, hc⟩
        · exact .inl h
        · exact .inr ⟨z, by simp [hz], hc⟩
theorem mem_spl : ∀ (l : List UInt8), ∀ x ∈ spl l, ∀ c ∈ x, c ∈ l
  | [], x, hx, c, hc => by simp [spl] at hx; subst hx; cases hc
  | a :: l, x, hx, c, hc => by
    have ih := mem_spl l
    rw [spl_cons] at hx
    split at hx
    · rcases List.mem_cons.1 hx with rfl | hx
      · cases hc
      · exact List.mem_cons_of_mem _ (ih x hx c hc)
    · split at hx
      · obtain rfl := List.mem_singleton.1 hx
        simp at hc; simp [hc]
      · rename_i h t he
        rw [he] at ih
        rcases List.mem_cons.1 hx with rfl | hx
        · rcases List.mem_cons.1 hc with rfl | hc
          · simp
          · exact List.mem_cons_of_mem _ (ih h (by simp) c hc)
        · exact List.mem_cons_of_mem _ (ih x (by simp [hx]) c hc)
theorem cleanR (raw : List UInt8) : CleanR raw := by
  cases hA : (raw.contains 0 || ([47] : List UInt8).isPrefixOf raw || (spl raw).contains [46, 46]) with
  | true => exact .path (by unfold cleanP; rw [hA]; rfl)
  | false =>
    have hs : ([47] : List UInt8).isPrefixOf raw = false := by
      simp only [Bool.or_eq_false_iff] at hA; exact hA.1.2
    have h0 : raw.contains 0 = false := by
      simp only [Bool.or_eq_false_iff] at hA; exact hA.1.1
    have hd : (spl raw).contains [46, 46] = false := by
      simp only [Bool.or_eq_false_iff] at hA; exact hA.2
    cases hB : (decide (255 < (keptP raw).length) || decide (4096 < (joinS (keptP raw)).length) || (keptP raw).any (fun s => decide (255 < s.length))) with
    | true => exact .long (by unfold cleanP; rw [hA, hB]; rfl) hs
    | false =>
      refine .ok (joinS (keptP raw)) (by unfold cleanP; rw [hA, hB]; rfl) hs ?_
      have hB2 := hB
      simp only [Bool.or_eq_false_iff, decide_eq_false_iff_not] at hB2
      obtain ⟨⟨b1, b2⟩, b3⟩ := hB2
      have hk : ∀ s ∈ keptP raw, s ≠ [] ∧ s ≠ [46] ∧ s ∈ spl raw := fun s hs => by
        obtain ⟨h1, h2⟩ := List.mem_filter.1 hs
        simp only [Bool.not_eq_true', Bool.or_eq_false_iff, beq_eq_false_iff_ne] at h2
        refine ⟨fun e => ?_, h2.2, h1⟩
        rw [e] at h2; simp at h2
      have hns : NoSl (keptP raw) := fun x hx c hc => spl_nosl raw x (hk x hx).2.2 c hc
      have hne0 : joinS (keptP raw) = [] → keptP raw = [] := fun e => by
        cases hq : keptP raw with
        | nil => rfl
        | cons x r =>
          rw [hq] at e
          have hx := (hk x (by rw [hq]; simp)).1
          cases r with
          | nil => exact absurd e hx
          | cons y r => rw [joinS] at e; simp at e
      have hsp : splitP (joinS (keptP raw)) = keptP raw := by
        unfold splitP
        by_cases he : joinS (keptP raw) = []
        · rw [if_pos he, hne0 he]
        · rw [if_neg he]
          exact spl_joinS _ (fun e => he (by rw [e]; rfl)) hns
      have hz : ∀ s ∈ keptP raw, ∀ c ∈ s, c ≠ 0 := fun s hs c hc e => by
        have := mem_spl raw s (hk s hs).2.2 c hc
        rw [e] at this
        have h9 : raw.contains 0 = true := by simpa using this
        rw [h0] at h9; cases h9
      have hdd : ∀ s ∈ keptP raw, s ≠ [46, 46] := fun s hs e => by
        have := (hk s hs).2.2
        rw [e] at this
        have h9 : (spl raw).contains [46, 46] = true := by simpa using this
        rw [hd] at h9; cases h9
      refine ⟨?_, ?_, by omega⟩
      · rw [hsp]
        intro s hs
        obtain ⟨k1, k2, k3⟩ := hk s hs
        refine ⟨by cases s with | nil => exact absurd rfl k1 | cons c s => rfl, beq_eq_false_iff_ne.2 k2, beq_eq_false_iff_ne.2 (hdd s hs), ?_, ?_⟩
        · have := List.any_eq_false.1 b3 s hs
          simp at this; omega
        · rw [List.any_eq_false]
          intro c hc
          have e1 := hns s hs c hc
          have e2 := hz s hs c hc
          simp [e1, e2]
      · have g1 : (joinS (keptP raw)).contains 0 = false := by
          cases hq : (joinS (keptP raw)).contains 0 with
          | false => rfl
          | true =>
            have hm : (0 : UInt8) ∈ joinS (keptP raw) := by simpa using hq
            rcases mem_joinS _ _ hm with e | ⟨x, hx, hc⟩
            · exact absurd e (by decide)
            · exact absurd rfl (hz x hx 0 hc)
        by_cases he : keptP raw = []
        · rw [he]; decide
        · have hj : joinS (keptP raw) ≠ [] := fun e => he (hne0 e)
          have hspl : spl (joinS (keptP raw)) = keptP raw := spl_joinS _ he hns
          have g2 : ([47] : List UInt8).isPrefixOf (joinS (keptP raw)) = false := by
            cases hq : keptP raw with
            | nil => exact absurd hq he
            | cons x r =>
              have hx := (hk x (by rw [hq]; simp)).1
              have hxs := hns x (by rw [hq]; simp)
              cases x with
              | nil => exact absurd rfl hx
              | cons c x =>
                have hc := hxs c (by simp)
                have hcc : (47 == c) = false := beq_eq_false_iff_ne.2 (fun e => hc e.symm)
                cases r with
                | nil => simp [joinS, List.isPrefixOf, hcc]
                | cons y r => simp [joinS, List.isPrefixOf, hcc]
          have g3 : (spl (joinS (keptP raw))).contains [46, 46] = false := by
            rw [hspl]
            cases hq : (keptP raw).contains [46, 46] with
            | false => rfl
            | true => exact absurd rfl (hdd [46, 46] (by simpa using hq))
          have g4 : keptP (joinS (keptP raw)) = keptP raw := by
            show (spl (joinS (keptP raw))).filter keepB = keptP raw
            rw [hspl, List.filter_eq_self]
            intro s hs
            obtain ⟨k1, k2, -⟩ := hk s hs
            have e1 : s.isEmpty = false := by cases s with | nil => exact absurd rfl k1 | cons c s => rfl
            have e2 : (s == [46]) = false := beq_eq_false_iff_ne.2 k2
            simp [keepB, e1, e2]
          unfold cleanP
          rw [g1, g2, g3, g4, hB]; rfl
end Go.Proofs.YtphgmkhbhboklaaGreatDoor
/- portolanref11: Whiteout, Opaque, Clean. -/
namespace Go.Proofs.YtphgmkhbhboklaaGreatDoor
open Go.RowKit
/-- the parts that stay, of the cut text -/
abbrev kpt (l : List (List UInt8)) : List (List UInt8) := l.filter keepB
theorem kpt_take {l : List (List UInt8)} {k : Nat} (hk : k < l.length) : kpt (l.take (k + 1)) = if keepB l[k] then kpt (l.take k) ++ [l[k]] else kpt (l.take k) := by
  rw [List.take_succ_eq_append_getElem hk, kpt, List.filter_append]
  by_cases h : keepB l[k] = true
  · rw [List.filter_cons_of_pos h, if_pos h]; rfl
  · rw [List.filter_cons_of_neg h, if_neg h]; simp
theorem kpt_split (p : List UInt8) : keptP p = kpt (splitP p) := by
  unfold splitP
  split
  · rename_i h; subst h; rfl
  · rfl
theorem dots_split (p : List UInt8) : (spl p).contains [46, 46] = (splitP p).contains [46, 46] := by
  unfold splitP
  split
  · rename_i h; subst h; rfl
  · rfl
theorem kpt_joinP (p : List UInt8) : joinP (kpt (splitP p)) = joinS (keptP p) := by
  unfold joinP
  rw [← kpt_split]
  congr 1
  rw [List.filter_eq_self]
  intro x hx
  have := (List.mem_filter.1 hx).2
  cases x with
  | nil => cases this
  | cons c x => rfl
end Go.Proofs.YtphgmkhbhboklaaGreatDoor
/- what the document says a class is, and what the program's class is: the same. -/
namespace Go.Proofs.YtphgmkhbhboklaaGreatDoor
def refT (p base dir : List UInt8) : Int × List UInt8 := if mayN base then (1, p) else if base == markB then (3, dir) else if whiteB.isPrefixOf base && mayN (base.drop 4) then (2, joinP [dir, base.drop 4]) else (0, [])
def refF (ct : Int × List UInt8) : Int × List UInt8 := if ct.1 == 0 || !mayP ct.2 then (0, []) else ct
def refC (p : List UInt8) (init : List (List UInt8)) (base : List UInt8) : Int × List UInt8 := if init.all mayN then refF (refT p base (joinP init)) else (0, [])
theorem split_parts {p : List UInt8} (h0 : p ≠ []) : ∃ init base, splitP p = init ++ [base] ∧ (∀ x ∈ base, x ≠ 47) ∧ ((init = [] ∧ p = base) ∨ ∃ d, init = spl d ∧ p = d ++ 47 :: base) := by
  rcases path_cases p with ⟨-, -, -, hn⟩ | ⟨d, b, rfl, hn, -⟩
  · exact ⟨[], p, splitP_one hn h0, hn, .inl ⟨rfl, rfl⟩⟩
  · exact ⟨spl d, b, splitP_app hn, hn, .inr ⟨d, rfl, rfl⟩⟩
theorem may_app {d b : List UInt8} (hb : ∀ x ∈ b, x ≠ 47) (h : mayP (d ++ 47 :: b) = true) : (spl d).all mayN = true ∧ mayN b = true := by
  obtain ⟨-, -, h3⟩ := may_parts h
  rw [splitP_app hb, List.all_append] at h3
  simp only [Bool.and_eq_true] at h3
  exact ⟨h3.1, by simpa using h3.2⟩
theorem join_spl {d : List UInt8} (h : (spl d).all mayN = true) : joinP (spl d) = d := by rw [joinP_may h, joinS_spl]
theorem class_ref {p base : List UInt8} {init : List (List UInt8)} (h0 : p ≠ []) (ht : (p == tableB) = false) (hb : ∀ x ∈ base, x ≠ 47) (hc : (init = [] ∧ p = base) ∨ ∃ d, init = spl d ∧ p = d ++ 47 :: base) : classP p = refC p init base := by
  rcases hc with ⟨rfl, rfl⟩ | ⟨d, rfl, rfl⟩
  · obtain ⟨g1, g2, -⟩ := dir_none hb
    unfold classP refC
    rw [ht, g1, g2, show joinP [] = ([] : List UInt8) from rfl]
    cases h1 : p == markB with
    | true => have := beq_iff_eq.1 h1; subst this; decide
    | false =>
      cases h2 : whiteB.isPrefixOf p with
      | true =>
        obtain ⟨b, rfl⟩ := List.isPrefixOf_iff_prefix.1 h2
        have hl : lastC (whiteB ++ b) = 2 := by unfold lastC; rw [h1, h2]; rfl
        have hdr : (whiteB ++ b).drop 4 = b := List.drop_left (l₁ := whiteB)
        have hg : tgtC 2 [] (whiteB ++ b) = b := by show [] ++ (whiteB ++ b).drop 4 = b; rw [hdr]; rfl
        have hj : joinP [[], b] = b := by rw [joinP_two, if_pos rfl]
        unfold refT
        rw [hl, hg, hdr, white_not_may, h1, h2, hj]
        cases hn : mayN b with
        | false => simp [refF]
        | true =>
          have he : b.isEmpty = false := by cases b with | nil => cases hn | cons c b => rfl
          rw [he]
          unfold refF
          cases hm : mayP b <;> simp [hm]
      | false =>
        have hl : lastC p = 1 := by unfold lastC; rw [h1, h2]; rfl
        have hg : tgtC 1 [] p = p := rfl
        have he : p.isEmpty = false := by cases p with | nil => exact absurd rfl h0 | cons c b => rfl
        unfold refT
        rw [hl, hg, h1, h2, he]
        cases hm : mayP p with
        | true =>
          have hn := may_base hm h0
          rw [g2] at hn
          rw [hn]; simp [refF, hm]
        | false =>
          cases hn : mayN p <;> simp [refF, hm]
  · obtain ⟨g1, g2, -⟩ := dir_of (d := d) hb
    unfold classP refC
    rw [ht, g1, g2]
    by_cases hd : d = []
    · subst hd
      have : (spl []).all mayN = false := rfl
      rw [this]; simp
    · rw [ne_slash hd]
      cases h1 : base == markB with
      | true =>
        have := beq_iff_eq.1 h1; subst this
        have hg : tgtC 3 (d ++ [47]) markB = d := trimSl_app d
        rw [lastC_mark, hg]
        have hn : mayN markB = false := by decide
        unfold refT
        rw [hn, h1]
        cases hm : mayP d with
        | true =>
          obtain ⟨-, -, ha⟩ := may_parts hm
          rw [show splitP d = spl d by unfold splitP; rw [if_neg hd]] at ha
          rw [ha, join_spl ha]
          simp [refF, hm]
        | false =>
          cases ha : (spl d).all mayN with
          | false => simp
          | true => rw [join_spl ha]; simp [refF, hm]
      | false =>
        cases h2 : whiteB.isPrefixOf base with
        | true =>
          obtain ⟨b, rfl⟩ := List.isPrefixOf_iff_prefix.1 h2
          have hbb : ∀ x ∈ b, x ≠ 47 := fun x hx => hb x (List.mem_append_right _ hx)
          have hl : lastC (whiteB ++ b) = 2 := by unfold lastC; rw [h1, h2]; rfl
          have hdr : (whiteB ++ b).drop 4 = b := List.drop_left (l₁ := whiteB)
          have hg : tgtC 2 (d ++ [47]) (whiteB ++ b) = d ++ 47 :: b := by show (d ++ [47]) ++ (whiteB ++ b).drop 4 = _; rw [hdr]; simp
          unfold refT
          rw [hl, hg, hdr, white_not_may, h1, h2]
          have he : (d ++ 47 :: b).isEmpty = false := by simp
          rw [he]
          cases hn : mayN b with
          | false => cases ha : (spl d).all mayN <;> simp [refF]
          | true =>
            have hbn : b ≠ [] := by rintro rfl; cases hn
            cases ha : (spl d).all mayN with
            | true =>
              rw [join_spl ha, joinP_two, if_neg hd, if_neg hbn]
              cases hm : mayP (d ++ 47 :: b) <;> simp [refF, hm]
            | false =>
              have hm : mayP (d ++ 47 :: b) = false := by
                cases hm : mayP (d ++ 47 :: b) with
                | false => rfl
                | true => rw [(may_app hbb hm).1] at ha; cases ha
              rw [hm]; simp
        | false =>
          have hl : lastC base = 1 := by unfold lastC; rw [h1, h2]; rfl
          have hg : tgtC 1 (d ++ [47]) base = d ++ 47 :: base := by show (d ++ [47]) ++ base = _; simp
          unfold refT
          rw [hl, hg, h1, h2]
          have he : (d ++ 47 :: base).isEmpty = false := by simp
          rw [he]
          cases hm : mayP (d ++ 47 :: base) with
          | true =>
            obtain ⟨ha, hn⟩ := may_app hb hm
            rw [ha, hn]; simp [refF, hm]
          | false =>
            cases ha : (spl d).all mayN with
            | false => simp
            | true => cases hn : mayN base <;> simp [refF, hm]
end Go.Proofs.YtphgmkhbhboklaaGreatDoor
/- portolanref11.Class. -/
namespace Go.Proofs.YtphgmkhbhboklaaGreatDoor
open Go.RowKit
theorem rclass_tab (p : List UInt8) (ht : (p == tableB) = true) (w : World) :
    Calls Tryz.prog 47 #[.string ⟨p.toArray⟩] w fun e w' => e = .returned (.tuple #[.int .i64 (classP p).1, .string ⟨(classP p).2.toArray⟩]) ∧ Below w.heap.size w w' := by
  have HE : Keep (classP p = (4, [])) := ⟨by unfold classP; rw [ht]; rfl⟩
  have htab : (p == [46, 119, 104, 46, 46, 119, 104, 46, 116, 111, 99]) = true := ht
  clear ht
  go_enter Tryz.func47, Tryz.ntmps47
  go_wp2_with fail
  go_ret2
  exact ⟨by rw [HE.out]; rfl, Below.refl _ _⟩
theorem rclass_nil (w : World) :
    Calls Tryz.prog 47 #[.string ⟨#[]⟩] w fun e w' => e = .returned (.tuple #[.int .i64 (classP []).1, .string ⟨(classP []).2.toArray⟩]) ∧ Below w.heap.size w w' := by
  have HE : Keep (classP [] = (0, [])) := ⟨by decide⟩
  have HS : Keep (Calls Tryz.prog 75 #[.string ⟨#[]⟩] w fun e w' => ∃ v, e = .returned v ∧ OwnS w' w.heap.size v (splitP []) ∧ Below w.heap.size w w') := ⟨rsplit_any [] (by simp) w⟩
  go_enter Tryz.func47, Tryz.ntmps47
  go_wp2_with fail
  refine HS.out.mono ?_
  rintro e w1 ⟨v, rfl, ho, hb⟩
  have HB := Keep.keep hb
  obtain ⟨a, c, hv, -⟩ := (ownsV_reads ho).shape
  rw [show (splitP []).length = 0 from rfl] at hv
  subst hv
  clear ho hb
  go_wp2_with fail
  go_ret2
  exact ⟨by rw [HE.out]; rfl, HB.out⟩
set_option maxHeartbeats 8000000 in
set_option maxRecDepth 100000 in
theorem rclass_any (p : List UInt8) (hp4 : p.length ≤ 400000) (w : World) :
    Calls Tryz.prog 47 #[.string ⟨p.toArray⟩] w fun e w' => e = .returned (.tuple #[.int .i64 (classP p).1, .string ⟨(classP p).2.toArray⟩]) ∧ Below w.heap.size w w' := by
  cases ht : p == tableB with
  | true => exact rclass_tab p ht w
  | false =>
  by_cases h0 : p = []
  · subst h0; exact rclass_nil w
  have hp : p.length ≤ 1000000 := by omega
  obtain ⟨init, base, hsp, hbn, hcs⟩ := split_parts h0
  have HS := Keep.keep (rsplit_any p hp w)
  have HE : Keep (classP p = refC p init base) := ⟨class_ref h0 ht hbn hcs⟩
  have hml := splitP_mem_len p
  have hlen : (splitP p).length ≤ p.length + 1 := by
    have := spl_length p
    unfold splitP; split
    · simp
    · omega
  have hj0 : (joinP init).length ≤ p.length := by
    rcases hcs with ⟨rfl, -⟩ | ⟨d, rfl, rfl⟩
    · simp [joinP, joinS]
    · have := joinS_filter_len (fun x => !x.isEmpty) (spl d) (spl_ne d)
      rw [joinS_spl] at this
      unfold joinP
      simp
      omega
  rw [hsp] at HS hml hlen
  have hbl : base.length ≤ p.length := hml base (by simp)
  have hil : init.length ≤ p.length := by simp at hlen; omega
  have HMN : Keep (∀ x ∈ init, ∀ w, Calls Tryz.prog 76 #[.string ⟨x.toArray⟩] w fun e w' => e = .returned (.bool (mayN x)) ∧ w = w') := ⟨fun x hx w => rmayname_any x (Nat.le_trans (hml x (by simp [hx])) hp) w⟩
  have HMB := Keep.keep (fun w => rmayname_any base (by omega) w)
  have HMD := Keep.keep (fun w => rmayname_any (base.drop 4) (by simp; omega) w)
  have HBG : Keep (∀ w, Calls Tryz.prog 78 #[.string ⟨base.toArray⟩, .string ⟨#[46, 119, 104, 46]⟩] w fun e w' => e = .returned (.bool (whiteB.isPrefixOf base)) ∧ w = w') := ⟨fun w => begins_any base whiteB w⟩
  have HMP := Keep.keep (fun w => rmay_any p hp w)
  have HMJ := Keep.keep (fun w => rmay_any (joinP init) (by omega) w)
  have hj2 := joinP_two_len (joinP init) (base.drop 4)
  have hdl : (base.drop 4).length ≤ base.length := by simp
  have HMT := Keep.keep (fun w => rmay_any (joinP [joinP init, base.drop 4]) (by omega) w)
  have HJ1 := Keep.keep (fun v w (h : RdS w (· < w.heap.size) v init) => rjoin_any v init w h (by omega) (by omega))
  have HJ2 := Keep.keep (fun v w (h : RdS w (· < w.heap.size) v [joinP init, base.drop 4]) => rjoin_any v [joinP init, base.drop 4] w h (by simp) (by omega))
  have HK4 : Keep (whiteB.isPrefixOf base = true → ∀ w, (Instr.slice 9 (.string ⟨base.toArray⟩) (some (.int .i64 4)) none none).run Tryz.prog w = .ok (.string ⟨(base.drop 4).toArray⟩) w) := ⟨fun h =>
    run_slice_from (P := Tryz.prog) Tryz.underlying9 base .i64 4 (by
      obtain ⟨b, rfl⟩ := List.isPrefixOf_iff_prefix.1 h
      simp [whiteB])⟩
  have htab : (p == [46, 119, 104, 46, 46, 119, 104, 46, 116, 111, 99]) = false := ht
  have hbml : (base == markB) = (base == [46, 119, 104, 46, 46, 119, 104, 46, 46, 111, 112, 113]) := rfl
  have hll : (init ++ [base]).length = init.length + 1 := by simp
  obtain ⟨n, hn⟩ : ∃ n, init.length = n := ⟨_, rfl⟩
  rw [hn] at hll hil
  clear hml hlen hcs hbn hsp ht h0 hj0 hj2 hdl hbl
  generalize classP p = out at *
  go_enter Tryz.func47, Tryz.ntmps47
  go_wp2_with fail
  refine HS.out.mono ?_
  rintro e w1 ⟨v, rfl, ho, hb⟩
  have hr0 := (ownsV_reads ho).mono (N' := (· < w1.heap.size)) (fun b hb => hb.2.1)
  have HB := Keep.keep hb
  rw [hll] at hr0
  obtain ⟨a, c, hv, hcap, hcm, h3⟩ := hr0.shape
  subst hv
  rcases h3 with ⟨_, h3⟩ | ⟨b, off, rfl, hbl2⟩
  · omega
  have HR := Keep.keep hr0
  have hcellB := hr0.cell b off _ _ rfl n (strV base) (by simp [hn])
  have HRI : Keep (RdS w1 (· < w1.heap.size) (.slice (some ⟨b, off, none⟩) n c) init) := ⟨by
    have := hr0.sub 0 n c off (init.map strV) (by rw [List.map_append]; simp [hn]) (by simp [hn]) (by simp) (by omega) (Nat.le_refl _)
    rw [← hn] at this
    rw [← hn]
    exact this⟩
  have hst := slice_to slSt (some ⟨b, off, none⟩) (n + 1) c n .i64 (by omega)
  unfold strV at hcellB
  have hm1 : (((n + 1 : Nat) : Int)) - 1 = (n : Int) := by omega
  have hm2 : ((n : Int) + 1) - 1 = (n : Int) := by omega
  have hz1 : decide (((n + 1 : Nat) : Int) = 0) = false := decide_eq_false (by omega)
  clear ho hb hr0 HS hll
  go_wp2_with fail
  go_loopg [6] n (fun g u6 wx => ∃ k : Nat, k + g = n ∧ u6 = .int .i64 (k : Int) ∧ (init.take k).all mayN = true ∧ w1 = wx)
  case atStart => exact ⟨0, by omega, rfl, rfl, rfl⟩
  case round =>
    obtain ⟨k, hkg, rfl, hal, rfl⟩ := hrel
    have HAL := Keep.keep hal
    clear hal
    cases gk with
    | succ g =>
      have hk : k < init.length := by omega
      have hcell := HR.out.cell b off _ _ rfl k (strV init[k]) (by simp [hk, List.getElem?_append_left])
      have HM1 := Keep.keep (HMN.out init[k] (List.getElem_mem hk))
      have HT : Keep ((init.take (k + 1)).all mayN = mayN init[k]) := ⟨by
        rw [List.take_succ_eq_append_getElem hk, List.all_append, HAL.out]; simp⟩
      have HF : Keep (mayN init[k] = false → out = (0, [])) := ⟨fun h => by
        rw [HE.out]
        unfold refC
        have : init.all mayN = false := List.all_eq_false.2 ⟨_, List.getElem_mem hk, by rw [h]; decide⟩
        rw [this]; rfl⟩
      generalize init[k] = x at *
      unfold strV at hcell
      clear hcellB hst hn hk
      cases hm : mayN x with
      | false =>
        rw [hm] at HM1
        have HX := Keep.keep (HF.out hm)
        clear hm
        go_wp2_with fail
        refine (HM1.out _).mono ?_
        rintro e w' ⟨rfl, rfl⟩
        go_wp2_with fail
        go_ret2
        exact ⟨by rw [HX.out]; rfl, HB.out⟩
      | true =>
        rw [hm] at HM1 HT
        clear hm
        go_wp2_with fail
        refine (HM1.out _).mono ?_
        rintro e w' ⟨rfl, rfl⟩
        go_wp2_with fail
        go_roundg g
        case measure => omega
        case rel => exact ⟨k + 1, by omega, by simp, HT.out, rfl⟩
    | zero =>
      obtain rfl : k = n := by omega
      have HC : Keep (out = refF (refT p base (joinP init))) := ⟨by
        have h := HAL.out
        rw [List.take_of_length_le (by omega)] at h
        rw [HE.out]; unfold refC; rw [h]; rfl⟩
      have HRT : Keep (refT p base (joinP init) = if mayN base then (1, p) else if base == markB then (3, joinP init) else if whiteB.isPrefixOf base && mayN (base.drop 4) then (2, joinP [joinP init, base.drop 4]) else (0, [])) := ⟨rfl⟩
      clear HMN HAL HR
      generalize refT p base (joinP init) = rt at *
      generalize joinP [joinP init, base.drop 4] = jt at *
      generalize joinP init = dir at *
      generalize mayN base = b1 at *
      generalize hb2 : (base == markB) = b2 at *
      generalize hb3 : whiteB.isPrefixOf base = b3 at *
      generalize base.drop 4 = b4s at *
      generalize mayN b4s = b4 at *
      have hbm2 := hbml.symm
      clear hb2 hbml hb3
      cases b1 with
      | true =>
        have HX : Keep (out = if mayP p then (1, p) else (0, [])) := ⟨by
          rw [HC.out, HRT.out]; unfold refF; cases hm : mayP p <;> simp [hm]⟩
        generalize mayP p = b5 at *
        go_wp2_with fail
        refine (HJ1.out _ _ HRI.out).mono ?_
        rintro e w' ⟨rfl, rfl⟩
        go_wp2_with fail
        refine (HMB.out _).mono ?_
        rintro e w' ⟨rfl, rfl⟩
        go_wp2_with fail
        refine (HMP.out _).mono ?_
        rintro e w2 ⟨rfl, hb2⟩
        have HB2 := Keep.keep (HB.out.trans (hb2.mono HB.out.size))
        clear hb2
        cases b5 with
        | false =>
          go_wp2_with fail
          go_ret2
          exact ⟨by rw [HX.out]; rfl, HB2.out⟩
        | true =>
          go_wp2_with fail
          go_ret2
          exact ⟨by rw [HX.out]; rfl, HB2.out⟩
      | false =>
      cases b2 with
      | true =>
        have HX : Keep (out = if mayP dir then (3, dir) else (0, [])) := ⟨by
          rw [HC.out, HRT.out]; unfold refF; cases hm : mayP dir <;> simp [hm]⟩
        generalize mayP dir = b5 at *
        go_wp2_with fail
        refine (HJ1.out _ _ HRI.out).mono ?_
        rintro e w' ⟨rfl, rfl⟩
        go_wp2_with fail
        refine (HMB.out _).mono ?_
        rintro e w' ⟨rfl, rfl⟩
        go_wp2_with fail
        refine (HMJ.out _).mono ?_
        rintro e w2 ⟨rfl, hb2⟩
        have HB2 := Keep.keep (HB.out.trans (hb2.mono HB.out.size))
        clear hb2
        cases b5 with
        | false =>
          go_wp2_with fail
          go_ret2
          exact ⟨by rw [HX.out]; rfl, HB2.out⟩
        | true =>
          go_wp2_with fail
          go_ret2
          exact ⟨by rw [HX.out]; rfl, HB2.out⟩
      | false =>
      cases b3 with
      | false =>
        have HX : Keep (out = (0, [])) := ⟨by rw [HC.out, HRT.out]; rfl⟩
        go_wp2_with fail
        refine (HJ1.out _ _ HRI.out).mono ?_
        rintro e w' ⟨rfl, rfl⟩
        go_wp2_with fail
        refine (HMB.out _).mono ?_
        rintro e w' ⟨rfl, rfl⟩
        go_wp2_with fail
        refine (HBG.out _).mono ?_
        rintro e w' ⟨rfl, rfl⟩
        go_wp2_with fail
        go_ret2
        exact ⟨by rw [HX.out]; rfl, HB.out⟩
      | true =>
      have hk4 := HK4.out rfl
      cases b4 with
      | false =>
        have HX : Keep (out = (0, [])) := ⟨by rw [HC.out, HRT.out]; rfl⟩
        go_wp2_with fail
        refine (HJ1.out _ _ HRI.out).mono ?_
        rintro e w' ⟨rfl, rfl⟩
        go_wp2_with fail
        refine (HMB.out _).mono ?_
        rintro e w' ⟨rfl, rfl⟩
        go_wp2_with fail
        refine (HBG.out _).mono ?_
        rintro e w' ⟨rfl, rfl⟩
        go_wp2_with fail
        refine (HMD.out _).mono ?_
        rintro e w' ⟨rfl, rfl⟩
        go_wp2_with fail
        go_ret2
        exact ⟨by rw [HX.out]; rfl, HB.out⟩
      | true =>
        have HX : Keep (out = if mayP jt then (2, jt) else (0, [])) := ⟨by
          rw [HC.out, HRT.out]; unfold refF; cases hm : mayP jt <;> simp [hm]⟩
        generalize mayP jt = b5 at *
        go_wp2_with fail
        refine (HJ1.out _ _ HRI.out).mono ?_
        rintro e w' ⟨rfl, rfl⟩
        go_wp2_with fail
        refine (HMB.out _).mono ?_
        rintro e w' ⟨rfl, rfl⟩
        go_wp2_with fail
        refine (HBG.out _).mono ?_
        rintro e w' ⟨rfl, rfl⟩
        go_wp2_with fail
        refine (HMD.out _).mono ?_
        rintro e w' ⟨rfl, rfl⟩
        go_wp2_with fail
        refine calls_at (R := fun wq => Below w1.heap.size w1 wq ∧ RdS wq (· < wq.heap.size) (.slice (some ⟨w1.heap.size, 0, none⟩) 2 2) [dir, b4s]) ⟨(Below.refl _ _).alloc (Nat.le_refl _) _, rdS_two w1 dir b4s⟩ ?_
        intro w2 H2
        refine (HJ2.out _ w2 H2.out.2).mono ?_
        rintro e w' ⟨rfl, rfl⟩
        have HB2 := Keep.keep (HB.out.trans (H2.out.1.mono HB.out.size))
        go_wp2_with fail
        refine (HMT.out _).mono ?_
        rintro e w3 ⟨rfl, hb3⟩
        have HB3 := Keep.keep (HB2.out.trans (hb3.mono HB2.out.size))
        clear hb3
        cases b5 with
        | false =>
          go_wp2_with fail
          go_ret2
          exact ⟨by rw [HX.out]; rfl, HB3.out⟩
        | true =>
          go_wp2_with fail
          go_ret2
          exact ⟨by rw [HX.out]; rfl, HB3.out⟩
end Go.Proofs.YtphgmkhbhboklaaGreatDoor
/- portolanref12.has, May; portolanref18.May. -/
namespace Go.Proofs.YtphgmkhbhboklaaGreatDoor
open Go.RowKit
set_option maxHeartbeats 1000000 in
set_option maxRecDepth 100000 in
theorem hasb_any (s : Tx) (hsl : s.length ≤ 1000000) (c : UInt8) (cv : Int) (hc : cv = (c.toNat : Int)) (w : World) : Calls Tryz.prog 80 #[.string ⟨s.toArray⟩, .int .u8 cv] w fun e w' => e = .returned (.bool (decide (c ∈ s))) ∧ w = w' := by
  have HC := Keep.keep hc
  clear hc
  go_enter Tryz.func80, Tryz.ntmps80
  go_wp2_with fail
  go_loopg [5] s.length (fun g u3 wx => ∃ k : Nat, k + g = s.length ∧ u3 = .int .i64 (k : Int) ∧ (∀ j, (hj : j < k) → (hl : j < s.length) → s[j] ≠ c) ∧ w = wx)
  case atStart => exact ⟨0, by omega, rfl, fun j hj => by omega, rfl⟩
  case round =>
    obtain ⟨k, hkg, rfl, hno, rfl⟩ := hrel
    have HNO := Keep.keep hno
    clear hno
    cases gk with
    | zero =>
      obtain rfl : k = s.length := by omega
      have HE : Keep (decide (c ∈ s) = false) := ⟨decide_eq_false (fun h => by
        obtain ⟨j, hj, e⟩ := List.mem_iff_getElem.1 h
        exact HNO.out j hj hj e)⟩
      go_wp2_with fail
      go_ret
      exact ⟨by (rw [HE.out]) <;> rfl, rfl⟩
    | succ g =>
      have hk : k < s.length := by omega
      have hidx := run_index_str (P := Tryz.prog) Tryz.underlying9 ⟨s.toArray⟩ .i64 k s[k] (by simp [hk])
      have hgi : (⟨s.toArray⟩ : ByteArray)[k]'(hk) = s[k] := rfl
      by_cases h0 : s[k] = c
      · have hb : ((s[k].toNat : Int) == cv) = true := by rw [HC.out, h0]; exact beq_self_eq_true _
        have HE : Keep (decide (c ∈ s) = true) := ⟨decide_eq_true (h0 ▸ List.getElem_mem hk)⟩
        clear h0 HNO
        generalize s[k] = x at *
        go_wp2_with fail
        go_ret
        exact ⟨by (rw [HE.out]) <;> rfl, rfl⟩
      · have hb : ((s[k].toNat : Int) == cv) = false := by
          rw [HC.out, beq_eq_false_iff_ne]
          intro e
          exact h0 (UInt8.toNat_inj.1 (by omega))
        have HST : Keep (∀ j, (hj : j < k + 1) → (hl : j < s.length) → s[j] ≠ c) := ⟨fun j hj hl => by
          rcases Nat.lt_succ_iff_lt_or_eq.1 hj with h | rfl
          · exact HNO.out j h hl
          · exact h0⟩
        clear h0 HNO
        generalize s[k] = x at *
        go_wp2_with fail
        go_roundg g
        case measure => omega
        case rel => exact ⟨k + 1, by omega, by simp, HST.out, rfl⟩
theorem any_bad (s : Tx) : s.any ([0, 61, 10].contains ·) = (decide ((0 : UInt8) ∈ s) || decide ((61 : UInt8) ∈ s) || decide ((10 : UInt8) ∈ s)) := by
  rw [Bool.eq_iff_iff]
  simp only [List.any_eq_true, Bool.or_eq_true, decide_eq_true_eq, List.contains_cons, beq_iff_eq]
  constructor
  · rintro ⟨x, hx, (h | h | h | h)⟩
    · exact .inl (.inl (h ▸ hx))
    · exact .inl (.inr (h ▸ hx))
    · exact .inr (h ▸ hx)
    · simp at h
  · rintro ((h | h) | h)
    · exact ⟨_, h, .inl rfl⟩
    · exact ⟨_, h, .inr (.inl rfl)⟩
    · exact ⟨_, h, .inr (.inr (.inl rfl))⟩
set_option maxHeartbeats 4000000 in
set_option maxRecDepth 100000 in
theorem rmay12_any (m : Mb) (av dv : Value) (hsm : Sm m) (w : World) (hr : NdR w (· < w.heap.size) m.2 av dv) :
    Calls Tryz.prog 48 #[.agg (mbC m av dv)] w fun e w' => e = .returned (.bool (mayT m)) ∧ Below w.heap.size w w' := by
  obtain ⟨p, nd⟩ := m
  obtain ⟨kind, mode, uid, gid, time, attrs, data, link⟩ := nd
  obtain ⟨sp, sl, sd, sa, sn, sk⟩ := hsm
  simp only at sp sl sd sa sn sk
  obtain ⟨ra, rd⟩ := hr
  simp only at ra rd
  have HCL := Keep.keep (fun wx => rclass_any p sp wx)
  obtain ⟨ad, cd, hdv, hd1, hd2, -⟩ := rd.shape
  obtain ⟨aa, ca, hav, ha1, ha2, ha3⟩ := ra.shape
  have HRA := Keep.keep ra; have HA3 := Keep.keep ha3; have HSN := Keep.keep sn
  unfold maxLen at ha2 hd2
  have HMT : Keep (mayT (p, ⟨kind, mode, uid, gid, time, attrs, data, link⟩) = (decide (¬ (classP p).1 = 0) && decide (1 ≤ kind ∧ kind ≤ 4) && decide (mode ≤ 4095) && mayA attrs && mayL link (decide (kind = 3)) && decide (data.length ≤ 16777216) && (decide (kind = 2) || decide (data.length = 0)))) := ⟨rfl⟩
  have HA16 : Keep (16 < attrs.length → mayA attrs = false) := ⟨fun h => by unfold mayA; rw [decide_eq_false (show ¬ attrs.length ≤ 16 by omega), Bool.and_false]⟩
  have HAOK : Keep ((∀ k, k < attrs.length → badA attrs k = false) → attrs.length ≤ 16 → mayA attrs = true) := ⟨fun h h16 => by rw [mayA_ok h]; exact decide_eq_true h16⟩
  have HABAD : Keep (∀ k, k < attrs.length → badA attrs k = true → mayA attrs = false) := ⟨fun k hk h => mayA_bad hk h⟩
  generalize mayT (p, ⟨kind, mode, uid, gid, time, attrs, data, link⟩) = mt at *
  clear ra rd ha3 sn
  generalize classP p = cp at *
  obtain ⟨cl, tg⟩ := cp
  generalize mayA attrs = ma at *
  unfold mbC strV
  simp only at HCL HMT ⊢
  subst hdv hav
  go_enter Tryz.func48, Tryz.ntmps48
  go_wp2_with fail
  refine calls_at (R := fun w1 => Hp NoM w w1 [rowA w.heap.size 32 #[.string ⟨p.toArray⟩, .int .i64 kind, .int .u32 mode, .int .u32 uid, .int .u32 gid, .int .i64 time, .slice aa attrs.length ca, .slice ad data.length cd, .string ⟨link.toArray⟩]]) ?_ ?_
  · exact (Hp.begin NoM w).newRow _ _
  intro w1 H1
  refine (HCL.out w1).mono ?_
  rintro e w2 ⟨rfl, hb2⟩
  have H2 := Keep.keep (H1.out.call hb2)
  have hrow := H2.out.row 0 rfl
  have c1 := hrow.cell (i := 1) rfl
  have c2 := hrow.cell (i := 2) rfl
  have c3 := hrow.cell (i := 3) rfl
  have c4 := hrow.cell (i := 4) rfl
  have c5 := hrow.cell (i := 5) rfl
  have c6 := hrow.cell (i := 6) rfl
  have c7 := hrow.cell (i := 7) rfl
  have c8 := hrow.cell (i := 8) rfl
  clear hrow hb2 H1
  go_upto_region 3 with fail
  refine wp_world (R := fun w3 => Hp NoM w w3 [rowA w.heap.size 32 #[.string ⟨p.toArray⟩, .int .i64 kind, .int .u32 mode, .int .u32 uid, .int .u32 gid, .int .i64 time, .slice aa attrs.length ca, .slice ad data.length cd, .string ⟨link.toArray⟩],
    rowA w2.heap.size 30 #[.int .i64 kind, .int .u32 mode, .int .u32 uid, .int .u32 gid, .int .i64 time, .slice aa attrs.length ca, .slice ad data.length cd, .string ⟨link.toArray⟩]]) ?_ ?_
  · exact H2.out.newRow _ _
  intro w3 H3
  clear c1 c2 c3 c4 c5 c6 c7 c8
  have hrow := H3.out.row 1 rfl
  generalize w2.heap.size = T at *
  have c0 := hrow.cell (i := 0) rfl
  have c1 := hrow.cell (i := 1) rfl
  have c5 := hrow.cell (i := 5) rfl
  have c6 := hrow.cell (i := 6) rfl
  have c7 := hrow.cell (i := 7) rfl
  clear hrow
  have HW : Keep (Below w.heap.size w w3) := ⟨H3.out.below⟩
  have HRA3 := Keep.keep (HRA.out.below H3.out.below (fun b hb => hb))
  clear H2 H3 HCL HRA
  obtain ⟨b0, hb0⟩ : ∃ b, (cl == 0) = b := ⟨_, rfl⟩
  have e0 : decide (¬ cl = 0) = !b0 := by rw [← hb0, Bool.eq_iff_iff]; simp
  obtain ⟨b1, hb1⟩ : ∃ b, decide (kind < 1) = b := ⟨_, rfl⟩
  obtain ⟨b2, hb2⟩ : ∃ b, decide (4 < kind) = b := ⟨_, rfl⟩
  have e1 : decide (1 ≤ kind ∧ kind ≤ 4) = (!b1 && !b2) := by rw [← hb1, ← hb2, Bool.eq_iff_iff]; simp
  obtain ⟨b3, hb3⟩ : ∃ b, decide (4095 < mode) = b := ⟨_, rfl⟩
  have e3 : decide (mode ≤ 4095) = !b3 := by rw [← hb3, Bool.eq_iff_iff]; simp
  obtain ⟨b4, hb4⟩ : ∃ b, decide (16 < attrs.length) = b := ⟨_, rfl⟩
  have hb4i : decide ((16 : Int) < (attrs.length : Int)) = b4 := by rw [← hb4, Bool.eq_iff_iff]; simp; omega
  rw [e0, e1, e3] at HMT
  have H4T : Keep (b4 = true → ma = false) := ⟨fun h => HA16.out (by rw [h] at hb4; exact of_decide_eq_true hb4)⟩
  have H4F : Keep (b4 = false → attrs.length ≤ 16) := ⟨fun h => by rw [h] at hb4; have := of_decide_eq_false hb4; omega⟩
  clear e0 e1 e3 hb4 HA16
  cases b0 with
  | true =>
    go_wp2_with fail
    go_ret
    exact ⟨by rw [HMT.out]; rfl, HW.out⟩
  | false =>
  cases b1 with
  | true =>
    go_wp2_with fail
    go_ret
    exact ⟨by rw [HMT.out]; rfl, HW.out⟩
  | false =>
  cases b2 with
  | true =>
    go_wp2_with fail
    go_ret
    exact ⟨by rw [HMT.out]; rfl, HW.out⟩
  | false =>
  cases b3 with
  | true =>
    go_wp2_with fail
    go_ret
    exact ⟨by rw [HMT.out]; rfl, HW.out⟩
  | false =>
  cases b4 with
  | true =>
    go_wp2_with fail
    go_ret
    exact ⟨by rw [HMT.out, H4T.out (by simp)]; rfl, HW.out⟩
  | false =>
  have HM2 : Keep (mt = (ma && mayL link (decide (kind = 3)) && decide (data.length ≤ 16777216) && (decide (kind = 2) || decide (data.length = 0)))) := ⟨by rw [HMT.out]; rfl⟩
  have H16 := Keep.keep (H4F.out (by simp))
  clear HMT H4T H4F
  go_wp2_with fail
  go_loopg [6, 7] attrs.length (fun g u6 _ wx => ∃ k : Nat, k + g = attrs.length ∧ u6 = .int .i64 (k : Int) ∧ (∀ j, j < k → badA attrs j = false) ∧ w3 = wx)
  case atStart => exact ⟨0, by omega, rfl, fun j hj => by omega, rfl⟩
  case round =>
    obtain ⟨k, hkg, rfl, hok, rfl⟩ := hrel
    have HOK := Keep.keep hok
    clear hok
    cases gk with
    | zero =>
      obtain rfl : k = attrs.length := by omega
      have hma : ma = true := HAOK.out HOK.out H16.out
      subst hma
      have h3 : (kind == 3) = decide (kind = 3) := by rw [Bool.eq_iff_iff]; simp
      have h3n : (kind != 3) = !decide (kind = 3) := by rw [Bool.eq_iff_iff]; simp
      obtain ⟨s3, hs3⟩ : ∃ s3, decide (kind = 3) = s3 := ⟨_, rfl⟩
      have hdl : decide ((data.length : Int) ≤ 16777216) = true := decide_eq_true (by omega)
      have hdn : decide (data.length ≤ 16777216) = true := decide_eq_true (by omega)
      have h2 : (kind == 2) = decide (kind = 2) := by rw [Bool.eq_iff_iff]; simp
      obtain ⟨s2, hs2⟩ : ∃ s2, decide (kind = 2) = s2 := ⟨_, rfl⟩
      have hz : ((data.length : Int) == 0) = decide (data.length = 0) := by rw [Bool.eq_iff_iff]; simp
      obtain ⟨z, hz2⟩ : ∃ z, decide (data.length = 0) = z := ⟨_, rfl⟩
      have hle : (link == []) = link.isEmpty := by cases link <;> rfl
      have hlen : (link != []) = !link.isEmpty := by cases link <;> rfl
      have HHL := Keep.keep (fun wx => hasb_any link sl 0 0 rfl wx)
      rw [hs3] at h3 h3n HM2
      rw [hs2] at h2 HM2
      rw [hz2] at hz HM2
      rw [hdn] at HM2
      have HML : Keep (mayL link s3 = if s3 then !link.isEmpty && decide (link.length ≤ 4096) && !decide ((0 : UInt8) ∈ link) else link.isEmpty) := ⟨by unfold mayL; rw [hlen, hle]⟩
      obtain ⟨ml, hml⟩ : ∃ ml, mayL link s3 = ml := ⟨_, rfl⟩
      rw [hml] at HML HM2
      obtain ⟨le, hlie⟩ : ∃ b, link.isEmpty = b := ⟨_, rfl⟩
      obtain ⟨hz0, hhz⟩ : ∃ b, decide ((0 : UInt8) ∈ link) = b := ⟨_, rfl⟩
      obtain ⟨b5, hb5⟩ : ∃ b, decide (link.length ≤ 4096) = b := ⟨_, rfl⟩
      have hb5i : decide ((4096 : Int) < (link.length : Int)) = !b5 := by rw [← hb5, Bool.eq_iff_iff]; simp; omega
      rw [hlie] at hle hlen
      rw [hlie, hhz, hb5] at HML
      simp only [hhz] at HHL
      clear hs3 hs2 hz2 hdn hml hhz hb5 HOK HAOK HABAD
      cases s3 with
      | false =>
        cases le with
        | false =>
          have HX : Keep (ml = false) := ⟨by rw [HML.out]; rfl⟩
          go_wp2_with fail
          go_ret
          exact ⟨by rw [HM2.out, HX.out]; rfl, HW.out⟩
        | true =>
          have HX : Keep (ml = true) := ⟨by rw [HML.out]; rfl⟩
          cases s2 <;> cases z
          all_goals
            go_wp2_with fail
            go_ret
            exact ⟨by rw [HM2.out, HX.out]; rfl, HW.out⟩
      | true =>
        cases le with
        | true =>
          have HX : Keep (ml = false) := ⟨by rw [HML.out]; rfl⟩
          go_wp2_with fail
          go_ret
          exact ⟨by rw [HM2.out, HX.out]; rfl, HW.out⟩
        | false =>
          cases b5 with
          | false =>
            have HX : Keep (ml = false) := ⟨by rw [HML.out]; rfl⟩
            go_wp2_with fail
            go_ret
            exact ⟨by rw [HM2.out, HX.out]; rfl, HW.out⟩
          | true =>
            go_wp2_with fail
            refine (HHL.out _).mono ?_
            rintro e w4 ⟨rfl, rfl⟩
            cases hz0 with
            | true =>
              have HX : Keep (ml = false) := ⟨by rw [HML.out]; rfl⟩
              go_wp2_with fail
              go_ret
              exact ⟨by rw [HM2.out, HX.out]; rfl, HW.out⟩
            | false =>
              have HX : Keep (ml = true) := ⟨by rw [HML.out]; rfl⟩
              cases s2 <;> cases z
              all_goals
                go_wp2_with fail
                go_ret
                exact ⟨by rw [HM2.out, HX.out]; rfl, HW.out⟩
    | succ g =>
      have hkl : k < attrs.length := by omega
      obtain ⟨b, off, rfl, hbl⟩ : ∃ b off, aa = some ⟨b, off, none⟩ ∧ b < w.heap.size := by
        rcases HA3.out with h | ⟨b, off, h, hb⟩
        · omega
        · exact ⟨b, off, h, hb⟩
      obtain ⟨z1, z2⟩ := attr_cells HRA3.out hkl
      have hsm := (HSN.out _ (List.getElem_mem hkl)).1
      obtain ⟨x, hx⟩ : ∃ x, attrs[k] = x := ⟨_, rfl⟩
      have HX : Keep (attrs[k]? = some x) := ⟨by rw [List.getElem?_eq_getElem hkl, hx]⟩
      rw [hx] at z1 z2 hsm
      have HBA : Keep (badA attrs k = ((x.1 == []) || decide (242 < x.1.length) || (decide ((0 : UInt8) ∈ x.1) || decide ((61 : UInt8) ∈ x.1) || decide ((10 : UInt8) ∈ x.1)) || (match k with | 0 => false | j + 1 => (match attrs[j]? with | some b => decide (x.1 ≤ b.1) | none => false)))) := ⟨by
        rw [← any_bad]; unfold badA; (rw [HX.out]) <;> rfl⟩
      have HBX : Keep (badA attrs k = true → ma = false) := ⟨HABAD.out k hkl⟩
      have HST : Keep (badA attrs k = false → ∀ j, j < k + 1 → badA attrs j = false) := ⟨fun h j hj => by
        rcases Nat.lt_succ_iff_lt_or_eq.1 hj with h' | rfl
        · exact HOK.out j h'
        · exact h⟩
      have HPREV : Keep (∀ j, k = j + 1 → ∃ y, attrs[j]? = some y ∧ w3.cell? ⟨b, off + j * 2, none⟩ = some (strV y.1)) := ⟨fun j hj => by
        have hjl : j < attrs.length := by omega
        obtain ⟨y1, -⟩ := attr_cells HRA3.out hjl
        exact ⟨attrs[j], List.getElem?_eq_getElem hjl, y1⟩⟩
      have HH0 := Keep.keep (fun wx => hasb_any x.1 hsm 0 0 rfl wx)
      have HH1 := Keep.keep (fun wx => hasb_any x.1 hsm 61 61 rfl wx)
      have HH2 := Keep.keep (fun wx => hasb_any x.1 hsm 10 10 rfl wx)
      clear hx HX z2 HAOK HABAD HOK
      obtain ⟨xn, xv⟩ := x
      unfold strV at z1
      dsimp only at z1 hsm HBA HH0 HH1 HH2
      have hbe : (xn == []) = xn.isEmpty := by cases xn <;> rfl
      obtain ⟨d0, hd0⟩ : ∃ b, xn.isEmpty = b := ⟨_, rfl⟩
      obtain ⟨d1, hd1⟩ : ∃ b, decide (242 < xn.length) = b := ⟨_, rfl⟩
      have hd1i : decide ((242 : Int) < (xn.length : Int)) = d1 := by rw [← hd1, Bool.eq_iff_iff]; simp; omega
      obtain ⟨d2, hd2⟩ : ∃ b, decide ((0 : UInt8) ∈ xn) = b := ⟨_, rfl⟩
      obtain ⟨d3, hd3⟩ : ∃ b, decide ((61 : UInt8) ∈ xn) = b := ⟨_, rfl⟩
      obtain ⟨d4, hd4⟩ : ∃ b, decide ((10 : UInt8) ∈ xn) = b := ⟨_, rfl⟩
      rw [hd0] at hbe
      simp only [hd2] at HH0
      simp only [hd3] at HH1
      simp only [hd4] at HH2
      rw [hd2, hd3, hd4, hd1, hbe] at HBA
      generalize badA attrs k = bad at *
      clear hd1 hd2 hd3 hd4
      cases d0 with
      | true =>
        have hma := HBX.out (by rw [HBA.out]; rfl)
        have HMA := Keep.keep hma
        clear hma
        go_wp2_with fail
        go_ret
        exact ⟨by rw [HM2.out, HMA.out]; rfl, HW.out⟩
      | false =>
      cases d1 with
      | true =>
        have HMA := Keep.keep (HBX.out (by rw [HBA.out]; rfl))
        go_wp2_with fail
        go_ret
        exact ⟨by rw [HM2.out, HMA.out]; rfl, HW.out⟩
      | false =>
      go_wp2_with fail
      refine (HH0.out _).mono ?_
      rintro e w4 ⟨rfl, rfl⟩
      cases d2 with
      | true =>
        have HMA := Keep.keep (HBX.out (by rw [HBA.out]; rfl))
        go_wp2_with fail
        go_ret
        exact ⟨by rw [HM2.out, HMA.out]; rfl, HW.out⟩
      | false =>
      go_wp2_with fail
      refine (HH1.out _).mono ?_
      rintro e w4 ⟨rfl, rfl⟩
      cases d3 with
      | true =>
        have HMA := Keep.keep (HBX.out (by rw [HBA.out]; rfl))
        go_wp2_with fail
        go_ret
        exact ⟨by rw [HM2.out, HMA.out]; rfl, HW.out⟩
      | false =>
      go_wp2_with fail
      refine (HH2.out _).mono ?_
      rintro e w4 ⟨rfl, rfl⟩
      cases d4 with
      | true =>
        have HMA := Keep.keep (HBX.out (by rw [HBA.out]; rfl))
        go_wp2_with fail
        go_ret
        exact ⟨by rw [HM2.out, HMA.out]; rfl, HW.out⟩
      | false =>
      cases k with
      | zero =>
        have HBF := Keep.keep (HST.out (by rw [HBA.out]; rfl))
        go_wp2_with fail
        go_roundg g
        case measure => omega
        case rel => exact ⟨1, by omega, by simp, HBF.out, rfl⟩
      | succ j =>
        obtain ⟨y, hy, hcy⟩ := HPREV.out j rfl
        obtain ⟨yn, yv⟩ := y
        have HBB : Keep (bad = decide (xn ≤ yn)) := ⟨by rw [HBA.out]; simp only [hy]; rfl⟩
        unfold strV at hcy
        dsimp only at hcy
        have hls := less_lt yn xn
        have hns : (!decide (yn < xn)) = decide (xn ≤ yn) := by rw [Bool.eq_iff_iff]; simp
        have hgt : decide (((j + 1 : Nat) : Int) > 0) = true := decide_eq_true (by omega)
        have hgt2 : decide ((0 : Int) < ((j + 1 : Nat) : Int)) = true := decide_eq_true (by omega)
        have hsub : (((j + 1 : Nat) : Int) - 1) = (j : Int) := by omega
        obtain ⟨d5, hd5⟩ : ∃ b, decide (yn < xn) = b := ⟨_, rfl⟩
        rw [hd5] at hls hns
        rw [← hns] at HBB
        clear hns hd5 hy
        cases d5 with
        | false =>
          have HMA := Keep.keep (HBX.out (by rw [HBB.out]; rfl))
          go_wp2_with fail
          go_ret
          exact ⟨by rw [HM2.out, HMA.out]; rfl, HW.out⟩
        | true =>
          have HBF := Keep.keep (HST.out (by rw [HBB.out]; rfl))
          go_wp2_with fail
          go_roundg g
          case measure => omega
          case rel => exact ⟨j + 1 + 1, by omega, by simp, HBF.out, rfl⟩
set_option maxHeartbeats 1000000 in
set_option maxRecDepth 100000 in
theorem rmay18_any (m : Mb) (av dv : Value) (hsm : Sm m) (w : World) (hr : NdR w (· < w.heap.size) m.2 av dv) :
    Calls Tryz.prog 22 #[.agg (mbC m av dv)] w fun e w' => e = .returned (.bool (mayM m)) ∧ Below w.heap.size w w' := by
  have HCL := Keep.keep (fun wx => rclass_any m.1 hsm.p wx)
  have HTM : Keep (∀ wx, Below w.heap.size w wx → Calls Tryz.prog 48 #[.agg (mbC m av dv)] wx fun e w' => e = .returned (.bool (mayT m)) ∧ Below wx.heap.size wx w') :=
    ⟨fun wx h => rmay12_any m av dv hsm wx ((hr.below h (fun b hb => hb)).mono (fun b hb => Nat.lt_of_lt_of_le hb h.size))⟩
  have HMM : Keep (mayM m = (decide ((classP m.1).1 = 1) && mayT m)) := ⟨rfl⟩
  obtain ⟨ad, cd, hdv, -⟩ := hr.dt.shape
  obtain ⟨aa, ca, hav, -⟩ := hr.at_.shape
  obtain ⟨p, nd⟩ := m
  obtain ⟨kind, mode, uid, gid, time, attrs, data, link⟩ := nd
  clear hr hsm
  simp only at hdv hav
  subst hdv hav
  have HMC : Keep (mbC (p, ⟨kind, mode, uid, gid, time, attrs, data, link⟩) (.slice aa attrs.length ca) (.slice ad data.length cd) = #[.string ⟨p.toArray⟩, .int .i64 kind, .int .u32 mode, .int .u32 uid, .int .u32 gid, .int .i64 time, .slice aa attrs.length ca, .slice ad data.length cd, .string ⟨link.toArray⟩]) := ⟨rfl⟩
  rw [HMC.out] at HTM ⊢
  generalize mayM (p, ⟨kind, mode, uid, gid, time, attrs, data, link⟩) = mm at *
  generalize mayT (p, ⟨kind, mode, uid, gid, time, attrs, data, link⟩) = mt at *
  dsimp only at HCL HMM
  generalize classP p = cp at *
  obtain ⟨cl, tg⟩ := cp
  dsimp only at HCL HMM
  go_enter Tryz.func22, Tryz.ntmps22
  go_wp2_with fail
  refine calls_at (R := fun w1 => Hp NoM w w1 [rowA w.heap.size 32 #[.string ⟨p.toArray⟩, .int .i64 kind, .int .u32 mode, .int .u32 uid, .int .u32 gid, .int .i64 time, .slice aa attrs.length ca, .slice ad data.length cd, .string ⟨link.toArray⟩]]) ?_ ?_
  · exact (Hp.begin NoM w).newRow _ _
  intro w1 H1
  refine (HCL.out w1).mono ?_
  rintro e w2 ⟨rfl, hb2⟩
  have H2 := Keep.keep (H1.out.call hb2)
  have HRW := Keep.keep (H2.out.row 0 rfl)
  have HSZ : Keep ((#[.string ⟨p.toArray⟩, .int .i64 kind, .int .u32 mode, .int .u32 uid, .int .u32 gid, .int .i64 time, .slice aa attrs.length ca, .slice ad data.length cd, .string ⟨link.toArray⟩] : Array Value).size = 9) := ⟨rfl⟩
  clear hb2 H1
  by_cases h1 : cl = 1
  · have hb1 : (cl == 1) = true := by rw [h1]; rfl
    have HX : Keep (mm = mt) := ⟨by rw [HMM.out, decide_eq_true h1]; rfl⟩
    clear h1
    go_wp2_with ((with_reducible refine arm_loadRowG ?_ HRW.out aggM HSZ.out ?_ ?_); (focus rfl); (focus rfl); simp only [Act.put, List.setIfInBounds_toArray, List.set_cons_succ, List.set_cons_zero])
    refine (HTM.out w2 H2.out.below).mono ?_
    rintro e w3 ⟨rfl, hb3⟩
    have H3 := Keep.keep (H2.out.call hb3)
    clear hb3
    go_wp2_with fail
    go_ret
    exact ⟨by (rw [HX.out]) <;> rfl, H3.out.below⟩
  · have hb1 : (cl == 1) = false := by simpa using h1
    have HX : Keep (mm = false) := ⟨by rw [HMM.out, decide_eq_false h1]; rfl⟩
    clear h1
    go_wp2_with fail
    go_ret
    exact ⟨by (rw [HX.out]) <;> rfl, H2.out.below⟩
end Go.Proofs.YtphgmkhbhboklaaGreatDoor
