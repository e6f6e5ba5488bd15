/- PARTS OF ONE PROOF, set in one file: PathPartsL, PathWh, PathWhiteL, PathRefL, PathWakes, PathKnownL, TreeLaw, TreeWellL, DifL, ChBare, PathFnC. Each part tells its own conditions. -/
import Derived.Test.YtplafpokgpolkaaGreatDoorP1
import Derived.Test.YtplafpokgpolkaaGreatDoorP3
import Derived.Test.YtplafpokgpolkaaGreatDoorP4
import Derived.Test.YtplafpokgpolkaaGreatDoorP5
import Derived.Test.YtplafpokgpolkaaGreatDoorP10
/- PATHS: plain facts on parents, bases and what is above. -/
namespace Go.Proofs.YtplafpokgpolkaaGreatDoor
theorem cutAt_noSl : ∀ {a : List UInt8}, (∀ x ∈ a, x ≠ 47) → cutAt a = 0
  | [], _ => rfl
  | c :: a, h => by
    rw [cutAt, cutAt_noSl (fun x hx => h x (by simp [hx])), if_neg (by omega), if_neg (h c (by simp))]
theorem cutAt_app : ∀ (a b : List UInt8), (∀ x ∈ b, x ≠ 47) → cutAt (a ++ 47 :: b) = a.length + 1
  | [], b, h => by rw [List.nil_append, cutAt, cutAt_noSl h, if_neg (by omega), if_pos rfl]; rfl
  | c :: a, b, h => by
    rw [List.cons_append, cutAt, cutAt_app a b h, if_pos (by omega)]; rfl
theorem joinS_snoc : ∀ (l : List (List UInt8)) (b : List UInt8), l ≠ [] → joinS (l ++ [b]) = joinS l ++ 47 :: b
  | [], _, h => absurd rfl h
  | [x], b, _ => rfl
  | x :: y :: r, b, _ => by
    have ih := joinS_snoc (y :: r) b (by simp)
    rw [List.cons_append] at ih
    show x ++ 47 :: joinS (y :: (r ++ [b])) = (x ++ 47 :: joinS (y :: r)) ++ 47 :: b
    rw [ih]; simp
theorem parent_joinS {l : List (List UInt8)} {b : List UInt8} (hl : l ≠ []) (hb : ∀ x ∈ b, x ≠ 47) : parentP (joinS (l ++ [b])) = joinS l ∧ baseP (joinS (l ++ [b])) = b := by
  rw [joinS_snoc l b hl]
  unfold parentP baseP
  rw [cutAt_app _ _ hb]
  constructor
  · rw [Nat.add_sub_cancel, List.take_left]
  · rw [show (joinS l).length + 1 = (joinS l ++ [47]).length by simp, show joinS l ++ 47 :: b = (joinS l ++ [47]) ++ b by simp, List.drop_left]
theorem parent_one {b : List UInt8} (hb : ∀ x ∈ b, x ≠ 47) : parentP b = [] ∧ baseP b = b := by
  unfold parentP baseP
  rw [cutAt_noSl hb]; simp
theorem joinP_two (a b : List UInt8) : joinP [a, b] = if a = [] then b else if b = [] then a else a ++ 47 :: b := by
  cases a with
  | nil => cases b <;> rfl
  | cons c a => cases b <;> rfl
/-- what is above, from the left: p what stands before -/
def abvR (p : List UInt8) : List UInt8 → List (List UInt8)
  | [] => []
  | c :: l => if c = 47 then p :: abvR (p ++ [c]) l else abvR (p ++ [c]) l
theorem abvR_eq : ∀ (l p : List UInt8), abvR p l = (List.range l.length).filterMap fun i => if l[i]? = some 47 then some (p ++ l.take i) else none
  | [], p => rfl
  | c :: l, p => by
    rw [abvR, List.length_cons, List.range_succ_eq_map, List.filterMap_cons]
    have h1 : ((List.range l.length).map Nat.succ).filterMap (fun i => if (c :: l)[i]? = some 47 then some (p ++ (c :: l).take i) else none) = abvR (p ++ [c]) l := by
      rw [List.filterMap_map, abvR_eq l (p ++ [c])]
      congr 1
      funext i
      simp
    simp only [List.getElem?_cons_zero, Option.some.injEq, List.take_zero, List.append_nil]
    by_cases h : c = 47
    · rw [if_pos h, if_pos h, h1]
    · rw [if_neg h, if_neg h, h1]
theorem aboveP_eq (p : List UInt8) : aboveP p = abvR [] p := by rw [abvR_eq]; unfold aboveP; simp
theorem abvR_noSl : ∀ (a p l : List UInt8), (∀ x ∈ a, x ≠ 47) → abvR p (a ++ l) = abvR (p ++ a) l
  | [], p, l, _ => by simp
  | c :: a, p, l, h => by
    rw [List.cons_append, abvR, if_neg (h c (by simp)), abvR_noSl a _ l (fun x hx => h x (by simp [hx]))]
    simp
/-- what is above a path, of its names -/
def pres (q : List (List UInt8)) : List (List UInt8) → List (List UInt8)
  | [] => []
  | [_] => []
  | x :: y :: r => joinS (q ++ [x]) :: pres (q ++ [x]) (y :: r)
theorem abvR_pres : ∀ (l q : List (List UInt8)) (p : List UInt8), NoSl l → (q = [] → p = []) → (q ≠ [] → p = joinS q ++ [47]) → abvR p (joinS l) = pres q l
  | [], q, p, _, _, _ => by simp [joinS, abvR, pres]
  | [x], q, p, hn, _, _ => by
    have h := abvR_noSl x p [] (fun c hc => hn x (by simp) c hc)
    rw [List.append_nil] at h
    rw [joinS, h]; rfl
  | x :: y :: r, q, p, hn, h1, h2 => by
    have hx : p ++ x = joinS (q ++ [x]) := by
      by_cases hq : q = []
      · subst hq; rw [h1 rfl]; rfl
      · rw [h2 hq, joinS_snoc q x hq]; simp
    rw [joinS, abvR_noSl x p _ (fun c hc => hn x (by simp) c hc), abvR, if_pos rfl, hx, pres, abvR_pres (y :: r) (q ++ [x]) _ (fun z hz => hn z (by simp [hz])) (by simp) (fun _ => rfl)]
theorem aboveP_pres {l : List (List UInt8)} (hn : NoSl l) : aboveP (joinS l) = pres [] l := by
  rw [aboveP_eq]; exact abvR_pres l [] [] hn (fun _ => rfl) (fun h => absurd rfl h)
theorem pres_length : ∀ (l q : List (List UInt8)), (pres q l).length = l.length - 1
  | [], _ => rfl
  | [_], _ => rfl
  | x :: y :: r, q => by rw [pres, List.length_cons, pres_length (y :: r)]; simp
theorem pres_get : ∀ (l q : List (List UInt8)) (i : Nat), i + 1 < l.length → (pres q l)[i]? = some (joinS (q ++ l.take (i + 1)))
  | [], _, _, h => by simp at h
  | [_], _, i, h => by simp at h
  | x :: y :: r, q, 0, _ => by simp [pres]
  | x :: y :: r, q, i + 1, h => by
    rw [pres, List.getElem?_cons_succ, pres_get (y :: r) (q ++ [x]) i (by simpa using h)]
    simp
/-- a beginning is less -/
theorem bytesLess_pre : ∀ (a b : List UInt8), b ≠ [] → Op.bytesLess a (a ++ b) = true
  | [], b, h => by cases b with | nil => exact absurd rfl h | cons c b => rfl
  | c :: a, b, h => by
    have ih := bytesLess_pre a b h
    simp [Op.bytesLess, ih]
/-- names that a tree may have, none of them empty, no slash -/
theorem mayN_ne {s : List UInt8} (h : mayN s = true) : s ≠ [] ∧ ∀ c ∈ s, c ≠ 47 := by
  unfold mayN at h
  simp only [Bool.and_eq_true, Bool.not_eq_true', List.any_eq_false, Bool.or_eq_true, beq_iff_eq, not_or] at h
  refine ⟨fun e => ?_, fun c hc => (h.1.2 c hc).1⟩
  rw [e] at h
  simp at h
theorem filter_ne {l : List (List UInt8)} (h : l.all mayN = true) : l.filter (fun x => !x.isEmpty) = l := by
  rw [List.filter_eq_self]
  intro x hx
  have := (mayN_ne (List.all_eq_true.1 h x hx)).1
  cases x with
  | nil => exact absurd rfl this
  | cons c x => rfl
theorem noSl_of_may {l : List (List UInt8)} (h : l.all mayN = true) : NoSl l := fun x hx c hc => (mayN_ne (List.all_eq_true.1 h x hx)).2 c hc
theorem joinP_may {l : List (List UInt8)} (h : l.all mayN = true) : joinP l = joinS l := by unfold joinP; rw [filter_ne h]
theorem joinS_eq_nil {l : List (List UInt8)} (h : l.all mayN = true) (he : joinS l = []) : l = [] := by
  cases l with
  | nil => rfl
  | cons x r =>
    have hx := (mayN_ne (List.all_eq_true.1 h x (by simp))).1
    cases r with
    | nil => exact absurd he hx
    | cons y r => rw [joinS] at he; simp at he
theorem splitP_joinS {l : List (List UInt8)} (h : l.all mayN = true) : splitP (joinS l) = l := by
  unfold splitP
  by_cases he : joinS l = []
  · rw [if_pos he, joinS_eq_nil h he]
  · rw [if_neg he]
    have hl : l ≠ [] := fun e => he (by rw [e]; rfl)
    exact spl_joinS l hl (noSl_of_may h)
theorem mayP_joinS {l : List (List UInt8)} (h : l.all mayN = true) (h1 : (joinS l).length ≤ 4080) (h2 : l.length < 255) : mayP (joinS l) = true := by
  unfold mayP
  rw [splitP_joinS h, h, decide_eq_true h1, decide_eq_true h2]; rfl
theorem joinS_append : ∀ (a b : List (List UInt8)), a ≠ [] → b ≠ [] → joinS (a ++ b) = joinS a ++ 47 :: joinS b
  | [], _, h, _ => absurd rfl h
  | [x], b, _, hb => by rw [List.singleton_append, joinS_cons x hb]; rfl
  | x :: y :: r, b, _, hb => by
    have ih := joinS_append (y :: r) b (by simp) hb
    rw [List.cons_append] at ih
    show x ++ 47 :: joinS (y :: (r ++ b)) = (x ++ 47 :: joinS (y :: r)) ++ 47 :: joinS b
    rw [ih]; simp
/-- the path, its parent and its base -/
theorem parts_join {l : List (List UInt8)} (h : l.all mayN = true) : joinP [parentP (joinS l), baseP (joinS l)] = joinS l := by
  have hn := noSl_of_may h
  rcases List.eq_nil_or_concat l with rfl | ⟨a, b, rfl⟩
  · rfl
  · rw [List.concat_eq_append] at h hn ⊢
    have hb : ∀ x ∈ b, x ≠ 47 := fun c hc => hn b (by simp) c hc
    have hbn : b ≠ [] := (mayN_ne (List.all_eq_true.1 h b (by simp))).1
    by_cases ha : a = []
    · subst ha
      rw [List.nil_append]
      show joinP [parentP b, baseP b] = b
      rw [(parent_one hb).1, (parent_one hb).2, joinP_two, if_pos rfl]
    · obtain ⟨h1, h2⟩ := parent_joinS ha hb
      have haj : joinS a ≠ [] := fun e => ha (joinS_eq_nil (by rw [List.all_append] at h; simp only [Bool.and_eq_true] at h; exact h.1) e)
      rw [h1, h2, joinP_two, if_neg haj, if_neg hbn, joinS_snoc a b ha]
theorem under_self (p : List UInt8) : underP p p = false := by
  unfold underP
  have : (p ++ [47]).isPrefixOf p = false := by
    cases h : (p ++ [47]).isPrefixOf p with
    | false => rfl
    | true =>
      have := (List.isPrefixOf_iff_prefix.1 h).length_le
      rw [List.length_append, List.length_singleton] at this
      omega
  rw [this]
  cases p.isEmpty <;> rfl
theorem under_nil (p : List UInt8) : underP [] p = !p.isEmpty := by unfold underP; simp
/-- one of those above, and the next one -/
structure Abv (p d x : List UInt8) : Prop where
  par : parentP x = d
  und : underP d p = true
  may : mayP d = true
  less : Op.bytesLess d x = true
  nun : underP p d = false
theorem abv_at {l : List (List UInt8)} (h : l.all mayN = true) (h1 : (joinS l).length ≤ 4080) (h2 : l.length < 255) (i : Nat) (hi : i + 1 < l.length) : Abv (joinS l) (joinS (l.take (i + 1))) (joinS (l.take (i + 2))) := by
  have ht : (l.take (i + 1)).all mayN = true := by
    rw [List.all_eq_true] at h ⊢
    exact fun x hx => h x (List.mem_of_mem_take hx)
  have htn : l.take (i + 1) ≠ [] := by
    intro e
    have := congrArg List.length e
    rw [List.length_take, List.length_nil] at this
    omega
  have hdn : l.drop (i + 1) ≠ [] := by
    intro e
    have := congrArg List.length e
    rw [List.length_drop, List.length_nil] at this
    omega
  have hp : joinS l = joinS (l.take (i + 1)) ++ 47 :: joinS (l.drop (i + 1)) := by
    conv => lhs; rw [← List.take_append_drop (i + 1) l]
    exact joinS_append _ _ htn hdn
  have hx : l.take (i + 2) = l.take (i + 1) ++ [l[i + 1]] := List.take_succ_eq_append_getElem hi
  have hb := (mayN_ne (List.all_eq_true.1 h l[i + 1] (List.getElem_mem hi))).2
  have hdj : joinS (l.take (i + 1)) ≠ [] := fun e => htn (joinS_eq_nil ht e)
  refine ⟨?_, ?_, ?_, ?_, ?_⟩
  · rw [hx]; exact (parent_joinS htn hb).1
  · unfold underP
    have hpr : (joinS (l.take (i + 1)) ++ [47]).isPrefixOf (joinS l) = true := by
      rw [List.isPrefixOf_iff_prefix, hp]
      exact ⟨joinS (l.drop (i + 1)), by simp⟩
    rw [hpr]
    have : (joinS l).isEmpty = false := by
      rw [hp]
      cases joinS (l.take (i + 1)) <;> rfl
    rw [this]; simp
  · exact mayP_joinS ht (by rw [hp] at h1; simp at h1; omega) (by rw [List.length_take]; omega)
  · rw [hx, joinS_snoc _ _ htn]
    exact bytesLess_pre _ _ (by simp)
  · unfold underP
    have hpr : (joinS l ++ [47]).isPrefixOf (joinS (l.take (i + 1))) = false := by
      cases h3 : (joinS l ++ [47]).isPrefixOf (joinS (l.take (i + 1))) with
      | false => rfl
      | true =>
        have h4 := (List.isPrefixOf_iff_prefix.1 h3).length_le
        rw [hp, List.length_append, List.length_append, List.length_cons, List.length_singleton] at h4
        omega
    have : (joinS l).isEmpty = false := by
      rw [hp]
      cases joinS (l.take (i + 1)) <;> rfl
    rw [hpr, this]; simp
theorem joinS_take_len : ∀ (l : List (List UInt8)) (j : Nat), (joinS (l.take j)).length ≤ (joinS l).length
  | [], j => by simp [joinS]
  | [x], 0 => by simp [joinS]
  | [x], j + 1 => by simp
  | x :: y :: r, 0 => by simp [joinS]
  | x :: y :: r, 1 => by simp [joinS]
  | x :: y :: r, j + 2 => by
    have ih := joinS_take_len (y :: r) (j + 1)
    rw [List.take_succ_cons] at ih ⊢
    rw [List.take_succ_cons, joinS, joinS, List.length_append, List.length_append, List.length_cons, List.length_cons]
    omega
/-- the names that the law takes -/
def cut60 (s : List UInt8) : List UInt8 := s.take (min s.length 60)
def sel (names : List (List UInt8)) (k : Nat) : List (List UInt8) := ((names.take (min k 40)).map cut60).filter mayN
theorem sel_succ (names : List (List UInt8)) (k : Nat) (hk : k < names.length) : sel names (k + 1) = if k < 40 ∧ mayN (cut60 names[k]) = true then sel names k ++ [cut60 names[k]] else sel names k := by
  unfold sel
  by_cases h : k < 40
  · rw [show min (k + 1) 40 = k + 1 by omega, show min k 40 = k by omega, List.take_succ_eq_append_getElem hk, List.map_append, List.filter_append]
    by_cases hm : mayN (cut60 names[k]) = true
    · rw [if_pos ⟨h, hm⟩]; simp [hm]
    · rw [if_neg (fun e => hm e.2)]; simp [hm]
  · rw [show min (k + 1) 40 = 40 by omega, show min k 40 = 40 by omega, if_neg (fun e => h e.1)]
theorem sel_may (names : List (List UInt8)) (k : Nat) : (sel names k).all mayN = true := by
  rw [List.all_eq_true]; exact fun x hx => (List.mem_filter.1 hx).2
theorem sel_len (names : List (List UInt8)) (k : Nat) : (sel names k).length ≤ 40 := by
  unfold sel
  refine Nat.le_trans (List.length_filter_le _ _) ?_
  rw [List.length_map, List.length_take]; omega
theorem sel_each (names : List (List UInt8)) (k : Nat) : ∀ x ∈ sel names k, x.length ≤ 60 := by
  intro x hx
  obtain ⟨y, _, rfl⟩ := List.mem_map.1 (List.mem_filter.1 hx).1
  unfold cut60; rw [List.length_take]; omega
theorem joinS_bound : ∀ (l : List (List UInt8)), (∀ x ∈ l, x.length ≤ 60) → (joinS l).length ≤ 61 * l.length
  | [], _ => by simp [joinS]
  | [x], h => by have := h x (by simp); show x.length ≤ _; simp; omega
  | x :: y :: r, h => by
    have h1 := h x (by simp)
    have ih := joinS_bound (y :: r) (fun z hz => h z (by simp [hz]))
    rw [joinS, List.length_append, List.length_cons]
    simp only [List.length_cons] at ih ⊢
    omega
theorem sel_join (names : List (List UInt8)) (k : Nat) : (joinS (sel names k)).length ≤ 4080 := by
  have h1 := joinS_bound _ (sel_each names k)
  have h2 := sel_len names k
  omega
end Go.Proofs.YtplafpokgpolkaaGreatDoor
/- path.Whiteout, Opaque; portolanlaw11.wakes. -/
namespace Go.Proofs.YtplafpokgpolkaaGreatDoor
open Go.RowKit
def whiteoutP (p : List UInt8) : List UInt8 := if p.isEmpty || !mayP p then [] else joinP [parentP p, whiteB ++ baseP p]
def opaqueP (d : List UInt8) : List UInt8 := if !mayP d then [] else joinP [d, markB]
theorem joinP_two_len (a b : List UInt8) : (joinP [a, b]).length ≤ a.length + b.length + 1 := by
  have h1 := joinS_filter_len (fun x => !x.isEmpty) [a, b] (by simp)
  have h2 : (joinS [a, b]).length = a.length + b.length + 1 := by simp [joinS]; omega
  unfold joinP
  omega
theorem rdS_two (w : World) (a b : List UInt8) : RdS (w.alloc (.cells #[strV a, strV b] 9)) (· < (w.alloc (.cells #[strV a, strV b] 9)).heap.size) (.slice (some ⟨w.heap.size, 0, none⟩) 2 2) [a, b] :=
  RdV.new 9 [strV a, strV b] 1 2 _ rfl rfl (by unfold maxLen; omega) (by simp)
set_option maxHeartbeats 4000000 in
set_option maxRecDepth 100000 in
theorem white_any (p : List UInt8) (hp : p.length ≤ 1000000) (B : Nat) (w : World) (hB : B ≤ w.heap.size) (hM : Mx B w) :
    Calls Tryz.prog 50 #[.string ⟨p.toArray⟩] w fun e w' => e = .returned (.string ⟨(whiteoutP p).toArray⟩) ∧ Below w.heap.size w w' := by
  have HMY := Keep.keep (may_any p hp B w hB hM)
  have HPA := Keep.keep (fun w => parent_any p hp w)
  have HBA := Keep.keep (fun w => base_any p hp w)
  have hbn := bne_nil p
  have hpl : (parentP p).length ≤ p.length := by unfold parentP; simp; omega
  have hbl : (baseP p).length ≤ p.length := by unfold baseP; simp
  have hcat := run_cat (P := Tryz.prog) [46, 119, 104, 46] (baseP p) (by simp; omega)
  rw [show [46, 119, 104, 46] ++ baseP p = whiteB ++ baseP p from rfl] at hcat
  have hwl : (whiteB ++ baseP p).length ≤ p.length + 4 := by simp [whiteB]; omega
  have hjl := joinP_two_len (parentP p) (whiteB ++ baseP p)
  have HE : Keep (whiteoutP p = if p.isEmpty || !mayP p then [] else joinP [parentP p, whiteB ++ baseP p]) := ⟨rfl⟩
  generalize whiteoutP p = out at *
  generalize p.isEmpty = b1 at *
  generalize mayP p = b2 at *
  generalize parentP p = pa at *
  generalize hwb : whiteB ++ baseP p = wb at *
  generalize baseP p = ba at *
  have HJ := Keep.keep (fun v w (h : RdS w (· < w.heap.size) v [pa, wb]) => join_any v [pa, wb] w h (by simp) (by omega))
  clear hM hwb hpl hbl hwl hjl
  cases b1 with
  | true =>
    have HX : Keep (out = []) := ⟨by rw [HE.out]; rfl⟩
    go_enter Tryz.func50, Tryz.ntmps50
    go_wp2_with fail
    go_ret
    exact ⟨by rw [HX.out]; rfl, Below.refl _ _⟩
  | false =>
  cases b2 with
  | false =>
    have HX : Keep (out = []) := ⟨by rw [HE.out]; rfl⟩
    go_enter Tryz.func50, Tryz.ntmps50
    go_wp2_with fail
    refine HMY.out.mono ?_
    rintro e w1 ⟨rfl, hb1⟩
    go_wp2_with fail
    go_ret
    exact ⟨by rw [HX.out]; rfl, hb1⟩
  | true =>
    have HX : Keep (out = joinP [pa, wb]) := ⟨by rw [HE.out]; rfl⟩
    go_enter Tryz.func50, Tryz.ntmps50
    go_wp2_with fail
    refine HMY.out.mono ?_
    rintro e w1 ⟨rfl, hb1⟩
    have HB1 := Keep.keep hb1
    clear hb1
    go_wp2_with fail
    refine (HPA.out _).mono ?_
    rintro e w1' ⟨rfl, rfl⟩
    go_wp2_with fail
    refine (HBA.out _).mono ?_
    rintro e w1' ⟨rfl, rfl⟩
    go_wp2_with fail
    refine calls_at (R := fun wq => Below w1.heap.size w1 wq ∧ RdS wq (· < wq.heap.size) (.slice (some ⟨w1.heap.size, 0, none⟩) 2 2) [pa, wb]) ⟨(Below.refl _ _).alloc (Nat.le_refl _) _, rdS_two w1 pa wb⟩ ?_
    intro w2 H2
    refine (HJ.out _ w2 H2.out.2).mono ?_
    rintro e w3 ⟨rfl, hb3⟩
    have HB3 := Keep.keep (HB1.out.trans ((H2.out.1.trans (hb3.mono H2.out.1.size)).mono HB1.out.size))
    clear hb3
    go_wp2_with fail
    go_ret
    exact ⟨by rw [HX.out]; rfl, HB3.out⟩
set_option maxHeartbeats 4000000 in
set_option maxRecDepth 100000 in
theorem opaq_any (p : List UInt8) (hp : p.length ≤ 1000000) (B : Nat) (w : World) (hB : B ≤ w.heap.size) (hM : Mx B w) :
    Calls Tryz.prog 53 #[.string ⟨p.toArray⟩] w fun e w' => e = .returned (.string ⟨(opaqueP p).toArray⟩) ∧ Below w.heap.size w w' := by
  have HMY := Keep.keep (may_any p hp B w hB hM)
  have hjl := joinP_two_len p markB
  have HE : Keep (opaqueP p = if !mayP p then [] else joinP [p, markB]) := ⟨rfl⟩
  have hml : markB.length = 12 := rfl
  generalize opaqueP p = out at *
  generalize mayP p = b2 at *
  have HJ := Keep.keep (fun v w (h : RdS w (· < w.heap.size) v [p, markB]) => join_any v [p, markB] w h (by simp) (by omega))
  clear hM hjl hml
  cases b2 with
  | false =>
    have HX : Keep (out = []) := ⟨by rw [HE.out]; rfl⟩
    go_enter Tryz.func53, Tryz.ntmps53
    go_wp2_with fail
    refine HMY.out.mono ?_
    rintro e w1 ⟨rfl, hb1⟩
    go_wp2_with fail
    go_ret
    exact ⟨by rw [HX.out]; rfl, hb1⟩
  | true =>
    have HX : Keep (out = joinP [p, markB]) := ⟨by rw [HE.out]; rfl⟩
    go_enter Tryz.func53, Tryz.ntmps53
    go_wp2_with fail
    refine HMY.out.mono ?_
    rintro e w1 ⟨rfl, hb1⟩
    have HB1 := Keep.keep hb1
    clear hb1
    go_wp2_with fail
    refine calls_at (R := fun wq => Below w1.heap.size w1 wq ∧ RdS wq (· < wq.heap.size) (.slice (some ⟨w1.heap.size, 0, none⟩) 2 2) [p, markB]) ⟨(Below.refl _ _).alloc (Nat.le_refl _) _, rdS_two w1 p markB⟩ ?_
    intro w2 H2
    refine (HJ.out _ w2 H2.out.2).mono ?_
    rintro e w3 ⟨rfl, hb3⟩
    have HB3 := Keep.keep (HB1.out.trans ((H2.out.1.trans (hb3.mono H2.out.1.size)).mono HB1.out.size))
    clear hb3
    go_wp2_with fail
    go_ret
    exact ⟨by rw [HX.out]; rfl, HB3.out⟩
/-- two lists of names, compared -/
theorem sequal_any (v1 v2 : Value) (l1 l2 : List (List UInt8)) (w : World) (h1 : RdS w (· < w.heap.size) v1 l1) (h2 : RdS w (· < w.heap.size) v2 l2) (hn1 : l1.length ≤ 1000000000) (hn2 : l2.length ≤ 1000000000) :
    Calls Tryz.prog 16 #[v1, v2] w fun e w' => e = .returned (.bool (decide (l1 = l2))) ∧ Below w.heap.size w w' := by
  obtain ⟨a1, c1, rfl, hc1, -, g1⟩ := h1.shape
  obtain ⟨a2, c2, rfl, hc2, -, g2⟩ := h2.shape
  by_cases hl : l1.length = l2.length
  · rcases Nat.eq_zero_or_pos l1.length with h0 | h0
    · obtain rfl : l1 = [] := List.eq_nil_of_length_eq_zero h0
      obtain rfl : l2 = [] := List.eq_nil_of_length_eq_zero (by rw [← hl]; rfl)
      refine (Tryz.slices_Equal_string_empty a1 a2 c1 0 c2 w (by omega)).mono ?_
      rintro e w' ⟨rfl, rfl⟩
      exact ⟨rfl, Below.refl _ _⟩
    · rcases g1 with ⟨_, g1⟩ | ⟨b1, o1, rfl, -⟩
      · omega
      rcases g2 with ⟨_, g2⟩ | ⟨b2, o2, rfl, -⟩
      · omega
      have h := Tryz.slices_Equal_string b1 o1 l1.length c1 b2 o2 l2.length c2 (l1.map fun x => (⟨x.toArray⟩ : ByteArray)) (l2.map fun x => (⟨x.toArray⟩ : ByteArray)) w (by simp) (by simp) (by omega) (by omega)
        (fun j hj => by
          rw [List.length_map] at hj
          rw [h1.cell b1 o1 _ _ rfl j (strV l1[j]) (by simp [hj])]
          simp [List.getD_eq_getElem?_getD, hj, strV])
        (fun j hj => by
          rw [List.length_map] at hj
          rw [h2.cell b2 o2 _ _ rfl j (strV l2[j]) (by simp [hj])]
          simp [List.getD_eq_getElem?_getD, hj, strV])
      rw [List.take_of_length_le (by simp), List.take_of_length_le (by simp)] at h
      refine h.mono ?_
      rintro e w' ⟨rfl, q, rfl⟩
      refine ⟨?_, below_drewN' (Below.refl _ _) _⟩
      congr 2
      simp only [decide_eq_decide]
      constructor
      · intro e
        have := congrArg (List.map (fun b : ByteArray => b.data.toList)) e
        simpa [Function.comp_def] using this
      · rintro rfl; rfl
  · refine (Tryz.slices_Equal_string_lens a1 a2 l1.length c1 l2.length c2 w hl).mono ?_
    rintro e w' ⟨rfl, rfl⟩
    exact ⟨by rw [decide_eq_false (fun e => hl (by rw [e]))], Below.refl _ _⟩
end Go.Proofs.YtplafpokgpolkaaGreatDoor
/- PATHS: plain facts on classes, whiteouts and marks. -/
namespace Go.Proofs.YtplafpokgpolkaaGreatDoor
theorem cut_cases : ∀ p : List UInt8, (cutAt p = 0 ∧ ∀ x ∈ p, x ≠ 47) ∨ ∃ d b, p = d ++ 47 :: b ∧ (∀ x ∈ b, x ≠ 47) ∧ cutAt p = d.length + 1
  | [] => .inl ⟨rfl, fun x h => by cases h⟩
  | c :: l => by
    rcases cut_cases l with ⟨h1, h2⟩ | ⟨d, b, h1, h2, h3⟩
    · by_cases hc : c = 47
      · refine .inr ⟨[], l, by rw [hc]; rfl, h2, ?_⟩
        rw [cutAt, h1, if_neg (by omega), if_pos hc]; rfl
      · refine .inl ⟨?_, fun x hx => ?_⟩
        · rw [cutAt, h1, if_neg (by omega), if_neg hc]
        · rcases List.mem_cons.1 hx with rfl | hx
          · exact hc
          · exact h2 x hx
    · refine .inr ⟨c :: d, b, by rw [h1]; rfl, h2, ?_⟩
      rw [cutAt, h3, if_pos (by omega)]; rfl
/-- a path's dir and base -/
theorem path_cases (p : List UInt8) : (dirP p = [] ∧ baseP p = p ∧ parentP p = [] ∧ ∀ x ∈ p, x ≠ 47) ∨ ∃ d b, p = d ++ 47 :: b ∧ (∀ x ∈ b, x ≠ 47) ∧ dirP p = d ++ [47] ∧ baseP p = b ∧ parentP p = d := by
  rcases cut_cases p with ⟨h1, h2⟩ | ⟨d, b, h1, h2, h3⟩
  · exact .inl ⟨by unfold dirP; rw [h1]; rfl, by unfold baseP; rw [h1]; rfl, by unfold parentP; rw [h1]; rfl, h2⟩
  · have e1 : p = (d ++ [47]) ++ b := by rw [h1]; simp
    have e2 : d.length + 1 = (d ++ [(47 : UInt8)]).length := by simp
    refine .inr ⟨d, b, h1, h2, ?_, ?_, ?_⟩
    · unfold dirP; rw [h3, e1, e2, List.take_left]
    · unfold baseP; rw [h3, e1, e2, List.drop_left]
    · unfold parentP; rw [h3, h1, Nat.add_sub_cancel, List.take_left]
theorem dir_of {d b : List UInt8} (hb : ∀ x ∈ b, x ≠ 47) : dirP (d ++ 47 :: b) = d ++ [47] ∧ baseP (d ++ 47 :: b) = b ∧ parentP (d ++ 47 :: b) = d := by
  have h3 := cutAt_app d b hb
  have e1 : d ++ 47 :: b = (d ++ [47]) ++ b := by simp
  have e2 : d.length + 1 = (d ++ [(47 : UInt8)]).length := by simp
  refine ⟨?_, ?_, ?_⟩
  · unfold dirP; rw [h3, e1, e2, List.take_left]
  · unfold baseP; rw [h3, e1, e2, List.drop_left]
  · unfold parentP; rw [h3, Nat.add_sub_cancel, List.take_left]
theorem dir_none {b : List UInt8} (hb : ∀ x ∈ b, x ≠ 47) : dirP b = [] ∧ baseP b = b ∧ parentP b = [] := by
  have h := cutAt_noSl hb
  exact ⟨by unfold dirP; rw [h]; rfl, by unfold baseP; rw [h]; rfl, by unfold parentP; rw [h]; rfl⟩
theorem spl_app : ∀ (d b : List UInt8), (∀ x ∈ b, x ≠ 47) → spl (d ++ 47 :: b) = spl d ++ [b]
  | [], b, h => by
    have e : spl (47 :: b) = [] :: spl b := by rw [spl, if_pos rfl]
    rw [List.nil_append, e, spl_none h]; rfl
  | c :: d, b, h => by
    have ih := spl_app d b h
    have hne := spl_ne d
    have e1 : spl (c :: (d ++ 47 :: b)) = if c = 47 then [] :: spl (d ++ 47 :: b) else match spl (d ++ 47 :: b) with | [] => [[c]] | h :: t => (c :: h) :: t := rfl
    have e2 : spl (c :: d) = if c = 47 then [] :: spl d else match spl d with | [] => [[c]] | h :: t => (c :: h) :: t := rfl
    rw [List.cons_append, e1, ih, e2]
    by_cases hc : c = 47
    · rw [if_pos hc, if_pos hc]; rfl
    · rw [if_neg hc, if_neg hc]
      cases hs : spl d with
      | nil => exact absurd hs hne
      | cons x t => rfl
theorem may_parts {p : List UInt8} (h : mayP p = true) : p.length ≤ 4080 ∧ (splitP p).length < 255 ∧ (splitP p).all mayN = true := by
  unfold mayP at h
  simp only [Bool.and_eq_true, decide_eq_true_eq] at h
  exact ⟨h.1.1, h.1.2, h.2⟩
theorem splitP_app {d b : List UInt8} (hb : ∀ x ∈ b, x ≠ 47) : splitP (d ++ 47 :: b) = spl d ++ [b] := by
  unfold splitP
  rw [if_neg (by simp), spl_app d b hb]
theorem splitP_one {b : List UInt8} (hb : ∀ x ∈ b, x ≠ 47) (h0 : b ≠ []) : splitP b = [b] := by
  unfold splitP
  rw [if_neg h0, spl_none hb]
theorem mayN_nil : mayN [] = false := rfl
/-- the last name of a tree's path is a tree's; what stands ahead of the slash is not nothing -/
theorem may_base {p : List UInt8} (h : mayP p = true) (h0 : p ≠ []) : mayN (baseP p) = true := by
  obtain ⟨-, -, h3⟩ := may_parts h
  rcases path_cases p with ⟨-, hb, -, hn⟩ | ⟨d, b, rfl, hn, -, hb, -⟩
  · rw [hb]; rw [splitP_one hn h0] at h3; simpa using h3
  · rw [hb]; rw [splitP_app hn, List.all_append] at h3; simp only [Bool.and_eq_true] at h3; simpa using h3.2
theorem may_dir {d b : List UInt8} (hb : ∀ x ∈ b, x ≠ 47) (h : mayP (d ++ 47 :: b) = true) : d ≠ [] := by
  obtain ⟨-, -, h3⟩ := may_parts h
  rw [splitP_app hb, List.all_append] at h3
  simp only [Bool.and_eq_true] at h3
  rintro rfl
  have h4 := h3.1
  simp [spl, mayN_nil] at h4
theorem mayN_white {b : List UInt8} (h : mayN b = true) : whiteB.isPrefixOf b = false := by
  unfold mayN at h
  simp only [Bool.and_eq_true, Bool.not_eq_true'] at h
  exact h.2
theorem white_not_may (b : List UInt8) : mayN (whiteB ++ b) = false := by
  cases h : mayN (whiteB ++ b) with
  | false => rfl
  | true =>
    have h1 := mayN_white h
    have h2 : whiteB.isPrefixOf (whiteB ++ b) = true := by rw [List.isPrefixOf_iff_prefix]; exact List.prefix_append _ _
    rw [h2] at h1; cases h1
theorem markB_eq : markB = whiteB ++ [46, 119, 104, 46, 46, 111, 112, 113] := rfl
theorem tableB_eq : tableB = whiteB ++ [46, 119, 104, 46, 116, 111, 99] := rfl
theorem lastC_may {b : List UInt8} (h : mayN b = true) : lastC b = 1 := by
  have h1 := mayN_white h
  unfold lastC
  rw [h1]
  have : (b == markB) = false := by
    rw [beq_eq_false_iff_ne]; rintro rfl
    rw [markB_eq, white_not_may] at h; cases h
  rw [this]; rfl
theorem lastC_white {b : List UInt8} (h : mayN b = true) : lastC (whiteB ++ b) = 2 := by
  unfold lastC
  have h1 : (whiteB ++ b == markB) = false := by
    rw [beq_eq_false_iff_ne, markB_eq]
    intro e
    have := List.append_cancel_left e
    rw [this] at h
    have h5 : mayN [46, 119, 104, 46, 46, 111, 112, 113] = false := by decide
    rw [h5] at h; cases h
  have h2 : whiteB.isPrefixOf (whiteB ++ b) = true := by rw [List.isPrefixOf_iff_prefix]; exact List.prefix_append _ _
  rw [h1, h2]; rfl
theorem lastC_mark : lastC markB = 3 := by decide
theorem tab_noSl : ∀ x ∈ tableB, x ≠ 47 := by decide
theorem mark_noSl : ∀ x ∈ markB, x ≠ 47 := by decide
theorem white_noSl {b : List UInt8} (h : ∀ x ∈ b, x ≠ 47) : ∀ x ∈ whiteB ++ b, x ≠ 47 := by
  intro x hx
  rcases List.mem_append.1 hx with hx | hx
  · exact (by decide : ∀ x ∈ whiteB, x ≠ 47) x hx
  · exact h x hx
theorem ne_table {d b : List UInt8} : (d ++ 47 :: b == tableB) = false := by
  rw [beq_eq_false_iff_ne]
  intro e
  exact tab_noSl 47 (by rw [← e]; simp) rfl
theorem trimSl_app (d : List UInt8) : trimSl (d ++ [47]) = d := by
  unfold trimSl
  have : ([47] : List UInt8).isSuffixOf (d ++ [47]) = true := by rw [List.isSuffixOf_iff_suffix]; exact List.suffix_append _ _
  rw [if_pos this]; simp
theorem ne_slash {d : List UInt8} (h : d ≠ []) : (d ++ [47] == [(47 : UInt8)]) = false := by
  rw [beq_eq_false_iff_ne]
  intro e
  have := congrArg List.length e
  simp at this
  exact h this
/-- a tree's path is Plain, and its own target -/
theorem class_may {p : List UInt8} (h : mayP p = true) (h0 : p ≠ []) : classP p = (1, p) := by
  have hb := may_base h h0
  have hl := lastC_may hb
  have ht : (p == tableB) = false := by
    rw [beq_eq_false_iff_ne]; rintro rfl
    rw [(dir_none tab_noSl).2.1, tableB_eq, white_not_may] at hb; cases hb
  have hg : tgtC 1 (dirP p) (baseP p) = p := dir_base p
  have he : p.isEmpty = false := by cases p with | nil => exact absurd rfl h0 | cons c p => rfl
  have hd : (dirP p == [(47 : UInt8)]) = false := by
    rcases path_cases p with ⟨hd, -⟩ | ⟨d, b, rfl, hn, hd, -⟩
    · rw [hd]; rfl
    · rw [hd]; exact ne_slash (may_dir hn h)
  unfold classP
  rw [ht, hl, hg, h, he, hd]; rfl
/-- the mark in a dir: its class, its target -/
theorem class_opaque {p : List UInt8} (h : mayP p = true) : classP (opaqueP p) = (3, p) := by
  have ho : opaqueP p = joinP [p, markB] := by unfold opaqueP; rw [h]; rfl
  rw [ho, joinP_two]
  by_cases hp : p = []
  · subst hp
    rw [if_pos rfl]; decide
  · rw [if_neg hp, if_neg (by decide)]
    obtain ⟨h1, h2, -⟩ := dir_of (d := p) mark_noSl
    have hg : tgtC 3 (p ++ [47]) markB = p := trimSl_app p
    unfold classP
    rw [ne_table, h1, h2, lastC_mark, hg, h, ne_slash hp]; rfl
/-- the whiteout of a path: its class, its target, its dir -/
theorem class_whiteout {p : List UInt8} (h : mayP p = true) (h0 : p ≠ []) : classP (whiteoutP p) = (2, p) ∧ parentP (whiteoutP p) = parentP p := by
  have hb := may_base h h0
  have hbn := mayN_ne hb
  have he : p.isEmpty = false := by cases p with | nil => exact absurd rfl h0 | cons c p => rfl
  have hw : whiteoutP p = joinP [parentP p, whiteB ++ baseP p] := by unfold whiteoutP; rw [h, he]; rfl
  have hdr : (whiteB ++ baseP p).drop 4 = baseP p := List.drop_left (l₁ := whiteB)
  rw [hw, joinP_two]
  rcases path_cases p with ⟨hd, hbe, hpa, hn⟩ | ⟨d, b, rfl, hn, hd, hbe, hpa⟩
  · rw [hpa, if_pos rfl]
    obtain ⟨g1, g2, g3⟩ := dir_none (white_noSl hbn.2)
    refine ⟨?_, g3⟩
    have ht : (whiteB ++ baseP p == tableB) = false := by
      rw [beq_eq_false_iff_ne, tableB_eq]
      intro e
      rw [List.append_cancel_left e] at hb
      have h5 : mayN [46, 119, 104, 46, 116, 111, 99] = false := by decide
      rw [h5] at hb; cases hb
    have hg : tgtC 2 [] (whiteB ++ baseP p) = p := by
      show [] ++ (whiteB ++ baseP p).drop 4 = p
      rw [hdr, List.nil_append, hbe]
    unfold classP
    rw [ht, g1, g2, lastC_white hb, hg, hdr, hb, h, he]; rfl
  · have hdn := may_dir hn h
    rw [hpa, hbe, if_neg hdn, if_neg (by simp [whiteB])]
    rw [hbe] at hb hbn hdr
    obtain ⟨g1, g2, g3⟩ := dir_of (d := d) (white_noSl hbn.2)
    refine ⟨?_, g3⟩
    have hg : tgtC 2 (d ++ [47]) (whiteB ++ b) = d ++ 47 :: b := by
      show (d ++ [47]) ++ (whiteB ++ b).drop 4 = _
      rw [hdr]; simp
    unfold classP
    rw [ne_table, g1, g2, lastC_white hb, hg, hdr, hb, h, he, ne_slash hdn]; rfl
theorem whiteoutP_len (p : List UInt8) : (whiteoutP p).length ≤ 2 * p.length + 5 := by
  have h0 := joinP_two_len (parentP p) (whiteB ++ baseP p)
  have h1 : (parentP p).length ≤ p.length := by unfold parentP; rw [List.length_take]; omega
  have h2 : (baseP p).length ≤ p.length := by unfold baseP; rw [List.length_drop]; omega
  have h3 : (whiteB ++ baseP p).length = 4 + (baseP p).length := by rw [List.length_append]; rfl
  unfold whiteoutP
  split
  · simp
  · omega
theorem opaqueP_len (p : List UInt8) : (opaqueP p).length ≤ p.length + 13 := by
  have h0 := joinP_two_len p markB
  have h1 : markB.length = 12 := rfl
  unfold opaqueP
  split
  · simp
  · omega
/-- what a class tells -/
inductive Told (p : List UInt8) : Prop
  | none (h : classP p = (0, [])) (hn : ¬ (mayP p = true ∧ p ≠ []))
  | plain (h : classP p = (1, p)) (hm : mayP p = true) (h0 : p ≠ [])
  | gone (t : List UInt8) (h : classP p = (2, t)) (hw : whiteoutP t = p) (hm : mayP p = false) (hl : t.length ≤ p.length)
  | mark (t : List UInt8) (h : classP p = (3, t)) (ho : opaqueP t = p) (hm : mayP p = false) (hl : t.length ≤ p.length)
  | table (h : classP p = (4, [])) (ht : p = tableB) (hm : mayP p = false)
theorem told (p : List UInt8) : Told p := by
  by_cases hm : mayP p = true ∧ p ≠ []
  · exact .plain (class_may hm.1 hm.2) hm.1 hm.2
  cases ht : p == tableB with
  | true =>
    have ht' := beq_iff_eq.1 ht
    refine .table (by unfold classP; rw [ht]; rfl) ht' ?_
    rw [ht']; decide
  | false =>
    have hfalse : ∀ c, mayN (baseP p) = false → c = true → p ≠ [] → mayP p = false := fun _ hb _ h0 => by
      cases hmp : mayP p with
      | false => rfl
      | true => rw [may_base hmp h0] at hb; cases hb
    cases hc : (!mayP (tgtC (lastC (baseP p)) (dirP p) (baseP p)) || (lastC (baseP p) != 3 && (tgtC (lastC (baseP p)) (dirP p) (baseP p)).isEmpty) || (lastC (baseP p) == 2 && !mayN ((baseP p).drop 4)) || dirP p == [47]) with
    | true => exact .none (by unfold classP; rw [ht, hc]; rfl) hm
    | false =>
      have hcl : classP p = ((lastC (baseP p) : Int), tgtC (lastC (baseP p)) (dirP p) (baseP p)) := by unfold classP; rw [ht, hc]; rfl
      simp only [Bool.or_eq_false_iff, Bool.not_eq_false', Bool.and_eq_false_iff] at hc
      obtain ⟨⟨⟨c1, c2⟩, c3⟩, c4⟩ := hc
      have hk : lastC (baseP p) = 1 ∨ (lastC (baseP p) = 2 ∧ ∃ b, baseP p = whiteB ++ b) ∨ (lastC (baseP p) = 3 ∧ baseP p = markB) := by
        unfold lastC
        cases h1 : baseP p == markB with
        | true => exact .inr (.inr ⟨rfl, beq_iff_eq.1 h1⟩)
        | false =>
          cases h2 : whiteB.isPrefixOf (baseP p) with
          | true => exact .inr (.inl ⟨rfl, by obtain ⟨b, hb⟩ := List.isPrefixOf_iff_prefix.1 h2; exact ⟨b, hb.symm⟩⟩)
          | false => exact .inl rfl
      rcases hk with hk | ⟨hk, b, hb⟩ | ⟨hk, hb⟩
      · exfalso
        rw [hk] at c1 c2
        have hg : tgtC 1 (dirP p) (baseP p) = p := dir_base p
        rw [hg] at c1 c2
        refine hm ⟨c1, ?_⟩
        rintro rfl
        simp at c2
      · rw [hk] at hcl c1 c2 c3
        have hdr : (baseP p).drop 4 = b := by rw [hb]; exact List.drop_left (l₁ := whiteB)
        rw [hdr] at c3
        have hbm : mayN b = true := by simpa using c3
        have hg : tgtC 2 (dirP p) (baseP p) = dirP p ++ b := by show dirP p ++ (baseP p).drop 4 = _; rw [hdr]
        rw [hg] at hcl c1 c2
        have hbn := mayN_ne hbm
        have hte : dirP p ++ b ≠ [] := fun e => hbn.1 (List.append_eq_nil_iff.1 e).2
        have hee : (dirP p ++ b).isEmpty = false := by cases hx : dirP p ++ b with | nil => exact absurd hx hte | cons c l => rfl
        have hp0 : p ≠ [] := by
          rintro rfl
          have : baseP [] = [] := rfl
          rw [this] at hb
          simp [whiteB] at hb
        have hfm := hfalse true (by rw [hb]; exact white_not_may b) rfl hp0
        have hlen : (dirP p ++ b).length ≤ p.length := by
          have : (dirP p ++ baseP p).length = p.length := by rw [dir_base]
          rw [hb] at this
          simp at this ⊢
          omega
        refine .gone _ hcl ?_ hfm hlen
        have hwo : whiteoutP (dirP p ++ b) = joinP [parentP (dirP p ++ b), whiteB ++ baseP (dirP p ++ b)] := by unfold whiteoutP; rw [c1, hee]; rfl
        rw [hwo, joinP_two]
        rcases path_cases p with ⟨hd, hbe, hpa, hn⟩ | ⟨d, b', hpe, hn, hd, hbe, hpa⟩
        · rw [hd, List.nil_append, (dir_none hbn.2).2.2, (dir_none hbn.2).2.1, if_pos rfl, ← hb, hbe]
        · have hdn : d ≠ [] := by
            rintro rfl
            rw [hd] at c4; simp at c4
          have e1 : dirP p ++ b = d ++ 47 :: b := by rw [hd]; simp
          rw [e1, (dir_of hbn.2).2.2, (dir_of hbn.2).2.1, if_neg hdn, if_neg (by simp [whiteB]), ← hb, hbe, ← hpe]
      · rw [hk] at hcl c1
        have hg : tgtC 3 (dirP p) (baseP p) = trimSl (dirP p) := rfl
        rw [hg] at hcl c1
        have hp0 : p ≠ [] := by
          rintro rfl
          have : baseP [] = [] := rfl
          rw [this] at hb
          simp [markB] at hb
        have hfm := hfalse true (by rw [hb, markB_eq]; exact white_not_may _) rfl hp0
        rcases path_cases p with ⟨hd, hbe, hpa, hn⟩ | ⟨d, b', hpe, hn, hd, hbe, hpa⟩
        · have hts : trimSl (dirP p) = [] := by rw [hd]; rfl
          rw [hts] at hcl c1
          refine .mark [] hcl ?_ hfm (by simp)
          unfold opaqueP
          rw [c1]
          show joinP [[], markB] = p
          rw [joinP_two, if_pos rfl, ← hb, hbe]
        · have hts : trimSl (dirP p) = d := by rw [hd]; exact trimSl_app d
          have hdn : d ≠ [] := by
            rintro rfl
            rw [hd] at c4; simp at c4
          rw [hts] at hcl c1
          refine .mark d hcl ?_ hfm (by rw [hpe]; simp)
          unfold opaqueP
          rw [c1]
          show joinP [d, markB] = p
          rw [joinP_two, if_neg hdn, if_neg (by decide), ← hb, hbe, ← hpe]
end Go.Proofs.YtplafpokgpolkaaGreatDoor
/- what the document says a class is, and what the program's class is: the same. -/
namespace Go.Proofs.YtplafpokgpolkaaGreatDoor
def refT (p base dir : List UInt8) : Int × List UInt8 := if mayN base then (1, p) else if base == markB then (3, dir) else if whiteB.isPrefixOf base && mayN (base.drop 4) then (2, joinP [dir, base.drop 4]) else (0, [])
def refF (ct : Int × List UInt8) : Int × List UInt8 := if ct.1 == 0 || !mayP ct.2 then (0, []) else ct
def refC (p : List UInt8) (init : List (List UInt8)) (base : List UInt8) : Int × List UInt8 := if init.all mayN then refF (refT p base (joinP init)) else (0, [])
theorem split_parts {p : List UInt8} (h0 : p ≠ []) : ∃ init base, splitP p = init ++ [base] ∧ (∀ x ∈ base, x ≠ 47) ∧ ((init = [] ∧ p = base) ∨ ∃ d, init = spl d ∧ p = d ++ 47 :: base) := by
  rcases path_cases p with ⟨-, -, -, hn⟩ | ⟨d, b, rfl, hn, -⟩
  · exact ⟨[], p, splitP_one hn h0, hn, .inl ⟨rfl, rfl⟩⟩
  · exact ⟨spl d, b, splitP_app hn, hn, .inr ⟨d, rfl, rfl⟩⟩
theorem may_app {d b : List UInt8} (hb : ∀ x ∈ b, x ≠ 47) (h : mayP (d ++ 47 :: b) = true) : (spl d).all mayN = true ∧ mayN b = true := by
  obtain ⟨-, -, h3⟩ := may_parts h
  rw [splitP_app hb, List.all_append] at h3
  simp only [Bool.and_eq_true] at h3
  exact ⟨h3.1, by simpa using h3.2⟩
theorem join_spl {d : List UInt8} (h : (spl d).all mayN = true) : joinP (spl d) = d := by rw [joinP_may h, joinS_spl]
theorem class_ref {p base : List UInt8} {init : List (List UInt8)} (h0 : p ≠ []) (ht : (p == tableB) = false) (hb : ∀ x ∈ base, x ≠ 47) (hc : (init = [] ∧ p = base) ∨ ∃ d, init = spl d ∧ p = d ++ 47 :: base) : classP p = refC p init base := by
  rcases hc with ⟨rfl, rfl⟩ | ⟨d, rfl, rfl⟩
  · obtain ⟨g1, g2, -⟩ := dir_none hb
    unfold classP refC
    rw [ht, g1, g2, show joinP [] = ([] : List UInt8) from rfl]
    cases h1 : p == markB with
    | true => have := beq_iff_eq.1 h1; subst this; decide
    | false =>
      cases h2 : whiteB.isPrefixOf p with
      | true =>
        obtain ⟨b, rfl⟩ := List.isPrefixOf_iff_prefix.1 h2
        have hl : lastC (whiteB ++ b) = 2 := by unfold lastC; rw [h1, h2]; rfl
        have hdr : (whiteB ++ b).drop 4 = b := List.drop_left (l₁ := whiteB)
        have hg : tgtC 2 [] (whiteB ++ b) = b := by show [] ++ (whiteB ++ b).drop 4 = b; rw [hdr]; rfl
        have hj : joinP [[], b] = b := by rw [joinP_two, if_pos rfl]
        unfold refT
        rw [hl, hg, hdr, white_not_may, h1, h2, hj]
        cases hn : mayN b with
        | false => simp [refF]
        | true =>
          have he : b.isEmpty = false := by cases b with | nil => cases hn | cons c b => rfl
          rw [he]
          unfold refF
          cases hm : mayP b <;> simp [hm]
      | false =>
        have hl : lastC p = 1 := by unfold lastC; rw [h1, h2]; rfl
        have hg : tgtC 1 [] p = p := rfl
        have he : p.isEmpty = false := by cases p with | nil => exact absurd rfl h0 | cons c b => rfl
        unfold refT
        rw [hl, hg, h1, h2, he]
        cases hm : mayP p with
        | true =>
          have hn := may_base hm h0
          rw [g2] at hn
          rw [hn]; simp [refF, hm]
        | false =>
          cases hn : mayN p <;> simp [refF, hm]
  · obtain ⟨g1, g2, -⟩ := dir_of (d := d) hb
    unfold classP refC
    rw [ht, g1, g2]
    by_cases hd : d = []
    · subst hd
      have : (spl []).all mayN = false := rfl
      rw [this]; simp
    · rw [ne_slash hd]
      cases h1 : base == markB with
      | true =>
        have := beq_iff_eq.1 h1; subst this
        have hg : tgtC 3 (d ++ [47]) markB = d := trimSl_app d
        rw [lastC_mark, hg]
        have hn : mayN markB = false := by decide
        unfold refT
        rw [hn, h1]
        cases hm : mayP d with
        | true =>
          obtain ⟨-, -, ha⟩ := may_parts hm
          rw [show splitP d = spl d by unfold splitP; rw [if_neg hd]] at ha
          rw [ha, join_spl ha]
          simp [refF, hm]
        | false =>
          cases ha : (spl d).all mayN with
          | false => simp
          | true => rw [join_spl ha]; simp [refF, hm]
      | false =>
        cases h2 : whiteB.isPrefixOf base with
        | true =>
          obtain ⟨b, rfl⟩ := List.isPrefixOf_iff_prefix.1 h2
          have hbb : ∀ x ∈ b, x ≠ 47 := fun x hx => hb x (List.mem_append_right _ hx)
          have hl : lastC (whiteB ++ b) = 2 := by unfold lastC; rw [h1, h2]; rfl
          have hdr : (whiteB ++ b).drop 4 = b := List.drop_left (l₁ := whiteB)
          have hg : tgtC 2 (d ++ [47]) (whiteB ++ b) = d ++ 47 :: b := by show (d ++ [47]) ++ (whiteB ++ b).drop 4 = _; rw [hdr]; simp
          unfold refT
          rw [hl, hg, hdr, white_not_may, h1, h2]
          have he : (d ++ 47 :: b).isEmpty = false := by simp
          rw [he]
          cases hn : mayN b with
          | false => cases ha : (spl d).all mayN <;> simp [refF]
          | true =>
            have hbn : b ≠ [] := by rintro rfl; cases hn
            cases ha : (spl d).all mayN with
            | true =>
              rw [join_spl ha, joinP_two, if_neg hd, if_neg hbn]
              cases hm : mayP (d ++ 47 :: b) <;> simp [refF, hm]
            | false =>
              have hm : mayP (d ++ 47 :: b) = false := by
                cases hm : mayP (d ++ 47 :: b) with
                | false => rfl
                | true => rw [(may_app hbb hm).1] at ha; cases ha
              rw [hm]; simp
        | false =>
          have hl : lastC base = 1 := by unfold lastC; rw [h1, h2]; rfl
          have hg : tgtC 1 (d ++ [47]) base = d ++ 47 :: base := by show (d ++ [47]) ++ base = _; simp
          unfold refT
          rw [hl, hg, h1, h2]
          have he : (d ++ 47 :: base).isEmpty = false := by simp
          rw [he]
          cases hm : mayP (d ++ 47 :: base) with
          | true =>
            obtain ⟨ha, hn⟩ := may_app hb hm
            rw [ha, hn]; simp [refF, hm]
          | false =>
            cases ha : (spl d).all mayN with
            | false => simp
            | true => cases hn : mayN base <;> simp [refF, hm]
end Go.Proofs.YtplafpokgpolkaaGreatDoor
/- portolanlaw11.wakes. -/
namespace Go.Proofs.YtplafpokgpolkaaGreatDoor
open Go.RowKit
theorem wk_cl0 : cleanP [46, 47, 97, 47, 47, 98, 47, 46, 47, 99, 47] = ([97, 47, 98, 47, 99], 0) := by decide +kernel
theorem wk_cl1 : cleanP [47, 97] = ([], 30) := by decide +kernel
theorem wk_cl2 : cleanP [97, 47, 46, 46, 47, 98] = ([], 30) := by decide +kernel
theorem wk_cl3 : cleanP [46] = ([], 0) := by decide +kernel
theorem wk_cs0 : classP [97, 47, 46, 119, 104, 46, 98] = (2, [97, 47, 98]) := by decide +kernel
theorem wk_cs1 : classP [46, 119, 104, 46, 46, 119, 104, 46, 46, 111, 112, 113] = (3, []) := by decide +kernel
theorem wk_cs2 : classP [97, 47, 46, 119, 104, 46, 46, 120] = (2, [97, 47, 46, 120]) := by decide +kernel
theorem wk_cs3 : classP [46, 119, 104, 46, 46, 119, 104, 46, 120] = (0, []) := by decide +kernel
theorem wk_cs4 : classP [97, 47, 46, 119, 104, 46, 46, 119, 104, 46, 116, 111, 99] = (0, []) := by decide +kernel
theorem wk_ab : aboveP [97, 47, 98, 47, 99] = [[97], [97, 47, 98]] := by decide +kernel
end Go.Proofs.YtplafpokgpolkaaGreatDoor
/- PathKnown: closed facts about long texts (kernel). -/
namespace Go.Proofs.YtplafpokgpolkaaGreatDoor
def longT : List UInt8 := List.replicate 251 110
def deepT : List UInt8 := (List.replicate 253 [100, 47]).flatten ++ [100]
def wideT : List UInt8 := (List.replicate 16 (List.replicate 249 119 ++ [47])).flatten ++ List.replicate 80 119
theorem kn_c1 : classP ([97, 47, 46, 119, 104, 46] ++ longT) = (2, [97, 47] ++ longT) := by decide +kernel
theorem kn_c2 : (classP ([97, 47, 46, 119, 104, 46] ++ longT ++ [110])).1 = 0 := by decide +kernel
theorem kn_c3 : (classP [47, 46, 119, 104, 46, 46, 119, 104, 46, 46, 111, 112, 113]).1 = 0 := by decide +kernel
theorem kn_c4 : (classP []).1 = 0 := by decide +kernel
theorem kn_c5 : classP tableB = (4, []) := by decide +kernel
theorem kn_c6 : (classP [46, 119, 104, 46, 120, 47, 121]).1 = 0 := by decide +kernel
theorem kn_l1 : (cleanP (List.replicate 256 120)).2 = 3 := by decide +kernel
theorem kn_l2 : (cleanP [97, 0]).2 = 30 := by decide +kernel
theorem kn_l3 : (cleanP (List.replicate 256 [97, 47]).flatten).2 = 3 := by decide +kernel
theorem kn_l4 : (cleanP (List.replicate 255 [97, 47]).flatten).2 = 0 ∧ (cleanP (List.replicate 255 [97, 47]).flatten).1.length = 509 := by decide +kernel
theorem kn_l5 : cleanP [] = ([], 0) := by decide +kernel
theorem kn_m1 : mayP [] = true := by decide +kernel
theorem kn_m2 : mayP deepT = true := by decide +kernel
theorem kn_m3 : mayP (deepT ++ [47, 100]) = false := by decide +kernel
theorem kn_m4 : wideT.length = 4080 := by decide +kernel
theorem kn_m5 : mayP wideT = true := by decide +kernel
theorem kn_m6 : mayP (wideT ++ [119]) = false := by decide +kernel
theorem kn_m7 : mayP [97, 47, 47, 98] = false := by decide +kernel
theorem kn_m8 : mayP [97, 47] = false := by decide +kernel
theorem kn_j1 : joinP [[], [97], [], [98]] = [97, 47, 98] := by decide +kernel
theorem kn_p1 : parentP [97] = [] ∧ baseP [97, 47] = [] ∧ whiteoutP [] = [] ∧ opaqueP [] = markB := by decide +kernel
theorem kn_n : mayN longT = true ∧ mayN (longT ++ [110]) = false ∧ mayN [255] = true ∧ mayN [32] = true ∧ mayN [46, 119, 104, 46, 120] = false := by decide +kernel
end Go.Proofs.YtplafpokgpolkaaGreatDoor
/- TREES, plainly: what stays so under calls; whose parent, what is under. -/
namespace Go.Proofs.YtplafpokgpolkaaGreatDoor
theorem class_one {p : Tx} (h : (classP p).1 = 1) : mayP p = true ∧ p ≠ [] := by
  have h0 : p ≠ [] := by
    rintro rfl
    rw [kn_c4] at h; cases h
  by_cases ht : (p == tableB) = true
  · have : p = tableB := by simpa using ht
    subst this
    rw [kn_c5] at h; cases h
  · obtain ⟨init, base, _, hb, hc⟩ := split_parts h0
    rw [class_ref h0 (by simpa using ht) hb hc] at h
    unfold refC at h
    split at h
    · unfold refF at h
      split at h
      · cases h
      · rename_i hn
        unfold refT at h hn
        split at h
        · rename_i hm
          rw [if_pos hm] at hn
          exact ⟨by simpa using hn, h0⟩
        · split at h
          · cases h
          · split at h <;> cases h
    · cases h
theorem parent_lt {q : Tx} (h0 : q ≠ []) : (parentP q).length < q.length := by
  rcases path_cases q with ⟨_, _, hp, _⟩ | ⟨e, b, rfl, _, _, _, hp⟩
  · rw [hp]; exact List.length_pos_iff.2 h0
  · rw [hp]; simp
theorem under_len {d q : Tx} (h : underP d q = true) : d.length < q.length := by
  unfold underP at h
  by_cases hd : d = []
  · subst hd
    simp at h
    exact List.length_pos_iff.2 h
  · simp [hd] at h
    have := h.2.length_le
    simp at this; omega
theorem under_rec {q d : Tx} (hq : mayP q = true) (h0 : q ≠ []) : underP d q = (parentP q == d || underP d (parentP q)) := by
  rcases path_cases q with ⟨_, _, hp, hns⟩ | ⟨e, b, rfl, hb, _, _, hp⟩
  · rw [hp]
    by_cases hd : d = []
    · subst hd; rw [under_nil]; simp [h0]
    · have h1 : underP d q = false := by
        rw [Bool.eq_false_iff]; intro h
        unfold underP at h
        simp [hd] at h
        obtain ⟨r, hr⟩ := h.2
        exact hns 47 (by rw [← hr]; simp) rfl
      have h2 : underP d [] = false := rfl
      rw [h1, h2]
      simpa using hd
  · rw [hp]
    have he : e ≠ [] := may_dir hb hq
    by_cases hd : d = []
    · subst hd; rw [under_nil, under_nil]; simp [he]
    · have key : (d ++ [47] <+: e ++ 47 :: b) ↔ e = d ∨ d ++ [47] <+: e := by
        constructor
        · rintro ⟨r, hr⟩
          have hr : d ++ (47 :: r) = e ++ 47 :: b := by simpa using hr
          rcases List.append_eq_append_iff.1 hr with ⟨a, h1, h2⟩ | ⟨a, h1, h2⟩
          · cases a with
            | nil => exact .inl (by simpa using h1)
            | cons x t =>
              simp at h2
              obtain ⟨rfl, _⟩ := h2
              exact .inr ⟨t, by rw [h1]; simp⟩
          · cases a with
            | nil => exact .inl (by simpa using h1.symm)
            | cons x t =>
              simp at h2
              exact (hb 47 (by rw [h2.2]; simp) rfl).elim
        · rintro (rfl | ⟨r, hr⟩)
          · exact ⟨b, by simp⟩
          · exact ⟨r ++ 47 :: b, by rw [← hr]; simp⟩
      unfold underP
      rw [Bool.eq_iff_iff]
      simp [hd, he, key]
theorem under_parent {q : Tx} (hq : mayP q = true) (h0 : q ≠ []) : underP (parentP q) q = true := by rw [under_rec hq h0]; simp
theorem path_join {q : Tx} (hq : mayP q = true) (h0 : q ≠ []) : q = if parentP q = [] then baseP q else parentP q ++ 47 :: baseP q := by
  rcases path_cases q with ⟨_, hb, hp, _⟩ | ⟨e, b, rfl, hb, _, hb2, hp⟩
  · rw [hp, hb, if_pos rfl]
  · rw [hp, hb2, if_neg (may_dir hb hq)]
/-- WHAT STAYS SO of a tree -/
structure WellL (L : List Mb) : Prop where
  s : SM.Srt L
  m : ∀ x ∈ L, mayM x = true
  p : ∀ x ∈ L, dirT L (parentP x.1) = true
theorem mayM_path {x : Mb} (h : mayM x = true) : mayP x.1 = true ∧ x.1 ≠ [] := by
  unfold mayM at h
  simp only [Bool.and_eq_true, decide_eq_true_eq] at h
  exact class_one h.1
theorem WellL.path {L : List Mb} (h : WellL L) {x : Mb} (hx : x ∈ L) : mayP x.1 = true ∧ x.1 ≠ [] := mayM_path (h.m x hx)
theorem dirT_of {L : List Mb} {p : Tx} {n : Nd} (h : SM.look L p = some n) (hk : n.kind = 1) : dirT L p = true := by unfold dirT; rw [h]; simp [hk]
theorem dirT_iff {L : List Mb} {p : Tx} : dirT L p = true ↔ p = [] ∨ ∃ n, SM.look L p = some n ∧ n.kind = 1 := by
  unfold dirT
  cases h : SM.look L p with
  | none => simp
  | some n => simp
theorem WellL.nil : WellL [] := ⟨SM.Srt.nil, fun _ h => (List.not_mem_nil h).elim, fun _ h => (List.not_mem_nil h).elim⟩
theorem look_clear {L : List Mb} (h : SM.Srt L) (p q : Tx) : SM.look (clearT L p) q = if underP p q = true then none else SM.look L q := by
  unfold clearT
  rw [h.look_filter (fun k => !underP p k)]
  cases underP p q <;> simp
theorem put_well {L : List Mb} (h : WellL L) (m : Mb) : WellL (putT L m).2 := by
  unfold putT
  split
  · exact h
  · rename_i hm
    split
    · exact h
    · rename_i hd
      split
      · exact h
      · have hm : mayM m = true := by simpa using hm
        have hd : dirT L (parentP m.1) = true := by simpa using hd
        obtain ⟨hmp, hm0⟩ := mayM_path hm
        have hpl := parent_lt hm0
        by_cases hk : m.2.kind = 1
        · rw [if_pos hk]
          refine ⟨h.s.put m, fun x hx => ?_, fun x hx => ?_⟩
          · rcases SM.mem_put.1 hx with rfl | ⟨hx, _⟩
            · exact hm
            · exact h.m x hx
          · have key : ∀ q, dirT L q = true → dirT (SM.put L m) q = true := by
              intro q hq
              rcases dirT_iff.1 hq with rfl | ⟨n, hn, hnk⟩
              · rfl
              · rw [dirT_iff, h.s.look_put]
                split
                · exact .inr ⟨_, rfl, hk⟩
                · exact .inr ⟨n, hn, hnk⟩
            rcases SM.mem_put.1 hx with rfl | ⟨hx, _⟩
            · exact key _ hd
            · exact key _ (h.p x hx)
        · rw [if_neg hk]
          have hs : SM.Srt (clearT L m.1) := h.s.filter _
          have key : ∀ q, dirT L q = true → underP m.1 q = false → q ≠ m.1 → dirT (SM.put (clearT L m.1) m) q = true := by
            intro q hq hu hne
            rcases dirT_iff.1 hq with rfl | ⟨n, hn, hnk⟩
            · rfl
            · rw [dirT_iff, hs.look_put, if_neg hne, look_clear h.s, if_neg (by rw [hu]; decide)]
              exact .inr ⟨n, hn, hnk⟩
          refine ⟨hs.put m, fun x hx => ?_, fun x hx => ?_⟩
          · rcases SM.mem_put.1 hx with rfl | ⟨hx, _⟩
            · exact hm
            · exact h.m x (List.mem_filter.1 hx).1
          · rcases SM.mem_put.1 hx with rfl | ⟨hx, hne⟩
            · refine key _ hd ?_ (fun e => by rw [e] at hpl; omega)
              rw [Bool.eq_false_iff]; intro hu
              have := under_len hu; omega
            · obtain ⟨hx, hu⟩ := List.mem_filter.1 hx
              obtain ⟨hxp, hx0⟩ := h.path hx
              have hu : underP m.1 x.1 = false := by simpa using hu
              rw [under_rec hxp hx0] at hu
              simp only [Bool.or_eq_false_iff] at hu
              exact key _ (h.p x hx) hu.2 (by simpa using hu.1)
theorem remove_well {L : List Mb} (h : WellL L) (p : Tx) : WellL (removeT L p).2 := by
  unfold removeT
  split
  · exact h
  · rename_i n hn
    have hs : SM.Srt (clearT L p) := h.s.filter _
    have key : ∀ q, dirT L q = true → underP p q = false → q ≠ p → dirT ((clearT L p).filter (fun m => m.1 != p)) q = true := by
      intro q hq hu hne
      rcases dirT_iff.1 hq with rfl | ⟨n, hn, hnk⟩
      · rfl
      · rw [dirT_iff, hs.look_filter (fun k => k != p), if_pos (by simpa using hne), look_clear h.s, if_neg (by rw [hu]; decide)]
        exact .inr ⟨n, hn, hnk⟩
    refine ⟨hs.filter _, fun x hx => h.m x (List.mem_filter.1 (List.mem_filter.1 hx).1).1, fun x hx => ?_⟩
    obtain ⟨hx, hne⟩ := List.mem_filter.1 hx
    obtain ⟨hx, hu⟩ := List.mem_filter.1 hx
    obtain ⟨hxp, hx0⟩ := h.path hx
    have hu : underP p x.1 = false := by simpa using hu
    rw [under_rec hxp hx0] at hu
    simp only [Bool.or_eq_false_iff] at hu
    exact key _ (h.p x hx) hu.2 (by simpa using hu.1)
theorem step_well {L : List Mb} (h : WellL L) (a : Bool × Mb) : WellL (stepT L a) := by
  unfold stepT
  split
  · exact put_well h _
  · exact remove_well h _
theorem fold_well (l : List (Bool × Mb)) : ∀ L, WellL L → WellL (l.foldl stepT L) := by
  induction l with
  | nil => intro L h; exact h
  | cons a l ih => intro L h; exact ih _ (step_well h a)
theorem grown_well (l : List (Bool × Mb)) : WellL (grownL l) := fold_well _ _ WellL.nil
theorem step_len {L : List Mb} (h : WellL L) (a : Bool × Mb) : (stepT L a).length ≤ L.length + 1 := by
  unfold stepT
  split
  · exact put_len h.s _
  · exact Nat.le_succ_of_le (remove_len L _)
theorem fold_lenT (l : List (Bool × Mb)) : ∀ L, WellL L → (l.foldl stepT L).length ≤ L.length + l.length := by
  induction l with
  | nil => intro L _; simp
  | cons a l ih =>
    intro L h
    have h1 := ih _ (step_well h a)
    have h2 := step_len h a
    rw [List.foldl_cons, List.length_cons]; omega
theorem grown_len (l : List (Bool × Mb)) : (grownL l).length ≤ 40 := by
  have := fold_lenT (l.take 40) [] WellL.nil
  have h2 := List.length_take_le 40 l
  unfold grownL
  simp at this ⊢; omega
/-- A DIR'S LIST -/
def kids (d : Tx) (L : List Mb) : List Mb := L.filter (fun x => parentP x.1 == d)
theorem mem_kids {d : Tx} {L : List Mb} {x : Mb} : x ∈ kids d L ↔ x ∈ L ∧ parentP x.1 = d := by unfold kids; simp
theorem kids_join {L : List Mb} (h : WellL L) {d : Tx} {x : Mb} (hx : x ∈ kids d L) : x.1 = if d = [] then baseP x.1 else d ++ 47 :: baseP x.1 := by
  obtain ⟨h1, rfl⟩ := mem_kids.1 hx
  obtain ⟨hp, h0⟩ := h.path h1
  exact path_join hp h0
theorem app_lt : ∀ (a x y : Tx), (a ++ x < a ++ y) ↔ x < y
  | [], x, y => Iff.rfl
  | c :: a, x, y => by rw [List.cons_append, List.cons_append, List.cons_lt_cons_iff, ← app_lt a x y]; simp
theorem names_rise {L : List Mb} (h : WellL L) (d : Tx) : ((kids d L).map fun x => baseP x.1).Pairwise (· < ·) := by
  rw [List.pairwise_map]
  have hs : SM.Srt (kids d L) := h.s.filter _
  refine List.Pairwise.imp_of_mem ?_ hs
  intro a b ha hb hab
  rw [kids_join h ha, kids_join h hb] at hab
  by_cases hd : d = []
  · rw [if_pos hd, if_pos hd] at hab; exact hab
  · rw [if_neg hd, if_neg hd] at hab
    exact (app_lt [47] _ _).1 ((app_lt d _ _).1 hab)
theorem names_sorted {L : List Mb} (h : WellL L) (d : Tx) : (namesT d L).mergeSort (fun x y => decide (x ≤ y)) = (kids d L).map fun x => baseP x.1 := by
  refine List.mergeSort_of_pairwise ?_
  refine List.Pairwise.imp ?_ (names_rise h d)
  intro a b hab
  exact decide_eq_true (List.le_of_lt hab)
/-- how many of L a path has under it, it too -/
def manyU (L : List Mb) (p : Tx) : Nat := (underL p L).length
theorem kids_one {L : List Mb} (h : WellL L) {q : Mb} (hq : q ∈ L) : (kids (parentP q.1) L).countP (fun c => c.1 == q.1) = 1 := by
  rw [List.countP_eq_length_filter]
  have hs : SM.Srt (kids (parentP q.1) L) := h.s.filter _
  have hl : SM.look (kids (parentP q.1) L) q.1 = some q.2 := hs.look.2 (mem_kids.2 ⟨hq, rfl⟩)
  rw [hs.mid, hl]; rfl
theorem kids_hit {L : List Mb} (h : WellL L) (d : Tx) : ∀ (n : Nat) (q : Mb), q.1.length = n → q ∈ L → (kids d L).countP (fun c => hitU c.1 q) = if underP d q.1 = true then 1 else 0 := by
  intro n
  induction n using Nat.strongRecOn with
  | ind n ih =>
    intro q hn hq
    obtain ⟨hqp, hq0⟩ := h.path hq
    have hlt := parent_lt hq0
    by_cases hd : parentP q.1 = d
    · rw [under_rec hqp hq0, if_pos (by simp [hd])]
      rw [← kids_one h hq, hd]
      refine List.countP_congr (fun c hc => ?_)
      obtain ⟨hcL, hcd⟩ := mem_kids.1 hc
      obtain ⟨hcp, hc0⟩ := h.path hcL
      have hcl := parent_lt hc0
      rw [hcd] at hcl
      have hu : underP c.1 q.1 = false := by
        rw [under_rec hqp hq0, hd]
        simp only [Bool.or_eq_false_iff]
        refine ⟨by simpa using fun e : d = c.1 => by rw [e] at hcl; omega, ?_⟩
        rw [Bool.eq_false_iff]; intro hu
        have := under_len hu; omega
      unfold hitU
      rw [hu, Bool.or_false]
      simp only [beq_iff_eq]
      exact ⟨fun e => e.symm, fun e => e.symm⟩
    · have hstep : ∀ c ∈ kids d L, hitU c.1 q = (parentP q.1 == c.1 || underP c.1 (parentP q.1)) := by
        intro c hc
        obtain ⟨hcL, hcd⟩ := mem_kids.1 hc
        have : q.1 ≠ c.1 := fun e => hd (by rw [e]; exact hcd)
        unfold hitU
        rw [under_rec hqp hq0]
        simp [this]
      rw [List.countP_congr (q := fun c => (parentP q.1 == c.1 || underP c.1 (parentP q.1))) (fun c hc => by rw [hstep c hc])]
      rcases dirT_iff.1 (h.p q hq) with hr | ⟨nd, hl, _⟩
      · rw [hr]
        have h1 : underP d q.1 = false := by
          rw [under_rec hqp hq0, hr]
          simp only [Bool.or_eq_false_iff]
          exact ⟨by simpa using fun e : [] = d => hd (by rw [hr]; exact e), rfl⟩
        rw [h1, if_neg (by decide), List.countP_eq_zero]
        intro c hc
        obtain ⟨hcL, hcd⟩ := mem_kids.1 hc
        obtain ⟨_, hc0⟩ := h.path hcL
        have : underP c.1 [] = false := rfl
        rw [this]
        simpa using fun e : [] = c.1 => hc0 e.symm
      · have hm := SM.look_mem hl
        have := ih (parentP q.1).length (by omega) (parentP q.1, nd) rfl hm
        unfold hitU at this
        rw [this, under_rec hqp hq0]
        have : (parentP q.1 == d) = false := by simpa using hd
        rw [this, Bool.false_or]
theorem sum_countP {α β : Type} (f : α → β → Bool) (K : List α) : ∀ L : List β, (K.map fun c => (L.countP fun q => f c q)).sum = (L.map fun q => (K.countP fun c => f c q)).sum := by
  induction K with
  | nil =>
    intro L
    induction L with
    | nil => rfl
    | cons q L ih => simpa using ih
  | cons c K ih =>
    intro L
    rw [List.map_cons, List.sum_cons, ih]
    induction L with
    | nil => rfl
    | cons q L ihL => simp only [List.countP_cons, List.map_cons, List.sum_cons] at ihL ⊢; omega
theorem sum_ite {β : Type} (p : β → Bool) : ∀ L : List β, (L.map fun q => if p q = true then 1 else 0).sum = L.countP p
  | [] => rfl
  | q :: L => by
    rw [List.map_cons, List.sum_cons, sum_ite p L, List.countP_cons]; omega
theorem countP_or {β : Type} (a b : β → Bool) (hab : ∀ q, a q = true → b q = false) : ∀ L : List β, L.countP (fun q => a q || b q) = L.countP a + L.countP b
  | [] => rfl
  | q :: L => by
    have := hab q
    rw [List.countP_cons, List.countP_cons, List.countP_cons, countP_or a b hab L]
    cases h1 : a q <;> cases h2 : b q <;> simp_all <;> omega
/-- what is under a path, without it, is what is under all that its list tells -/
theorem many_kids {L : List Mb} (h : WellL L) (d : Tx) : ((kids d L).map fun c => manyU L c.1).sum = L.countP (fun q => underP d q.1) := by
  unfold manyU underL
  have e1 : ((kids d L).map fun c => (L.filter (hitU c.1)).length) = (kids d L).map fun c => (L.countP fun q => hitU c.1 q) := by
    refine List.map_congr_left (fun c _ => ?_)
    rw [List.countP_eq_length_filter]
  rw [e1, sum_countP (fun (c : Mb) (q : Mb) => hitU c.1 q)]
  have e2 : (L.map fun q => (kids d L).countP fun c => hitU c.1 q) = L.map fun q => if underP d q.1 = true then 1 else 0 := List.map_congr_left (fun q hq => kids_hit h d _ q rfl hq)
  rw [e2]
  exact sum_ite (fun q : Mb => underP d q.1) L
theorem many_root {L : List Mb} (h : WellL L) : manyU L [] = ((kids [] L).map fun c => manyU L c.1).sum := by
  rw [many_kids h, List.countP_eq_length_filter]
  unfold manyU underL
  congr 1
  refine List.filter_congr (fun q hq => ?_)
  unfold hitU
  rw [under_nil]
  have := (h.path hq).2
  simp [this]
theorem many_dir {L : List Mb} (h : WellL L) {x : Mb} (hx : x ∈ L) : manyU L x.1 = ((kids x.1 L).map fun c => manyU L c.1).sum + 1 := by
  rw [many_kids h]
  unfold manyU underL
  rw [← List.countP_eq_length_filter]
  have h1 : L.countP (fun q => q.1 == x.1) = 1 := by
    rw [List.countP_eq_length_filter]
    have hl : SM.look L x.1 = some x.2 := h.s.look.2 hx
    rw [h.s.mid, hl]; rfl
  have h2 := countP_or (fun q : Mb => q.1 == x.1) (fun q => underP x.1 q.1) (fun q hq => by
    have hq : q.1 = x.1 := by simpa using hq
    simp only [hq]
    exact under_self x.1) L
  unfold hitU
  rw [h2, h1]; omega
/-- nothing is under what is no Dir -/
theorem many_leaf {L : List Mb} (h : WellL L) {x : Mb} (hx : x ∈ L) (hk : x.2.kind ≠ 1) : manyU L x.1 = 1 := by
  rw [many_dir h hx]
  have : kids x.1 L = [] := by
    unfold kids
    rw [List.filter_eq_nil_iff]
    intro c hc
    have h0 := (h.path hx).2
    intro e
    have e : parentP c.1 = x.1 := by simpa using e
    have hd := h.p c hc
    rw [e, dirT_iff] at hd
    rcases hd with hd | ⟨n, hn, hnk⟩
    · exact h0 hd
    · rw [h.s.look.2 hx] at hn
      injection hn with hn
      rw [hn] at hk
      exact hk hnk
  rw [this]; rfl
end Go.Proofs.YtplafpokgpolkaaGreatDoor
/- TreeWell, plainly: what calls do, what is refused; all Members in any order make the same tree. -/
namespace Go.Proofs.YtplafpokgpolkaaGreatDoor
theorem putT_err {L : List Mb} {m : Mb} (h : (putT L m).1 ≠ 0) : (putT L m).2 = L := by
  unfold putT at h ⊢
  split
  · rfl
  · rename_i h1
    rw [if_neg h1] at h
    split
    · rfl
    · rename_i h2
      rw [if_neg h2] at h
      split
      · rfl
      · rename_i h3
        rw [if_neg h3] at h
        exact (h rfl).elim
theorem putT_ok {L : List Mb} (hw : WellL L) {m : Mb} (h : (putT L m).1 = 0) : getT (putT L m).2 m.1 = (m.2, true) := by
  unfold putT at h ⊢
  split at h
  · cases h
  · rename_i h1
    rw [if_neg h1]
    split at h
    · cases h
    · rename_i h2
      rw [if_neg h2]
      split at h
      · cases h
      · rename_i h3
        rw [if_neg h3]
        have hm : mayM m = true := by simpa using h1
        have h0 := (mayM_path hm).2
        have hs : SM.Srt (if m.2.kind = 1 then L else clearT L m.1) := by split; exact hw.s; exact hw.s.filter _
        unfold getT
        rw [if_neg h0]
        simp only
        rw [hs.look_put, if_pos rfl]
theorem removeT_err {L : List Mb} {p : Tx} (h : (removeT L p).1 ≠ 0) : (removeT L p).2 = L := by
  unfold removeT at h ⊢
  cases hl : SM.look L p with
  | none => rfl
  | some n => rw [hl] at h; exact (h rfl).elim
theorem removeT_ok {L : List Mb} {p : Tx} (h : (removeT L p).1 = 0) : manyU (removeT L p).2 p = 0 ∧ (removeT L p).2.length + manyU L p = L.length := by
  unfold removeT at h ⊢
  cases hl : SM.look L p with
  | none => rw [hl] at h; cases h
  | some n =>
    simp only
    have e : (clearT L p).filter (fun m => m.1 != p) = L.filter (fun x => !hitU p x) := by
      unfold clearT
      rw [List.filter_filter]
      refine List.filter_congr (fun x _ => ?_)
      unfold hitU
      cases h1 : (x.1 == p) <;> cases h2 : underP p x.1 <;> simp [bne, h1]
    rw [e]
    constructor
    · unfold manyU underL
      rw [List.filter_filter, List.length_eq_zero_iff, List.filter_eq_nil_iff]
      intro x _
      cases hitU p x <;> simp
    · unfold manyU underL
      rw [← List.countP_eq_length_filter, ← List.countP_eq_length_filter, Nat.add_comm]
      have e3 : L.countP (fun x => !hitU p x) = L.countP (fun a => decide ¬ hitU p a = true) := List.countP_congr (fun x _ => by simp)
      rw [e3]
      exact (List.length_eq_countP_add_countP (l := L) (hitU p)).symm
theorem mem_growT : ∀ (n : Nat) (P : List Mb), P.length = n → (P.map (·.1)).Nodup → ∀ x, x ∈ growT P ↔ x ∈ P := by
  intro n
  induction n with
  | zero =>
    intro P h _ x
    obtain rfl := List.eq_nil_of_length_eq_zero h
    exact Iff.rfl
  | succ n ih =>
    intro P h hd x
    obtain ⟨Q, m, rfl⟩ : ∃ Q m, P = Q ++ [m] := ⟨P.dropLast, P.getLast (by intro e; rw [e] at h; cases h), (List.dropLast_concat_getLast _).symm⟩
    rw [growT_snoc, SM.mem_put]
    rw [List.map_append, List.nodup_append] at hd
    have hq := ih Q (by simpa using h) hd.1 x
    rw [hq, List.mem_append, List.mem_singleton]
    constructor
    · rintro (rfl | ⟨h1, _⟩)
      · exact .inr rfl
      · exact .inl h1
    · rintro (h1 | rfl)
      · exact .inr ⟨h1, fun e => hd.2.2 x.1 (List.mem_map.2 ⟨x, h1, rfl⟩) m.1 (by simp) e⟩
      · exact .inl rfl
theorem srt_nodup {L : List Mb} (h : SM.Srt L) : (L.map (·.1)).Nodup := by
  have : (L.map (·.1)).Pairwise (· < ·) := by rw [List.pairwise_map]; exact h
  exact List.Pairwise.imp (R := fun a b : Tx => a < b) (fun {a b} hab (e : a = b) => tx_irrefl a (by rw [← e] at hab; exact hab)) this
theorem srt_mem {L K : List Mb} (h : SM.Srt L) (k : SM.Srt K) (hm : ∀ x, x ∈ L ↔ x ∈ K) : L = K := by
  refine h.ext k (fun p => ?_)
  cases hl : SM.look L p with
  | none =>
    symm
    rw [SM.look_none]
    intro x hx e
    exact SM.look_none.1 hl x ((hm x).2 hx) e
  | some n => exact (k.look.2 ((hm _).1 (h.look.1 hl))).symm
theorem newT_perm {L P : List Mb} (h : WellL L) (hp : P.Perm L) (hl : L.length ≤ 4096) : newT P = (0, some L) := by
  have hnd : (P.map (·.1)).Nodup := (hp.map _).nodup_iff.2 (srt_nodup h.s)
  have hg : growT P = L := srt_mem (growT_srt P) h.s (fun x => by rw [mem_growT _ P rfl hnd]; exact hp.mem_iff)
  have hlen := hp.length_eq
  unfold newT
  rw [if_neg (by
    rw [List.any_eq_true]
    rintro ⟨x, hx, h1⟩
    have := h.m x (hp.mem_iff.1 hx)
    rw [this] at h1; cases h1), hg, if_neg (by omega), if_neg (by
    rw [List.any_eq_true]
    rintro ⟨x, hx, h1⟩
    have := h.p x (hp.mem_iff.1 hx)
    rw [this] at h1; cases h1), if_neg (by omega)]
/-- the Dirs among the first i -/
def dirsM (L : List Mb) (i : Nat) : List (Tx × Value) := ([], .int .i64 1) :: ((L.take i).filter fun x => decide (x.2.kind = 1)).map fun x => (x.1, .int .i64 1)
theorem dirsM_zero (L : List Mb) : dirsM L 0 = [([], .int .i64 1)] := rfl
theorem dirsM_srt {L : List Mb} (h : WellL L) (i : Nat) : SM.Srt (dirsM L i) := by
  refine List.pairwise_cons.2 ⟨fun y hy => ?_, ?_⟩
  · obtain ⟨x, hx, rfl⟩ := List.mem_map.1 hy
    have h0 := (h.path (List.mem_of_mem_take (List.mem_filter.1 hx).1)).2
    simp only
    cases hc : x.1 with
    | nil => exact (h0 hc).elim
    | cons c r => exact List.nil_lt_cons c r
  · rw [List.pairwise_map]
    exact (List.Pairwise.sublist (List.take_sublist i L) h.s).filter _
theorem dirsM_step {L : List Mb} (h : WellL L) {i : Nat} (hi : i < L.length) (hk : L[i].2.kind = 1) : SM.put (dirsM L i) (L[i].1, .int .i64 1) = dirsM L (i + 1) := by
  refine ((dirsM_srt h i).put _).ext (dirsM_srt h (i + 1)) (fun q => ?_)
  rw [(dirsM_srt h i).look_put]
  have hmem : ∀ j v, (q, v) ∈ dirsM L j ↔ v = .int .i64 1 ∧ (q = [] ∨ ∃ x ∈ L.take j, x.2.kind = 1 ∧ x.1 = q) := by
    intro j v
    unfold dirsM
    simp only [List.mem_cons, List.mem_map, List.mem_filter, decide_eq_true_eq, Prod.mk.injEq]
    constructor
    · rintro (⟨h1, h2⟩ | ⟨x, ⟨h1, h2⟩, h3, h4⟩)
      · exact ⟨h2, .inl h1⟩
      · exact ⟨h4.symm, .inr ⟨x, h1, h2, h3⟩⟩
    · rintro ⟨h1, h2 | ⟨x, h2, h3, h4⟩⟩
      · exact .inl ⟨h2, h1⟩
      · exact .inr ⟨x, ⟨h2, h3⟩, h4, h1.symm⟩
  have htk := List.take_succ_eq_append_getElem hi
  split
  · rename_i e
    symm
    rw [(dirsM_srt h (i + 1)).look, hmem]
    exact ⟨rfl, .inr ⟨L[i], by rw [htk]; exact List.mem_append_right _ (List.mem_singleton.2 rfl), hk, e.symm⟩⟩
  · rename_i e
    cases hl : SM.look (dirsM L i) q with
    | none =>
      symm
      rw [SM.look_none]
      rintro ⟨q', v⟩ hx rfl
      obtain ⟨h1, h2⟩ := (hmem (i + 1) v).1 hx
      have : (q', v) ∈ dirsM L i := (hmem i v).2 ⟨h1, by
        rcases h2 with h2 | ⟨x, h2, h3, h4⟩
        · exact .inl h2
        · rw [htk, List.mem_append, List.mem_singleton] at h2
          rcases h2 with h2 | rfl
          · exact .inr ⟨x, h2, h3, h4⟩
          · exact (e h4.symm).elim⟩
      exact SM.look_none.1 hl _ this rfl
    | some v =>
      symm
      rw [(dirsM_srt h (i + 1)).look]
      obtain ⟨h1, h2⟩ := (hmem i v).1 (SM.look_mem hl)
      refine (hmem (i + 1) v).2 ⟨h1, h2.imp id ?_⟩
      rintro ⟨x, h2, h3, h4⟩
      exact ⟨x, by rw [htk]; exact List.mem_append_left _ h2, h3, h4⟩
theorem dirsM_skip {L : List Mb} {i : Nat} (hi : i < L.length) (hk : L[i].2.kind ≠ 1) : dirsM L (i + 1) = dirsM L i := by
  unfold dirsM
  rw [List.take_succ_eq_append_getElem hi, List.filter_append]
  simp [hk]
theorem prefix_lt {L : List Mb} (h : SM.Srt L) {i : Nat} (hi : i < L.length) {x : Mb} (hx : x ∈ L) (hlt : x.1 < L[i].1) : x ∈ L.take i := by
  obtain ⟨j, hj, rfl⟩ := List.getElem_of_mem hx
  rcases Nat.lt_or_ge j i with h1 | h1
  · rw [List.mem_take_iff_getElem]
    exact ⟨j, by omega, rfl⟩
  · rcases Nat.eq_or_lt_of_le h1 with h2 | h2
    · subst h2; exact (tx_irrefl _ hlt).elim
    · have := List.pairwise_iff_getElem.1 h i j hi hj h2
      exact (tx_asymm this hlt).elim
theorem parent_less {q : Tx} (h0 : q ≠ []) : parentP q < q := by
  rcases path_cases q with ⟨_, _, hp, _⟩ | ⟨e, b, rfl, _, _, _, hp⟩
  · rw [hp]
    cases q with
    | nil => exact (h0 rfl).elim
    | cons c r => exact List.nil_lt_cons c r
  · rw [hp]
    have : ∀ (e r : Tx) (c : UInt8), e < e ++ c :: r := by
      intro e
      induction e with
      | nil => intro r c; exact List.nil_lt_cons c r
      | cons a e ih => intro r c; rw [List.cons_append, List.cons_lt_cons_iff]; exact .inr ⟨rfl, ih r c⟩
    exact this e b 47
/-- a Member's parent stands among the Dirs ahead of it -/
theorem dirsM_parent {L : List Mb} (h : WellL L) {i : Nat} (hi : i < L.length) : SM.look (dirsM L i) (parentP L[i].1) = some (.int .i64 1) := by
  rw [(dirsM_srt h i).look]
  have hm := List.getElem_mem hi
  rcases dirT_iff.1 (h.p _ hm) with e | ⟨n, hn, hk⟩
  · rw [e]; exact List.mem_cons_self
  · refine List.mem_cons_of_mem _ (List.mem_map.2 ⟨(parentP L[i].1, n), List.mem_filter.2 ⟨?_, by simpa using hk⟩, rfl⟩)
    exact prefix_lt h.s hi (SM.look_mem hn) (parent_less (h.path hm).2)
theorem rise_at {L : List Mb} (h : SM.Srt L) {i : Nat} (hi : i + 1 < L.length) : Op.bytesLess (L[i]'(by omega)).1 L[i + 1].1 = true := by
  rw [less_lt]
  exact decide_eq_true (List.pairwise_iff_getElem.1 h i (i + 1) (by omega) hi (by omega))
end Go.Proofs.YtplafpokgpolkaaGreatDoor
/- CHANGESETS, plainly: what Members do, what is told of two trees; nothing less leads there. -/
namespace Go.Proofs.YtplafpokgpolkaaGreatDoor
def cls (m : Mb) : Int := (classP m.1).1
def tgt (m : Mb) : Tx := (classP m.1).2
/-- does a Member take away what is at p -/
def hits (m : Mb) (p : Tx) : Bool := (decide (cls m = 1) && (tgt m == p || (decide (m.2.kind ≠ 1) && underP (tgt m) p))) || (decide (cls m = 2) && (tgt m == p || underP (tgt m) p)) || (decide (cls m = 3) && underP (tgt m) p)
def staysC (S : List Mb) (p : Tx) : Bool := p != [] && S.all (fun m => !hits m p)
def plainC (S : List Mb) : List Mb := S.filter (fun m => decide (cls m = 1))
/-- a node that is an empty File, all else zero -/
def bareN : Nd := ⟨2, 0, 0, 0, 0, [], [], []⟩
def bareB (n : Nd) : Bool := decide (n.kind = 2) && decide (n.mode = 0) && decide (n.uid = 0) && decide (n.gid = 0) && decide (n.time = 0) && decide (n.attrs.length = 0) && decide (n.data.length = 0) && n.link == []
theorem bare_iff {n : Nd} : bareB n = true ↔ n = bareN := by
  obtain ⟨k, mo, u, g, t, a, d, l⟩ := n
  unfold bareB bareN
  simp only [Bool.and_eq_true, decide_eq_true_eq, beq_iff_eq, List.length_eq_zero_iff, Nd.mk.injEq]
  constructor
  · rintro ⟨⟨⟨⟨⟨⟨⟨h1, h2⟩, h3⟩, h4⟩, h5⟩, h6⟩, h7⟩, h8⟩; exact ⟨h1, h2, h3, h4, h5, h6, h7, h8⟩
  · rintro ⟨h1, h2, h3, h4, h5, h6, h7, h8⟩; exact ⟨⟨⟨⟨⟨⟨⟨h1, h2⟩, h3⟩, h4⟩, h5⟩, h6⟩, h7⟩, h8⟩
/-- does the Member ahead of k stand at m's path, or behind -/
def notUp (S : List Mb) (k : Nat) (m : Mb) : Bool := match k with | 0 => false | j + 1 => (match S[j]? with | some x => decide (m.1 ≤ x.1) | none => false)
/-- what is wrong with the Member at k -/
def errC (S : List Mb) (k : Nat) (m : Mb) : Int :=
  if (!mayT ([97], m.2) || notUp S k m) = true then 1
  else if cls m < 1 ∨ 3 < cls m then 32
  else if cls m ≠ 1 ∧ bareB m.2 = false then 31
  else if (aboveP m.1).any (fun q => !(S.take k).any (fun x => x.1 == q && decide (x.2.kind = 1))) = true then 33 else 0
/-- change.May, from k -/
def mayFrom (S : List Mb) : Nat → List Mb → Int
  | _, [] => if 4096 < S.length then 42 else 0
  | k, m :: r => if errC S k m ≠ 0 then errC S k m else mayFrom S (k + 1) r
def mayC (S : List Mb) : Int := mayFrom S 0 S
def applyC (A S : List Mb) : Int × Option (List Mb) := if mayC S ≠ 0 then (mayC S, none) else newT (A.filter (fun m => staysC S m.1) ++ plainC S)
/-- what a changeset is -/
structure ValidC (S : List Mb) : Prop where
  cl : ∀ m ∈ S, cls m = 1 ∨ cls m = 2 ∨ cls m = 3
  br : ∀ m ∈ S, cls m ≠ 1 → m.2 = bareN
  ab : ∀ m ∈ S, ∀ q ∈ aboveP m.1, ∃ x ∈ S, x.1 = q ∧ x.2.kind = 1
theorem errC_zero {S : List Mb} {k : Nat} {m : Mb} (h : errC S k m = 0) : (cls m = 1 ∨ cls m = 2 ∨ cls m = 3) ∧ (cls m ≠ 1 → m.2 = bareN) ∧ ∀ q ∈ aboveP m.1, ∃ x ∈ S, x.1 = q ∧ x.2.kind = 1 := by
  unfold errC at h
  split at h
  · cases h
  · split at h
    · cases h
    · rename_i h2
      split at h
      · cases h
      · rename_i h3
        split at h
        · cases h
        · rename_i h4
          refine ⟨by omega, fun hc => ?_, fun q hq => ?_⟩
          · rw [← bare_iff]
            cases hb : bareB m.2 with
            | true => rfl
            | false => exact (h3 ⟨hc, hb⟩).elim
          · have h4 : (aboveP m.1).any (fun q => !(S.take k).any (fun x => x.1 == q && decide (x.2.kind = 1))) = false := by simpa using h4
            rw [List.any_eq_false] at h4
            have h5 := h4 q hq
            simp only [Bool.not_eq_true', Bool.not_eq_false, List.any_eq_true, Bool.and_eq_true, beq_iff_eq, decide_eq_true_eq] at h5
            obtain ⟨x, hx, h6, h7⟩ := h5
            exact ⟨x, List.mem_of_mem_take hx, h6, h7⟩
theorem mayFrom_zero {S : List Mb} : ∀ (l : List Mb) (k : Nat), mayFrom S k l = 0 → ∀ m ∈ l, ∃ j, errC S j m = 0
  | [], _, _, m, hm => (List.not_mem_nil hm).elim
  | x :: r, k, h, m, hm => by
    unfold mayFrom at h
    split at h
    · rename_i h1; exact (h1 h).elim
    · rename_i h1
      rcases List.mem_cons.1 hm with rfl | hm
      · exact ⟨k, by simpa using h1⟩
      · exact mayFrom_zero r (k + 1) h m hm
theorem mayC_valid {S : List Mb} (h : mayC S = 0) : ValidC S := by
  have hz := mayFrom_zero S 0 h
  exact ⟨fun m hm => (errC_zero (hz m hm).choose_spec).1, fun m hm => (errC_zero (hz m hm).choose_spec).2.1, fun m hm => (errC_zero (hz m hm).choose_spec).2.2⟩
theorem mem_above {q p : Tx} : q ∈ aboveP p ↔ q ++ [47] <+: p := by
  unfold aboveP
  rw [List.mem_filterMap]
  constructor
  · rintro ⟨i, hi, h⟩
    split at h
    · rename_i hc
      injection h with h
      obtain ⟨hl, hg⟩ := List.getElem?_eq_some_iff.1 hc
      refine ⟨p.drop (i + 1), ?_⟩
      rw [← h, ← hg]
      rw [List.append_assoc]
      conv => rhs; rw [← List.take_append_drop i p, List.drop_eq_getElem_cons hl]
      rfl
    · cases h
  · rintro ⟨r, rfl⟩
    refine ⟨q.length, by simp, ?_⟩
    rw [if_pos (by simp)]
    simp
theorem under_above {q p : Tx} (h0 : q ≠ []) : underP q p = true ↔ q ∈ aboveP p := by
  rw [mem_above]
  unfold underP
  simp only [Bool.and_eq_true, Bool.or_eq_true, Bool.not_eq_true', List.isEmpty_eq_false_iff, List.isEmpty_iff, h0, false_or, List.isPrefixOf_iff_prefix]
  constructor
  · exact fun h => h.2
  · exact fun h => ⟨fun e => by subst e; have := h.length_le; simp at this, h⟩
theorem under_trans {a b c : Tx} (h : underP a b = true) (k : underP b c = true) : underP a c = true := by
  unfold underP at *
  simp only [Bool.and_eq_true, Bool.or_eq_true, Bool.not_eq_true', List.isEmpty_eq_false_iff, List.isEmpty_iff, List.isPrefixOf_iff_prefix] at *
  refine ⟨k.1, ?_⟩
  rcases h.2 with h2 | h2
  · exact .inl h2
  · right
    rcases k.2 with k2 | k2
    · exact (h.1 k2).elim
    · exact h2.trans ((List.prefix_append b [47]).trans k2)
end Go.Proofs.YtplafpokgpolkaaGreatDoor
/- change.bare. -/
namespace Go.Proofs.YtplafpokgpolkaaGreatDoor
open Go.RowKit
set_option maxHeartbeats 4000000 in
set_option maxRecDepth 100000 in
theorem bare_any (n : Nd) (av dv : Value) (w : World) (hr : NdR w (· < w.heap.size) n av dv) : Calls Tryz.prog 76 #[.agg (ndC n av dv)] w fun e w' => e = .returned (.bool (bareB n)) ∧ Below w.heap.size w w' := by
  obtain ⟨aa, ca, e1, -⟩ := hr.at_.shape
  obtain ⟨ad, cd, e2, -⟩ := hr.dt.shape
  subst e1 e2
  clear hr
  obtain ⟨kind, mode, uid, gid, time, attrs, data, link⟩ := n
  have HX : Keep (bareB ⟨kind, mode, uid, gid, time, attrs, data, link⟩ = ((kind == 2) && (mode == 0) && (uid == 0) && (gid == 0) && (time == 0) && ((attrs.length : Int) == 0) && ((data.length : Int) == 0) && (link == []))) := ⟨by
    unfold bareB
    have g : ∀ x : Nat, ((x : Int) == 0) = decide (x = 0) := fun x => by
      rw [Bool.eq_iff_iff, beq_iff_eq, decide_eq_true_eq]; omega
    rw [g, g]
    rfl⟩
  generalize bareB ⟨kind, mode, uid, gid, time, attrs, data, link⟩ = out at *
  have HNC : Keep (ndC ⟨kind, mode, uid, gid, time, attrs, data, link⟩ (.slice aa attrs.length ca) (.slice ad data.length cd) = #[.int .i64 kind, .int .u32 mode, .int .u32 uid, .int .u32 gid, .int .i64 time, .slice aa attrs.length ca, .slice ad data.length cd, .string ⟨link.toArray⟩]) := ⟨rfl⟩
  simp only
  rw [HNC.out]
  generalize attrs.length = la at *
  generalize data.length = ld at *
  obtain ⟨b0, h0⟩ : ∃ b, (kind == 2) = b := ⟨_, rfl⟩
  obtain ⟨b1, h1⟩ : ∃ b, (mode == 0) = b := ⟨_, rfl⟩
  obtain ⟨b2, h2⟩ : ∃ b, (uid == 0) = b := ⟨_, rfl⟩
  obtain ⟨b3, h3⟩ : ∃ b, (gid == 0) = b := ⟨_, rfl⟩
  obtain ⟨b4, h4⟩ : ∃ b, (time == 0) = b := ⟨_, rfl⟩
  obtain ⟨b5, h5⟩ : ∃ b, ((la : Int) == 0) = b := ⟨_, rfl⟩
  obtain ⟨b6, h6⟩ : ∃ b, ((ld : Int) == 0) = b := ⟨_, rfl⟩
  obtain ⟨b7, h7⟩ : ∃ b, (link == []) = b := ⟨_, rfl⟩
  rw [h0, h1, h2, h3, h4, h5, h6, h7] at HX
  have HB : Keep (∀ c, Below w.heap.size w (w.alloc (.cells c 30))) := ⟨fun c => (Below.refl _ _).alloc (Nat.le_refl _) _⟩
  cases b0
  case false =>
    go_enter Tryz.func76, Tryz.ntmps76
    go_wp2_with fail
    go_ret
    exact ⟨by rw [HX.out]; rfl, HB.out _⟩
  cases b1
  case false =>
    go_enter Tryz.func76, Tryz.ntmps76
    go_wp2_with fail
    go_ret
    exact ⟨by rw [HX.out]; rfl, HB.out _⟩
  cases b2
  case false =>
    go_enter Tryz.func76, Tryz.ntmps76
    go_wp2_with fail
    go_ret
    exact ⟨by rw [HX.out]; rfl, HB.out _⟩
  cases b3
  case false =>
    go_enter Tryz.func76, Tryz.ntmps76
    go_wp2_with fail
    go_ret
    exact ⟨by rw [HX.out]; rfl, HB.out _⟩
  cases b4
  case false =>
    go_enter Tryz.func76, Tryz.ntmps76
    go_wp2_with fail
    go_ret
    exact ⟨by rw [HX.out]; rfl, HB.out _⟩
  cases b5
  case false =>
    go_enter Tryz.func76, Tryz.ntmps76
    go_wp2_with fail
    go_ret
    exact ⟨by rw [HX.out]; rfl, HB.out _⟩
  cases b6
  case false =>
    go_enter Tryz.func76, Tryz.ntmps76
    go_wp2_with fail
    go_ret
    exact ⟨by rw [HX.out]; rfl, HB.out _⟩
  cases b7
  case false =>
    go_enter Tryz.func76, Tryz.ntmps76
    go_wp2_with fail
    go_ret
    exact ⟨by rw [HX.out]; rfl, HB.out _⟩
  go_enter Tryz.func76, Tryz.ntmps76
  go_wp2_with fail
  go_ret
  exact ⟨by rw [HX.out]; rfl, HB.out _⟩
end Go.Proofs.YtplafpokgpolkaaGreatDoor
/- slices.IndexFunc, ContainsFunc over names; the predicate is a closure (values ahead, captures behind). -/
namespace Go.Proofs.YtplafpokgpolkaaGreatDoor
open Go.RowKit
set_option maxHeartbeats 1000000 in
set_option maxRecDepth 100000 in
theorem ifuncC (f : FuncId) (fi cs : Array Value) (p : List UInt8 → Bool) (v : Value) (l : List (List UInt8)) (w : World) (hent : ∀ args w, (callFunc f args).run Tryz.prog w = .ok (.enter f args) w)
    (hf : ∀ wx, Below w.heap.size w wx → ∀ x ∈ l, Calls Tryz.prog f (fi ++ #[.string ⟨x.toArray⟩] ++ cs) wx fun e w' => e = .returned (.bool (p x)) ∧ Below wx.heap.size wx w') (hr : RdS w (· < w.heap.size) v l) :
    Calls Tryz.prog 118 #[v, .func (.func f) fi cs] w fun e w' => e = .returned (.int .i64 (idxF p l)) ∧ Below w.heap.size w w' := by
  obtain ⟨a, cap, rfl, hcap, hmx, h3⟩ := hr.shape
  have HR := Keep.keep hr; have HF := Keep.keep hf; have H3 := Keep.keep h3
  unfold maxLen at hmx
  clear hr hf h3
  go_enter Tryz.func118, Tryz.ntmps118
  go_wp2_with fail
  go_loopg [5, 8] l.length (fun g _ u8 wx => ∃ k : Nat, k + g = l.length ∧ u8 = .int .i64 (k : Int) ∧ (∀ j, (hj : j < k) → (hl : j < l.length) → p l[j] = false) ∧ Below w.heap.size w wx)
  case atStart => exact ⟨0, by omega, rfl, fun j hj => by omega, Below.refl _ _⟩
  case round =>
    obtain ⟨k, hkg, rfl, hno, hb⟩ := hrel
    have HNO := Keep.keep hno; have HB := Keep.keep hb
    clear hno hb
    cases gk with
    | zero =>
      obtain rfl : k = l.length := by omega
      have hx : Keep (idxF p l = -1) := ⟨idxF_none (fun j hj => HNO.out j hj hj)⟩
      go_wp2_with fail
      go_ret
      exact ⟨by rw [hx.out]; rfl, HB.out⟩
    | succ g =>
      have hk : k < l.length := by omega
      rcases H3.out with h3 | ⟨b, off, rfl, hbl⟩
      · omega
      have hcell := (HR.out.below HB.out (fun b hb => hb)).cell b off _ _ rfl k (strV l[k]) (by simp [hk])
      have HC := Keep.keep (HF.out wr HB.out l[k] (List.getElem_mem hk))
      have HSTEP : Keep (p l[k] = false → ∀ j, (hj : j < k + 1) → (hl : j < l.length) → p l[j] = false) := ⟨fun he j hj hl => by
        rcases Nat.lt_succ_iff_lt_or_eq.1 hj with h | rfl
        · exact HNO.out j h hl
        · exact he⟩
      have HHIT : Keep (p l[k] = true → idxF p l = (k : Int)) := ⟨fun he => idxF_hit hk he (fun j hj => HNO.out j hj (by omega))⟩
      generalize p l[k] = pk at *
      generalize l[k] = x at *
      unfold strV at hcell
      go_wp2_with fail
      refine HC.out.mono ?_
      rintro e w2 ⟨rfl, hb2⟩
      have HB2 := Keep.keep (HB.out.trans (hb2.mono HB.out.size))
      clear hb2
      cases pk with
      | true =>
        have hi := HHIT.out rfl
        go_wp2_with fail
        go_ret
        exact ⟨by rw [hi]; rfl, HB2.out⟩
      | false =>
        have HST2 := Keep.keep (HSTEP.out rfl)
        go_wp2_with fail
        go_roundg g
        case measure => omega
        case rel => exact ⟨k + 1, by omega, by simp, HST2.out, HB2.out⟩
set_option maxHeartbeats 1000000 in
theorem cfuncC (f : FuncId) (fi cs : Array Value) (p : List UInt8 → Bool) (v : Value) (l : List (List UInt8)) (w : World) (hent : ∀ args w, (callFunc f args).run Tryz.prog w = .ok (.enter f args) w)
    (hf : ∀ wx, Below w.heap.size w wx → ∀ x ∈ l, Calls Tryz.prog f (fi ++ #[.string ⟨x.toArray⟩] ++ cs) wx fun e w' => e = .returned (.bool (p x)) ∧ Below wx.heap.size wx w') (hr : RdS w (· < w.heap.size) v l) :
    Calls Tryz.prog 77 #[v, .func (.func f) fi cs] w fun e w' => e = .returned (.bool (l.any p)) ∧ Below w.heap.size w w' := by
  have HI := Keep.keep (ifuncC f fi cs p v l w hent hf hr)
  obtain ⟨a, cap, rfl, -⟩ := hr.shape
  have hx : decide (0 ≤ idxF p l) = l.any p := by
    unfold idxF
    cases h : l.findIdx? p with
    | none =>
      have := List.findIdx?_eq_none_iff.1 h
      have : l.any p = false := by rw [List.any_eq_false]; intro x hx; simpa using this x hx
      rw [this]; rfl
    | some i =>
      obtain ⟨hi, hp, -⟩ := List.findIdx?_eq_some_iff_getElem.1 h
      have : l.any p = true := List.any_eq_true.2 ⟨_, List.getElem_mem hi, hp⟩
      rw [this]
      exact decide_eq_true (by simp)
  clear hr hf
  generalize idxF p l = i at *
  generalize l.any p = b at *
  go_enter Tryz.func77, Tryz.ntmps77
  go_wp2_with fail
  refine HI.out.mono ?_
  rintro e w1 ⟨rfl, hb⟩
  go_wp2_with fail
  go_ret
  exact ⟨rfl, hb⟩
end Go.Proofs.YtplafpokgpolkaaGreatDoor
