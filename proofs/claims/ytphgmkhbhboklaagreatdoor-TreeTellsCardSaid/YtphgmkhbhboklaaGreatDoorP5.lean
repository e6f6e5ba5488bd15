/- PARTS OF ONE PROOF, set in one file: PathWhiteL, PathRef, PathRef2, PathCleanL, PathRef3, PathRefL, PathRef4. Each part tells its own conditions. -/
import Derived.Lib.Replace
import Derived.Test.YtphgmkhbhboklaaGreatDoorP3
import Derived.Test.YtphgmkhbhboklaaGreatDoorP4
/- PATHS: plain facts on classes, whiteouts and marks. -/
namespace Go.Proofs.YtphgmkhbhboklaaGreatDoor
theorem cut_cases : ∀ p : List UInt8, (cutAt p = 0 ∧ ∀ x ∈ p, x ≠ 47) ∨ ∃ d b, p = d ++ 47 :: b ∧ (∀ x ∈ b, x ≠ 47) ∧ cutAt p = d.length + 1
  | [] => .inl ⟨rfl, fun x h => by cases h⟩
  | c :: l => by
    rcases cut_cases l with ⟨h1, h2⟩ | ⟨d, b, h1, h2, h3⟩
    · by_cases hc : c = 47
      · refine .inr ⟨[], l, by rw [hc]; rfl, h2, ?_⟩
        rw [cutAt, h1, if_neg (by omega), if_pos hc]; rfl
      · refine .inl ⟨?_, fun x hx => ?_⟩
        · rw [cutAt, h1, if_neg (by omega), if_neg hc]
        · rcases List.mem_cons.1 hx with rfl | hx
          · exact hc
          · exact h2 x hx
    · refine .inr ⟨c :: d, b, by rw [h1]; rfl, h2, ?_⟩
      rw [cutAt, h3, if_pos (by omega)]; rfl
/-- a path's dir and base -/
theorem path_cases (p : List UInt8) : (dirP p = [] ∧ baseP p = p ∧ parentP p = [] ∧ ∀ x ∈ p, x ≠ 47) ∨ ∃ d b, p = d ++ 47 :: b ∧ (∀ x ∈ b, x ≠ 47) ∧ dirP p = d ++ [47] ∧ baseP p = b ∧ parentP p = d := by
  rcases cut_cases p with ⟨h1, h2⟩ | ⟨d, b, h1, h2, h3⟩
  · exact .inl ⟨by unfold dirP; rw [h1]; rfl, by unfold baseP; rw [h1]; rfl, by unfold parentP; rw [h1]; rfl, h2⟩
  · have e1 : p = (d ++ [47]) ++ b := by rw [h1]; simp
    have e2 : d.length + 1 = (d ++ [(47 : UInt8)]).length := by simp
    refine .inr ⟨d, b, h1, h2, ?_, ?_, ?_⟩
    · unfold dirP; rw [h3, e1, e2, List.take_left]
    · unfold baseP; rw [h3, e1, e2, List.drop_left]
    · unfold parentP; rw [h3, h1, Nat.add_sub_cancel, List.take_left]
theorem dir_of {d b : List UInt8} (hb : ∀ x ∈ b, x ≠ 47) : dirP (d ++ 47 :: b) = d ++ [47] ∧ baseP (d ++ 47 :: b) = b ∧ parentP (d ++ 47 :: b) = d := by
  have h3 := cutAt_app d b hb
  have e1 : d ++ 47 :: b = (d ++ [47]) ++ b := by simp
  have e2 : d.length + 1 = (d ++ [(47 : UInt8)]).length := by simp
  refine ⟨?_, ?_, ?_⟩
  · unfold dirP; rw [h3, e1, e2, List.take_left]
  · unfold baseP; rw [h3, e1, e2, List.drop_left]
  · unfold parentP; rw [h3, Nat.add_sub_cancel, List.take_left]
theorem dir_none {b : List UInt8} (hb : ∀ x ∈ b, x ≠ 47) : dirP b = [] ∧ baseP b = b ∧ parentP b = [] := by
  have h := cutAt_noSl hb
  exact ⟨by unfold dirP; rw [h]; rfl, by unfold baseP; rw [h]; rfl, by unfold parentP; rw [h]; rfl⟩
theorem spl_app : ∀ (d b : List UInt8), (∀ x ∈ b, x ≠ 47) → spl (d ++ 47 :: b) = spl d ++ [b]
  | [], b, h => by
    have e : spl (47 :: b) = [] :: spl b := by rw [spl, if_pos rfl]
    rw [List.nil_append, e, spl_none h]; rfl
  | c :: d, b, h => by
    have ih := spl_app d b h
    have hne := spl_ne d
    have e1 : spl (c :: (d ++ 47 :: b)) = if c = 47 then [] :: spl (d ++ 47 :: b) else match spl (d ++ 47 :: b) with | [] => [[c]] | h :: t => (c :: h) :: t := rfl
    have e2 : spl (c :: d) = if c = 47 then [] :: spl d else match spl d with | [] => [[c]] | h :: t => (c :: h) :: t := rfl
    rw [List.cons_append, e1, ih, e2]
    by_cases hc : c = 47
    · rw [if_pos hc, if_pos hc]; rfl
    · rw [if_neg hc, if_neg hc]
      cases hs : spl d with
      | nil => exact absurd hs hne
      | cons x t => rfl
theorem may_parts {p : List UInt8} (h : mayP p = true) : p.length ≤ 4080 ∧ (splitP p).length < 255 ∧ (splitP p).all mayN = true := by
  unfold mayP at h
  simp only [Bool.and_eq_true, decide_eq_true_eq] at h
  exact ⟨h.1.1, h.1.2, h.2⟩
theorem splitP_app {d b : List UInt8} (hb : ∀ x ∈ b, x ≠ 47) : splitP (d ++ 47 :: b) = spl d ++ [b] := by
  unfold splitP
  rw [if_neg (by simp), spl_app d b hb]
theorem splitP_one {b : List UInt8} (hb : ∀ x ∈ b, x ≠ 47) (h0 : b ≠ []) : splitP b = [b] := by
  unfold splitP
  rw [if_neg h0, spl_none hb]
theorem mayN_nil : mayN [] = false := rfl
/-- the last name of a tree's path is a tree's; what stands ahead of the slash is not nothing -/
theorem may_base {p : List UInt8} (h : mayP p = true) (h0 : p ≠ []) : mayN (baseP p) = true := by
  obtain ⟨-, -, h3⟩ := may_parts h
  rcases path_cases p with ⟨-, hb, -, hn⟩ | ⟨d, b, rfl, hn, -, hb, -⟩
  · rw [hb]; rw [splitP_one hn h0] at h3; simpa using h3
  · rw [hb]; rw [splitP_app hn, List.all_append] at h3; simp only [Bool.and_eq_true] at h3; simpa using h3.2
theorem may_dir {d b : List UInt8} (hb : ∀ x ∈ b, x ≠ 47) (h : mayP (d ++ 47 :: b) = true) : d ≠ [] := by
  obtain ⟨-, -, h3⟩ := may_parts h
  rw [splitP_app hb, List.all_append] at h3
  simp only [Bool.and_eq_true] at h3
  rintro rfl
  have h4 := h3.1
  simp [spl, mayN_nil] at h4
theorem mayN_white {b : List UInt8} (h : mayN b = true) : whiteB.isPrefixOf b = false := by
  unfold mayN at h
  simp only [Bool.and_eq_true, Bool.not_eq_true'] at h
  exact h.2
theorem white_not_may (b : List UInt8) : mayN (whiteB ++ b) = false := by
  cases h : mayN (whiteB ++ b) with
  | false => rfl
  | true =>
    have h1 := mayN_white h
    have h2 : whiteB.isPrefixOf (whiteB ++ b) = true := by rw [List.isPrefixOf_iff_prefix]; exact List.prefix_append _ _
    rw [h2] at h1; cases h1
theorem markB_eq : markB = whiteB ++ [46, 119, 104, 46, 46, 111, 112, 113] := rfl
theorem tableB_eq : tableB = whiteB ++ [46, 119, 104, 46, 116, 111, 99] := rfl
theorem lastC_may {b : List UInt8} (h : mayN b = true) : lastC b = 1 := by
  have h1 := mayN_white h
  unfold lastC
  rw [h1]
  have : (b == markB) = false := by
    rw [beq_eq_false_iff_ne]; rintro rfl
    rw [markB_eq, white_not_may] at h; cases h
  rw [this]; rfl
theorem lastC_white {b : List UInt8} (h : mayN b = true) : lastC (whiteB ++ b) = 2 := by
  unfold lastC
  have h1 : (whiteB ++ b == markB) = false := by
    rw [beq_eq_false_iff_ne, markB_eq]
    intro e
    have := List.append_cancel_left e
    rw [this] at h
    have h5 : mayN [46, 119, 104, 46, 46, 111, 112, 113] = false := by decide
    rw [h5] at h; cases h
  have h2 : whiteB.isPrefixOf (whiteB ++ b) = true := by rw [List.isPrefixOf_iff_prefix]; exact List.prefix_append _ _
  rw [h1, h2]; rfl
theorem lastC_mark : lastC markB = 3 := by decide
theorem tab_noSl : ∀ x ∈ tableB, x ≠ 47 := by decide
theorem mark_noSl : ∀ x ∈ markB, x ≠ 47 := by decide
theorem white_noSl {b : List UInt8} (h : ∀ x ∈ b, x ≠ 47) : ∀ x ∈ whiteB ++ b, x ≠ 47 := by
  intro x hx
  rcases List.mem_append.1 hx with hx | hx
  · exact (by decide : ∀ x ∈ whiteB, x ≠ 47) x hx
  · exact h x hx
theorem ne_table {d b : List UInt8} : (d ++ 47 :: b == tableB) = false := by
  rw [beq_eq_false_iff_ne]
  intro e
  exact tab_noSl 47 (by rw [← e]; simp) rfl
theorem trimSl_app (d : List UInt8) : trimSl (d ++ [47]) = d := by
  unfold trimSl
  have : ([47] : List UInt8).isSuffixOf (d ++ [47]) = true := by rw [List.isSuffixOf_iff_suffix]; exact List.suffix_append _ _
  rw [if_pos this]; simp
theorem ne_slash {d : List UInt8} (h : d ≠ []) : (d ++ [47] == [(47 : UInt8)]) = false := by
  rw [beq_eq_false_iff_ne]
  intro e
  have := congrArg List.length e
  simp at this
  exact h this
/-- a tree's path is Plain, and its own target -/
theorem class_may {p : List UInt8} (h : mayP p = true) (h0 : p ≠ []) : classP p = (1, p) := by
  have hb := may_base h h0
  have hl := lastC_may hb
  have ht : (p == tableB) = false := by
    rw [beq_eq_false_iff_ne]; rintro rfl
    rw [(dir_none tab_noSl).2.1, tableB_eq, white_not_may] at hb; cases hb
  have hg : tgtC 1 (dirP p) (baseP p) = p := dir_base p
  have he : p.isEmpty = false := by cases p with | nil => exact absurd rfl h0 | cons c p => rfl
  have hd : (dirP p == [(47 : UInt8)]) = false := by
    rcases path_cases p with ⟨hd, -⟩ | ⟨d, b, rfl, hn, hd, -⟩
    · rw [hd]; rfl
    · rw [hd]; exact ne_slash (may_dir hn h)
  unfold classP
  rw [ht, hl, hg, h, he, hd]; rfl
/-- the mark in a dir: its class, its target -/
theorem class_opaque {p : List UInt8} (h : mayP p = true) : classP (opaqueP p) = (3, p) := by
  have ho : opaqueP p = joinP [p, markB] := by unfold opaqueP; rw [h]; rfl
  rw [ho, joinP_two]
  by_cases hp : p = []
  · subst hp
    rw [if_pos rfl]; decide
  · rw [if_neg hp, if_neg (by decide)]
    obtain ⟨h1, h2, -⟩ := dir_of (d := p) mark_noSl
    have hg : tgtC 3 (p ++ [47]) markB = p := trimSl_app p
    unfold classP
    rw [ne_table, h1, h2, lastC_mark, hg, h, ne_slash hp]; rfl
/-- the whiteout of a path: its class, its target, its dir -/
theorem class_whiteout {p : List UInt8} (h : mayP p = true) (h0 : p ≠ []) : classP (whiteoutP p) = (2, p) ∧ parentP (whiteoutP p) = parentP p := by
  have hb := may_base h h0
  have hbn := mayN_ne hb
  have he : p.isEmpty = false := by cases p with | nil => exact absurd rfl h0 | cons c p => rfl
  have hw : whiteoutP p = joinP [parentP p, whiteB ++ baseP p] := by unfold whiteoutP; rw [h, he]; rfl
  have hdr : (whiteB ++ baseP p).drop 4 = baseP p := List.drop_left (l₁ := whiteB)
  rw [hw, joinP_two]
  rcases path_cases p with ⟨hd, hbe, hpa, hn⟩ | ⟨d, b, rfl, hn, hd, hbe, hpa⟩
  · rw [hpa, if_pos rfl]
    obtain ⟨g1, g2, g3⟩ := dir_none (white_noSl hbn.2)
    refine ⟨?_, g3⟩
    have ht : (whiteB ++ baseP p == tableB) = false := by
      rw [beq_eq_false_iff_ne, tableB_eq]
      intro e
      rw [List.append_cancel_left e] at hb
      have h5 : mayN [46, 119, 104, 46, 116, 111, 99] = false := by decide
      rw [h5] at hb; cases hb
    have hg : tgtC 2 [] (whiteB ++ baseP p) = p := by
      show [] ++ (whiteB ++ baseP p).drop 4 = p
      rw [hdr, List.nil_append, hbe]
    unfold classP
    rw [ht, g1, g2, lastC_white hb, hg, hdr, hb, h, he]; rfl
  · have hdn := may_dir hn h
    rw [hpa, hbe, if_neg hdn, if_neg (by simp [whiteB])]
    rw [hbe] at hb hbn hdr
    obtain ⟨g1, g2, g3⟩ := dir_of (d := d) (white_noSl hbn.2)
    refine ⟨?_, g3⟩
    have hg : tgtC 2 (d ++ [47]) (whiteB ++ b) = d ++ 47 :: b := by
      show (d ++ [47]) ++ (whiteB ++ b).drop 4 = _
      rw [hdr]; simp
    unfold classP
    rw [ne_table, g1, g2, lastC_white hb, hg, hdr, hb, h, he, ne_slash hdn]; rfl
theorem whiteoutP_len (p : List UInt8) : (whiteoutP p).length ≤ 2 * p.length + 5 := by
  have h0 := joinP_two_len (parentP p) (whiteB ++ baseP p)
  have h1 : (parentP p).length ≤ p.length := by unfold parentP; rw [List.length_take]; omega
  have h2 : (baseP p).length ≤ p.length := by unfold baseP; rw [List.length_drop]; omega
  have h3 : (whiteB ++ baseP p).length = 4 + (baseP p).length := by rw [List.length_append]; rfl
  unfold whiteoutP
  split
  · simp
  · omega
theorem opaqueP_len (p : List UInt8) : (opaqueP p).length ≤ p.length + 13 := by
  have h0 := joinP_two_len p markB
  have h1 : markB.length = 12 := rfl
  unfold opaqueP
  split
  · simp
  · omega
/-- what a class tells -/
inductive Told (p : List UInt8) : Prop
  | none (h : classP p = (0, [])) (hn : ¬ (mayP p = true ∧ p ≠ []))
  | plain (h : classP p = (1, p)) (hm : mayP p = true) (h0 : p ≠ [])
  | gone (t : List UInt8) (h : classP p = (2, t)) (hw : whiteoutP t = p) (hm : mayP p = false) (hl : t.length ≤ p.length)
  | mark (t : List UInt8) (h : classP p = (3, t)) (ho : opaqueP t = p) (hm : mayP p = false) (hl : t.length ≤ p.length)
  | table (h : classP p = (4, [])) (ht : p = tableB) (hm : mayP p = false)
theorem told (p : List UInt8) : Told p := by
  by_cases hm : mayP p = true ∧ p ≠ []
  · exact .plain (class_may hm.1 hm.2) hm.1 hm.2
  cases ht : p == tableB with
  | true =>
    have ht' := beq_iff_eq.1 ht
    refine .table (by unfold classP; rw [ht]; rfl) ht' ?_
    rw [ht']; decide
  | false =>
    have hfalse : ∀ c, mayN (baseP p) = false → c = true → p ≠ [] → mayP p = false := fun _ hb _ h0 => by
      cases hmp : mayP p with
      | false => rfl
      | true => rw [may_base hmp h0] at hb; cases hb
    cases hc : (!mayP (tgtC (lastC (baseP p)) (dirP p) (baseP p)) || (lastC (baseP p) != 3 && (tgtC (lastC (baseP p)) (dirP p) (baseP p)).isEmpty) || (lastC (baseP p) == 2 && !mayN ((baseP p).drop 4)) || dirP p == [47]) with
    | true => exact .none (by unfold classP; rw [ht, hc]; rfl) hm
    | false =>
      have hcl : classP p = ((lastC (baseP p) : Int), tgtC (lastC (baseP p)) (dirP p) (baseP p)) := by unfold classP; rw [ht, hc]; rfl
      simp only [Bool.or_eq_false_iff, Bool.not_eq_false', Bool.and_eq_false_iff] at hc
      obtain ⟨⟨⟨c1, c2⟩, c3⟩, c4⟩ := hc
      have hk : lastC (baseP p) = 1 ∨ (lastC (baseP p) = 2 ∧ ∃ b, baseP p = whiteB ++ b) ∨ (lastC (baseP p) = 3 ∧ baseP p = markB) := by
        unfold lastC
        cases h1 : baseP p == markB with
        | true => exact .inr (.inr ⟨rfl, beq_iff_eq.1 h1⟩)
        | false =>
          cases h2 : whiteB.isPrefixOf (baseP p) with
          | true => exact .inr (.inl ⟨rfl, by obtain ⟨b, hb⟩ := List.isPrefixOf_iff_prefix.1 h2; exact ⟨b, hb.symm⟩⟩)
          | false => exact .inl rfl
      rcases hk with hk | ⟨hk, b, hb⟩ | ⟨hk, hb⟩
      · exfalso
        rw [hk] at c1 c2
        have hg : tgtC 1 (dirP p) (baseP p) = p := dir_base p
        rw [hg] at c1 c2
        refine hm ⟨c1, ?_⟩
        rintro rfl
        simp at c2
      · rw [hk] at hcl c1 c2 c3
        have hdr : (baseP p).drop 4 = b := by rw [hb]; exact List.drop_left (l₁ := whiteB)
        rw [hdr] at c3
        have hbm : mayN b = true := by simpa using c3
        have hg : tgtC 2 (dirP p) (baseP p) = dirP p ++ b := by show dirP p ++ (baseP p).drop 4 = _; rw [hdr]
        rw [hg] at hcl c1 c2
        have hbn := mayN_ne hbm
        have hte : dirP p ++ b ≠ [] := fun e => hbn.1 (List.append_eq_nil_iff.1 e).2
        have hee : (dirP p ++ b).isEmpty = false := by cases hx : dirP p ++ b with | nil => exact absurd hx hte | cons c l => rfl
        have hp0 : p ≠ [] := by
          rintro rfl
          have : baseP [] = [] := rfl
          rw [this] at hb
          simp [whiteB] at hb
        have hfm := hfalse true (by rw [hb]; exact white_not_may b) rfl hp0
        have hlen : (dirP p ++ b).length ≤ p.length := by
          have : (dirP p ++ baseP p).length = p.length := by rw [dir_base]
          rw [hb] at this
          simp at this ⊢
          omega
        refine .gone _ hcl ?_ hfm hlen
        have hwo : whiteoutP (dirP p ++ b) = joinP [parentP (dirP p ++ b), whiteB ++ baseP (dirP p ++ b)] := by unfold whiteoutP; rw [c1, hee]; rfl
        rw [hwo, joinP_two]
        rcases path_cases p with ⟨hd, hbe, hpa, hn⟩ | ⟨d, b', hpe, hn, hd, hbe, hpa⟩
        · rw [hd, List.nil_append, (dir_none hbn.2).2.2, (dir_none hbn.2).2.1, if_pos rfl, ← hb, hbe]
        · have hdn : d ≠ [] := by
            rintro rfl
            rw [hd] at c4; simp at c4
          have e1 : dirP p ++ b = d ++ 47 :: b := by rw [hd]; simp
          rw [e1, (dir_of hbn.2).2.2, (dir_of hbn.2).2.1, if_neg hdn, if_neg (by simp [whiteB]), ← hb, hbe, ← hpe]
      · rw [hk] at hcl c1
        have hg : tgtC 3 (dirP p) (baseP p) = trimSl (dirP p) := rfl
        rw [hg] at hcl c1
        have hp0 : p ≠ [] := by
          rintro rfl
          have : baseP [] = [] := rfl
          rw [this] at hb
          simp [markB] at hb
        have hfm := hfalse true (by rw [hb, markB_eq]; exact white_not_may _) rfl hp0
        rcases path_cases p with ⟨hd, hbe, hpa, hn⟩ | ⟨d, b', hpe, hn, hd, hbe, hpa⟩
        · have hts : trimSl (dirP p) = [] := by rw [hd]; rfl
          rw [hts] at hcl c1
          refine .mark [] hcl ?_ hfm (by simp)
          unfold opaqueP
          rw [c1]
          show joinP [[], markB] = p
          rw [joinP_two, if_pos rfl, ← hb, hbe]
        · have hts : trimSl (dirP p) = d := by rw [hd]; exact trimSl_app d
          have hdn : d ≠ [] := by
            rintro rfl
            rw [hd] at c4; simp at c4
          rw [hts] at hcl c1
          refine .mark d hcl ?_ hfm (by rw [hpe]; simp)
          unfold opaqueP
          rw [c1]
          show joinP [d, markB] = p
          rw [joinP_two, if_neg hdn, if_neg (by decide), ← hb, hbe, ← hpe]
end Go.Proofs.YtphgmkhbhboklaaGreatDoor
/- portolanref11: begins, Name, MayName, Split, May, Join. -/
namespace Go.Proofs.YtphgmkhbhboklaaGreatDoor
open Go.RowKit
theorem prefix_take (s t : List UInt8) (_h : t.length ≤ s.length) : (s.take t.length == t) = t.isPrefixOf s := by
  rw [Bool.eq_iff_iff, beq_iff_eq, List.isPrefixOf_iff_prefix]
  constructor
  · intro e; rw [← e]; exact List.take_prefix _ _
  · intro hp; exact (List.prefix_iff_eq_take.1 hp).symm
theorem begins_any (s t : List UInt8) (w : World) : Calls Tryz.prog 78 #[.string ⟨s.toArray⟩, .string ⟨t.toArray⟩] w fun e w' => e = .returned (.bool (t.isPrefixOf s)) ∧ w = w' := by
  by_cases h : t.length ≤ s.length
  · have hd : decide ((t.length : Int) ≤ (s.length : Int)) = true := decide_eq_true (by omega)
    have hd2 : decide (t.length ≤ s.length) = true := decide_eq_true h
    have hst := run_slice_to (P := Tryz.prog) Tryz.underlying9 s .i64 t.length h
    have he := prefix_take s t h
    generalize s.take t.length = q at *
    generalize t.isPrefixOf s = b at *
    go_enter Tryz.func78, Tryz.ntmps78
    go_wp2_with fail
    go_ret
    exact ⟨rfl, rfl⟩
  · have hd : decide ((t.length : Int) ≤ (s.length : Int)) = false := decide_eq_false (by omega)
    have hd2 : decide (t.length ≤ s.length) = false := decide_eq_false h
    have he : t.isPrefixOf s = false := by
      cases hx : t.isPrefixOf s with
      | false => rfl
      | true => exact absurd (List.isPrefixOf_iff_prefix.1 hx).length_le h
    rw [he]
    clear he h
    go_enter Tryz.func78, Tryz.ntmps78
    go_wp2_with fail
    go_ret
    exact ⟨rfl, rfl⟩
def nameB (s : List UInt8) : Bool := !(s.any fun c => c == 47 || c == 0) && (decide (1 ≤ s.length) && decide (s.length ≤ 255) && s != [46] && s != [46, 46])
set_option maxHeartbeats 2000000 in
set_option maxRecDepth 100000 in
theorem rname_any (s : List UInt8) (hs : s.length ≤ 1000000) (w : World) : Calls Tryz.prog 95 #[.string ⟨s.toArray⟩] w fun e w' => e = .returned (.bool (nameB s)) ∧ w = w' := by
  go_enter Tryz.func95, Tryz.ntmps95
  go_wp2_with fail
  go_loopg [3] s.length (fun g u3 wx => ∃ k : Nat, k + g = s.length ∧ u3 = .int .i64 (k : Int) ∧ (∀ j, (hj : j < k) → (hl : j < s.length) → s[j] ≠ 47 ∧ s[j] ≠ 0) ∧ w = wx)
  case atStart => exact ⟨0, by omega, rfl, fun j hj => by omega, rfl⟩
  case round =>
    obtain ⟨k, hkg, rfl, hno, rfl⟩ := hrel
    have HNO := Keep.keep hno
    clear hno
    cases gk with
    | zero =>
      obtain rfl : k = s.length := by omega
      have HE : Keep (nameB s = (decide (1 ≤ s.length) && decide (s.length ≤ 255) && s != [46] && s != [46, 46])) := ⟨by
        have : (s.any fun c => c == 47 || c == 0) = false := by
          rw [List.any_eq_false]
          intro c hc
          obtain ⟨j, hj, rfl⟩ := List.mem_iff_getElem.1 hc
          obtain ⟨h1, h2⟩ := HNO.out j hj hj
          simp [h1, h2]
        unfold nameB; rw [this]; rfl⟩
      simp only [bne] at HE
      obtain ⟨b1, h1⟩ : ∃ b, decide (1 ≤ s.length) = b := ⟨_, rfl⟩
      obtain ⟨b2, h2⟩ : ∃ b, decide (s.length ≤ 255) = b := ⟨_, rfl⟩
      obtain ⟨b3, h3⟩ : ∃ b, (s == [46]) = b := ⟨_, rfl⟩
      obtain ⟨b4, h4⟩ : ∃ b, (s == [46, 46]) = b := ⟨_, rfl⟩
      simp only [h1, h2, h3, h4] at HE
      have h1i : decide ((1 : Int) ≤ (s.length : Int)) = b1 := by rw [← h1]; simp only [decide_eq_decide]; omega
      have h2i : decide ((s.length : Int) ≤ 255) = b2 := by rw [← h2]; simp only [decide_eq_decide]; omega
      clear HNO
      cases b1 with
      | false =>
        go_wp2_with fail
        go_ret
        exact ⟨by rw [HE.out]; rfl, rfl⟩
      | true =>
      cases b2 with
      | false =>
        go_wp2_with fail
        go_ret
        exact ⟨by rw [HE.out]; rfl, rfl⟩
      | true =>
      cases b3 with
      | true =>
        go_wp2_with fail
        go_ret
        exact ⟨by rw [HE.out]; rfl, rfl⟩
      | false =>
        cases b4 with
        | true =>
          go_wp2_with fail
          go_ret
          exact ⟨by rw [HE.out]; rfl, rfl⟩
        | false =>
          go_wp2_with fail
          go_ret
          exact ⟨by rw [HE.out]; rfl, rfl⟩
    | succ g =>
      have hk : k < s.length := by omega
      have hidx := run_index_str (P := Tryz.prog) Tryz.underlying9 ⟨s.toArray⟩ .i64 k s[k] (by simp [hk])
      have hgi : (⟨s.toArray⟩ : ByteArray)[k]'(hk) = s[k] := rfl
      have HSTEP : Keep (s[k] ≠ 47 ∧ s[k] ≠ 0 → ∀ j, (hj : j < k + 1) → (hl : j < s.length) → s[j] ≠ 47 ∧ s[j] ≠ 0) := ⟨fun he j hj hl => by
        rcases Nat.lt_succ_iff_lt_or_eq.1 hj with h | rfl
        · exact HNO.out j h hl
        · exact he⟩
      have HBAD : Keep (s[k] = 47 ∨ s[k] = 0 → nameB s = false) := ⟨fun h => by
        have : (s.any fun c => c == 47 || c == 0) = true := List.any_eq_true.2 ⟨_, List.getElem_mem hk, by rcases h with h | h <;> simp [h]⟩
        unfold nameB; rw [this]; rfl⟩
      by_cases h0 : s[k] = 0
      · have HX := Keep.keep (HBAD.out (.inr h0))
        rw [h0] at hidx hgi
        clear HSTEP HBAD h0 HNO
        go_wp2_with fail
        go_ret
        exact ⟨by rw [HX.out]; rfl, rfl⟩
      · by_cases h47 : s[k] = 47
        · have HX := Keep.keep (HBAD.out (.inl h47))
          rw [h47] at hidx hgi
          clear HSTEP HBAD h0 h47 HNO
          go_wp2_with fail
          go_ret
          exact ⟨by rw [HX.out]; rfl, rfl⟩
        · have HST := Keep.keep (HSTEP.out ⟨h47, h0⟩)
          have hn0 : ((s[k].toNat : Int) == 0) = false := by
            rw [beq_eq_false_iff_ne]; intro e; exact h0 (UInt8.toNat_inj.1 (by show s[k].toNat = 0; omega))
          have hn47 : ((s[k].toNat : Int) == 47) = false := by
            rw [beq_eq_false_iff_ne]; intro e; exact h47 (UInt8.toNat_inj.1 (by show s[k].toNat = 47; omega))
          clear HSTEP HBAD h0 h47 HNO
          generalize s[k] = c at *
          go_wp2_with fail
          go_roundg g
          case measure => omega
          case rel => exact ⟨k + 1, by omega, by simp, HST.out, rfl⟩
theorem mayN_name (s : List UInt8) : mayN s = (nameB s && decide (s.length ≤ 251) && !whiteB.isPrefixOf s) := by
  unfold mayN nameB
  have h1 : decide (1 ≤ s.length) = !s.isEmpty := by cases s <;> simp
  rw [h1, show ([46, 119, 104, 46] : List UInt8) = whiteB from rfl]
  by_cases h2 : s.length ≤ 251
  · rw [decide_eq_true h2, decide_eq_true (show s.length ≤ 255 by omega)]
    cases s.isEmpty <;> cases (s != [46]) <;> cases (s != [46, 46]) <;> cases (s.any fun c => c == 47 || c == 0) <;> cases whiteB.isPrefixOf s <;> rfl
  · rw [decide_eq_false h2]; simp
set_option maxHeartbeats 1000000 in
theorem rmayname_any (s : List UInt8) (hs : s.length ≤ 1000000) (w : World) : Calls Tryz.prog 76 #[.string ⟨s.toArray⟩] w fun e w' => e = .returned (.bool (mayN s)) ∧ w = w' := by
  have HN := Keep.keep (fun w => rname_any s hs w)
  have HB : Keep (∀ w, Calls Tryz.prog 78 #[.string ⟨s.toArray⟩, .string ⟨#[46, 119, 104, 46]⟩] w fun e w' => e = .returned (.bool (whiteB.isPrefixOf s)) ∧ w = w') := ⟨fun w => begins_any s whiteB w⟩
  rw [mayN_name]
  have h2i : decide ((s.length : Int) ≤ 251) = decide (s.length ≤ 251) := by simp only [decide_eq_decide]; omega
  generalize nameB s = b1 at *
  generalize decide (s.length ≤ 251) = b2 at *
  generalize whiteB.isPrefixOf s = b3 at *
  go_enter Tryz.func76, Tryz.ntmps76
  go_wp2_with fail
  refine (HN.out _).mono ?_
  rintro e w' ⟨rfl, rfl⟩
  cases b1 with
  | false =>
    go_wp2_with fail
    go_ret
    exact ⟨rfl, rfl⟩
  | true =>
  cases b2 with
  | false =>
    go_wp2_with fail
    go_ret
    exact ⟨rfl, rfl⟩
  | true =>
    go_wp2_with fail
    refine (HB.out _).mono ?_
    rintro e w' ⟨rfl, rfl⟩
    go_wp2_with fail
    go_ret
    exact ⟨rfl, rfl⟩
/-- how far Split is at place k -/
def SpAt (p : List UInt8) (k f : Nat) (D : List (List UInt8)) : Prop := (k ≤ p.length ∧ f ≤ k ∧ D ++ spl (p.drop f) = spl p ∧ ∀ j, f ≤ j → j < k → (hl : j < p.length) → p[j] ≠ 47) ∨ (k = p.length + 1 ∧ D = spl p)
theorem seg_noSl {p : List UInt8} {k f : Nat} (h : ∀ j, f ≤ j → j < k → (hl : j < p.length) → p[j] ≠ 47) : ∀ x ∈ (p.drop f).take (k - f), x ≠ 47 := by
  intro x hx
  obtain ⟨j, hj, rfl⟩ := List.mem_iff_getElem.1 hx
  rw [List.length_take, List.length_drop] at hj
  rw [List.getElem_take, List.getElem_drop]
  exact h (f + j) (by omega) (by omega) (by omega)
theorem SpAt.cut {p : List UInt8} {k f : Nat} {D : List (List UInt8)} (h : SpAt p k f D) (hk : k < p.length) (h47 : p[k] = 47) : SpAt p (k + 1) (k + 1) (D ++ [(p.drop f).take (k - f)]) := by
  rcases h with ⟨h1, h2, h3, h4⟩ | ⟨h1, _⟩
  · refine .inl ⟨hk, Nat.le_refl _, ?_, fun j a b _ => by omega⟩
    have e1 : p.drop f = (p.drop f).take (k - f) ++ 47 :: p.drop (k + 1) := by
      conv => lhs; rw [← List.take_append_drop (k - f) (p.drop f), List.drop_drop, show f + (k - f) = k by omega, List.drop_eq_getElem_cons hk, h47]
    rw [e1, spl_cut _ (seg_noSl h4)] at h3
    rw [List.append_assoc]; exact h3
  · omega
theorem SpAt.end_ {p : List UInt8} {f : Nat} {D : List (List UInt8)} (h : SpAt p p.length f D) : SpAt p (p.length + 1) (p.length + 1) (D ++ [(p.drop f).take (p.length - f)]) := by
  rcases h with ⟨h1, h2, h3, h4⟩ | ⟨h1, _⟩
  · refine .inr ⟨rfl, ?_⟩
    have e1 : (p.drop f).take (p.length - f) = p.drop f := by rw [List.take_of_length_le]; rw [List.length_drop]; omega
    have h5 := seg_noSl h4
    rw [e1] at h5 ⊢
    rw [spl_none h5] at h3
    exact h3
  · omega
theorem SpAt.skip {p : List UInt8} {k f : Nat} {D : List (List UInt8)} (h : SpAt p k f D) (hk : k < p.length) (h47 : p[k] ≠ 47) : SpAt p (k + 1) f D := by
  rcases h with ⟨h1, h2, h3, h4⟩ | ⟨h1, _⟩
  · refine .inl ⟨hk, by omega, h3, fun j a b c => ?_⟩
    rcases Nat.lt_succ_iff_lt_or_eq.1 b with h | rfl
    · exact h4 j a h c
    · exact h47
  · omega
theorem SpAt.le {p : List UInt8} {k f : Nat} {D : List (List UInt8)} (h : SpAt p k f D) (hk : k ≤ p.length) : f ≤ k := by
  rcases h with ⟨_, h2, _⟩ | ⟨h1, _⟩
  · exact h2
  · omega
theorem run_slice_mid {P : Program} {T : TypeId} (hu : P.underlying T = some .string) (l : List UInt8) (k1 k2 : IntKind) (i j : Nat) (h1 : i ≤ j) (h2 : j ≤ l.length) (w : World) :
    (Instr.slice T (.string ⟨l.toArray⟩) (some (.int k1 (i : Int))) (some (.int k2 (j : Int))) none).run P w = .ok (.string ⟨((l.drop i).take (j - i)).toArray⟩) w := by
  have h := run_slice_str (P := P) hu l k1 k2 (i : Int) (j : Int) (by omega) (by omega) (by omega) w
  rw [h]
  simp
set_option maxHeartbeats 4000000 in
set_option maxRecDepth 100000 in
theorem rsplit_any (p : List UInt8) (hp : p.length ≤ 1000000) (w : World) : Calls Tryz.prog 75 #[.string ⟨p.toArray⟩] w fun e w' => ∃ v, e = .returned v ∧ OwnS w' w.heap.size v (splitP p) ∧ Below w.heap.size w w' := by
  have heq := bne_nil p
  cases hl0 : p.isEmpty with
  | true =>
    have hs : splitP p = [] := by cases p with | nil => rfl | cons c l => cases hl0
    rw [hl0] at heq
    rw [hs]
    clear hs hl0
    go_enter Tryz.func75, Tryz.ntmps75
    go_wp2_with fail
    go_ret
    exact ⟨_, rfl, World.ownsRow_nil _ _ _ _, Below.refl _ _⟩
  | false =>
    have hs : splitP p = spl p := by cases p with | nil => cases hl0 | cons c l => rfl
    rw [hl0] at heq
    rw [hs]
    have hlen := spl_length p
    clear hs hl0
    go_enter Tryz.func75, Tryz.ntmps75
    go_wp2_with fail
    go_loopg [3, 4, 5] (p.length + 1) (fun g u3 u4 u5 wx => ∃ (k f : Nat) (D : List (List UInt8)), k + g = p.length + 1 ∧ u5 = .int .i64 (k : Int) ∧ u4 = .int .i64 (f : Int) ∧ SpAt p k f D ∧ D.length ≤ k ∧ Hp NoM w wx [slA w.heap.size 9 1 u3 D.length (D.map strV)])
    case atStart => exact ⟨0, 0, [], by omega, rfl, rfl, .inl ⟨Nat.zero_le _, Nat.le_refl _, rfl, fun j _ hj => by omega⟩, Nat.le_refl _, (Hp.begin NoM w).nilS _ _ _⟩
    case round =>
      obtain ⟨k, f, D, hkg, rfl, rfl, hsp, hDl, hH⟩ := hrel
      have HH := Keep.keep hH; have HSP := Keep.keep hsp
      have hown := hH.sl 0 rfl
      obtain ⟨a3, c3, rfl, -⟩ := (ownsV_reads hown).shape
      have HO := Keep.keep hown
      clear hH hown hsp
      cases gk with
      | zero =>
        obtain rfl : k = p.length + 1 := by omega
        have HD : Keep (D = spl p) := ⟨by
          rcases HSP.out with ⟨h, _⟩ | ⟨_, h⟩
          · omega
          · exact h⟩
        have hd : decide (((p.length + 1 : Nat) : Int) ≤ (p.length : Int)) = false := decide_eq_false (by omega)
        have hd2 : decide ((p.length : Int) + 1 ≤ (p.length : Int)) = false := decide_eq_false (by omega)
        have hd3 : decide (p.length + 1 ≤ p.length) = false := decide_eq_false (by omega)
        go_wp2_with fail
        go_ret
        exact ⟨_, rfl, by rw [← HD.out]; exact HO.out, HH.out.below⟩
      | succ g =>
        have hk1 : k ≤ p.length := by omega
        have hf := HSP.out.le hk1
        have hd : decide ((k : Int) ≤ (p.length : Int)) = true := decide_eq_true (by omega)
        have hd2 : decide (k ≤ p.length) = true := decide_eq_true hk1
        have hst := run_slice_mid (P := Tryz.prog) Tryz.underlying9 p .i64 .i64 f k hf hk1
        by_cases hke : k = p.length
        · have hek : ((k : Int) == (p.length : Int)) = true := by rw [hke]; exact beq_self_eq_true _
          have hek2 : (k == p.length) = true := by rw [hke]; exact beq_self_eq_true _
          have HNX : Keep (SpAt p (k + 1) (k + 1) (D ++ [(p.drop f).take (k - f)])) := ⟨by
            subst hke; exact HSP.out.end_⟩
          clear hke
          generalize (p.drop f).take (k - f) = x at *
          go_wp2_with (with_reducible refine arm_stop ?_)
          refine Stopped.out ?_
          refine arm_appendV slS ((HH.out.alloc _).sl 0 rfl) (RdV.new (N := fun _ => True) 9 [strV x] 1 1 _ rfl rfl (by unfold maxLen; omega) trivial) (by simp [strV, Value.oneCell']) (by unfold maxLen; omega) (by omega) (by simp; have := HH.out.size; omega) rfl rfl ?_
          intro v' w' ho hg hb _
          have HG := Keep.keep ((HH.out.alloc _).grow 0 rfl hg ho hb)
          obtain ⟨a4, c4, rfl, -⟩ := (ownsV_reads ho).shape
          clear ho hg hb
          simp only [Act.put, List.setIfInBounds_toArray, List.set_cons_succ, List.set_cons_zero]
          go_wp2_with fail
          go_roundg g
          case measure => omega
          case rel => exact ⟨k + 1, k + 1, _, by omega, by simp, by simp, HNX.out, by simp; omega, by rw [List.length_append, List.map_append]; exact HG.out⟩
        · have hk : k < p.length := by omega
          have hek : ((k : Int) == (p.length : Int)) = false := by rw [beq_eq_false_iff_ne]; omega
          have hek2 : (k == p.length) = false := by rw [beq_eq_false_iff_ne]; omega
          have hidx := run_index_str (P := Tryz.prog) Tryz.underlying9 ⟨p.toArray⟩ .i64 k p[k] (by simp [hk])
          have hgi : (⟨p.toArray⟩ : ByteArray)[k]'(hk) = p[k] := rfl
          have HCUT := Keep.keep (fun h => HSP.out.cut hk h)
          have HSKIP := Keep.keep (fun h => HSP.out.skip hk h)
          by_cases h47 : p[k] = 47
          · have HNX := Keep.keep (HCUT.out h47)
            rw [h47] at hidx hgi
            clear HCUT HSKIP h47 hke
            generalize (p.drop f).take (k - f) = x at *
            go_wp2_with (with_reducible refine arm_stop ?_)
            refine Stopped.out ?_
            refine arm_appendV slS ((HH.out.alloc _).sl 0 rfl) (RdV.new (N := fun _ => True) 9 [strV x] 1 1 _ rfl rfl (by unfold maxLen; omega) trivial) (by simp [strV, Value.oneCell']) (by unfold maxLen; omega) (by omega) (by simp; have := HH.out.size; omega) rfl rfl ?_
            intro v' w' ho hg hb _
            have HG := Keep.keep ((HH.out.alloc _).grow 0 rfl hg ho hb)
            obtain ⟨a4, c4, rfl, -⟩ := (ownsV_reads ho).shape
            clear ho hg hb
            simp only [Act.put, List.setIfInBounds_toArray, List.set_cons_succ, List.set_cons_zero]
            go_wp2_with fail
            go_roundg g
            case measure => omega
            case rel => exact ⟨k + 1, k + 1, _, by omega, by simp, by simp, HNX.out, by simp; omega, by rw [List.length_append, List.map_append]; exact HG.out⟩
          · have HNX := Keep.keep (HSKIP.out h47)
            have hn47 : ((p[k].toNat : Int) == 47) = false := by
              rw [beq_eq_false_iff_ne]; intro e; exact h47 (UInt8.toNat_inj.1 (by show p[k].toNat = 47; omega))
            clear HCUT HSKIP h47 hke hst
            generalize p[k] = c at *
            go_wp2_with fail
            go_roundg g
            case measure => omega
            case rel => exact ⟨k + 1, f, D, by omega, by simp, rfl, HNX.out, by omega, HH.out⟩
end Go.Proofs.YtphgmkhbhboklaaGreatDoor
/- portolanref11: May, Join, cut, Parent, Base, Above, Under. -/
namespace Go.Proofs.YtphgmkhbhboklaaGreatDoor
open Go.RowKit
theorem mayP_eq (p : List UInt8) : mayP p = ((splitP p).all mayN && (decide ((splitP p).length ≤ 254) && decide (p.length ≤ 4080))) := by
  unfold mayP
  have h : decide ((splitP p).length < 255) = decide ((splitP p).length ≤ 254) := by simp only [decide_eq_decide]; omega
  rw [h]
  cases (splitP p).all mayN <;> cases decide ((splitP p).length ≤ 254) <;> cases decide (p.length ≤ 4080) <;> rfl
set_option maxHeartbeats 1000000 in
set_option maxRecDepth 100000 in
theorem rmay_any (p : List UInt8) (hp : p.length ≤ 1000000) (w : World) : Calls Tryz.prog 79 #[.string ⟨p.toArray⟩] w fun e w' => e = .returned (.bool (mayP p)) ∧ Below w.heap.size w w' := by
  have HS := Keep.keep (rsplit_any p hp w)
  have HM : Keep (∀ x ∈ splitP p, ∀ w, Calls Tryz.prog 76 #[.string ⟨x.toArray⟩] w fun e w' => e = .returned (.bool (mayN x)) ∧ w = w') := ⟨fun x hx w => rmayname_any x (Nat.le_trans (splitP_mem_len p x hx) hp) w⟩
  have hln : (splitP p).length ≤ 1000001 := by
    have := spl_length p
    unfold splitP; split
    · simp
    · omega
  have hq1 : decide ((p.length : Int) ≤ 4080) = decide (p.length ≤ 4080) := by simp only [decide_eq_decide]; omega
  have HE : Keep (mayP p = ((splitP p).all mayN && (decide ((splitP p).length ≤ 254) && decide (p.length ≤ 4080)))) := ⟨mayP_eq p⟩
  generalize mayP p = out at *
  generalize decide (p.length ≤ 4080) = b1 at *
  generalize splitP p = l at *
  go_enter Tryz.func79, Tryz.ntmps79
  go_wp2_with fail
  refine HS.out.mono ?_
  rintro e w1 ⟨v, rfl, ho, hb⟩
  have HR := Keep.keep ((ownsV_reads ho).mono (N' := (· < w1.heap.size)) (fun b hb => hb.2.1)); have HB := Keep.keep hb
  obtain ⟨a, c, rfl, hcap, -, h3⟩ := (ownsV_reads ho).shape
  have H3 := Keep.keep h3
  clear ho hb h3
  go_wp2_with fail
  go_loopg [4] l.length (fun g u4 wx => ∃ k : Nat, k + g = l.length ∧ u4 = .int .i64 (k : Int) ∧ (l.take k).all mayN = true ∧ w1 = wx)
  case atStart => exact ⟨0, by omega, rfl, rfl, rfl⟩
  case round =>
    obtain ⟨k, hkg, rfl, hal, rfl⟩ := hrel
    have HAL := Keep.keep hal
    clear hal
    cases gk with
    | zero =>
      obtain rfl : k = l.length := by omega
      have HAL2 : Keep (l.all mayN = true) := ⟨by have := HAL.out; rwa [List.take_length] at this⟩
      rw [HAL2.out] at HE
      have hq2 : decide ((l.length : Int) ≤ 254) = decide (l.length ≤ 254) := by simp only [decide_eq_decide]; omega
      generalize decide (l.length ≤ 254) = b2 at *
      cases b2 with
      | false =>
        go_wp2_with fail
        go_ret
        exact ⟨by rw [HE.out]; rfl, HB.out⟩
      | true =>
        go_wp2_with fail
        go_ret
        exact ⟨by rw [HE.out]; rfl, HB.out⟩
    | succ g =>
      have hk : k < l.length := by omega
      rcases H3.out with ⟨_, h3⟩ | ⟨b, off, rfl, hbl⟩
      · omega
      have hcell := HR.out.cell b off _ _ rfl k (strV l[k]) (by simp [hk])
      have HMN := Keep.keep (HM.out l[k] (List.getElem_mem hk))
      have HT : Keep ((l.take (k + 1)).all mayN = mayN l[k]) := ⟨by
        rw [List.take_succ_eq_append_getElem hk, List.all_append, HAL.out]; simp⟩
      have HF : Keep (mayN l[k] = false → out = false) := ⟨fun h => by
        rw [HE.out]
        have : l.all mayN = false := List.all_eq_false.2 ⟨_, List.getElem_mem hk, by rw [h]; decide⟩
        rw [this]; rfl⟩
      generalize l[k] = x at *
      unfold strV at hcell
      cases hm : mayN x with
      | false =>
        rw [hm] at HMN
        have HX := Keep.keep (HF.out hm)
        clear hm
        go_wp2_with fail
        refine (HMN.out _).mono ?_
        rintro e w' ⟨rfl, rfl⟩
        go_wp2_with fail
        go_ret
        exact ⟨by rw [HX.out]; rfl, HB.out⟩
      | true =>
        rw [hm] at HMN HT
        clear hm
        go_wp2_with fail
        refine (HMN.out _).mono ?_
        rintro e w' ⟨rfl, rfl⟩
        go_wp2_with fail
        go_roundg g
        case measure => omega
        case rel => exact ⟨k + 1, by omega, by simp, HT.out, rfl⟩
theorem joinS_app_len (a b : List (List UInt8)) : (joinS a).length ≤ (joinS (a ++ b)).length := by
  have := joinS_take_len (a ++ b) a.length
  rwa [List.take_left'] at this
  rfl
theorem flt_app_len (l : List (List UInt8)) (k : Nat) : (joinS (flt (l.take k))).length ≤ (joinP l).length := by
  have h : flt l = flt (l.take k) ++ flt (l.drop k) := by unfold flt; rw [← List.filter_append, List.take_append_drop]
  unfold joinP
  rw [show (l.filter fun x => !x.isEmpty) = flt l from rfl, h]
  exact joinS_app_len _ _
theorem joinS_flt_nil {l : List (List UInt8)} (hl : ∀ x ∈ l, x ≠ []) (h : joinS l = []) : l = [] := by
  cases l with
  | nil => rfl
  | cons x r =>
    exfalso
    cases r with
    | nil => exact hl x (by simp) h
    | cons y r =>
      rw [joinS] at h
      simp at h
theorem joinS_flt_snoc {l : List (List UInt8)} (hl : ∀ x ∈ l, x ≠ []) (x : List UInt8) : joinS (l ++ [x]) = if (joinS l).isEmpty then x else joinS l ++ [47] ++ x := by
  cases he : (joinS l).isEmpty with
  | true =>
    rw [joinS_flt_nil hl (List.isEmpty_iff.1 he)]; rfl
  | false =>
    have : l ≠ [] := fun e => by rw [e] at he; cases he
    rw [joinS_snoc _ _ this]; simp
theorem flt_ne (l : List (List UInt8)) : ∀ x ∈ flt l, x ≠ [] := fun x hx => by
  have := (List.mem_filter.1 hx).2
  cases x with
  | nil => cases this
  | cons c r => simp
set_option maxHeartbeats 2000000 in
set_option maxRecDepth 100000 in
theorem rjoin_any (v : Value) (l : List (List UInt8)) (w : World) (hr : RdS w (· < w.heap.size) v l) (hn : l.length ≤ 1000000000) (hj : (joinP l).length ≤ 1000000000) :
    Calls Tryz.prog 77 #[v] w fun e w' => e = .returned (.string ⟨(joinP l).toArray⟩) ∧ w = w' := by
  obtain ⟨a, cap, rfl, hcap, hmx, h3⟩ := hr.shape
  have HR := Keep.keep hr; have H3 := Keep.keep h3
  unfold maxLen at hmx
  clear hr h3
  have HPL := Keep.keep (fun k => flt_app_len l k)
  have HJ : Keep (joinP l = joinS (flt l)) := ⟨rfl⟩
  generalize joinP l = out at *
  go_enter Tryz.func77, Tryz.ntmps77
  go_wp2_with fail
  go_loopg [3, 4] l.length (fun g u3 u4 wx => ∃ k : Nat, k + g = l.length ∧ u4 = .int .i64 (k : Int) ∧ u3 = .string ⟨(joinS (flt (l.take k))).toArray⟩ ∧ w = wx)
  case atStart => exact ⟨0, by omega, rfl, rfl, rfl⟩
  case round =>
    obtain ⟨k, hkg, rfl, rfl, rfl⟩ := hrel
    cases gk with
    | zero =>
      obtain rfl : k = l.length := by omega
      have HO : Keep (joinS (flt (l.take l.length)) = out) := ⟨by rw [List.take_length, HJ.out]⟩
      generalize joinS (flt (l.take l.length)) = r at *
      go_wp2_with fail
      go_ret
      exact ⟨by rw [HO.out]; rfl, rfl⟩
    | succ g =>
      have hk : k < l.length := by omega
      rcases H3.out with ⟨_, h3⟩ | ⟨b, off, rfl, hbl⟩
      · omega
      have hcell := HR.out.cell b off _ _ rfl k (strV l[k]) (by simp [hk])
      have hft := flt_take hk
      have hnx := HPL.out (k + 1)
      have heq := bne_nil l[k]
      cases hem : l[k].isEmpty with
      | true =>
        rw [hem] at hft heq
        rw [if_pos rfl] at hft
        have HFT := Keep.keep (congrArg joinS hft)
        clear hft hem hnx
        generalize l[k] = x at *
        generalize joinS (flt (l.take k)) = r at *
        unfold strV at hcell
        go_wp2_with fail
        go_roundg g
        case measure => omega
        case rel => exact ⟨k + 1, by omega, by simp, by rw [HFT.out], rfl⟩
      | false =>
        rw [hem] at hft heq
        rw [if_neg (by decide)] at hft
        have hjs := congrArg joinS hft
        rw [joinS_flt_snoc (flt_ne _)] at hjs
        have hbr := bne_nil (joinS (flt (l.take k)))
        clear hft hem
        generalize l[k] = x at *
        obtain ⟨r2, hr2⟩ : ∃ r, joinS (flt (l.take (k + 1))) = r := ⟨_, rfl⟩
        rw [hr2] at hjs hnx
        have HR2 := Keep.keep hr2
        clear hr2
        generalize joinS (flt (l.take k)) = r at *
        unfold strV at hcell
        cases her : r.isEmpty with
        | true =>
          rw [her, if_pos rfl] at hjs
          rw [her] at hbr
          have hre : r = [] := List.isEmpty_iff.1 her
          have hcat := run_cat (P := Tryz.prog) r x (by rw [hre]; simp; rw [← hjs]; omega)
          rw [show r ++ x = r2 by rw [hre, hjs]; rfl] at hcat
          have HJS := Keep.keep hjs
          clear hre her hnx hjs
          go_wp2_with fail
          go_roundg g
          case measure => omega
          case rel => exact ⟨k + 1, by omega, by simp, by rw [HR2.out, HJS.out], rfl⟩
        | false =>
          rw [her, if_neg (by decide)] at hjs
          rw [her] at hbr
          have hlen : r2.length = r.length + 1 + x.length := by rw [hjs]; simp; omega
          have hcat1 := run_cat (P := Tryz.prog) r [47] (by simp; omega)
          have hcat := run_cat (P := Tryz.prog) (r ++ [47]) x (by simp; omega)
          rw [← hjs] at hcat
          generalize r ++ [47] = r1 at *
          clear her hjs hlen hnx
          go_wp2_with fail
          go_roundg g
          case measure => omega
          case rel => exact ⟨k + 1, by omega, by simp, by rw [HR2.out], rfl⟩
set_option maxHeartbeats 1000000 in
theorem rcut_any (p : List UInt8) (hp : p.length ≤ 1000000) (w : World) : Calls Tryz.prog 74 #[.string ⟨p.toArray⟩] w fun e w' => e = .returned (.int .i64 ((cutAt p : Int) - 1)) ∧ w = w' := by
  go_enter Tryz.func74, Tryz.ntmps74
  go_wp2_with fail
  go_loopg [3, 4] p.length (fun g u3 u4 wx => ∃ k : Nat, k + g = p.length ∧ u4 = .int .i64 (k : Int) ∧ u3 = .int .i64 ((cutAt (p.take k) : Int) - 1) ∧ w = wx)
  case atStart => exact ⟨0, by omega, rfl, rfl, rfl⟩
  case round =>
    obtain ⟨k, hkg, rfl, rfl, rfl⟩ := hrel
    cases gk with
    | zero =>
      obtain rfl : k = p.length := by omega
      have HO : Keep ((cutAt (p.take p.length) : Int) - 1 = (cutAt p : Int) - 1) := ⟨by rw [List.take_length]⟩
      generalize (cutAt (p.take p.length) : Int) - 1 = r at *
      go_wp2_with fail
      go_ret
      exact ⟨by rw [HO.out]; rfl, rfl⟩
    | succ g =>
      have hk : k < p.length := by omega
      have hidx := run_index_str (P := Tryz.prog) Tryz.underlying9 ⟨p.toArray⟩ .i64 k p[k] (by simp [hk])
      have hgi : (⟨p.toArray⟩ : ByteArray)[k]'(hk) = p[k] := rfl
      have hsu := cutAt_take p k hk
      by_cases h47 : p[k] = 47
      · rw [if_pos h47] at hsu
        rw [h47] at hgi hidx
        have HS : Keep ((cutAt (p.take (k + 1)) : Int) - 1 = k) := ⟨by rw [hsu]; omega⟩
        clear hsu h47
        generalize (cutAt (p.take k) : Int) - 1 = r at *
        go_wp2_with fail
        go_roundg g
        case measure => omega
        case rel => exact ⟨k + 1, by omega, by simp, by rw [HS.out], rfl⟩
      · rw [if_neg h47] at hsu
        have HS : Keep ((cutAt (p.take (k + 1)) : Int) - 1 = (cutAt (p.take k) : Int) - 1) := ⟨by rw [hsu]⟩
        have hne : ((p[k].toNat : Int) == 47) = false := by
          rw [beq_eq_false_iff_ne]; intro e; exact h47 (UInt8.toNat_inj.1 (by show p[k].toNat = 47; omega))
        clear hsu h47
        generalize p[k] = c at *
        generalize (cutAt (p.take k) : Int) - 1 = r at *
        go_wp2_with fail
        go_roundg g
        case measure => omega
        case rel => exact ⟨k + 1, by omega, by simp, by rw [HS.out], rfl⟩
set_option maxHeartbeats 1000000 in
theorem rparent_any (p : List UInt8) (hp : p.length ≤ 1000000) (w : World) : Calls Tryz.prog 46 #[.string ⟨p.toArray⟩] w fun e w' => e = .returned (.string ⟨(parentP p).toArray⟩) ∧ w = w' := by
  have HL := Keep.keep (fun w => rcut_any p hp w)
  have hle := cutAt_le p
  have hk := run_slice_to (P := Tryz.prog) Tryz.underlying9 p .i64 (cutAt p - 1) (by omega)
  rw [show p.take (cutAt p - 1) = parentP p from rfl] at hk
  rcases Nat.eq_zero_or_pos (cutAt p) with h0 | h0
  · have he : parentP p = [] := by unfold parentP; rw [h0]; rfl
    rw [h0] at HL
    rw [he]
    clear he h0 hk
    go_enter Tryz.func46, Tryz.ntmps46
    go_wp2_with fail
    refine (HL.out _).mono ?_
    rintro e w1 ⟨rfl, rfl⟩
    go_wp2_with fail
    go_ret
    exact ⟨rfl, rfl⟩
  · rw [show (cutAt p : Int) - 1 = ((cutAt p - 1 : Nat) : Int) by omega] at HL
    generalize cutAt p - 1 = n at *
    generalize parentP p = q at *
    have hd : decide ((n : Int) < 0) = false := decide_eq_false (by omega)
    go_enter Tryz.func46, Tryz.ntmps46
    go_wp2_with fail
    refine (HL.out _).mono ?_
    rintro e w1 ⟨rfl, rfl⟩
    go_wp2_with fail
    go_ret
    exact ⟨rfl, rfl⟩
set_option maxHeartbeats 1000000 in
theorem rbase_any (p : List UInt8) (hp : p.length ≤ 1000000) (w : World) : Calls Tryz.prog 82 #[.string ⟨p.toArray⟩] w fun e w' => e = .returned (.string ⟨(baseP p).toArray⟩) ∧ w = w' := by
  have HL := Keep.keep (fun w => rcut_any p hp w)
  have hle := cutAt_le p
  have hk := run_slice_from (P := Tryz.prog) Tryz.underlying9 p .i64 (cutAt p) (by omega)
  rw [show p.drop (cutAt p) = baseP p from rfl] at hk
  have hm : (cutAt p : Int) - 1 + 1 = ((cutAt p : Nat) : Int) := by omega
  have hr : -1 ≤ (cutAt p : Int) - 1 ∧ (cutAt p : Int) - 1 ≤ 1000000 := by omega
  generalize (cutAt p : Int) - 1 = t at *
  generalize cutAt p = n at *
  generalize baseP p = q at *
  clear hle
  go_enter Tryz.func82, Tryz.ntmps82
  go_wp2_with fail
  refine (HL.out _).mono ?_
  rintro e w1 ⟨rfl, rfl⟩
  go_wp2_with fail
  go_ret
  exact ⟨rfl, rfl⟩
set_option maxHeartbeats 1000000 in
theorem runder_any (d p : List UInt8) (hd : d.length ≤ 1000000) (w : World) :
    Calls Tryz.prog 81 #[.string ⟨d.toArray⟩, .string ⟨p.toArray⟩] w fun e w' => e = .returned (.bool (underP d p)) ∧ w = w' := by
  have HP : Keep (∀ w, Calls Tryz.prog 78 #[.string ⟨p.toArray⟩, .string ⟨(d ++ [47]).toArray⟩] w fun e w' => e = .returned (.bool ((d ++ [47]).isPrefixOf p)) ∧ w = w') := ⟨fun w => begins_any _ _ w⟩
  have e1 := bne_nil p
  have e2 := bne_nil d
  have hc := run_cat (P := Tryz.prog) d [47] (by simp; omega)
  unfold underP
  generalize p.isEmpty = b1 at *
  generalize d.isEmpty = b2 at *
  generalize (d ++ [47]).isPrefixOf p = b3 at *
  generalize d ++ [47] = q at *
  cases b1 with
  | true =>
    go_enter Tryz.func81, Tryz.ntmps81
    go_wp2_with fail
    go_ret
    exact ⟨rfl, rfl⟩
  | false =>
  cases b2 with
  | true =>
    go_enter Tryz.func81, Tryz.ntmps81
    go_wp2_with fail
    go_ret
    exact ⟨rfl, rfl⟩
  | false =>
    go_enter Tryz.func81, Tryz.ntmps81
    go_wp2_with fail
    refine (HP.out _).mono ?_
    rintro e w2 ⟨rfl, rfl⟩
    go_wp2_with fail
    go_ret
    exact ⟨rfl, rfl⟩
end Go.Proofs.YtphgmkhbhboklaaGreatDoor
/- PATHS CLEANED: plain facts. -/
namespace Go.Proofs.YtphgmkhbhboklaaGreatDoor
/-- a slash becomes two, a dot between, and a slash more -/
def repl : List UInt8 → List UInt8
  | [] => []
  | c :: l => if c = 47 then 47 :: 46 :: 47 :: 47 :: repl l else c :: repl l
theorem repl_none : ∀ {a : List UInt8}, (∀ x ∈ a, x ≠ 47) → repl a = a
  | [], _ => rfl
  | c :: a, h => by rw [repl, if_neg (h c (by simp)), repl_none (fun x hx => h x (by simp [hx]))]
theorem repl_cut : ∀ {a : List UInt8} (b : List UInt8), (∀ x ∈ a, x ≠ 47) → repl (a ++ 47 :: b) = a ++ [47, 46, 47, 47] ++ repl b
  | [], b, _ => by rw [List.nil_append, repl, if_pos rfl]; rfl
  | c :: a, b, h => by
    rw [List.cons_append, repl, if_neg (h c (by simp)), repl_cut b (fun x hx => h x (by simp [hx]))]; rfl
theorem repl_len : ∀ a : List UInt8, (repl a).length ≤ 4 * a.length
  | [] => by simp [repl]
  | c :: a => by
    have := repl_len a
    unfold repl
    split <;> simp <;> omega
theorem replaceK_repl : ∀ (k : Nat) (l : List UInt8), l.count 47 = k → Lib.replaceK [47] [47, 46, 47, 47] k l = repl l
  | 0, l, h => by
    rw [repl_none (fun x hx e => by subst e; exact absurd hx (List.count_eq_zero.1 h))]; rfl
  | k + 1, l, h => by
    rcases first_of 47 l with ⟨h1, h2⟩ | ⟨o, h1, h2, h3, h4⟩
    · exfalso
      have : l.count 47 = 0 := List.count_eq_zero.2 (fun hm => h2 47 hm rfl)
      omega
    · have hc : (l.drop (o + 1)).count 47 = k := by
        rw [h3, List.count_append, List.count_cons_self, List.count_eq_zero.2 (fun hm => h4 47 hm rfl)] at h
        omega
      rw [Lib.replaceK_hit [47] [47, 46, 47, 47] k l o (by rw [Lib.index_one]; exact h1)]
      conv => rhs; rw [h3]
      rw [repl_cut _ h4, ← replaceK_repl k _ hc]
      rfl
theorem replaceAll_repl (l : List UInt8) : Lib.replaceAll l [47] [47, 46, 47, 47] = repl l := by
  unfold Lib.replaceAll Lib.replace Lib.replaceNum
  rw [if_neg (by decide), if_pos (.inl (by decide)), Lib.count_one]
  exact replaceK_repl _ _ rfl
/-- parts that are none, put between -/
def ilv : List (List UInt8) → List (List UInt8)
  | [] => []
  | [x] => [x]
  | x :: y :: r => x :: [46] :: [] :: ilv (y :: r)
theorem spl_cons (c : UInt8) (l : List UInt8) : spl (c :: l) = if c = 47 then [] :: spl l else match spl l with | [] => [[c]] | h :: t => (c :: h) :: t := rfl
theorem spl_repl : ∀ l, spl (repl l) = ilv (spl l)
  | [] => rfl
  | c :: l => by
    have ih := spl_repl l
    have hne := spl_ne l
    rw [repl, spl_cons]
    by_cases hc : c = 47
    · rw [if_pos hc, if_pos hc]
      cases hs : spl l with
      | nil => exact absurd hs hne
      | cons h t =>
        rw [hs] at ih
        rw [spl_cons, if_pos rfl, spl_cons, if_neg (by decide), spl_cons, if_pos rfl, spl_cons, if_pos rfl, ih, ilv]
    · rw [if_neg hc, if_neg hc, spl_cons, if_neg hc, ih]
      cases hs : spl l with
      | nil => exact absurd hs hne
      | cons h t =>
        cases t with
        | nil => rfl
        | cons y r => rfl
abbrev keepB (s : List UInt8) : Bool := !(s.isEmpty || s == [46])
theorem ilv_filter : ∀ l, (ilv l).filter keepB = l.filter keepB
  | [] => rfl
  | [x] => rfl
  | x :: y :: r => by
    have ih := ilv_filter (y :: r)
    rw [ilv, List.filter_cons, List.filter_cons (x := x) (xs := y :: r), ← ih]
    rfl
theorem ilv_contains : ∀ l, (ilv l).contains [46, 46] = l.contains [46, 46]
  | [] => rfl
  | [x] => rfl
  | x :: y :: r => by
    have ih := ilv_contains (y :: r)
    rw [ilv, List.contains_cons, List.contains_cons (a := x), ← ih]
    rfl
def wrapR (raw : List UInt8) : List UInt8 := [46, 47] ++ repl raw ++ [47, 46]
theorem spl_wrapR (raw : List UInt8) : spl (wrapR raw) = [46] :: (ilv (spl raw) ++ [[46]]) := by
  have h : wrapR raw = [46] ++ 47 :: (repl raw ++ 47 :: [46]) := by unfold wrapR; simp
  rw [h, spl_cut _ (by decide), spl_app _ [46] (by decide), spl_repl]
theorem repl_zero : ∀ l : List UInt8, (repl l).contains 0 = l.contains 0
  | [] => rfl
  | c :: l => by
    have ih := repl_zero l
    rw [repl]
    by_cases hc : c = 47
    · rw [if_pos hc, List.contains_cons, List.contains_cons, List.contains_cons, List.contains_cons, ih, List.contains_cons (a := c), hc]
      simp
    · rw [if_neg hc, List.contains_cons, ih, List.contains_cons (a := c)]
theorem clean_wrapR {raw : List UInt8} (h : ([47] : List UInt8).isPrefixOf raw = false) : cleanP (wrapR raw) = cleanP raw := by
  have h1 : (wrapR raw).contains 0 = raw.contains 0 := by
    rw [← repl_zero raw]
    unfold wrapR
    cases hc : (repl raw).contains 0 <;> simp_all
  have h2 : ([47] : List UInt8).isPrefixOf (wrapR raw) = false := rfl
  have h3 : (spl (wrapR raw)).contains [46, 46] = (spl raw).contains [46, 46] := by
    rw [spl_wrapR, ← ilv_contains (spl raw)]
    cases hc : (ilv (spl raw)).contains [46, 46] <;> simp_all
  have h4 : keptP (wrapR raw) = keptP raw := by
    show (spl (wrapR raw)).filter keepB = (spl raw).filter keepB
    rw [spl_wrapR, List.filter_cons, List.filter_append, ilv_filter]
    simp [keepB]
  unfold cleanP
  rw [h1, h2, h3, h4, h]
theorem clean_slash (raw : List UInt8) : cleanP (47 :: raw) = ([], 30) := by
  unfold cleanP
  rw [if_pos]
  have : ([47] : List UInt8).isPrefixOf (47 :: raw) = true := by simp [List.isPrefixOf]
  rw [this]; simp
theorem clean_behind (raw : List UInt8) : cleanP (raw ++ [47, 46, 46]) = ([], 30) := by
  unfold cleanP
  rw [if_pos]
  have : (spl (raw ++ [47, 46, 46])).contains [46, 46] = true := by
    rw [show raw ++ [47, 46, 46] = raw ++ 47 :: [46, 46] from rfl, spl_app _ _ (by decide)]; simp
  rw [this]; simp
theorem clean_ahead (raw : List UInt8) : cleanP ([46, 46, 47] ++ raw) = ([], 30) := by
  unfold cleanP
  rw [if_pos]
  have : (spl ([46, 46, 47] ++ raw)).contains [46, 46] = true := by
    rw [show [46, 46, 47] ++ raw = [46, 46] ++ 47 :: raw from rfl, spl_cut _ (by decide)]; simp
  rw [this]; simp
/-- what is cleaned is clean -/
structure Cleaned (p : List UInt8) : Prop where
  each : ∀ s ∈ splitP p, s.isEmpty = false ∧ (s == [46]) = false ∧ (s == [46, 46]) = false ∧ s.length ≤ 255 ∧ s.any (([47, 0] : List UInt8).contains ·) = false
  again : cleanP p = (p, 0)
  len : p.length ≤ 4096
inductive CleanR (raw : List UInt8) : Prop
  | path (h : cleanP raw = ([], 30))
  | long (h : cleanP raw = ([], 3)) (hs : ([47] : List UInt8).isPrefixOf raw = false)
  | ok (p : List UInt8) (h : cleanP raw = (p, 0)) (hs : ([47] : List UInt8).isPrefixOf raw = false) (hc : Cleaned p)
theorem mem_joinS : ∀ (l : List (List UInt8)) (c : UInt8), c ∈ joinS l → c = 47 ∨ ∃ x ∈ l, c ∈ x
  | [], c, h => by cases h
  | [x], c, h => .inr ⟨x, by simp, h⟩
  | x :: y :: r, c, h => by
    rw [joinS] at h
    rcases List.mem_append.1 h with h | h
    · exact .inr ⟨x, by simp, h⟩
    · rcases List.mem_cons.1 h with h | h
      · exact .inl h
      · rcases mem_joinS (y :: r) c h with h | ⟨z, hz, hc⟩
        · exact .inl h
        · exact .inr ⟨z, by simp [hz], hc⟩
theorem mem_spl : ∀ (l : List UInt8), ∀ x ∈ spl l, ∀ c ∈ x, c ∈ l
  | [], x, hx, c, hc => by simp [spl] at hx; subst hx; cases hc
  | a :: l, x, hx, c, hc => by
    have ih := mem_spl l
    rw [spl_cons] at hx
    split at hx
    · rcases List.mem_cons.1 hx with rfl | hx
      · cases hc
      · exact List.mem_cons_of_mem _ (ih x hx c hc)
    · split at hx
      · obtain rfl := List.mem_singleton.1 hx
        simp at hc; simp [hc]
      · rename_i h t he
        rw [he] at ih
        rcases List.mem_cons.1 hx with rfl | hx
        · rcases List.mem_cons.1 hc with rfl | hc
          · simp
          · exact List.mem_cons_of_mem _ (ih h (by simp) c hc)
        · exact List.mem_cons_of_mem _ (ih x (by simp [hx]) c hc)
theorem cleanR (raw : List UInt8) : CleanR raw := by
  cases hA : (raw.contains 0 || ([47] : List UInt8).isPrefixOf raw || (spl raw).contains [46, 46]) with
  | true => exact .path (by unfold cleanP; rw [hA]; rfl)
  | false =>
    have hs : ([47] : List UInt8).isPrefixOf raw = false := by
      simp only [Bool.or_eq_false_iff] at hA; exact hA.1.2
    have h0 : raw.contains 0 = false := by
      simp only [Bool.or_eq_false_iff] at hA; exact hA.1.1
    have hd : (spl raw).contains [46, 46] = false := by
      simp only [Bool.or_eq_false_iff] at hA; exact hA.2
    cases hB : (decide (255 < (keptP raw).length) || decide (4096 < (joinS (keptP raw)).length) || (keptP raw).any (fun s => decide (255 < s.length))) with
    | true => exact .long (by unfold cleanP; rw [hA, hB]; rfl) hs
    | false =>
      refine .ok (joinS (keptP raw)) (by unfold cleanP; rw [hA, hB]; rfl) hs ?_
      have hB2 := hB
      simp only [Bool.or_eq_false_iff, decide_eq_false_iff_not] at hB2
      obtain ⟨⟨b1, b2⟩, b3⟩ := hB2
      have hk : ∀ s ∈ keptP raw, s ≠ [] ∧ s ≠ [46] ∧ s ∈ spl raw := fun s hs => by
        obtain ⟨h1, h2⟩ := List.mem_filter.1 hs
        simp only [Bool.not_eq_true', Bool.or_eq_false_iff, beq_eq_false_iff_ne] at h2
        refine ⟨fun e => ?_, h2.2, h1⟩
        rw [e] at h2; simp at h2
      have hns : NoSl (keptP raw) := fun x hx c hc => spl_nosl raw x (hk x hx).2.2 c hc
      have hne0 : joinS (keptP raw) = [] → keptP raw = [] := fun e => by
        cases hq : keptP raw with
        | nil => rfl
        | cons x r =>
          rw [hq] at e
          have hx := (hk x (by rw [hq]; simp)).1
          cases r with
          | nil => exact absurd e hx
          | cons y r => rw [joinS] at e; simp at e
      have hsp : splitP (joinS (keptP raw)) = keptP raw := by
        unfold splitP
        by_cases he : joinS (keptP raw) = []
        · rw [if_pos he, hne0 he]
        · rw [if_neg he]
          exact spl_joinS _ (fun e => he (by rw [e]; rfl)) hns
      have hz : ∀ s ∈ keptP raw, ∀ c ∈ s, c ≠ 0 := fun s hs c hc e => by
        have := mem_spl raw s (hk s hs).2.2 c hc
        rw [e] at this
        have h9 : raw.contains 0 = true := by simpa using this
        rw [h0] at h9; cases h9
      have hdd : ∀ s ∈ keptP raw, s ≠ [46, 46] := fun s hs e => by
        have := (hk s hs).2.2
        rw [e] at this
        have h9 : (spl raw).contains [46, 46] = true := by simpa using this
        rw [hd] at h9; cases h9
      refine ⟨?_, ?_, by omega⟩
      · rw [hsp]
        intro s hs
        obtain ⟨k1, k2, k3⟩ := hk s hs
        refine ⟨by cases s with | nil => exact absurd rfl k1 | cons c s => rfl, beq_eq_false_iff_ne.2 k2, beq_eq_false_iff_ne.2 (hdd s hs), ?_, ?_⟩
        · have := List.any_eq_false.1 b3 s hs
          simp at this; omega
        · rw [List.any_eq_false]
          intro c hc
          have e1 := hns s hs c hc
          have e2 := hz s hs c hc
          simp [e1, e2]
      · have g1 : (joinS (keptP raw)).contains 0 = false := by
          cases hq : (joinS (keptP raw)).contains 0 with
          | false => rfl
          | true =>
            have hm : (0 : UInt8) ∈ joinS (keptP raw) := by simpa using hq
            rcases mem_joinS _ _ hm with e | ⟨x, hx, hc⟩
            · exact absurd e (by decide)
            · exact absurd rfl (hz x hx 0 hc)
        by_cases he : keptP raw = []
        · rw [he]; decide
        · have hj : joinS (keptP raw) ≠ [] := fun e => he (hne0 e)
          have hspl : spl (joinS (keptP raw)) = keptP raw := spl_joinS _ he hns
          have g2 : ([47] : List UInt8).isPrefixOf (joinS (keptP raw)) = false := by
            cases hq : keptP raw with
            | nil => exact absurd hq he
            | cons x r =>
              have hx := (hk x (by rw [hq]; simp)).1
              have hxs := hns x (by rw [hq]; simp)
              cases x with
              | nil => exact absurd rfl hx
              | cons c x =>
                have hc := hxs c (by simp)
                have hcc : (47 == c) = false := beq_eq_false_iff_ne.2 (fun e => hc e.symm)
                cases r with
                | nil => simp [joinS, List.isPrefixOf, hcc]
                | cons y r => simp [joinS, List.isPrefixOf, hcc]
          have g3 : (spl (joinS (keptP raw))).contains [46, 46] = false := by
            rw [hspl]
            cases hq : (keptP raw).contains [46, 46] with
            | false => rfl
            | true => exact absurd rfl (hdd [46, 46] (by simpa using hq))
          have g4 : keptP (joinS (keptP raw)) = keptP raw := by
            show (spl (joinS (keptP raw))).filter keepB = keptP raw
            rw [hspl, List.filter_eq_self]
            intro s hs
            obtain ⟨k1, k2, -⟩ := hk s hs
            have e1 : s.isEmpty = false := by cases s with | nil => exact absurd rfl k1 | cons c s => rfl
            have e2 : (s == [46]) = false := beq_eq_false_iff_ne.2 k2
            simp [keepB, e1, e2]
          unfold cleanP
          rw [g1, g2, g3, g4, hB]; rfl
end Go.Proofs.YtphgmkhbhboklaaGreatDoor
/- portolanref11: Whiteout, Opaque, Clean. -/
namespace Go.Proofs.YtphgmkhbhboklaaGreatDoor
open Go.RowKit
/-- the parts that stay, of the cut text -/
abbrev kpt (l : List (List UInt8)) : List (List UInt8) := l.filter keepB
theorem kpt_take {l : List (List UInt8)} {k : Nat} (hk : k < l.length) : kpt (l.take (k + 1)) = if keepB l[k] then kpt (l.take k) ++ [l[k]] else kpt (l.take k) := by
  rw [List.take_succ_eq_append_getElem hk, kpt, List.filter_append]
  by_cases h : keepB l[k] = true
  · rw [List.filter_cons_of_pos h, if_pos h]; rfl
  · rw [List.filter_cons_of_neg h, if_neg h]; simp
theorem kpt_split (p : List UInt8) : keptP p = kpt (splitP p) := by
  unfold splitP
  split
  · rename_i h; subst h; rfl
  · rfl
theorem dots_split (p : List UInt8) : (spl p).contains [46, 46] = (splitP p).contains [46, 46] := by
  unfold splitP
  split
  · rename_i h; subst h; rfl
  · rfl
theorem kpt_joinP (p : List UInt8) : joinP (kpt (splitP p)) = joinS (keptP p) := by
  unfold joinP
  rw [← kpt_split]
  congr 1
  rw [List.filter_eq_self]
  intro x hx
  have := (List.mem_filter.1 hx).2
  cases x with
  | nil => cases this
  | cons c x => rfl
end Go.Proofs.YtphgmkhbhboklaaGreatDoor
/- what the document says a class is, and what the program's class is: the same. -/
namespace Go.Proofs.YtphgmkhbhboklaaGreatDoor
def refT (p base dir : List UInt8) : Int × List UInt8 := if mayN base then (1, p) else if base == markB then (3, dir) else if whiteB.isPrefixOf base && mayN (base.drop 4) then (2, joinP [dir, base.drop 4]) else (0, [])
def refF (ct : Int × List UInt8) : Int × List UInt8 := if ct.1 == 0 || !mayP ct.2 then (0, []) else ct
def refC (p : List UInt8) (init : List (List UInt8)) (base : List UInt8) : Int × List UInt8 := if init.all mayN then refF (refT p base (joinP init)) else (0, [])
theorem split_parts {p : List UInt8} (h0 : p ≠ []) : ∃ init base, splitP p = init ++ [base] ∧ (∀ x ∈ base, x ≠ 47) ∧ ((init = [] ∧ p = base) ∨ ∃ d, init = spl d ∧ p = d ++ 47 :: base) := by
  rcases path_cases p with ⟨-, -, -, hn⟩ | ⟨d, b, rfl, hn, -⟩
  · exact ⟨[], p, splitP_one hn h0, hn, .inl ⟨rfl, rfl⟩⟩
  · exact ⟨spl d, b, splitP_app hn, hn, .inr ⟨d, rfl, rfl⟩⟩
theorem may_app {d b : List UInt8} (hb : ∀ x ∈ b, x ≠ 47) (h : mayP (d ++ 47 :: b) = true) : (spl d).all mayN = true ∧ mayN b = true := by
  obtain ⟨-, -, h3⟩ := may_parts h
  rw [splitP_app hb, List.all_append] at h3
  simp only [Bool.and_eq_true] at h3
  exact ⟨h3.1, by simpa using h3.2⟩
theorem join_spl {d : List UInt8} (h : (spl d).all mayN = true) : joinP (spl d) = d := by rw [joinP_may h, joinS_spl]
theorem class_ref {p base : List UInt8} {init : List (List UInt8)} (h0 : p ≠ []) (ht : (p == tableB) = false) (hb : ∀ x ∈ base, x ≠ 47) (hc : (init = [] ∧ p = base) ∨ ∃ d, init = spl d ∧ p = d ++ 47 :: base) : classP p = refC p init base := by
  rcases hc with ⟨rfl, rfl⟩ | ⟨d, rfl, rfl⟩
  · obtain ⟨g1, g2, -⟩ := dir_none hb
    unfold classP refC
    rw [ht, g1, g2, show joinP [] = ([] : List UInt8) from rfl]
    cases h1 : p == markB with
    | true => have := beq_iff_eq.1 h1; subst this; decide
    | false =>
      cases h2 : whiteB.isPrefixOf p with
      | true =>
        obtain ⟨b, rfl⟩ := List.isPrefixOf_iff_prefix.1 h2
        have hl : lastC (whiteB ++ b) = 2 := by unfold lastC; rw [h1, h2]; rfl
        have hdr : (whiteB ++ b).drop 4 = b := List.drop_left (l₁ := whiteB)
        have hg : tgtC 2 [] (whiteB ++ b) = b := by show [] ++ (whiteB ++ b).drop 4 = b; rw [hdr]; rfl
        have hj : joinP [[], b] = b := by rw [joinP_two, if_pos rfl]
        unfold refT
        rw [hl, hg, hdr, white_not_may, h1, h2, hj]
        cases hn : mayN b with
        | false => simp [refF]
        | true =>
          have he : b.isEmpty = false := by cases b with | nil => cases hn | cons c b => rfl
          rw [he]
          unfold refF
          cases hm : mayP b <;> simp [hm]
      | false =>
        have hl : lastC p = 1 := by unfold lastC; rw [h1, h2]; rfl
        have hg : tgtC 1 [] p = p := rfl
        have he : p.isEmpty = false := by cases p with | nil => exact absurd rfl h0 | cons c b => rfl
        unfold refT
        rw [hl, hg, h1, h2, he]
        cases hm : mayP p with
        | true =>
          have hn := may_base hm h0
          rw [g2] at hn
          rw [hn]; simp [refF, hm]
        | false =>
          cases hn : mayN p <;> simp [refF, hm]
  · obtain ⟨g1, g2, -⟩ := dir_of (d := d) hb
    unfold classP refC
    rw [ht, g1, g2]
    by_cases hd : d = []
    · subst hd
      have : (spl []).all mayN = false := rfl
      rw [this]; simp
    · rw [ne_slash hd]
      cases h1 : base == markB with
      | true =>
        have := beq_iff_eq.1 h1; subst this
        have hg : tgtC 3 (d ++ [47]) markB = d := trimSl_app d
        rw [lastC_mark, hg]
        have hn : mayN markB = false := by decide
        unfold refT
        rw [hn, h1]
        cases hm : mayP d with
        | true =>
          obtain ⟨-, -, ha⟩ := may_parts hm
          rw [show splitP d = spl d by unfold splitP; rw [if_neg hd]] at ha
          rw [ha, join_spl ha]
          simp [refF, hm]
        | false =>
          cases ha : (spl d).all mayN with
          | false => simp
          | true => rw [join_spl ha]; simp [refF, hm]
      | false =>
        cases h2 : whiteB.isPrefixOf base with
        | true =>
          obtain ⟨b, rfl⟩ := List.isPrefixOf_iff_prefix.1 h2
          have hbb : ∀ x ∈ b, x ≠ 47 := fun x hx => hb x (List.mem_append_right _ hx)
          have hl : lastC (whiteB ++ b) = 2 := by unfold lastC; rw [h1, h2]; rfl
          have hdr : (whiteB ++ b).drop 4 = b := List.drop_left (l₁ := whiteB)
          have hg : tgtC 2 (d ++ [47]) (whiteB ++ b) = d ++ 47 :: b := by show (d ++ [47]) ++ (whiteB ++ b).drop 4 = _; rw [hdr]; simp
          unfold refT
          rw [hl, hg, hdr, white_not_may, h1, h2]
          have he : (d ++ 47 :: b).isEmpty = false := by simp
          rw [he]
          cases hn : mayN b with
          | false => cases ha : (spl d).all mayN <;> simp [refF]
          | true =>
            have hbn : b ≠ [] := by rintro rfl; cases hn
            cases ha : (spl d).all mayN with
            | true =>
              rw [join_spl ha, joinP_two, if_neg hd, if_neg hbn]
              cases hm : mayP (d ++ 47 :: b) <;> simp [refF, hm]
            | false =>
              have hm : mayP (d ++ 47 :: b) = false := by
                cases hm : mayP (d ++ 47 :: b) with
                | false => rfl
                | true => rw [(may_app hbb hm).1] at ha; cases ha
              rw [hm]; simp
        | false =>
          have hl : lastC base = 1 := by unfold lastC; rw [h1, h2]; rfl
          have hg : tgtC 1 (d ++ [47]) base = d ++ 47 :: base := by show (d ++ [47]) ++ base = _; simp
          unfold refT
          rw [hl, hg, h1, h2]
          have he : (d ++ 47 :: base).isEmpty = false := by simp
          rw [he]
          cases hm : mayP (d ++ 47 :: base) with
          | true =>
            obtain ⟨ha, hn⟩ := may_app hb hm
            rw [ha, hn]; simp [refF, hm]
          | false =>
            cases ha : (spl d).all mayN with
            | false => simp
            | true => cases hn : mayN base <;> simp [refF, hm]
end Go.Proofs.YtphgmkhbhboklaaGreatDoor
/- portolanref11.Class. -/
namespace Go.Proofs.YtphgmkhbhboklaaGreatDoor
open Go.RowKit
theorem rclass_tab (p : List UInt8) (ht : (p == tableB) = true) (w : World) :
    Calls Tryz.prog 47 #[.string ⟨p.toArray⟩] w fun e w' => e = .returned (.tuple #[.int .i64 (classP p).1, .string ⟨(classP p).2.toArray⟩]) ∧ Below w.heap.size w w' := by
  have HE : Keep (classP p = (4, [])) := ⟨by unfold classP; rw [ht]; rfl⟩
  have htab : (p == [46, 119, 104, 46, 46, 119, 104, 46, 116, 111, 99]) = true := ht
  clear ht
  go_enter Tryz.func47, Tryz.ntmps47
  go_wp2_with fail
  go_ret2
  exact ⟨by rw [HE.out]; rfl, Below.refl _ _⟩
theorem rclass_nil (w : World) :
    Calls Tryz.prog 47 #[.string ⟨#[]⟩] w fun e w' => e = .returned (.tuple #[.int .i64 (classP []).1, .string ⟨(classP []).2.toArray⟩]) ∧ Below w.heap.size w w' := by
  have HE : Keep (classP [] = (0, [])) := ⟨by decide⟩
  have HS : Keep (Calls Tryz.prog 75 #[.string ⟨#[]⟩] w fun e w' => ∃ v, e = .returned v ∧ OwnS w' w.heap.size v (splitP []) ∧ Below w.heap.size w w') := ⟨rsplit_any [] (by simp) w⟩
  go_enter Tryz.func47, Tryz.ntmps47
  go_wp2_with fail
  refine HS.out.mono ?_
  rintro e w1 ⟨v, rfl, ho, hb⟩
  have HB := Keep.keep hb
  obtain ⟨a, c, hv, -⟩ := (ownsV_reads ho).shape
  rw [show (splitP []).length = 0 from rfl] at hv
  subst hv
  clear ho hb
  go_wp2_with fail
  go_ret2
  exact ⟨by rw [HE.out]; rfl, HB.out⟩
set_option maxHeartbeats 8000000 in
set_option maxRecDepth 100000 in
theorem rclass_any (p : List UInt8) (hp4 : p.length ≤ 400000) (w : World) :
    Calls Tryz.prog 47 #[.string ⟨p.toArray⟩] w fun e w' => e = .returned (.tuple #[.int .i64 (classP p).1, .string ⟨(classP p).2.toArray⟩]) ∧ Below w.heap.size w w' := by
  cases ht : p == tableB with
  | true => exact rclass_tab p ht w
  | false =>
  by_cases h0 : p = []
  · subst h0; exact rclass_nil w
  have hp : p.length ≤ 1000000 := by omega
  obtain ⟨init, base, hsp, hbn, hcs⟩ := split_parts h0
  have HS := Keep.keep (rsplit_any p hp w)
  have HE : Keep (classP p = refC p init base) := ⟨class_ref h0 ht hbn hcs⟩
  have hml := splitP_mem_len p
  have hlen : (splitP p).length ≤ p.length + 1 := by
    have := spl_length p
    unfold splitP; split
    · simp
    · omega
  have hj0 : (joinP init).length ≤ p.length := by
    rcases hcs with ⟨rfl, -⟩ | ⟨d, rfl, rfl⟩
    · simp [joinP, joinS]
    · have := joinS_filter_len (fun x => !x.isEmpty) (spl d) (spl_ne d)
      rw [joinS_spl] at this
      unfold joinP
      simp
      omega
  rw [hsp] at HS hml hlen
  have hbl : base.length ≤ p.length := hml base (by simp)
  have hil : init.length ≤ p.length := by simp at hlen; omega
  have HMN : Keep (∀ x ∈ init, ∀ w, Calls Tryz.prog 76 #[.string ⟨x.toArray⟩] w fun e w' => e = .returned (.bool (mayN x)) ∧ w = w') := ⟨fun x hx w => rmayname_any x (Nat.le_trans (hml x (by simp [hx])) hp) w⟩
  have HMB := Keep.keep (fun w => rmayname_any base (by omega) w)
  have HMD := Keep.keep (fun w => rmayname_any (base.drop 4) (by simp; omega) w)
  have HBG : Keep (∀ w, Calls Tryz.prog 78 #[.string ⟨base.toArray⟩, .string ⟨#[46, 119, 104, 46]⟩] w fun e w' => e = .returned (.bool (whiteB.isPrefixOf base)) ∧ w = w') := ⟨fun w => begins_any base whiteB w⟩
  have HMP := Keep.keep (fun w => rmay_any p hp w)
  have HMJ := Keep.keep (fun w => rmay_any (joinP init) (by omega) w)
  have hj2 := joinP_two_len (joinP init) (base.drop 4)
  have hdl : (base.drop 4).length ≤ base.length := by simp
  have HMT := Keep.keep (fun w => rmay_any (joinP [joinP init, base.drop 4]) (by omega) w)
  have HJ1 := Keep.keep (fun v w (h : RdS w (· < w.heap.size) v init) => rjoin_any v init w h (by omega) (by omega))
  have HJ2 := Keep.keep (fun v w (h : RdS w (· < w.heap.size) v [joinP init, base.drop 4]) => rjoin_any v [joinP init, base.drop 4] w h (by simp) (by omega))
  have HK4 : Keep (whiteB.isPrefixOf base = true → ∀ w, (Instr.slice 9 (.string ⟨base.toArray⟩) (some (.int .i64 4)) none none).run Tryz.prog w = .ok (.string ⟨(base.drop 4).toArray⟩) w) := ⟨fun h =>
    run_slice_from (P := Tryz.prog) Tryz.underlying9 base .i64 4 (by
      obtain ⟨b, rfl⟩ := List.isPrefixOf_iff_prefix.1 h
      simp [whiteB])⟩
  have htab : (p == [46, 119, 104, 46, 46, 119, 104, 46, 116, 111, 99]) = false := ht
  have hbml : (base == markB) = (base == [46, 119, 104, 46, 46, 119, 104, 46, 46, 111, 112, 113]) := rfl
  have hll : (init ++ [base]).length = init.length + 1 := by simp
  obtain ⟨n, hn⟩ : ∃ n, init.length = n := ⟨_, rfl⟩
  rw [hn] at hll hil
  clear hml hlen hcs hbn hsp ht h0 hj0 hj2 hdl hbl
  generalize classP p = out at *
  go_enter Tryz.func47, Tryz.ntmps47
  go_wp2_with fail
  refine HS.out.mono ?_
  rintro e w1 ⟨v, rfl, ho, hb⟩
  have hr0 := (ownsV_reads ho).mono (N' := (· < w1.heap.size)) (fun b hb => hb.2.1)
  have HB := Keep.keep hb
  rw [hll] at hr0
  obtain ⟨a, c, hv, hcap, hcm, h3⟩ := hr0.shape
  subst hv
  rcases h3 with ⟨_, h3⟩ | ⟨b, off, rfl, hbl2⟩
  · omega
  have HR := Keep.keep hr0
  have hcellB := hr0.cell b off _ _ rfl n (strV base) (by simp [hn])
  have HRI : Keep (RdS w1 (· < w1.heap.size) (.slice (some ⟨b, off, none⟩) n c) init) := ⟨by
    have := hr0.sub 0 n c off (init.map strV) (by rw [List.map_append]; simp [hn]) (by simp [hn]) (by simp) (by omega) (Nat.le_refl _)
    rw [← hn] at this
    rw [← hn]
    exact this⟩
  have hst := slice_to slSt (some ⟨b, off, none⟩) (n + 1) c n .i64 (by omega)
  unfold strV at hcellB
  have hm1 : (((n + 1 : Nat) : Int)) - 1 = (n : Int) := by omega
  have hm2 : ((n : Int) + 1) - 1 = (n : Int) := by omega
  have hz1 : decide (((n + 1 : Nat) : Int) = 0) = false := decide_eq_false (by omega)
  clear ho hb hr0 HS hll
  go_wp2_with fail
  go_loopg [6] n (fun g u6 wx => ∃ k : Nat, k + g = n ∧ u6 = .int .i64 (k : Int) ∧ (init.take k).all mayN = true ∧ w1 = wx)
  case atStart => exact ⟨0, by omega, rfl, rfl, rfl⟩
  case round =>
    obtain ⟨k, hkg, rfl, hal, rfl⟩ := hrel
    have HAL := Keep.keep hal
    clear hal
    cases gk with
    | succ g =>
      have hk : k < init.length := by omega
      have hcell := HR.out.cell b off _ _ rfl k (strV init[k]) (by simp [hk, List.getElem?_append_left])
      have HM1 := Keep.keep (HMN.out init[k] (List.getElem_mem hk))
      have HT : Keep ((init.take (k + 1)).all mayN = mayN init[k]) := ⟨by
        rw [List.take_succ_eq_append_getElem hk, List.all_append, HAL.out]; simp⟩
      have HF : Keep (mayN init[k] = false → out = (0, [])) := ⟨fun h => by
        rw [HE.out]
        unfold refC
        have : init.all mayN = false := List.all_eq_false.2 ⟨_, List.getElem_mem hk, by rw [h]; decide⟩
        rw [this]; rfl⟩
      generalize init[k] = x at *
      unfold strV at hcell
      clear hcellB hst hn hk
      cases hm : mayN x with
      | false =>
        rw [hm] at HM1
        have HX := Keep.keep (HF.out hm)
        clear hm
        go_wp2_with fail
        refine (HM1.out _).mono ?_
        rintro e w' ⟨rfl, rfl⟩
        go_wp2_with fail
        go_ret2
        exact ⟨by rw [HX.out]; rfl, HB.out⟩
      | true =>
        rw [hm] at HM1 HT
        clear hm
        go_wp2_with fail
        refine (HM1.out _).mono ?_
        rintro e w' ⟨rfl, rfl⟩
        go_wp2_with fail
        go_roundg g
        case measure => omega
        case rel => exact ⟨k + 1, by omega, by simp, HT.out, rfl⟩
    | zero =>
      obtain rfl : k = n := by omega
      have HC : Keep (out = refF (refT p base (joinP init))) := ⟨by
        have h := HAL.out
        rw [List.take_of_length_le (by omega)] at h
        rw [HE.out]; unfold refC; rw [h]; rfl⟩
      have HRT : Keep (refT p base (joinP init) = if mayN base then (1, p) else if base == markB then (3, joinP init) else if whiteB.isPrefixOf base && mayN (base.drop 4) then (2, joinP [joinP init, base.drop 4]) else (0, [])) := ⟨rfl⟩
      clear HMN HAL HR
      generalize refT p base (joinP init) = rt at *
      generalize joinP [joinP init, base.drop 4] = jt at *
      generalize joinP init = dir at *
      generalize mayN base = b1 at *
      generalize hb2 : (base == markB) = b2 at *
      generalize hb3 : whiteB.isPrefixOf base = b3 at *
      generalize base.drop 4 = b4s at *
      generalize mayN b4s = b4 at *
      have hbm2 := hbml.symm
      clear hb2 hbml hb3
      cases b1 with
      | true =>
        have HX : Keep (out = if mayP p then (1, p) else (0, [])) := ⟨by
          rw [HC.out, HRT.out]; unfold refF; cases hm : mayP p <;> simp [hm]⟩
        generalize mayP p = b5 at *
        go_wp2_with fail
        refine (HJ1.out _ _ HRI.out).mono ?_
        rintro e w' ⟨rfl, rfl⟩
        go_wp2_with fail
        refine (HMB.out _).mono ?_
        rintro e w' ⟨rfl, rfl⟩
        go_wp2_with fail
        refine (HMP.out _).mono ?_
        rintro e w2 ⟨rfl, hb2⟩
        have HB2 := Keep.keep (HB.out.trans (hb2.mono HB.out.size))
        clear hb2
        cases b5 with
        | false =>
          go_wp2_with fail
          go_ret2
          exact ⟨by rw [HX.out]; rfl, HB2.out⟩
        | true =>
          go_wp2_with fail
          go_ret2
          exact ⟨by rw [HX.out]; rfl, HB2.out⟩
      | false =>
      cases b2 with
      | true =>
        have HX : Keep (out = if mayP dir then (3, dir) else (0, [])) := ⟨by
          rw [HC.out, HRT.out]; unfold refF; cases hm : mayP dir <;> simp [hm]⟩
        generalize mayP dir = b5 at *
        go_wp2_with fail
        refine (HJ1.out _ _ HRI.out).mono ?_
        rintro e w' ⟨rfl, rfl⟩
        go_wp2_with fail
        refine (HMB.out _).mono ?_
        rintro e w' ⟨rfl, rfl⟩
        go_wp2_with fail
        refine (HMJ.out _).mono ?_
        rintro e w2 ⟨rfl, hb2⟩
        have HB2 := Keep.keep (HB.out.trans (hb2.mono HB.out.size))
        clear hb2
        cases b5 with
        | false =>
          go_wp2_with fail
          go_ret2
          exact ⟨by rw [HX.out]; rfl, HB2.out⟩
        | true =>
          go_wp2_with fail
          go_ret2
          exact ⟨by rw [HX.out]; rfl, HB2.out⟩
      | false =>
      cases b3 with
      | false =>
        have HX : Keep (out = (0, [])) := ⟨by rw [HC.out, HRT.out]; rfl⟩
        go_wp2_with fail
        refine (HJ1.out _ _ HRI.out).mono ?_
        rintro e w' ⟨rfl, rfl⟩
        go_wp2_with fail
        refine (HMB.out _).mono ?_
        rintro e w' ⟨rfl, rfl⟩
        go_wp2_with fail
        refine (HBG.out _).mono ?_
        rintro e w' ⟨rfl, rfl⟩
        go_wp2_with fail
        go_ret2
        exact ⟨by rw [HX.out]; rfl, HB.out⟩
      | true =>
      have hk4 := HK4.out rfl
      cases b4 with
      | false =>
        have HX : Keep (out = (0, [])) := ⟨by rw [HC.out, HRT.out]; rfl⟩
        go_wp2_with fail
        refine (HJ1.out _ _ HRI.out).mono ?_
        rintro e w' ⟨rfl, rfl⟩
        go_wp2_with fail
        refine (HMB.out _).mono ?_
        rintro e w' ⟨rfl, rfl⟩
        go_wp2_with fail
        refine (HBG.out _).mono ?_
        rintro e w' ⟨rfl, rfl⟩
        go_wp2_with fail
        refine (HMD.out _).mono ?_
        rintro e w' ⟨rfl, rfl⟩
        go_wp2_with fail
        go_ret2
        exact ⟨by rw [HX.out]; rfl, HB.out⟩
      | true =>
        have HX : Keep (out = if mayP jt then (2, jt) else (0, [])) := ⟨by
          rw [HC.out, HRT.out]; unfold refF; cases hm : mayP jt <;> simp [hm]⟩
        generalize mayP jt = b5 at *
        go_wp2_with fail
        refine (HJ1.out _ _ HRI.out).mono ?_
        rintro e w' ⟨rfl, rfl⟩
        go_wp2_with fail
        refine (HMB.out _).mono ?_
        rintro e w' ⟨rfl, rfl⟩
        go_wp2_with fail
        refine (HBG.out _).mono ?_
        rintro e w' ⟨rfl, rfl⟩
        go_wp2_with fail
        refine (HMD.out _).mono ?_
        rintro e w' ⟨rfl, rfl⟩
        go_wp2_with fail
        refine calls_at (R := fun wq => Below w1.heap.size w1 wq ∧ RdS wq (· < wq.heap.size) (.slice (some ⟨w1.heap.size, 0, none⟩) 2 2) [dir, b4s]) ⟨(Below.refl _ _).alloc (Nat.le_refl _) _, rdS_two w1 dir b4s⟩ ?_
        intro w2 H2
        refine (HJ2.out _ w2 H2.out.2).mono ?_
        rintro e w' ⟨rfl, rfl⟩
        have HB2 := Keep.keep (HB.out.trans (H2.out.1.mono HB.out.size))
        go_wp2_with fail
        refine (HMT.out _).mono ?_
        rintro e w3 ⟨rfl, hb3⟩
        have HB3 := Keep.keep (HB2.out.trans (hb3.mono HB2.out.size))
        clear hb3
        cases b5 with
        | false =>
          go_wp2_with fail
          go_ret2
          exact ⟨by rw [HX.out]; rfl, HB3.out⟩
        | true =>
          go_wp2_with fail
          go_ret2
          exact ⟨by rw [HX.out]; rfl, HB3.out⟩
end Go.Proofs.YtphgmkhbhboklaaGreatDoor
