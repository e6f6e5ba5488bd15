/- portolanlaw10: few (the first records, cut). -/
import Derived.Test.YtlhjehcfpnjbmaaDoorPaxGet
import Derived.Test.YtlhjehcfpnjbmaaDoorPaxPut
import Derived.Test.YtlhjehcfpnjbmaaDoorGen2
import Derived.Test.YtlhjehcfpnjbmaaDoorCut1
import Derived.Deep.RegionHeld3
namespace Go.Proofs.YtlhjehcfpnjbmaaDoor
open Go.RowKit
def cutR (p : R2) : R2 := (p.1.take 260, p.2.take 1200)
def fewL (l : List R2) : List R2 := (l.take 20).map cutR
theorem slRRec : SlK Tryd.prog 25 48 (.agg #[.string ⟨#[]⟩, .string ⟨#[]⟩]) 2 32 := SlK.mk' Tryd.underlying25 (by kernel_rfl) rfl (by decide)
theorem run_loadRow {P : Program} {ρ : Operand → Value} {d : Option Tmp} {x : Operand} {ty t e : TypeId} {n : Nat} {pos : String} {af : Array Edge} {g : Option (Nat × Bool)} {w : World} {b : Nat} {c : Array Value}
    (hrow : Row w b e c) (hA : AggTy P ty n) (hs : c.size = n) (hx : ρ x = .pointer (some ⟨b, 0, none⟩)) :
    (execOp ρ (⟨d, .load ty x, t, pos, af, g⟩ : Oper)).run P w = .ok (.value (.agg c)) w := by
  obtain ⟨de, hu, hd⟩ := hA.u
  have hl := hrow.loadAt (P := P) ty de hu hd (by rw [hs]; exact hA.i)
  unfold execOp
  simp only [hx, Sem.run_bind, Sem.run_pure, Result.andThen_ok, hl]
abbrev kv (k v : List UInt8) : Array Value := #[.string ⟨k.toArray⟩, .string ⟨v.toArray⟩]
/-- what holds within the region that appends the record to both -/
structure R7 (w : World) (v4 v5 : Value) (i : Nat) (cs : List Value) (k v : List UInt8) (b7 : Nat) (d0 d1 d2 d3 d4 d5 d6 d7 d8 d9 : Bool) (s : Nat → Value) (wx : World) : Prop where
  hp : Hp NoM w wx [slA w.heap.size 33 2 (if d3 then s 48 else v4) (if d3 then i + 1 else i) (if d3 then cs ++ rcells [(k, v)] else cs),
      slA w.heap.size 48 2 (if d7 then s 52 else v5) (if d7 then i + 1 else i) (if d7 then cs ++ rcells [(k, v)] else cs),
      rowA b7 33 (kv k v),
      if d2 then rowA (blkOf (s 47)) 33 (kv k v) else noA,
      if d6 then rowA (blkOf (s 51)) 48 (kv k v) else noA]
  h47 : d2 = true → s 47 = .slice (some ⟨blkOf (s 47), 0, none⟩) 1 1
  h51 : d6 = true → s 51 = .slice (some ⟨blkOf (s 51), 0, none⟩) 1 1
  h45 : d0 = true → s 45 = v4
  h49 : d4 = true → s 49 = v5
  h46 : d1 = true → s 46 = .agg (kv k v)
  h50 : d5 = true → s 50 = .agg (kv k v)
  h7 : s 7 = .pointer (some ⟨b7, 0, none⟩)
  h4 : s 4 = if d8 then s 48 else v4
  h5 : s 5 = if d9 then s 52 else v5
theorem R7.ext {w wx : World} {v4 v5 : Value} {i : Nat} {cs : List Value} {k v : List UInt8} {b7 : Nat} {d0 d1 d2 d3 d4 d5 d6 d7 d8 d9 : Bool} {s s' : Nat → Value} (h : R7 w v4 v5 i cs k v b7 d0 d1 d2 d3 d4 d5 d6 d7 d8 d9 s wx)
    (hs : ∀ j, j = 4 ∨ j = 5 ∨ j = 7 ∨ (45 ≤ j ∧ j ≤ 52) → s' j = s j) : R7 w v4 v5 i cs k v b7 d0 d1 d2 d3 d4 d5 d6 d7 d8 d9 s' wx := by
  obtain ⟨a1, a2, a3, a4, a5, a6, a7, a8, a9, a10⟩ := h
  have e4 := hs 4 (by omega); have e5 := hs 5 (by omega); have e7 := hs 7 (by omega); have e45 := hs 45 (by omega); have e46 := hs 46 (by omega); have e47 := hs 47 (by omega)
  have e48 := hs 48 (by omega); have e49 := hs 49 (by omega); have e50 := hs 50 (by omega); have e51 := hs 51 (by omega); have e52 := hs 52 (by omega)
  exact ⟨by rw [e48, e52, e47, e51]; exact a1, by rw [e47]; exact a2, by rw [e51]; exact a3, by rw [e45]; exact a4, by rw [e49]; exact a5, by rw [e46]; exact a6, by rw [e50]; exact a7, by rw [e7]; exact a8, by rw [e4, e48]; exact a9, by rw [e5, e52]; exact a10⟩
def I7 (w : World) (v4 v5 : Value) (i : Nat) (cs : List Value) (k v : List UInt8) (b7 : Nat) (d : Array Bool) (s : Nat → Value) (wx : World) : Prop :=
  R7 w v4 v5 i cs k v b7 (d.getD 0 false) (d.getD 1 false) (d.getD 2 false) (d.getD 3 false) (d.getD 4 false) (d.getD 5 false) (d.getD 6 false) (d.getD 7 false) (d.getD 8 false) (d.getD 9 false) s wx
theorem Hp.keep3 {M : Nat → Prop} {w wr : World} {A B C D E : As} (h : Hp M w wr [A, B, C, D, E]) : Hp M w wr [A, B] := by
  refine ⟨h.c, fun X hX => h.p X (by simp at hX ⊢; rcases hX with h | h <;> simp [h]), fun i j X Y hi hj => ?_⟩
  have up : ∀ (i : Nat) (X : As), [A, B][i]? = some X → [A, B, C, D, E][i]? = some X := by
    intro i X hi
    match i, hi with
    | 0, hi => exact hi
    | 1, hi => exact hi
    | (i + 2), hi => simp at hi
  exact h.d i j X Y (up i X hi) (up j Y hj)
set_option maxHeartbeats 4000000 in
set_option maxRecDepth 100000 in
theorem few_any (sv : Value) (l : List R2) (w : World) (hl : l.length ≤ 9223372036854775807) (hr : RdV w (· < w.heap.size) 2 sv l.length (rcells l)) (hs : ∀ p ∈ l, p.1.length ≤ 9223372036854775807 ∧ p.2.length ≤ 9223372036854775807) :
    Calls Tryd.prog 8 #[sv] w fun e w' => ∃ va vb, e = .returned (.tuple #[va, vb]) ∧ Hp NoM w w' [slA w.heap.size 33 2 va (fewL l).length (rcells (fewL l)), slA w.heap.size 48 2 vb (fewL l).length (rcells (fewL l))] := by
  obtain ⟨a, cap, rfl, hcap, hmx, hsh⟩ := hr.shape
  have HR := Keep.keep hr; have HSH := Keep.keep hsh; have HS := Keep.keep hs
  clear hr hsh hs
  go_enter Tryd.func8, Tryd.ntmps8
  go_wp2_with fail
  go_loopg [4, 5, 6, 7] 20 (fun g v4 v5 u _ wx => ∃ i : Nat, i + g = 20 ∧ i ≤ l.length ∧ u = .int .i64 (i : Int) ∧
    Hp NoM w wx [slA w.heap.size 33 2 v4 i (rcells ((l.take i).map cutR)), slA w.heap.size 48 2 v5 i (rcells ((l.take i).map cutR))])
  case atStart => exact ⟨0, by omega, by omega, rfl, ((Hp.begin NoM w).nilS _ _ _).nilS _ _ _⟩
  case round =>
    obtain ⟨i, hig, hil, rfl, hH⟩ := hrel
    have HH := Keep.keep hH
    clear hH
    by_cases hend : i = l.length ∨ i = 20
    · have hfl : fewL l = (l.take i).map cutR := by
        unfold fewL
        rcases hend with h | h
        · rw [List.take_of_length_le (by omega), h, List.take_length]
        · rw [h]
      have hfn : (fewL l).length = i := by rw [hfl]; simp; omega
      have HFL := Keep.keep hfl; have HFN := Keep.keep hfn
      clear hfl hfn
      by_cases h1 : i < l.length
      · have hd1 : decide ((i : Int) < (l.length : Int)) = true := decide_eq_true (by omega)
        have hd2 : decide ((i : Int) < (20 : Int)) = false := decide_eq_false (by omega)
        clear hend
        go_wp2_with fail
        go_ret2
        exact ⟨_, _, rfl, by rw [HFN.out, HFL.out]; exact HH.out⟩
      · have hd1 : decide ((i : Int) < (l.length : Int)) = false := decide_eq_false (by omega)
        clear hend
        go_wp2_with fail
        go_ret2
        exact ⟨_, _, rfl, by rw [HFN.out, HFL.out]; exact HH.out⟩
    · have hi : i < l.length := by omega
      have hi20 : i < 20 := by omega
      have hd1 : decide ((i : Int) < (l.length : Int)) = true := decide_eq_true (by omega)
      have hd2 : decide ((i : Int) < (20 : Int)) = true := decide_eq_true (by omega)
      obtain ⟨g, rfl⟩ : ∃ g, gk = g + 1 := ⟨gk - 1, by omega⟩
      obtain ⟨p, hp⟩ : ∃ p, l[i]? = some p := ⟨l[i], List.getElem?_eq_getElem hi⟩
      rcases HSH.out with ⟨rfl, hc0⟩ | ⟨b, off, rfl, hlt⟩
      · omega
      obtain ⟨hc0, hc1⟩ := (HR.out.below HH.out.below (fun _ h => h)).recAt hp
      have HPP := Keep.keep hp
      have hps := HS.out p (List.mem_of_getElem? hp)
      obtain ⟨k, v⟩ := p
      obtain ⟨hk9, hv9⟩ : k.length ≤ 9223372036854775807 ∧ v.length ≤ 9223372036854775807 := hps
      clear hp hend
      have hmk : min (k.length : Int) 260 = ((min k.length 260 : Nat) : Int) := by omega
      have hmv : min (v.length : Int) 1200 = ((min v.length 1200 : Nat) : Int) := by omega
      have hk1 : min k.length 260 ≤ k.length := by omega
      have hv1 : min v.length 1200 ≤ v.length := by omega
      have ks := run_slice_to (P := Tryd.prog) Tryd.underlying9 k .i64 (min k.length 260) hk1
      have vs := run_slice_to (P := Tryd.prog) Tryd.underlying9 v .i64 (min v.length 1200) hv1
      have hct : cutR (k, v) = (k.take (min k.length 260), v.take (min v.length 1200)) := by
        unfold cutR
        have e1 : ∀ (l : List UInt8) (n : Nat), l.take n = l.take (min l.length n) := fun l n => by
          rcases Nat.le_total l.length n with h | h
          · rw [Nat.min_eq_left h, List.take_of_length_le h, List.take_length]
          · rw [Nat.min_eq_right h]
        simp only
        rw [← e1 k, ← e1 v]
      have HCT := Keep.keep hct
      clear hct
      generalize k.take (min k.length 260) = k2 at *
      generalize v.take (min v.length 1200) = v2 at *
      generalize min k.length 260 = kn at *
      generalize min v.length 1200 = vn at *
      go_wp2_with fail
      have hbn : b ≠ wr.heap.size := by have := HH.out.size; omega
      have AFTER : ∀ (X : Exit → Act → World → Prop), (∀ wx, Hp NoM w wx [slA w.heap.size 33 2 u4 i (rcells ((l.take i).map cutR)), slA w.heap.size 48 2 u5 i (rcells ((l.take i).map cutR)), rowA wr.heap.size 33 (kv k2 v2)] → X .normal ⟨#[Value.slice (some { block := b, off := off }) l.length cap, undef, Value.slice none 0 0, Value.slice none 0 0, u4, u5, Value.int IntKind.i64 (i : Int), Value.pointer (some { block := wr.heap.size, off := 0 }), Value.int IntKind.i64 (i : Int), Value.slice (some { block := b, off := off }) l.length cap, Value.int IntKind.i64 (l.length : Int), Value.bool true, Value.bool true, Value.int IntKind.i64 (i : Int), Value.bool true, Value.bool true, u16, u17, Value.slice (some { block := b, off := off }) l.length cap, Value.int IntKind.i64 (i : Int), Value.pointer (some { block := b, off := off + i * 2 }), Value.pointer (some { block := b, off := off + i * 2 }), Value.string { data := k.toArray }, Value.slice (some { block := b, off := off }) l.length cap, Value.int IntKind.i64 (i : Int), Value.pointer (some { block := b, off := off + i * 2 }), Value.pointer (some { block := b, off := off + i * 2 }), Value.string { data := k.toArray }, Value.int IntKind.i64 (k.length : Int), Value.int IntKind.i64 (kn : Int), Value.string { data := k2.toArray }, Value.slice (some { block := b, off := off }) l.length cap, Value.int IntKind.i64 (i : Int), Value.pointer (some { block := b, off := off + i * 2 }), Value.pointer (some { block := b, off := off + i * 2 + 1 }), Value.string { data := v.toArray }, Value.slice (some { block := b, off := off }) l.length cap, Value.int IntKind.i64 (i : Int), Value.pointer (some { block := b, off := off + i * 2 }), Value.pointer (some { block := b, off := off + i * 2 + 1 }), Value.string { data := v.toArray }, Value.int IntKind.i64 (v.length : Int), Value.int IntKind.i64 (vn : Int), Value.string { data := v2.toArray }, Value.agg #[Value.string { data := k2.toArray }, Value.string { data := v2.toArray }], u45, u46, u47, u48, u49, u50, u51, u52, undef, undef], []⟩ wx) → X .normal ⟨#[Value.slice (some { block := b, off := off }) l.length cap, undef, Value.slice none 0 0, Value.slice none 0 0, u4, u5, Value.int IntKind.i64 (i : Int), Value.pointer (some { block := wr.heap.size, off := 0 }), Value.int IntKind.i64 (i : Int), Value.slice (some { block := b, off := off }) l.length cap, Value.int IntKind.i64 (l.length : Int), Value.bool true, Value.bool true, Value.int IntKind.i64 (i : Int), Value.bool true, Value.bool true, u16, u17, Value.slice (some { block := b, off := off }) l.length cap, Value.int IntKind.i64 (i : Int), Value.pointer (some { block := b, off := off + i * 2 }), Value.pointer (some { block := b, off := off + i * 2 }), Value.string { data := k.toArray }, Value.slice (some { block := b, off := off }) l.length cap, Value.int IntKind.i64 (i : Int), Value.pointer (some { block := b, off := off + i * 2 }), Value.pointer (some { block := b, off := off + i * 2 }), Value.string { data := k.toArray }, Value.int IntKind.i64 (k.length : Int), Value.int IntKind.i64 (kn : Int), Value.string { data := k2.toArray }, Value.slice (some { block := b, off := off }) l.length cap, Value.int IntKind.i64 (i : Int), Value.pointer (some { block := b, off := off + i * 2 }), Value.pointer (some { block := b, off := off + i * 2 + 1 }), Value.string { data := v.toArray }, Value.slice (some { block := b, off := off }) l.length cap, Value.int IntKind.i64 (i : Int), Value.pointer (some { block := b, off := off + i * 2 }), Value.pointer (some { block := b, off := off + i * 2 + 1 }), Value.string { data := v.toArray }, Value.int IntKind.i64 (v.length : Int), Value.int IntKind.i64 (vn : Int), Value.string { data := v2.toArray }, Value.agg #[Value.string { data := k2.toArray }, Value.string { data := v2.toArray }], u45, u46, u47, u48, u49, u50, u51, u52, undef, undef], []⟩ (wr.alloc (Obj.cells #[Value.string { data := k2.toArray }, Value.string { data := v2.toArray }] 33)).drew :=
        fun X h => h _ (HH.out.newRow _ _).drew
      refine Code.wp_mono (Q := fun e a' wx => e = .normal ∧ a' = ⟨#[Value.slice (some { block := b, off := off }) l.length cap, undef, Value.slice none 0 0, Value.slice none 0 0, u4, u5, Value.int IntKind.i64 (i : Int), Value.pointer (some { block := wr.heap.size, off := 0 }), Value.int IntKind.i64 (i : Int), Value.slice (some { block := b, off := off }) l.length cap, Value.int IntKind.i64 (l.length : Int), Value.bool true, Value.bool true, Value.int IntKind.i64 (i : Int), Value.bool true, Value.bool true, u16, u17, Value.slice (some { block := b, off := off }) l.length cap, Value.int IntKind.i64 (i : Int), Value.pointer (some { block := b, off := off + i * 2 }), Value.pointer (some { block := b, off := off + i * 2 }), Value.string { data := k.toArray }, Value.slice (some { block := b, off := off }) l.length cap, Value.int IntKind.i64 (i : Int), Value.pointer (some { block := b, off := off + i * 2 }), Value.pointer (some { block := b, off := off + i * 2 }), Value.string { data := k.toArray }, Value.int IntKind.i64 (k.length : Int), Value.int IntKind.i64 (kn : Int), Value.string { data := k2.toArray }, Value.slice (some { block := b, off := off }) l.length cap, Value.int IntKind.i64 (i : Int), Value.pointer (some { block := b, off := off + i * 2 }), Value.pointer (some { block := b, off := off + i * 2 + 1 }), Value.string { data := v.toArray }, Value.slice (some { block := b, off := off }) l.length cap, Value.int IntKind.i64 (i : Int), Value.pointer (some { block := b, off := off + i * 2 }), Value.pointer (some { block := b, off := off + i * 2 + 1 }), Value.string { data := v.toArray }, Value.int IntKind.i64 (v.length : Int), Value.int IntKind.i64 (vn : Int), Value.string { data := v2.toArray }, Value.agg #[Value.string { data := k2.toArray }, Value.string { data := v2.toArray }], u45, u46, u47, u48, u49, u50, u51, u52, undef, undef], []⟩ ∧ wx = (wr.alloc (Obj.cells #[Value.string { data := k2.toArray }, Value.string { data := v2.toArray }] 33)).drew) ?_ ?_
      case refine_2 =>
        go_region_held3 (fun w' => w'.cell? ⟨b, off + i * 2, none⟩ = some (.string ⟨k.toArray⟩) ∧ w'.cell? ⟨b, off + i * 2 + 1, none⟩ = some (.string ⟨v.toArray⟩)) (go_keep) (fail)
        all_goals exact ⟨rfl, rfl, rfl⟩
      rintro e a' wx ⟨rfl, rfl, rfl⟩
      refine AFTER _ ?_
      clear AFTER
      intro w2 h2
      have H2 := Keep.keep h2
      clear h2
      generalize wr.heap.size = b7 at *
      go_wp2_with fail
      have hcl : ((l.take i).map cutR).length = i := by simp; omega
      have hcl2 : (rcells ((l.take i).map cutR)).length = i * 2 := by rw [rcells_length, hcl]
      have hsucc : (l.take (i + 1)).map cutR = (l.take i).map cutR ++ [(k2, v2)] := by
        rw [List.take_add_one, HPP.out, List.map_append]; simp [HCT.out]
      have HSUCC := Keep.keep hsucc
      clear hsucc hcl
      generalize hcs : rcells ((l.take i).map cutR) = cs at *
      have HCS := Keep.keep hcs
      clear hcs
      refine wp_region_fr [45, 46, 47, 48, 49, 50, 51, 52, 4, 5] (I7 w u4 u5 i cs k2 v2 b7) (by kernel_rfl) ?_ ?_ ?_
      · exact ⟨(H2.out.drew.pushNo).pushNo, fun h => (by simp at h), fun h => (by simp at h), fun h => (by simp at h), fun h => (by simp at h), fun h => (by simp at h), fun h => (by simp at h), rfl, rfl, rfl⟩
      · intro d a1 wx hfr hI hsz hcl i' hi
        obtain ⟨d0, d1, d2, d3, d4, d5, d6, d7, d8, d9, rfl⟩ := arr10 d hsz
        have hlt := ready_lt hi
        have HI : R7 w u4 u5 i cs k2 v2 b7 d0 d1 d2 d3 d4 d5 d6 d7 d8 d9 (slot a1) wx := hI
        have c8 : d8 = true → d0 = true := fun h => hcl 8 _ rfl h ⟨0, .phase⟩ (by simp) rfl
        have c83 : d8 = true → d3 = true := fun h => hcl 8 _ rfl h ⟨3, .data⟩ (by simp) rfl
        have c9 : d9 = true → d4 = true := fun h => hcl 9 _ rfl h ⟨4, .phase⟩ (by simp) rfl
        have c97 : d9 = true → d7 = true := fun h => hcl 9 _ rfl h ⟨7, .data⟩ (by simp) rfl
        clear hI hcl
        have hds : ∀ d ∈ [45, 46, 47, 48, 49, 50, 51, 52, 4, 5], d < 55 := by decide
        simp only [List.size_toArray, List.length_cons, List.length_nil] at hlt
        rcases (by omega : i' = 0 ∨ i' = 1 ∨ i' = 2 ∨ i' = 3 ∨ i' = 4 ∨ i' = 5 ∨ i' = 6 ∨ i' = 7 ∨ i' = 8 ∨ i' = 9) with rfl | rfl | rfl | rfl | rfl | rfl | rfl | rfl | rfl | rfl
        · have hr := ready_at hi rfl
          have r0 : d0 = false := hr.1
          subst r0
          have r8 : d8 = false := by cases d8 <;> simp_all
          subst r8
          have h4 : a1.eval (.tmp 4) = u4 := HI.h4
          refine fr_op (d := 45) (I := I7 w u4 u5 i cs k2 v2 b7) hfr (by decide) rfl run_move ?_ hds
          intro s hd ho
          rw [h4] at hd
          have HN : R7 w u4 u5 i cs k2 v2 b7 true d1 d2 d3 d4 d5 d6 d7 false d9 (fun j => if j = 45 then u4 else slot a1 j) wx := ⟨HI.hp, HI.h47, HI.h51, fun _ => rfl, HI.h49, HI.h46, HI.h50, HI.h7, HI.h4, HI.h5⟩
          exact HN.ext (fun j _ => by by_cases e : j = 45 <;> simp [e, hd, ho])
        · have hr := ready_at hi rfl
          refine fr_op (d := 46) (I := I7 w u4 u5 i cs k2 v2 b7) hfr (by decide) rfl (run_loadRow (HI.hp.row 2 rfl) aggRec rfl HI.h7) ?_ hds
          intro s hd ho
          have HN : R7 w u4 u5 i cs k2 v2 b7 d0 true d2 d3 d4 d5 d6 d7 d8 d9 (fun j => if j = 46 then .agg (kv k2 v2) else slot a1 j) wx := ⟨HI.hp, HI.h47, HI.h51, HI.h45, HI.h49, fun _ => rfl, HI.h50, HI.h7, HI.h4, HI.h5⟩
          exact HN.ext (fun j _ => by by_cases e : j = 46 <;> simp [e, hd, ho])
        · have hr := ready_at hi rfl
          have r0 : d2 = false := hr.1
          have r1 : d1 = true := hr.2 ⟨1, .data⟩ (by simp) rfl
          subst r0
          have e46 : a1.eval (.tmp 46) = .agg (kv k2 v2) := HI.h46 r1
          have hrun := fun (t : TypeId) (pos : String) (af : Array Edge) => run_build1 (P := Tryd.prog) (ρ := a1.eval) (d := some 47) (x := .tmp 46) (t := t) (pos := pos) (af := af) (g := none) (w := wx) slRec (by decide) (by rw [e46]; rfl)
          rw [e46] at hrun
          have hu := HI.hp.upd 3 rfl (rowA wx.heap.size 33 (kv k2 v2)) (.of_below ((Below.refl _ _).alloc (Nat.le_refl _) _)) (Row.new wx 33 _) (fun b hb => .inr (by have hb : b = _ := hb; subst hb; simp))
          refine fr_op (d := 47) (I := I7 w u4 u5 i cs k2 v2 b7) hfr (by decide) rfl (hrun _ _ _) ?_ hds
          intro s hd ho
          have HN : R7 w u4 u5 i cs k2 v2 b7 d0 d1 true d3 d4 d5 d6 d7 d8 d9 (fun j => if j = 47 then .slice (some ⟨wx.heap.size, 0, none⟩) 1 1 else slot a1 j) (wx.alloc (.cells (kv k2 v2) 33)) := ⟨hu, fun _ => rfl, HI.h51, HI.h45, HI.h49, HI.h46, HI.h50, HI.h7, HI.h4, HI.h5⟩
          exact HN.ext (fun j _ => by by_cases e : j = 47 <;> simp [e, hd, ho])
        · have hr := ready_at hi rfl
          have r0 : d3 = false := hr.1
          have r1 : d0 = true := hr.2 ⟨0, .data⟩ (by simp) rfl
          have r2 : d2 = true := hr.2 ⟨2, .data⟩ (by simp) rfl
          subst r0 r1 r2
          have r8 : d8 = false := by cases d8 <;> simp_all
          subst r8
          obtain ⟨v', w', hrun, ho', hg', hb'⟩ := run_appV (P := Tryd.prog) (n := i) (m := 1) (ρ := a1.eval) (d := some 48) (s := .tmp 45) (x := .tmp 47) slRec (HI.hp.sl 0 rfl) (RdV.ofRow (HI.hp.row 3 rfl) (N := fun _ => True) trivial 2 0 1 1 (rcells [(k2, v2)]) rfl (Nat.le_refl _) (by unfold maxLen; omega) (fun j u hu => by rw [Nat.zero_add]; simpa [rcells, kv] using hu)) (rcells_one _) (by unfold maxLen; omega) (by omega) HI.hp.size (HI.h45 rfl) (HI.h47 rfl)
          have hu := HI.hp.grow 0 rfl hg' ho' hb'
          refine fr_op (d := 48) (I := I7 w u4 u5 i cs k2 v2 b7) hfr (by decide) rfl hrun ?_ hds
          intro s hd ho
          have HN : R7 w u4 u5 i cs k2 v2 b7 true d1 true true d4 d5 d6 d7 false d9 (fun j => if j = 48 then v' else slot a1 j) w' := ⟨hu, HI.h47, HI.h51, HI.h45, HI.h49, HI.h46, HI.h50, HI.h7, HI.h4, HI.h5⟩
          exact HN.ext (fun j _ => by by_cases e : j = 48 <;> simp [e, hd, ho])
        · have hr := ready_at hi rfl
          have r0 : d4 = false := hr.1
          subst r0
          have r8 : d9 = false := by cases d9 <;> simp_all
          subst r8
          have h4 : a1.eval (.tmp 5) = u5 := HI.h5
          refine fr_op (d := 49) (I := I7 w u4 u5 i cs k2 v2 b7) hfr (by decide) rfl run_move ?_ hds
          intro s hd ho
          rw [h4] at hd
          have HN : R7 w u4 u5 i cs k2 v2 b7 d0 d1 d2 d3 true d5 d6 d7 d8 false (fun j => if j = 49 then u5 else slot a1 j) wx := ⟨HI.hp, HI.h47, HI.h51, HI.h45, fun _ => rfl, HI.h46, HI.h50, HI.h7, HI.h4, HI.h5⟩
          exact HN.ext (fun j _ => by by_cases e : j = 49 <;> simp [e, hd, ho])
        · have hr := ready_at hi rfl
          refine fr_op (d := 50) (I := I7 w u4 u5 i cs k2 v2 b7) hfr (by decide) rfl (run_loadRow (HI.hp.row 2 rfl) aggRec rfl HI.h7) ?_ hds
          intro s hd ho
          have HN : R7 w u4 u5 i cs k2 v2 b7 d0 d1 d2 d3 d4 true d6 d7 d8 d9 (fun j => if j = 50 then .agg (kv k2 v2) else slot a1 j) wx := ⟨HI.hp, HI.h47, HI.h51, HI.h45, HI.h49, HI.h46, fun _ => rfl, HI.h7, HI.h4, HI.h5⟩
          exact HN.ext (fun j _ => by by_cases e : j = 50 <;> simp [e, hd, ho])
        · have hr := ready_at hi rfl
          have r0 : d6 = false := hr.1
          have r1 : d5 = true := hr.2 ⟨5, .data⟩ (by simp) rfl
          subst r0
          have e46 : a1.eval (.tmp 50) = .agg (kv k2 v2) := HI.h50 r1
          have hrun := fun (t : TypeId) (pos : String) (af : Array Edge) => run_build1 (P := Tryd.prog) (ρ := a1.eval) (d := some 51) (x := .tmp 50) (t := t) (pos := pos) (af := af) (g := none) (w := wx) slRRec (by decide) (by rw [e46]; rfl)
          rw [e46] at hrun
          have hu := HI.hp.upd 4 rfl (rowA wx.heap.size 48 (kv k2 v2)) (.of_below ((Below.refl _ _).alloc (Nat.le_refl _) _)) (Row.new wx 48 _) (fun b hb => .inr (by have hb : b = _ := hb; subst hb; simp))
          refine fr_op (d := 51) (I := I7 w u4 u5 i cs k2 v2 b7) hfr (by decide) rfl (hrun _ _ _) ?_ hds
          intro s hd ho
          have HN : R7 w u4 u5 i cs k2 v2 b7 d0 d1 d2 d3 d4 d5 true d7 d8 d9 (fun j => if j = 51 then .slice (some ⟨wx.heap.size, 0, none⟩) 1 1 else slot a1 j) (wx.alloc (.cells (kv k2 v2) 48)) := ⟨hu, HI.h47, fun _ => rfl, HI.h45, HI.h49, HI.h46, HI.h50, HI.h7, HI.h4, HI.h5⟩
          exact HN.ext (fun j _ => by by_cases e : j = 51 <;> simp [e, hd, ho])
        · have hr := ready_at hi rfl
          have r0 : d7 = false := hr.1
          have r1 : d4 = true := hr.2 ⟨4, .data⟩ (by simp) rfl
          have r2 : d6 = true := hr.2 ⟨6, .data⟩ (by simp) rfl
          subst r0 r1 r2
          have r8 : d9 = false := by cases d9 <;> simp_all
          subst r8
          obtain ⟨v', w', hrun, ho', hg', hb'⟩ := run_appV (P := Tryd.prog) (n := i) (m := 1) (ρ := a1.eval) (d := some 52) (s := .tmp 49) (x := .tmp 51) slRRec (HI.hp.sl 1 rfl) (RdV.ofRow (HI.hp.row 4 rfl) (N := fun _ => True) trivial 2 0 1 1 (rcells [(k2, v2)]) rfl (Nat.le_refl _) (by unfold maxLen; omega) (fun j u hu => by rw [Nat.zero_add]; simpa [rcells, kv] using hu)) (rcells_one _) (by unfold maxLen; omega) (by omega) HI.hp.size (HI.h49 rfl) (HI.h51 rfl)
          have hu := HI.hp.grow 1 rfl hg' ho' hb'
          refine fr_op (d := 52) (I := I7 w u4 u5 i cs k2 v2 b7) hfr (by decide) rfl hrun ?_ hds
          intro s hd ho
          have HN : R7 w u4 u5 i cs k2 v2 b7 d0 d1 d2 d3 true d5 true true d8 false (fun j => if j = 52 then v' else slot a1 j) w' := ⟨hu, HI.h47, HI.h51, HI.h45, HI.h49, HI.h46, HI.h50, HI.h7, HI.h4, HI.h5⟩
          exact HN.ext (fun j _ => by by_cases e : j = 52 <;> simp [e, hd, ho])
        · have hr := ready_at hi rfl
          refine fr_op (d := 4) (I := I7 w u4 u5 i cs k2 v2 b7) hfr (by decide) rfl run_assign ?_ hds
          intro s hd ho
          have HN : R7 w u4 u5 i cs k2 v2 b7 d0 d1 d2 d3 d4 d5 d6 d7 true d9 (fun j => if j = 4 then slot a1 48 else slot a1 j) wx := ⟨HI.hp, HI.h47, HI.h51, HI.h45, HI.h49, HI.h46, HI.h50, HI.h7, rfl, HI.h5⟩
          exact HN.ext (fun j _ => by by_cases e : j = 4 <;> simp [e, hd, ho, eval_slot])
        · have hr := ready_at hi rfl
          refine fr_op (d := 5) (I := I7 w u4 u5 i cs k2 v2 b7) hfr (by decide) rfl run_assign ?_ hds
          intro s hd ho
          have HN : R7 w u4 u5 i cs k2 v2 b7 d0 d1 d2 d3 d4 d5 d6 d7 d8 true (fun j => if j = 5 then slot a1 52 else slot a1 j) wx := ⟨HI.hp, HI.h47, HI.h51, HI.h45, HI.h49, HI.h46, HI.h50, HI.h7, HI.h4, rfl⟩
          exact HN.ext (fun j _ => by by_cases e : j = 5 <;> simp [e, hd, ho, eval_slot])
      · intro d a1 wx ha hI hsz hr
        have had := all_done (by kernel_rfl) hsz hr
        obtain ⟨d0, d1, d2, d3, d4, d5, d6, d7, d8, d9, rfl⟩ := arr10 d hsz
        have HI : R7 w u4 u5 i cs k2 v2 b7 d0 d1 d2 d3 d4 d5 d6 d7 d8 d9 (slot a1) wx := hI
        obtain rfl : d3 = true := had 3 (by simp)
        obtain rfl : d7 = true := had 7 (by simp)
        obtain rfl : d8 = true := had 8 (by simp)
        obtain rfl : d9 = true := had 9 (by simp)
        have h4 : slot a1 4 = slot a1 48 := HI.h4
        have h5 : slot a1 5 = slot a1 52 := HI.h5
        have H5 : Keep (Hp NoM w wx [slA w.heap.size 33 2 (slot a1 48) (i + 1) (cs ++ rcells [(k2, v2)]), slA w.heap.size 48 2 (slot a1 52) (i + 1) (cs ++ rcells [(k2, v2)])]) := ⟨HI.hp.keep3⟩
        clear hI had hr HI hsz
        simp only [List.foldl_cons, List.foldl_nil, h4, h5] at ha
        generalize slot a1 45 = x45 at *
        generalize slot a1 46 = x46 at *
        generalize slot a1 47 = x47 at *
        generalize slot a1 48 = x48 at *
        generalize slot a1 49 = x49 at *
        generalize slot a1 50 = x50 at *
        generalize slot a1 51 = x51 at *
        generalize slot a1 52 = x52 at *
        clear h4 h5
        subst ha
        simp only [Act.put, List.setIfInBounds_toArray, List.set_cons_succ, List.set_cons_zero]
        go_wp2_with fail
        go_roundg g
        case measure => omega
        case rel =>
          refine ⟨i + 1, by omega, by omega, by simp, ?_⟩
          rw [HSUCC.out, rcells_append, HCS.out]
          exact H5.out
end Go.Proofs.YtlhjehcfpnjbmaaDoor
