/- State.Write takes bytes. -/
import Derived.Test.YtofficleahalaaaDoorShaBlocks
import Derived.Test.YtofficleahalaaaDoorOwn
namespace Go.Proofs.YtofficleahalaaaDoor
open Go.RowKit
theorem slB : SlTy Tryd.prog 22 5 (.int .u8 0) 1 := .mk' Tryd.underlying22 (by kernel_rfl) rfl
/-- a state, in block S, that has taken l; what is left lies behind block B, apart from S -/
structure St (w : World) (S B : Nat) (l : List UInt8) : Prop where
  ex : ∃ left, Row w S 51 (stCells (fed l) left l.length) ∧ Owns w B 5 left (rest l)
  k : Consts w
  g : 1 < S
  sb : S < B
set_option maxHeartbeats 400000 in
theorem none_any (S B : Nat) (l : List UInt8) (w : World) (hs : St w S B l) :
    Calls Tryd.prog 31 #[.pointer (some ⟨S, 0, none⟩)] w fun e w' => e = .returned (.bool false) ∧ w = w' := by
  obtain ⟨left, hr, _⟩ := hs.ex
  have c10 : w.cell? ⟨S, 10, none⟩ = some (.bool true) := hr.cell (by obtain ⟨_, _, _, _, _, _, _, _, e, _⟩ := ok8_fed l; rw [e]; rfl)
  clear hs hr
  go_enter Tryd.func31, Tryd.ntmps31
  go_wp2
  go_ret
  exact ⟨rfl, rfl⟩
set_option maxHeartbeats 400000 in
set_option maxRecDepth 100000 in
theorem write_any (v : Value) (l m : List UInt8) (N : Nat → Prop) (S B : Nat) (w : World) (hs : St w S B l) (hv : Reads w N v m) (hN : ∀ b, N b → b < w.heap.size ∧ b ≠ S) (hlen : l.length + m.length ≤ 140737488355328) (hB : B ≤ w.heap.size) :
    Calls Tryd.prog 15 #[.pointer (some ⟨S, 0, none⟩), v] w fun e w' => e = .returned (.int .i64 0) ∧ St w' S B (l ++ m) ∧ Chg (fun x => x = S ∨ B ≤ x) w.heap.size w w' := by
  have HSt := Keep.keep hs
  obtain ⟨left, hr, hown⟩ := hs.ex
  have hsb := hs.sb
  have hlv : ∃ a cap, v = .slice a m.length cap := by obtain ⟨a, cap, e, _⟩ := hv.shape; exact ⟨a, cap, e⟩
  obtain ⟨va, vcap, hveq⟩ := hlv
  have HV := Keep.keep hv
  have HN := Keep.keep hN
  have HR := Keep.keep hr
  have HO := Keep.keep hown
  have hSlt := hr.lt
  have hfd : (fed l).length = 8 := (ok8_fed l).len
  have c9 : w.cell? ⟨S, 9, none⟩ = some (.int .u64 (l.length : Int)) := hr.cell (by simp [stCells, words, hfd])
  have c8 : w.cell? ⟨S, 8, none⟩ = some left := hr.cell (by simp [stCells, words, hfd])
  have f9 := hr.frozen 9
  have hw2 : Chg (fun x => x = S) w.heap.size w (w.setCell ⟨S, 9, none⟩ (.int .u64 ((l.length : Int) + (m.length : Int)))) := Chg.setCell (M := fun x => x = S) (.refl _ _ _) (.inr rfl) _
  have hr2 : Row (w.setCell ⟨S, 9, none⟩ (.int .u64 ((l.length : Int) + (m.length : Int)))) S 51 (stCells (fed l) left (l ++ m).length) := hr.set' 9 _ (by rw [List.length_append]; apply Array.ext'; simp [stCells, words, hfd])
  have ho2 := hown.chg hw2 (fun k hk => ⟨(hown.lt k hk).2, fun e => by have := (hown.lt k hk).1; omega⟩)
  have hv2 := hv.chg hw2 hN
  have hk2 : Consts (w.setCell ⟨S, 9, none⟩ (.int .u64 ((l.length : Int) + (m.length : Int)))) := HSt.out.k.chg hw2 (by have := HSt.out.g; omega) (by have := HSt.out.g; omega)
  have HG := Keep.keep HSt.out.g
  have HW2 := Keep.keep hw2; have HR2 := Keep.keep hr2; have HO2 := Keep.keep ho2; have HV2 := Keep.keep hv2; have HK2 := Keep.keep hk2
  have HFD := Keep.keep hfd
  clear hs hv hN hr hown hw2 hr2 ho2 hv2 hk2 hfd
  subst hveq
  go_enter Tryd.func15, Tryd.ntmps15
  go_wp2_with (first
    | (go_at_call 31; ((with_reducible refine (none_any S B l _ HSt.out).mono ?_); rintro e w' ⟨rfl, rfl⟩))
    | ((with_reducible refine arm_append slB HO2.out HV2.out ?_ ?_ ?_ ?_ ?_); (focus (rw [rest_length]; omega)); (focus (simp; omega)); (focus rfl); (focus rfl); intro v1 w1 ho1 hg1 hb1; have HO1 := Keep.keep ho1; have HG1 := Keep.keep hg1; have HB1 := Keep.keep hb1; clear ho1 hg1 hb1; simp only [Act.put, List.setIfInBounds_toArray, List.set_cons_succ, List.set_cons_zero]))
  have hold := HO2.out.lt
  have hsz1 : w.heap.size ≤ w1.heap.size := by have := HG1.out.size; simpa using this
  have hc1 : Chg (fun x => x = S ∨ B ≤ x) w.heap.size w w1 := (HW2.out.mono (Nat.le_refl _) (fun k hk => .inl hk)).grown HG1.out (by simp) (fun k hk => .inr (.inr (hold k hk).1))
  have hr1 := HR2.out.grown HG1.out (fun e => by have := (hold S e.symm).1; omega)
  have hk1 : Consts w1 := HSt.out.k.chg hc1 (by have := HG.out; omega) (by have := HG.out; omega)
  have hn1 : ∀ b, (B ≤ b ∧ b < w1.heap.size ∧ v1.ownBlock = some b) → b < w1.heap.size ∧ b ≠ S := fun b hb => ⟨hb.2.1, by have := hb.1; omega⟩
  have hct := blocks_any v1 (rest l ++ m) _ S 51 (fed l) left (l ++ m).length w1 HO1.out.reads hn1 hr1 (ok8_fed l) hk1 HG.out
  rw [← fed_append, ← rest_append] at hct
  have HC1 := Keep.keep hc1; have HCT := Keep.keep hct
  clear hc1 hr1 hk1 hn1 hct hold c8 c9 f9
  go_wp2_with (first
    | (go_at_call 32; ((with_reducible refine HCT.out.mono ?_); rintro e' w3 ⟨v3, rfl, hb3⟩; have HB3 := Keep.keep hb3; clear hb3))
    | (with_reducible refine arm_stop ?_))
  refine Stopped.out ?_
  with_reducible refine arm_append slB (Owns.nil w3 w3.heap.size 5) HB3.out.r ?_ ?_ ?_ ?_ ?_
  · rw [rest_length, List.length_nil]; omega
  · exact Nat.le_refl _
  · rfl
  · rfl
  intro v4 w4 ho4 hg4 hb4
  obtain ⟨a4, cap4, hv4, _⟩ := ho4.reads.shape
  have hr4 := HB3.out.s.grown hg4 (by simp [Value.ownBlock])
  have hc4 : Chg (fun x => x = S ∨ B ≤ x) w.heap.size w w4 := (HC1.out.trans ((HB3.out.b.mono (Nat.le_refl _) (fun k hk => .inl hk)).lower hsz1)).grown hg4 (Nat.le_trans hsz1 HB3.out.b.size) (by simp [Value.ownBlock])
  have hk4 : Consts w4 := HSt.out.k.chg hc4 (by have := HG.out; omega) (by have := HG.out; omega)
  have c8 : ∃ u, w4.cell? ⟨S, 8, none⟩ = some u := ⟨left, hr4.cell (by simp [stCells, words, (ok8_fed (l ++ m)).len])⟩
  obtain ⟨u8, c8⟩ := c8
  have f8 := hr4.frozen 8
  have hlt4 := hr4.lt
  have hown4 := ho4.lt
  have hsz3 : w.heap.size ≤ w3.heap.size := Nat.le_trans hsz1 HB3.out.b.size
  have hfin : St (w4.setCell ⟨S, 8, none⟩ v4) S B (l ++ m) ∧ Chg (fun x => x = S ∨ B ≤ x) w.heap.size w (w4.setCell ⟨S, 8, none⟩ v4) := by
    have hset : Chg (fun x => x = S) w4.heap.size w4 (w4.setCell ⟨S, 8, none⟩ v4) := Chg.setCell (M := fun x => x = S) (.refl _ _ _) (.inr rfl) _
    refine ⟨⟨⟨v4, hr4.set' 8 _ ?_, ?_⟩, hk4.chg hset (by have := HG.out; omega) (by have := HG.out; omega), HG.out, hsb⟩, hc4.setCell (.inr (.inl rfl)) _⟩
    · apply Array.ext'; simp [stCells, words, (ok8_fed (l ++ m)).len]
    · have := (ho4.mono (Nat.le_trans hB hsz3)).chg hset (fun k hk => ⟨(hown4 k hk).2, by have := (hown4 k hk).1; omega⟩)
      simpa using this
  have HFIN := Keep.keep hfin
  clear hr4 hc4 hk4 ho4 hg4 hb4 hown4 hfin
  subst hv4
  simp only [Act.put, List.setIfInBounds_toArray, List.set_cons_succ, List.set_cons_zero]
  go_wp2
  go_ret
  exact ⟨rfl, HFIN.out⟩
end Go.Proofs.YtofficleahalaaaDoor
