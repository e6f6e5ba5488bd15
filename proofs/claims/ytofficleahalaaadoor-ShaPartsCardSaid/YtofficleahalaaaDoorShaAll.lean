/- sha.New, sha.All, sha.Sum. -/
import Derived.Test.YtofficleahalaaaDoorShaSum
namespace Go.Proofs.YtofficleahalaaaDoor
open Go.RowKit
/-- what the beginning's variable holds -/
def Begins (w : World) : Prop := ∀ i, i < 8 → w.cell? ⟨0, i, none⟩ = some (.int .u32 ((H0s.getD i 0 : Nat) : Int))
theorem Begins.chg {M : Nat → Prop} {w w' : World} {B : Nat} (h : Begins w) (hb : Chg M B w w') (hB : 0 < B) (hm : ¬ M 0) : Begins w' := fun i hi => by
  rw [hb.cell (p := ⟨0, i, none⟩) hB hm]; exact h i hi
set_option maxHeartbeats 400000 in
theorem new_any (w : World) (hK : Consts w) (hH : Begins w) :
    Calls Tryd.prog 13 #[] w fun e w' => e = .returned (.pointer (some ⟨w.heap.size, 0, none⟩)) ∧ St w' w.heap.size (w.heap.size + 1) [] ∧ Below w.heap.size w w' ∧ w.heap.size + 1 ≤ w'.heap.size := by
  have c0 : w.cell? ⟨0, 0, none⟩ = some (.int .u32 1779033703) := hH 0 (by decide)
  have c1 : w.cell? ⟨0, 1, none⟩ = some (.int .u32 3144134277) := hH 1 (by decide)
  have c2 : w.cell? ⟨0, 2, none⟩ = some (.int .u32 1013904242) := hH 2 (by decide)
  have c3 : w.cell? ⟨0, 3, none⟩ = some (.int .u32 2773480762) := hH 3 (by decide)
  have c4 : w.cell? ⟨0, 4, none⟩ = some (.int .u32 1359893119) := hH 4 (by decide)
  have c5 : w.cell? ⟨0, 5, none⟩ = some (.int .u32 2600822924) := hH 5 (by decide)
  have c6 : w.cell? ⟨0, 6, none⟩ = some (.int .u32 528734635) := hH 6 (by decide)
  have c7 : w.cell? ⟨0, 7, none⟩ = some (.int .u32 1541459225) := hH 7 (by decide)
  have hz : 1 < w.heap.size := World.block_lt_of_cell? w _ (hK 0 (by decide))
  have HK := Keep.keep hK; clear hK hH
  go_enter Tryd.func13, Tryd.ntmps13
  go_wp2
  go_ret
  refine ⟨rfl, ⟨⟨.slice none 0 0, Row.new' rfl rfl, Owns.nil _ _ _⟩, ?_, by omega, by omega⟩, (Below.refl _ _).alloc (Nat.le_refl _) _, by simp⟩
  exact HK.out.chg (M := fun _ => False) (.of_below ((Below.refl _ _).alloc (Nat.le_refl _) _)) (by omega) (fun h => h)
/-- parts, each of which reads as bytes -/
structure Parts (w : World) (N : Nat → Prop) (v : Value) (ls : List (List UInt8)) : Prop where
  shape : ∃ a cap, v = .slice a ls.length cap ∧ ls.length ≤ cap ∧ cap ≤ maxLen ∧ ((a = none ∧ cap = 0) ∨ ∃ b off, a = some ⟨b, off, none⟩ ∧ N b)
  item : ∀ b off n cap, v = .slice (some ⟨b, off, none⟩) n cap → ∀ j (h : j < ls.length), ∃ u, w.cell? ⟨b, off + j, none⟩ = some u ∧ Reads w N u ls[j]
/-- the memory while the parts are taken -/
structure Am (w wr : World) (l : List UInt8) : Prop where
  r : Row wr w.heap.size 25 zeros32
  s : St wr (w.heap.size + 1) (w.heap.size + 2) l
  b : Below w.heap.size w wr
  z : w.heap.size + 2 ≤ wr.heap.size
set_option maxHeartbeats 400000 in
set_option maxRecDepth 100000 in
theorem all_any (v : Value) (ls : List (List UInt8)) (w : World) (hK : Consts w) (hH : Begins w) (hv : Parts w (fun b => b < w.heap.size) v ls) (hlen : ls.flatten.length ≤ 140737488355328) :
    Calls Tryd.prog 18 #[v] w fun e w' => e = .returned (.agg (bcells (digest ls.flatten)).toArray) ∧ Below w.heap.size w w' := by
  obtain ⟨a, cap, hu, h1, h2, h3⟩ := hv.shape
  have HV := Keep.keep hv; have HK := Keep.keep hK; have HH := Keep.keep hH
  have hgK : 1 < w.heap.size := World.block_lt_of_cell? w _ (hK 0 (by decide))
  have hgH : 0 < w.heap.size := World.block_lt_of_cell? w _ (hH 0 (by decide))
  clear hv hK hH
  subst hu
  unfold maxLen at h2
  generalize hn : ls.length = n at *
  have HN := Keep.keep hn; clear hn
  go_enter Tryd.func18, Tryd.ntmps18
  have hb0 : ∀ o, Below w.heap.size w (w.alloc o) := fun o => (Below.refl _ _).alloc (Nat.le_refl _) o
  have HB0 := Keep.keep hb0; clear hb0
  go_wp2_with (go_at_call 13; ((with_reducible refine (new_any _ ?_ ?_).mono ?_); rotate_left; rotate_left; rintro e' w1 ⟨rfl, hs1, hb1, hz1⟩))
  rotate_left
  · exact HK.out.chg (M := fun _ => False) (.of_below (HB0.out _)) hgK (fun h => h)
  · exact HH.out.chg (M := fun _ => False) (.of_below (HB0.out _)) hgH (fun h => h)
  have ha1 : Am w w1 [] := ⟨(Row.new' rfl rfl).below hb1 (by simp), by simpa using hs1, (HB0.out _).trans (hb1.mono (by simp)), by simpa using hz1⟩
  have HA1 := Keep.keep ha1
  clear ha1 hs1 hb1 hz1
  go_loopw [9] (fun t wr => ∃ k : Nat, k ≤ n ∧ t = .int .i64 k ∧ Am w wr (ls.take k).flatten) (fun t _ => n - (intOf t).toNat)
  case atStart => exact ⟨0, Nat.zero_le _, rfl, by simpa using HA1.out⟩
  case round =>
    obtain ⟨k, hk, rfl, ha⟩ := hrel
    have HA := Keep.keep ha; clear ha
    by_cases hkn : k < n
    · rcases h3 with ⟨_, h3⟩ | ⟨b, off, rfl, hb⟩
      · omega
      have hkl : k < ls.length := by rw [HN.out]; exact hkn
      obtain ⟨u, hcu, hru⟩ := HV.out.item b off _ _ rfl k hkl
      rw [← HA.out.b.cell (p := ⟨b, off + k, none⟩) hb] at hcu
      obtain ⟨ua, ucap, hue, _⟩ := hru.shape
      have hr2 := hru.below HA.out.b (fun _ h => h)
      have hfl : (ls.take (k + 1)).flatten = (ls.take k).flatten ++ ls[k] := by
        rw [List.take_succ_eq_append_getElem hkl, List.flatten_append]; simp
      have hle : (ls.take k).flatten.length + ls[k].length ≤ 140737488355328 := by
        have e := congrArg (fun l => l.flatten.length) (List.take_append_drop (k + 1) ls)
        simp only [List.flatten_append, List.length_append, hfl] at e
        omega
      have hct := write_any u (ls.take k).flatten ls[k] (fun b => b < w.heap.size) (w.heap.size + 1) (w.heap.size + 2) wr HA.out.s hr2 (fun b hb => ⟨by have := HA.out.z; omega, by omega⟩) hle HA.out.z
      rw [← hfl] at hct
      have HCT := Keep.keep hct
      clear hct hle hfl hr2 hru
      generalize ls[k].length = ul at hue
      subst hue
      go_wp2_with (go_at_call 15; ((with_reducible refine HCT.out.mono ?_); rintro e' w2 ⟨rfl, hs2, hc2⟩; have HS2 := Keep.keep hs2; have HC2 := Keep.keep hc2; clear hs2 hc2))
      refine ⟨⟨k + 1, by omega, by go_num, ?_⟩, by simp [intOf]; omega⟩
      have hz := HA.out.z
      exact ⟨HA.out.r.chg HC2.out (by omega) (by omega), HS2.out, HA.out.b.trans ((HC2.out.lower (by omega)).below (fun k hk => by omega)), Nat.le_trans hz HC2.out.size⟩
    · obtain rfl : k = n := by omega
      have hs := HA.out.s
      rw [← HN.out, List.take_length] at hs
      have hct := sum_any ls.flatten _ _ wr hs hlen
      have HCT := Keep.keep hct
      have HR := Keep.keep HA.out.r
      have h1c : (bcells (digest ls.flatten)).toArray.all (·.oneCell') = true := all_oneCell_toArray (bcells_one _)
      have hc32 : (bcells (digest ls.flatten)).toArray.size = 32 := by simp [bcells, digest_length]
      have H1C := Keep.keep h1c; have HC32 := Keep.keep hc32
      have hz : zeros32.size = 32 := by simp [zeros32, bcells]
      have HZ := Keep.keep hz
      clear hct hs h1c hc32 hz
      generalize hcs : (bcells (digest ls.flatten)).toArray = cs at HCT H1C HC32
      have HCS := Keep.keep hcs; clear hcs
      go_wp2_with (first
        | (go_at_call 16; ((with_reducible refine HCT.out.mono ?_); rintro e' w2 ⟨rfl, hb2⟩; have HB2 := Keep.keep hb2; clear hb2))
        | ((with_reducible refine arm_storeRow (HR.out.below HB2.out HR.out.lt) aggDig HZ.out HC32.out H1C.out ?_ ?_ ?_); (focus rfl); (focus rfl); simp only [Act.put]))
      have hr2 := HR.out.below HB2.out HR.out.lt
      refine bodyPost_ret (v := .agg cs) ?_ rfl ⟨by rw [HCS.out], ?_⟩
      · exact results_row (p := 2) (ty := 25) rfl (hr2.setRow cs) aggDig HC32.out rfl
      · exact below_setRow (HA.out.b.trans (HB2.out.mono (by have := HR.out.lt; omega))) (Nat.le_refl _) _
/-- one part -/
theorem Parts.one {w : World} {N N' : Nat → Prop} {e : TypeId} {v : Value} {l : List UInt8} (h : Reads w N v l) (hN : ∀ b, N b → b < w.heap.size) (hN' : ∀ b, b < w.heap.size + 1 → N' b) (k : Nat) (hk : k = w.heap.size) :
    Parts (w.alloc (.cells #[v] e)) N' (.slice (some ⟨k, 0, none⟩) 1 1) [l] := by
  subst hk
  refine ⟨⟨_, 1, rfl, Nat.le_refl _, by unfold maxLen; omega, .inr ⟨_, _, rfl, hN' _ (by omega)⟩⟩, fun b off n cap he j hj => ?_⟩
  injection he with e1 _ _; injection e1 with e1; injection e1 with e1 e2 _; subst e1 e2
  obtain rfl : j = 0 := by simp at hj; exact hj
  exact ⟨v, (Row.new w e _).cell rfl, (h.below ((Below.refl _ _).alloc (Nat.le_refl _) _) hN).mono (fun b hb => hN' b (by have := hN b hb; omega))⟩
set_option maxHeartbeats 400000 in
set_option maxRecDepth 100000 in
theorem sumb_any (v : Value) (l : List UInt8) (w : World) (hK : Consts w) (hH : Begins w) (hv : Reads w (fun b => b < w.heap.size) v l) (hlen : l.length ≤ 140737488355328) :
    Calls Tryd.prog 9 #[v] w fun e w' => e = .returned (.agg (bcells (digest l)).toArray) ∧ Below w.heap.size w w' := by
  have HV := Keep.keep hv; have HK := Keep.keep hK; have HH := Keep.keep hH
  have hgK : 1 < w.heap.size := World.block_lt_of_cell? w _ (hK 0 (by decide))
  have hgH : 0 < w.heap.size := World.block_lt_of_cell? w _ (hH 0 (by decide))
  obtain ⟨a, cap, hu, _⟩ := hv.shape
  clear hv hK hH
  subst hu
  have h1c : (bcells (digest l)).toArray.all (·.oneCell') = true := all_oneCell_toArray (bcells_one _)
  have hc32 : (bcells (digest l)).toArray.size = 32 := by simp [bcells, digest_length]
  have H1C := Keep.keep h1c; have HC32 := Keep.keep hc32
  have hz : zeros32.size = 32 := by simp [zeros32, bcells]
  have HZ := Keep.keep hz
  clear h1c hc32 hz
  have hall : ∀ e1 e2, Calls Tryd.prog 18 #[.slice (some ⟨w.heap.size + 1, 0, none⟩) 1 1] ((w.alloc (.cells zeros32 e1)).alloc (.cells #[.slice a l.length cap] e2)) fun e w' => e = .returned (.agg (bcells (digest l)).toArray) ∧ Row w' w.heap.size e1 zeros32 ∧ Below w.heap.size w w' := by
    intro e1 e2
    have hb1 : Below w.heap.size w (w.alloc (.cells zeros32 e1)) := (Below.refl _ _).alloc (Nat.le_refl _) _
    have hb2 : Below w.heap.size w ((w.alloc (.cells zeros32 e1)).alloc (.cells #[.slice a l.length cap] e2)) := hb1.alloc (by simp) _
    have hc2 := Chg.of_below (M := fun _ => False) hb2
    have hp := Parts.one (e := e2) (N' := fun b => b < ((w.alloc (.cells zeros32 e1)).alloc (.cells #[.slice a l.length cap] e2)).heap.size) ((HV.out.below hb1 (fun _ h => h))) (fun b hb => by simp; omega) (fun b hb => by simpa using hb) (w.heap.size + 1) (by simp)
    have hr := (Row.new w e1 zeros32).old (.cells #[.slice a l.length cap] e2)
    refine (all_any _ [l] _ (HK.out.chg hc2 hgK (fun h => h)) (HH.out.chg hc2 hgH (fun h => h)) hp (by simpa using hlen)).mono ?_
    rintro e w' ⟨rfl, hb⟩
    exact ⟨by simp, hr.below hb hr.lt, hb2.trans (hb.mono (by simp; omega))⟩
  generalize (bcells (digest l)).toArray = cs at *
  have HALL := Keep.keep hall; clear hall
  go_enter Tryd.func9, Tryd.ntmps9
  go_wp2_with (first
    | (go_at_call 18; ((refine (HALL.out _ _).mono ?_); rintro e' w2 ⟨rfl, hr2, hb2⟩; have HB2 := Keep.keep hb2; have HR2 := Keep.keep hr2; clear hb2 hr2))
    | ((with_reducible refine arm_storeRow HR2.out aggDig HZ.out HC32.out H1C.out ?_ ?_ ?_); (focus rfl); (focus rfl); simp only [Act.put]))
  refine bodyPost_ret (v := .agg cs) ?_ rfl ⟨rfl, ?_⟩
  · exact results_row (p := 2) (ty := 25) rfl (HR2.out.setRow cs) aggDig HC32.out rfl
  · exact below_setRow HB2.out (Nat.le_refl _) _
end Go.Proofs.YtofficleahalaaaDoor
