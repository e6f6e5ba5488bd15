/- PaxSelf: a size counts itself. -/
import Derived.Test.YtlhjehcfpnjbmaaDoorPaxTells
namespace Go.Proofs.YtlhjehcfpnjbmaaDoor
open Go.RowKit
theorem extK (l : List UInt8) (k : Nat) : ByteArray.extract ⟨l.toArray⟩ 0 k = ⟨(l.take k).toArray⟩ := by
  apply ByteArray.ext
  apply Array.ext'
  rw [Lib.extract_data]; simp
set_option maxHeartbeats 1000000 in
set_option maxRecDepth 100000 in
theorem text_any (n : Int) (h0 : -9223372036854775808 ≤ n) (h1 : n ≤ 9223372036854775807) (B : Nat) (w : World) (_hB : B ≤ w.heap.size) (hT : Pow B w) :
    Calls Tryd.prog 13 #[.int .i64 n] w fun e w' => e = .returned (.string ⟨(Lib.itoa n).toArray⟩) ∧ Below w.heap.size w w' := by
  have HF := Keep.keep (Tryd.strconv_FormatInt_10 n h0 h1 w hT.here)
  clear hT
  generalize Lib.itoa n = t at *
  go_enter Tryd.func13, Tryd.ntmps13
  go_wp2_with (go_at_call 27; ((with_reducible refine HF.out.mono ?_); rintro e w1 ⟨rfl, k, os, rfl⟩))
  go_ret
  exact ⟨rfl, below_of_grow⟩
set_option maxHeartbeats 1000000 in
set_option maxRecDepth 100000 in
theorem size_bad (k : List UInt8) (s : ByteArray) (hm : mayK k = false) (w : World) (HM : ∀ w', Calls Tryd.prog 23 #[.agg #[.string ⟨k.toArray⟩, .string s]] w' fun e w'' => e = .returned (.bool (mayK k)) ∧ Below w'.heap.size w' w'') :
    Calls Tryd.prog 10 #[.agg #[.string ⟨k.toArray⟩, .string s]] w fun e w' => e = .returned (.int .i64 0) ∧ Below w.heap.size w w' := by
  rw [hm] at HM
  have HM := Keep.keep HM
  go_enter Tryd.func10, Tryd.ntmps10
  go_wp2_with (go_at_call 23; ((with_reducible refine (HM.out _).mono ?_); rintro e w1 ⟨rfl, hb1⟩))
  go_ret
  exact ⟨rfl, ((Below.refl _ _).alloc (Nat.le_refl _) _).trans (hb1.mono (by simp))⟩
/-- the byte that stands in the key -/
def fx (c : UInt8) : UInt8 := if c = 0 ∨ c = 61 ∨ c = 10 then 120 else c
theorem may_fx (l : List UInt8) (h0 : l ≠ []) (h1 : l.length ≤ 255) : mayK (l.map fx) = true := by
  have h2 : (l.map fx).any (badB.contains ·) = false := by
    rw [List.any_eq_false]
    intro x hx
    obtain ⟨c, _, rfl⟩ := List.mem_map.1 hx
    unfold fx
    split
    · decide
    · rename_i h
      simp [badB]
      exact ⟨fun e => h (.inl e), fun e => h (.inr (.inl e)), fun e => h (.inr (.inr e))⟩
  have h3 : (l.map fx).isEmpty = false := by cases l <;> simp_all
  unfold mayK
  rw [h2, h3, decide_eq_true (by simpa using h1)]; rfl
/-- block b is a row, no cell of which is frozen -/
def RowF (w : World) (b : Nat) (e : TypeId) (c : Array Value) : Prop := ∃ fz : Nat × Nat, w.heap[b]? = some (.cells c e fz) ∧ c.size ≤ fz.1
theorem heap_alloc_newF (w : World) (o : Obj) : (w.alloc o).heap[w.heap.size]? = some o := heap_alloc_new w o
theorem RowF.cell {w : World} {b : Nat} {e : TypeId} {c : Array Value} (h : RowF w b e c) {i : Nat} {v : Value} (hv : c[i]? = some v) : w.cell? ⟨b, i, none⟩ = some v := by
  obtain ⟨fz, h, _⟩ := h
  simp [World.cell?, h, hv]
theorem RowF.frozen {w : World} {b : Nat} {e : TypeId} {c : Array Value} (h : RowF w b e c) {i : Nat} (hi : i < c.size) : w.frozen? ⟨b, i, none⟩ = false := by
  obtain ⟨fz, h, hz⟩ := h
  obtain ⟨lo, hi'⟩ := fz
  simp only [World.frozen?, h]
  simp only at hz
  simp; intro h; omega
theorem RowF.lt {w : World} {b : Nat} {e : TypeId} {c : Array Value} (h : RowF w b e c) : b < w.heap.size := by
  obtain ⟨fz, h, _⟩ := h
  exact (Array.getElem?_eq_some_iff.1 h).1
theorem RowF.set {w : World} {b : Nat} {e : TypeId} {c : Array Value} (h : RowF w b e c) (i : Nat) (v : Value) : RowF (w.setCell ⟨b, i, none⟩ v) b e (c.setIfInBounds i v) := by
  obtain ⟨fz, h, hz⟩ := h
  refine ⟨fz, ?_, by simpa using hz⟩
  rw [setCell_eq_setRow w b i c e fz v h]
  exact setRow_heap w b c _ e _ h
/-- a text turned to bytes: a row of its own, hidden -/
theorem convF (l : List UInt8) (hl : l.length ≤ 100000000) : ∃ cf : World → Nat, ∃ rf : World → Array Value, ∃ mf : World → Nat × Nat,
    (∀ w, (convert 9 23 (.string ⟨l.toArray⟩)).run Tryd.prog w = .ok (.slice (some ⟨w.heap.size, 0, none⟩) l.length (cf w)) (w.drew.alloc (.cells (rf w) 5 (mf w)))) ∧
    (∀ w, (rf w).size ≤ (mf w).1 ∧ l.length ≤ cf w ∧ cf w ≤ maxLen ∧ ∃ pad, rf w = (bcells l ++ pad).toArray) := by
  have hsz : (⟨l.toArray⟩ : ByteArray).size = l.length := by simp [ByteArray.size]
  refine ⟨fun w => grownCap w l.length 0 5, fun w => bytesRow ⟨l.toArray⟩ (grownCap w l.length 0 5), fun w => ((bytesRow ⟨l.toArray⟩ (grownCap w l.length 0 5)).size, (bytesRow ⟨l.toArray⟩ (grownCap w l.length 0 5)).size + 1), fun w => ?_, fun w => ?_⟩
  · have := run_bytes_of_string (P := Tryd.prog) w 9 23 5 ⟨l.toArray⟩ Tryd.underlying9 Tryd.underlying23 Tryd.underlying5
    rw [hsz] at this
    exact this
  · refine ⟨Nat.le_refl _, grownCap_ge _ _ _ _, grownCap_le_maxLen _ _ _ _ (by unfold maxLen; omega), (Array.replicate (grownCap w l.length 0 5 - l.length) (.int .u8 0)).toList, ?_⟩
    apply Array.ext'
    simp [bytesRow, bcells, hsz]
def fxAt (l : List UInt8) (i : Nat) : List UInt8 := (l.take i).map fx ++ l.drop i
theorem fxAt_length (l : List UInt8) (i : Nat) : (fxAt l i).length = l.length := by simp [fxAt]; omega
theorem fxAt_all (l : List UInt8) : fxAt l l.length = l.map fx := by simp [fxAt]
theorem fxAt_get (l : List UInt8) (i : Nat) (h : i < l.length) : (fxAt l i)[i]? = some l[i] := by
  have hl : ((l.take i).map fx).length = i := by simp; omega
  unfold fxAt
  rw [List.getElem?_append_right (by omega), hl, Nat.sub_self, List.drop_eq_getElem_cons h]
  rfl
theorem fxAt_succ (l : List UInt8) (i : Nat) (h : i < l.length) : fxAt l (i + 1) = (fxAt l i).set i (fx l[i]) := by
  have hl : ((l.take i).map fx).length = i := by simp; omega
  unfold fxAt
  rw [List.take_add_one, List.getElem?_eq_getElem h, List.set_append_right _ _ (by omega), hl, Nat.sub_self, List.drop_eq_getElem_cons h, List.set_cons_zero, List.map_append]
  simp
set_option maxHeartbeats 1000000 in
set_option maxRecDepth 100000 in
theorem self_any (key val : List UInt8) (B : Nat) (w : World) (hB : B ≤ w.heap.size) (hT : Pow B w) (hkl : key.length ≤ 9223372036854775807) (hvl : val.length ≤ 9223372036854775807) :
    Calls Tryd.prog 4 #[.string ⟨key.toArray⟩, .string ⟨val.toArray⟩] w fun e w' => e = .returned (.bool true) ∧ Below w.heap.size w w' := by
  have hkm : min (key.length : Int) 255 = ((min key.length 255 : Nat) : Int) := by omega
  have hkk : min key.length 255 ≤ key.length := by omega
  have hex := extK key (min key.length 255)
  have hsl : (key.take (min key.length 255)).length ≤ 255 := by simp; omega
  generalize hs : key.take (min key.length 255) = s at *
  clear hs
  obtain ⟨cf, rf, mf, kc, hrf⟩ := convF s (by omega)
  have HRF := Keep.keep hrf; have HT := Keep.keep hT; have HB := Keep.keep hB
  clear hrf hT hB
  generalize min key.length 255 = kn at *
  go_enter Tryd.func4, Tryd.ntmps4
  go_wp2_with fail
  refine wp_world (R := fun w2 => Below w.heap.size w w2 ∧ ∃ pad, RowF w2 w.heap.size 5 (bcells s ++ pad).toArray) ⟨(Below.refl _ _).drew.alloc (Nat.le_refl _) _, ?_⟩ ?_
  · obtain ⟨h1, _, _, pad, h4⟩ := HRF.out w
    exact ⟨pad, mf w, by rw [← h4]; exact heap_alloc_newF _ _, by rw [← h4]; exact h1⟩
  intro w2 H2
  generalize hg0 : w.heap.size = g0 at *
  have hcf := (HRF.out w).2.1
  have hcm := (HRF.out w).2.2.1
  generalize cf w = cap at *
  clear HRF kc
  obtain ⟨hb2, pad, hrow2⟩ := H2.out
  have HB2 := Keep.keep hb2; have HROW2 := Keep.keep hrow2
  clear hb2 hrow2 H2
  have hcm' : cap ≤ 9223372036854775807 := by unfold maxLen at hcm; omega
  go_loopg [6, 17] s.length (fun g _ u wx => ∃ i : Nat, i + g = s.length ∧ u = .int .i64 (i : Int) ∧ RowF wx g0 5 (bcells (fxAt s i) ++ pad).toArray ∧ Below g0 w wx)
  case atStart => exact ⟨0, by omega, rfl, by simpa [fxAt] using HROW2.out, HB2.out⟩
  case round =>
    obtain ⟨i, hig, rfl, hrow, hbw⟩ := hrel
    have HROW := Keep.keep hrow; have HBW := Keep.keep hbw
    clear hrow hbw
    cases gk with
    | zero =>
      obtain rfl : i = s.length := by omega
      have hrd : Reads wr (fun b => b = g0) (.slice (some ⟨g0, 0, none⟩) s.length cap) (s.map fx) := by
        have hl : (s.map fx).length = s.length := by simp
        refine ⟨⟨_, cap, by rw [hl], by omega, hcm, .inr ⟨_, _, rfl, rfl⟩⟩, fun b off n c he j hj => ?_⟩
        injection he with e1 _ _; injection e1 with e1; injection e1 with e1 e2 _; subst e1 e2
        rw [Nat.zero_add]
        refine HROW.out.cell ?_
        rw [fxAt_all, List.getElem?_toArray, List.getElem?_append_left (by rw [bcells_length]; exact hj), bcells_get _ _ hj]
      have HRD := Keep.keep hrd
      have hgl : g0 < wr.heap.size := HROW.out.lt
      have HWS : Keep (w.heap.size ≤ wr.heap.size) := ⟨by omega⟩
      have HBT := Keep.keep (fun (wx : World) (h : Below g0 w wx) (hs : w.heap.size ≤ wx.heap.size) => tells_any B wx (Nat.le_trans HB.out (by omega)) (HT.out.on (h.mono (by have := HB.out; omega))))
      by_cases hse : s = []
      · subst hse
        have HSB := Keep.keep (fun w' => size_bad [] ⟨val.toArray⟩ rfl w' (fun w'' => may_any [] val w''))
        have hmk : mayK [] = false := rfl
        go_wp2_with (first
          | (go_at_call 10; ((with_reducible refine (HSB.out _).mono ?_); rintro e w3 ⟨rfl, hb3⟩; have HB3 := Keep.keep (HBW.out.trans (hb3.mono (by omega))); have HS3 : Keep (w.heap.size ≤ w3.heap.size) := ⟨by have := hb3.size; omega⟩; clear hb3))
          | (go_at_call 12; ((with_reducible refine (HBT.out _ HB3.out HS3.out).mono ?_); rintro e w4 ⟨rfl, hb4⟩)))
        go_ret
        exact ⟨rfl, by rw [hg0]; exact HB3.out.trans (hb4.mono (by have := HS3.out; omega))⟩
      · have hsl1 : 1 ≤ s.length := List.length_pos_iff.2 hse
        have hmk := may_fx s hse hsl
        have hKl : (s.map fx).length = s.length := by simp
        have hvm : min (val.length : Int) 20000 = ((min val.length 20000 : Nat) : Int) := by omega
        have hvk : min val.length 20000 ≤ val.length := by omega
        have hex2 := extK val (min val.length 20000)
        have hvl2 : (val.take (min val.length 20000)).length ≤ 20000 := by simp; omega
        generalize hv : val.take (min val.length 20000) = v at *
        clear hv
        generalize min val.length 20000 = vn at *
        generalize s.map fx = K at *
        have hcv := run_string_of (HRD.out)
        have hcat := run_cat (P := Tryd.prog) v [121] (by simp; omega)
        have hr : szR K v = s.length + v.length + 3 := by unfold szR; omega
        have hr2 : szR K (v ++ [121]) = szR K v + 1 := by unfold szR; simp; omega
        have hz1 : sz K v = szR K v + dsz (szR K v) := by simp [sz, hmk]
        have hz2 : sz K (v ++ [121]) = szR K v + 1 + dsz (szR K v + 1) := by simp only [sz, hmk, if_true, hr2]
        have hst := dsz_step (szR K v) (by omega)
        have hfx := dsz_fix (szR K v) (by omega)
        have hdl := Lib.decDigits_length (sz K v)
        have hd21 := (dsz_spec (szR K v) (by omega)).2.1
        rw [hz1, hfx] at hdl
        rw [← hz1] at hdl
        have HS1 := Keep.keep (fun (wx : World) (h : Below g0 w wx) (hs : w.heap.size ≤ wx.heap.size) => size_any K v (by omega) B wx (Nat.le_trans HB.out (by omega)) (HT.out.on (h.mono (by have := HB.out; omega))))
        have HS2 := Keep.keep (fun (wx : World) (h : Below g0 w wx) (hs : w.heap.size ≤ wx.heap.size) => size_any K (v ++ [121]) (by simp; omega) B wx (Nat.le_trans HB.out (by omega)) (HT.out.on (h.mono (by have := HB.out; omega))))
        have HTX := Keep.keep (fun (wx : World) (h : Below g0 w wx) (hs : w.heap.size ≤ wx.heap.size) => text_any ((sz K v : Nat) : Int) (by omega) (by omega) B wx (Nat.le_trans HB.out (by omega)) (HT.out.on (h.mono (by have := HB.out; omega))))
        rw [itoa_nat] at HTX
        have hn : sz K v = s.length + v.length + 3 + dsz (szR K v) := by omega
        have hn2 : sz K (v ++ [121]) = sz K v + 1 ∨ sz K (v ++ [121]) = sz K v + 2 := by omega
        generalize Lib.decDigits (sz K v) = t at *
        generalize sz K v = n at *
        generalize sz K (v ++ [121]) = n2 at *
        generalize dsz (szR K v) = D at *
        have hsum : ((n : Int) == (D : Int) + 1 + (s.length : Int) + 1 + (v.length : Int) + 1) = true := by rw [beq_iff_eq]; omega
        have hvl3 : (v ++ [121]).length = v.length + 1 := by simp
        clear hr hr2 hz1 hz2 hst hfx hn hmk hKl hse
        have HV2 := Keep.keep hvl3
        clear hvl3
        have hts : (⟨t.toArray⟩ : ByteArray).size = t.length := rfl
        rcases hn2 with hn2 | hn2
        · have hmore : (n2 : Int) - (n : Int) = 1 := by omega
          clear hn2
          go_wp2_with (first
            | (go_at_call 10; first | ((with_reducible refine (HS1.out _ HBW.out HWS.out).mono ?_); rintro e w3 ⟨rfl, hb3⟩; have HB3 := Keep.keep (HBW.out.trans (hb3.mono (by omega))); have HS3 : Keep (w.heap.size ≤ w3.heap.size) := ⟨by have := hb3.size; omega⟩; have hcv3 := run_string_of (HRD.out.below hb3 (fun b hb => by have hb : b = _ := hb; omega)); clear hb3) | ((with_reducible refine (HS2.out _ HB3.out HS3.out).mono ?_); rintro e w4 ⟨rfl, hb4⟩; have HB4 := Keep.keep (HB3.out.trans (hb4.mono (by have := HS3.out; omega))); have HS4 : Keep (w.heap.size ≤ w4.heap.size) := ⟨by have := hb4.size; have := HS3.out; omega⟩; clear hb4))
            | (go_at_call 13; ((with_reducible refine (HTX.out _ HB4.out HS4.out).mono ?_); rintro e w5 ⟨rfl, hb5⟩; have HB5 := Keep.keep (HB4.out.trans (hb5.mono (by have := HS4.out; omega))); have HS5 : Keep (w.heap.size ≤ w5.heap.size) := ⟨by have := hb5.size; have := HS4.out; omega⟩; clear hb5))
            | (go_at_call 12; ((with_reducible refine (HBT.out _ HB5.out HS5.out).mono ?_); rintro e w6 ⟨rfl, hb6⟩)))
          go_ret
          exact ⟨rfl, by rw [hg0]; exact HB5.out.trans (hb6.mono (by have := HS5.out; omega))⟩
        · have hmore : (n2 : Int) - (n : Int) = 2 := by omega
          clear hn2
          go_wp2_with (first
            | (go_at_call 10; first | ((with_reducible refine (HS1.out _ HBW.out HWS.out).mono ?_); rintro e w3 ⟨rfl, hb3⟩; have HB3 := Keep.keep (HBW.out.trans (hb3.mono (by omega))); have HS3 : Keep (w.heap.size ≤ w3.heap.size) := ⟨by have := hb3.size; omega⟩; have hcv3 := run_string_of (HRD.out.below hb3 (fun b hb => by have hb : b = _ := hb; omega)); clear hb3) | ((with_reducible refine (HS2.out _ HB3.out HS3.out).mono ?_); rintro e w4 ⟨rfl, hb4⟩; have HB4 := Keep.keep (HB3.out.trans (hb4.mono (by have := HS3.out; omega))); have HS4 : Keep (w.heap.size ≤ w4.heap.size) := ⟨by have := hb4.size; have := HS3.out; omega⟩; clear hb4))
            | (go_at_call 13; ((with_reducible refine (HTX.out _ HB4.out HS4.out).mono ?_); rintro e w5 ⟨rfl, hb5⟩; have HB5 := Keep.keep (HB4.out.trans (hb5.mono (by have := HS4.out; omega))); have HS5 : Keep (w.heap.size ≤ w5.heap.size) := ⟨by have := hb5.size; have := HS4.out; omega⟩; clear hb5))
            | (go_at_call 12; ((with_reducible refine (HBT.out _ HB5.out HS5.out).mono ?_); rintro e w6 ⟨rfl, hb6⟩)))
          go_ret
          exact ⟨rfl, by rw [hg0]; exact HB5.out.trans (hb6.mono (by have := HS5.out; omega))⟩
    | succ g =>
      have hi : i < s.length := by omega
      have hcell := HROW.out.cell (i := i) (v := .int .u8 (s[i].toNat : Int)) (by
        have := fxAt_get s i hi
        have h2 : i < (fxAt s i).length := by rw [fxAt_length]; exact hi
        rw [List.getElem?_toArray, List.getElem?_append_left (by rw [bcells_length]; exact h2), bcells_get _ _ h2]
        rw [List.getElem?_eq_getElem h2] at this
        injection this with this
        rw [this])
      have hfz := HROW.out.frozen (i := i) (by simp [bcells_length, fxAt_length]; omega)
      have hset : fx s[i] = 120 → RowF (wr.setCell ⟨g0, i, none⟩ (.int .u8 120)) g0 5 (bcells (fxAt s (i + 1)) ++ pad).toArray := by
        intro e
        have := HROW.out.set i (.int .u8 120)
        rw [fxAt_succ s i hi, e]
        rw [List.setIfInBounds_toArray, List.set_append_left _ _ (by rw [bcells_length, fxAt_length]; exact hi)] at this
        have e2 : bcells ((fxAt s i).set i 120) = (bcells (fxAt s i)).set i (.int .u8 120) := by
          simp only [bcells, List.map_set]; rfl
        rw [e2]; exact this
      have hkeep : fx s[i] = s[i] → fxAt s (i + 1) = fxAt s i := by
        intro e
        rw [fxAt_succ s i hi, e]
        have h2 := fxAt_get s i hi
        have h3 : i < (fxAt s i).length := by rw [fxAt_length]; exact hi
        rw [List.getElem?_eq_getElem h3] at h2
        injection h2 with h2
        rw [← h2, List.set_getElem_self]
      have hbs : Below g0 w (wr.setCell ⟨g0, i, none⟩ (.int .u8 120)) := (Chg.setCell (M := NoM) (.of_below HBW.out) (.inl (Nat.le_refl _)) _).below (fun _ _ h => h)
      have HSET := Keep.keep hset; have HKEEP := Keep.keep hkeep; have HBS := Keep.keep hbs
      clear hset hkeep hbs
      generalize s[i] = c at *
      have hc256 := c.toNat_lt
      have ef : ∀ n : UInt8, c ≠ n → ((c.toNat : Int) == (n.toNat : Int)) = false := fun n h => by
        rw [beq_eq_false_iff_ne]; intro e; exact h (UInt8.toNat_inj.1 (by omega))
      by_cases h0 : c = 0
      · have hx : fx c = 120 := by simp [fx, h0]
        have hd : ((c.toNat : Int) == 0) = true := by rw [h0]; rfl
        clear ef h0
        go_wp2_with fail
        go_roundg g
        case measure => omega
        case rel => exact ⟨i + 1, by omega, by simp, HSET.out hx, HBS.out⟩
      · have hd0 : ((c.toNat : Int) == 0) = false := ef 0 h0
        by_cases h1 : c = 61
        · have hx : fx c = 120 := by simp [fx, h1]
          have hd : ((c.toNat : Int) == 61) = true := by rw [h1]; rfl
          clear ef h0 h1
          go_wp2_with fail
          go_roundg g
          case measure => omega
          case rel => exact ⟨i + 1, by omega, by simp, HSET.out hx, HBS.out⟩
        · have hd1 : ((c.toNat : Int) == 61) = false := ef 61 h1
          by_cases h2 : c = 10
          · have hx : fx c = 120 := by simp [fx, h2]
            have hd : ((c.toNat : Int) == 10) = true := by rw [h2]; rfl
            clear ef h0 h1 h2
            go_wp2_with fail
            go_roundg g
            case measure => omega
            case rel => exact ⟨i + 1, by omega, by simp, HSET.out hx, HBS.out⟩
          · have hd2 : ((c.toNat : Int) == 10) = false := ef 10 h2
            have hx : fx c = c := by simp [fx, h0, h1, h2]
            have HX := Keep.keep hx
            clear ef h0 h1 h2 hx
            go_wp2_with fail
            go_roundg g
            case measure => omega
            case rel => exact ⟨i + 1, by omega, by simp, by rw [HKEEP.out HX.out]; exact HROW.out, HBW.out⟩
end Go.Proofs.YtlhjehcfpnjbmaaDoor
