/- DIGESTS OF NAMES. -/
import Derived.Test.YtofficleahalaaaDoorShaName
import Derived.Test.YtofficleahalaaaDoorShaSum
namespace Go.Proofs.YtofficleahalaaaDoor
open Go.RowKit
def hv (c : Nat) : Nat := if 48 ≤ c ∧ c ≤ 57 then c - 48 else if 97 ≤ c ∧ c ≤ 102 then c - 87 else 16
theorem idx_hex : ∀ n, n < 256 → Lib.indexByte [48, 49, 50, 51, 52, 53, 54, 55, 56, 57, 97, 98, 99, 100, 101, 102] n.toUInt8 = if hv n < 16 then (hv n : Int) else -1 := by decide +kernel
def vals (l : List UInt8) : List Nat := l.map fun c => hv c.toNat
def dig1 (h : List Nat) (i j : Nat) : Nat := if 2 * j + 1 < i then 16 * h.getD (2 * j) 0 + h.getD (2 * j + 1) 0 else if 2 * j < i then h.getD (2 * j) 0 else 0
def digs (h : List Nat) (i : Nat) : List UInt8 := (List.range 32).map fun j => UInt8.ofNat (dig1 h i j)
def pre7 : List UInt8 := [115, 104, 97, 50, 53, 54, 58]
def Names (l : List UInt8) : Prop := l.length = 71 ∧ l.take 7 = pre7 ∧ ∀ v ∈ vals (l.drop 7), v < 16
instance (l : List UInt8) : Decidable (Names l) := by unfold Names; infer_instance
def parseD (l : List UInt8) : List UInt8 := if Names l then digs (vals (l.drop 7)) 64 else List.replicate 32 0
def parseE (l : List UInt8) : Int := if Names l then 0 else 5
theorem digs_length (h : List Nat) (i : Nat) : (digs h i).length = 32 := by simp [digs]
theorem digs_zero (h : List Nat) : digs h 0 = List.replicate 32 0 := by simp [digs, dig1]; decide
theorem parseD_length (l : List UInt8) : (parseD l).length = 32 := by unfold parseD; split <;> simp [digs_length]
theorem dig1_self (h : List Nat) (i : Nat) : dig1 h (i + 1) (i / 2) = 16 * dig1 h i (i / 2) + h.getD i 0 := by
  by_cases hp : i % 2 = 1
  · rw [dig1, dig1, if_pos (by omega), if_neg (by omega), if_pos (by omega), show 2 * (i / 2) + 1 = i by omega]
  · rw [dig1, dig1, if_neg (by omega), if_pos (by omega), if_neg (by omega), if_neg (by omega), show 2 * (i / 2) = i by omega]; omega
theorem dig1_other (h : List Nat) (i j : Nat) (hj : i / 2 ≠ j) : dig1 h (i + 1) j = dig1 h i j := by
  unfold dig1
  by_cases h1 : 2 * j + 1 < i
  · rw [if_pos (by omega), if_pos h1]
  · by_cases h2 : 2 * j < i
    · omega
    · rw [if_neg (by omega), if_neg (by omega), if_neg h1, if_neg h2]
theorem dig1_lt (h : List Nat) (hh : ∀ k, h.getD k 0 < 16 ∨ h.getD k 0 = 16) (i : Nat) : dig1 h i (i / 2) < 17 := by
  unfold dig1
  rw [if_neg (by omega)]
  split
  · have := hh (2 * (i / 2)); omega
  · omega
theorem digs_step (h : List Nat) (i : Nat) : digs h (i + 1) = (digs h i).set (i / 2) (UInt8.ofNat (16 * dig1 h i (i / 2) + h.getD i 0)) := by
  apply List.ext_getElem (by simp [digs])
  intro j h1 h2
  rw [List.getElem_set]
  by_cases hj : i / 2 = j
  · subst hj; simp [digs, dig1_self]
  · rw [if_neg hj]; simp [digs, dig1_other h i j hj]
theorem digs_get (h : List Nat) (i j : Nat) (hj : j < 32) : (bcells (digs h i)).toArray[j]? = some (.int .u8 ((UInt8.ofNat (dig1 h i j)).toNat : Int)) := by
  have := bcells_get (digs h i) j (by rw [digs_length]; exact hj)
  simpa [digs] using this
theorem dig1_low (h : List Nat) (i : Nat) (hh : ∀ k, k < i → h.getD k 0 < 16) : dig1 h i (i / 2) < 16 := by
  unfold dig1
  rw [if_neg (by omega)]
  split
  · exact hh _ (by omega)
  · omega
theorem u8_or16 (d n : Nat) (hd : d < 16) (hn : n < 16) : bits BinOp.or IntKind.u8 ((d : Int) * 16) (n : Int) = ((16 * d + n : Nat) : Int) := by
  have := u8_or_nat (d * 16) n (by omega) (by omega)
  rw [show ((d * 16 : Nat) : Int) = (d : Int) * 16 by simp] at this
  rw [this]
  congr 1
  have := Nat.two_pow_add_eq_or_of_lt (i := 4) (b := n) (by omega) d
  rw [show (2 : Nat) ^ 4 = 16 from rfl] at this
  rw [this, Nat.mul_comm]
theorem digs_cell (h : List Nat) (i x : Nat) (hx : x = 16 * dig1 h i (i / 2) + h.getD i 0) (hx2 : x < 256) : (bcells (digs h i)).toArray.setIfInBounds (i / 2) (.int .u8 (x : Int)) = (bcells (digs h (i + 1))).toArray := by
  rw [digs_step, ← hx]
  simp only [bcells, List.setIfInBounds_toArray, List.map_set]
  congr 3
  rw [UInt8.toNat_ofNat', Nat.mod_eq_of_lt (by simpa using hx2)]
theorem hasPrefix_iff (s p : List UInt8) : Lib.hasPrefix s p = true ↔ s.take p.length = p := by
  unfold Lib.hasPrefix
  rw [List.isPrefixOf_iff_prefix]
  constructor
  · rintro ⟨t, rfl⟩; simp
  · intro h
    refine ⟨s.drop p.length, ?_⟩
    have := List.take_append_drop p.length s
    rwa [h] at this
theorem zeros_cells : (bcells (List.replicate 32 0)).toArray.size = 32 := by simp [bcells]
theorem cut_any (l : List UInt8) (w : World) : Calls Tryd.prog 34 #[.string ⟨l.toArray⟩, .string ⟨#[115, 104, 97, 50, 53, 54, 58]⟩] w fun e w' =>
    ∃ t b, e = .returned (.tuple #[.string ⟨List.toArray t⟩, .bool b]) ∧ (l.take 7 = pre7 → b = true ∧ t = l.drop 7) ∧ (l.take 7 ≠ pre7 → b = false) ∧ t.length ≤ l.length ∧ w = w' := by
  refine (Tryd.strings_CutPrefix _ _ _).mono ?_
  rintro e w1 ⟨rfl, rfl⟩
  refine ⟨Lib.trimPrefix l pre7, Lib.hasPrefix l pre7, rfl, ?_, ?_, ?_, rfl⟩
  · intro h
    have := (hasPrefix_iff l pre7).2 h
    exact ⟨this, by unfold Lib.trimPrefix; rw [if_pos this]; rfl⟩
  · intro h
    have : ¬ Lib.hasPrefix l pre7 = true := fun h' => h ((hasPrefix_iff l pre7).1 h')
    simpa using this
  · unfold Lib.trimPrefix; split <;> simp
theorem idxb_any (x : Nat) (hx : x < 256) (w : World) : Calls Tryd.prog 35 #[.string ⟨#[48, 49, 50, 51, 52, 53, 54, 55, 56, 57, 97, 98, 99, 100, 101, 102]⟩, .int .u8 (x : Int)] w fun e w' => ∃ n : Int, e = .returned (.int .i64 n) ∧ (hv x < 16 → n = (hv x : Int)) ∧ (¬ hv x < 16 → n = -1) ∧ w = w' := by
  refine (Tryd.strings_IndexByte _ _ _).mono ?_
  rintro e w1 ⟨rfl, rfl⟩
  refine ⟨_, rfl, ?_, ?_, rfl⟩
  · intro h
    have := idx_hex x hx
    rw [if_pos h] at this
    exact this
  · intro h
    have := idx_hex x hx
    rw [if_neg h] at this
    exact this
set_option maxHeartbeats 1000000 in
set_option maxRecDepth 100000 in
theorem parse_any (l : List UInt8) (hl : l.length ≤ 140737488355328) (w : World) :
    Calls Tryd.prog 19 #[.string ⟨l.toArray⟩] w fun e w' => e = .returned (.tuple #[.agg (bcells (parseD l)).toArray, .int .i64 (parseE l)]) ∧ Below w.heap.size w w' := by
  have hZ := Keep.keep zeros_cells
  have hZ1 := Keep.keep (all_oneCell_toArray (bcells_one (List.replicate 32 0)))
  go_enter Tryd.func19, Tryd.ntmps19
  go_wp2_with fail
  refine calls_world (R := fun w2 => Hp NoM w w2 [rowA w.heap.size 25 (bcells (List.replicate 32 0)).toArray, rowA (w.heap.size + 1) 25 (bcells (List.replicate 32 0)).toArray]) (((Hp.begin _ w).newRow' _ _ _ _ rfl rfl).newRow' _ _ _ _ (by simp) rfl) ?_
  intro w1 HH
  generalize hzz : (bcells (List.replicate 32 0)).toArray = zz at *
  have HZZ := Keep.keep hzz; clear hzz
  refine (cut_any l w1).mono ?_
  rintro e w1' ⟨t, b, rfl, hb1, hb2, hlt, rfl⟩
  have HB1 := Keep.keep hb1; have HB2 := Keep.keep hb2; clear hb1 hb2
  -- a way that refuses
  have hno : ∀ {w2 : World} {tmps : Array Value}, ¬ Names l → Hp NoM w w2 [rowA w.heap.size 25 zz, rowA (w.heap.size + 1) 25 zz] → True := fun _ _ => trivial
  clear hno
  by_cases h71 : l.length = 71 ∧ l.take 7 = pre7
  · obtain ⟨hb, ht⟩ := HB1.out h71.2
    subst hb ht
    have hlen : (l.drop 7).length = 64 := by simp [h71.1]
    have H71 := Keep.keep h71; clear h71 hlt
    generalize hdd : l.drop 7 = dl at *
    have HDD := Keep.keep hdd; clear hdd
    go_wp2_with fail
    refine wp_world (R := fun w2 => Hp NoM w w2 [rowA w.heap.size 25 zz, rowA (w.heap.size + 1) 25 (bcells (digs (vals dl) 0)).toArray, itA w1.heap.size ⟨dl.toArray⟩ 0]) (by rw [digs_zero, HZZ.out]; exact HH.out.newIt _ _) ?_
    intro w2 HH2
    generalize w1.heap.size = K at *
    go_loopw [7] (fun _ wr => ∃ i : Nat, i ≤ 64 ∧ (∀ k, k < i → (vals dl).getD k 0 < 16) ∧ Hp NoM w wr [rowA w.heap.size 25 zz, rowA (w.heap.size + 1) 25 (bcells (digs (vals dl) i)).toArray, itA K ⟨dl.toArray⟩ i]) (fun _ wr => 64 - wr.iterPos K)
    case atStart => exact ⟨0, by omega, fun k hk => by omega, HH2.out⟩
    case round =>
      obtain ⟨i, hi, hlow, hs⟩ := hrel
      have HS := Keep.keep hs; have HLOW := Keep.keep hlow; clear hs hlow
      have hit : wr.heap[K]? = some (.stringIter ⟨dl.toArray⟩ i) := HS.out.get 2 rfl
      by_cases hi64 : i < 64
      · have hpos : i < (⟨dl.toArray⟩ : ByteArray).size := by show i < dl.toArray.size; simp [hlen, hi64]
        have hil : i < dl.length := by omega
        obtain ⟨x, hx, hx256⟩ : ∃ x, ((⟨dl.toArray⟩ : ByteArray)[i]'hpos).toNat = x ∧ x < 256 := ⟨_, rfl, UInt8.toNat_lt _⟩
        have hvx : (vals dl).getD i 0 = hv x := by simp [vals, List.getD_eq_getElem?_getD, hil, ← hx]; rfl
        have HVX := Keep.keep hvx; clear hvx
        by_cases hhex : hv x < 16
        · have hasc : x < 128 := by unfold hv at hhex; split at hhex <;> first | omega | (split at hhex <;> omega)
          have hn := fun ty => Lib.run_next_ascii_at (P := Tryd.prog) wr K ⟨dl.toArray⟩ i ty hit hpos (by rw [hx]; exact hasc)
          have hcell := (HS.out.row 1 rfl).cell (digs_get (vals dl) i (i / 2) (by omega))
          have hd16 := dig1_low (vals dl) i HLOW.out
          have hst := digs_cell (vals dl) i (16 * dig1 (vals dl) i (i / 2) + hv x) (by rw [HVX.out]) (by omega)
          have HST := Keep.keep (HS.out.setIt 2 rfl (i + 1) |>.setCell (c' := (bcells (digs (vals dl) (i + 1))).toArray) 1 rfl (i / 2) _ hst)
          have hfr := (HS.out.setIt 2 rfl (i + 1)).row 1 rfl |>.frozen (i / 2)
          have hcell := ((HS.out.setIt 2 rfl (i + 1)).row 1 rfl).cell (digs_get (vals dl) i (i / 2) (by omega))
          rw [show (UInt8.ofNat (dig1 (vals dl) i (i / 2))).toNat = dig1 (vals dl) i (i / 2) by rw [UInt8.toNat_ofNat', Nat.mod_eq_of_lt (by simp; omega)]] at hcell
          clear hst
          generalize dig1 (vals dl) i (i / 2) = dd at *
          generalize hnn : hv x = nn at *
          have HNN := Keep.keep hnn; clear hnn
          have hor := u8_or16 dd nn hd16 hhex
          go_wp2_with (go_at_call 35; ((with_reducible refine (idxb_any x hx256 _).mono ?_); rintro e w3 ⟨n3, rfl, hn3, _, rfl⟩; obtain rfl := hn3 (by rw [HNN.out]; exact hhex); rw [HNN.out]))
          refine ⟨⟨i + 1, by omega, fun k hk => ?_, ?_⟩, ?_⟩
          · rcases Nat.lt_or_ge k i with h | h
            · exact HLOW.out k h
            · obtain rfl : k = i := by omega
              rw [HVX.out]; exact hhex
          · have e : (16 * (dd : Int) + (nn : Int)) = ((16 * dd + nn : Nat) : Int) := by omega
            rw [e]; exact HST.out
          · have e1 : wr.iterPos K = i := by simp [World.iterPos, hit]
            have e2 : ((wr.iterAt K { data := dl.toArray } (i + 1)).setCell { block := w.heap.size + 1, off := i / 2 } (Value.int IntKind.u8 (16 * ↑dd + ↑nn))).iterPos K = i + 1 := by
              have e : (16 * (dd : Int) + (nn : Int)) = ((16 * dd + nn : Nat) : Int) := by omega
              rw [e]
              have := HST.out.get 2 rfl
              have : _ = some (Obj.stringIter _ _) := this
              simp only [World.iterPos, this]
            rw [e1, e2]; omega
        · have hn := fun ty => Lib.run_next_any_at (P := Tryd.prog) wr K ⟨dl.toArray⟩ i ty hit hpos
          have hno : ¬ Names l := fun h => by
            have h2 := h.2.2 (hv x) (by rw [HDD.out, ← HVX.out, List.getD_eq_getElem?_getD, List.getElem?_eq_getElem (by simp [vals]; omega)]; exact List.getElem_mem _)
            exact hhex h2
          have HNO := Keep.keep (show parseD l = List.replicate 32 0 ∧ parseE l = 5 by unfold parseD parseE; rw [if_neg hno, if_neg hno]; exact ⟨rfl, rfl⟩)
          clear hno
          generalize (Utf8.decode ⟨dl.toArray⟩ i).2 = dq at *
          generalize (Utf8.decode ⟨dl.toArray⟩ i).1 = dr at *
          have HR0 := Keep.keep ((HS.out.setIt 2 rfl (i + dq)).row 0 rfl)
          have HB := Keep.keep ((HS.out.setIt 2 rfl (i + dq)).setRow 0 rfl zz)
          generalize hnn : hv x = nn at *
          have HNN := Keep.keep hnn; clear hnn
          go_wp2_with (first
            | (go_at_call 35; ((with_reducible refine (idxb_any x hx256 _).mono ?_); rintro e w3 ⟨n3, rfl, _, hn3, rfl⟩; obtain rfl := hn3 (by rw [HNN.out]; exact hhex)))
            | ((with_reducible refine arm_storeRow HR0.out aggDig hZ.out hZ.out hZ1.out ?_ ?_ ?_); (focus rfl); (focus (rw [← HZZ.out]; rfl)); simp only [Act.put]))
          refine bodyPost_ret (v := .tuple #[.agg zz, .int .i64 5]) ?_ rfl ⟨by rw [HNO.out.1, HNO.out.2, HZZ.out], HB.out.below⟩
          exact results_row2 (p := 2) (q := 3) (ty := 25) rfl (HB.out.row 0 rfl) aggDig hZ.out rfl rfl
      · obtain rfl : i = 64 := by omega
        have hn := fun ty => Lib.run_next_end_at (P := Tryd.prog) wr K ⟨dl.toArray⟩ 64 ty hit (by show ¬ 64 < dl.toArray.size; simp [hlen])
        have hyes : Names l := by
          refine ⟨H71.out.1, H71.out.2, fun v hv' => ?_⟩
          rw [HDD.out] at hv'
          obtain ⟨k, hk, rfl⟩ := List.getElem_of_mem hv'
          have := HLOW.out k (by simp [vals] at hk; omega)
          rwa [List.getD_eq_getElem?_getD, List.getElem?_eq_getElem hk] at this
        have HYES := Keep.keep (show parseD l = digs (vals dl) 64 ∧ parseE l = 0 by unfold parseD parseE; rw [if_pos hyes, if_pos hyes, HDD.out]; exact ⟨rfl, rfl⟩)
        have hc32 : (bcells (digs (vals dl) 64)).toArray.size = 32 := by simp [bcells, digs_length]
        have HC1 := Keep.keep (all_oneCell_toArray (bcells_one (digs (vals dl) 64)))
        have HR1 := Keep.keep (HS.out.row 1 rfl)
        have HR0 := Keep.keep (HS.out.row 0 rfl)
        have HB := Keep.keep (HS.out.setRow 0 rfl (bcells (digs (vals dl) 64)).toArray)
        clear hyes
        have HC32 := Keep.keep hc32; clear hc32
        generalize hcs : (bcells (digs (vals dl) 64)).toArray = cs at HC32 HC1 HR1 HB
        have HCS := Keep.keep hcs; clear hcs
        go_wp2_with (first | ((with_reducible refine arm_loadRow HR1.out aggDig HC32.out ?_ ?_); (focus rfl); simp only [Act.put, List.setIfInBounds_toArray, List.set_cons_succ, List.set_cons_zero]) | ((with_reducible refine arm_storeRow HR0.out aggDig hZ.out HC32.out HC1.out ?_ ?_ ?_); (focus rfl); (focus rfl); simp only [Act.put]))
        refine bodyPost_ret (v := .tuple #[.agg cs, .int .i64 0]) ?_ rfl ⟨by rw [HYES.out.1, HYES.out.2, HCS.out], HB.out.below⟩
        exact results_row2 (p := 2) (q := 3) (ty := 25) rfl (HB.out.row 0 rfl) aggDig HC32.out rfl rfl
  · have hno : ¬ Names l := fun h => h71 ⟨h.1, h.2.1⟩
    have HNO := Keep.keep (show parseD l = List.replicate 32 0 ∧ parseE l = 5 by unfold parseD parseE; rw [if_neg hno, if_neg hno]; exact ⟨rfl, rfl⟩)
    have HR0 := Keep.keep (HH.out.row 0 rfl)
    have HR1 := Keep.keep (HH.out.row 1 rfl)
    have HB := Keep.keep (HH.out.setRow 0 rfl zz)
    have hcase : b = false ∨ (b = true ∧ ((t.length : Int) != 64) = true) := by
      by_cases hp : l.take 7 = pre7
      · obtain ⟨h1, h2⟩ := HB1.out hp
        refine .inr ⟨h1, ?_⟩
        have h7 : l.length ≠ 71 := fun h => h71 ⟨h, hp⟩
        have h8 : 7 ≤ l.length := by
          have := congrArg List.length hp
          simp [pre7] at this; omega
        rw [bne_iff_ne, h2]; simp; omega
      · exact .inl (HB2.out hp)
    clear h71 hno
    rcases hcase with rfl | ⟨rfl, hb64⟩
    all_goals
      go_wp2_with (first | ((with_reducible refine arm_loadRow HR1.out aggDig hZ.out ?_ ?_); (focus rfl); simp only [Act.put, List.setIfInBounds_toArray, List.set_cons_succ, List.set_cons_zero]) | ((with_reducible refine arm_storeRow HR0.out aggDig hZ.out hZ.out hZ1.out ?_ ?_ ?_); (focus rfl); (focus rfl); simp only [Act.put]))
      refine bodyPost_ret (v := .tuple #[.agg zz, .int .i64 5]) ?_ rfl ⟨by rw [HNO.out.1, HNO.out.2, HZZ.out], HB.out.below⟩
      exact results_row2 (p := 2) (q := 3) (ty := 25) rfl (HB.out.row 0 rfl) aggDig hZ.out rfl rfl
end Go.Proofs.YtofficleahalaaaDoor
