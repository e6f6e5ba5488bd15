/- portolanref10: letters, Size, Last. -/
import Derived.Test.YtlhjehcfpnjbmaaDoorPaxRNum
import Derived.Test.YtlhjehcfpnjbmaaDoorPaxPut
namespace Go.Proofs.YtlhjehcfpnjbmaaDoor
open Go.RowKit
def lettersP (l : List UInt8) : Bool := !l.any (badB.contains ·) && decide (l.length ≤ 255)
theorem mayK_letters (k : List UInt8) : mayK k = (!k.isEmpty && lettersP k) := by
  unfold mayK lettersP
  cases k.isEmpty <;> cases decide (k.length ≤ 255) <;> cases k.any (badB.contains ·) <;> rfl
theorem any_take_succ (l : List UInt8) (i : Nat) (h : i < l.length) : (l.take (i + 1)).any (badB.contains ·) = ((l.take i).any (badB.contains ·) || badB.contains l[i]) := by
  rw [List.take_add_one, List.getElem?_eq_getElem h, List.any_append]; simp
set_option maxHeartbeats 1000000 in
set_option maxRecDepth 100000 in
theorem let_any (l : List UInt8) (hl : l.length ≤ 1000000000) (w : World) :
    Calls Tryd.prog 30 #[.string ⟨l.toArray⟩] w fun e w' => e = .returned (.bool (lettersP l)) ∧ w = w' := by
  go_enter Tryd.func30, Tryd.ntmps30
  go_wp2_with fail
  go_loopg [3] l.length (fun g u3 wx => ∃ i : Nat, i + g = l.length ∧ u3 = .int .i64 (i : Int) ∧ (l.take i).any (badB.contains ·) = false ∧ wx = w)
  case atStart => exact ⟨0, by omega, rfl, rfl, rfl⟩
  case round =>
    obtain ⟨i, hig, rfl, hno, rfl⟩ := hrel
    have HN := Keep.keep hno
    clear hno
    by_cases hi : i < l.length
    · obtain ⟨g, rfl⟩ : ∃ g, gk = g + 1 := ⟨gk - 1, by omega⟩
      have hdi : decide ((i : Int) < (l.length : Int)) = true := decide_eq_true (by omega)
      have hts := any_take_succ l i hi
      rw [HN.out, Bool.false_or] at hts
      have hfalse : badB.contains l[i] = true → lettersP l = false := by
        intro h
        have : l.any (badB.contains ·) = true := List.any_eq_true.2 ⟨l[i], List.getElem_mem hi, h⟩
        unfold lettersP
        rw [this]
        rfl
      obtain ⟨c, hc⟩ : ∃ c, l[i] = c := ⟨_, rfl⟩
      have hgi : (⟨l.toArray⟩ : ByteArray)[i]'hi = c := hc
      rw [hc] at hts hfalse
      have HTS := Keep.keep hts; have HF := Keep.keep hfalse
      clear hts hfalse hc
      have ef : ∀ n : UInt8, c ≠ n → ((c.toNat : Int) == (n.toNat : Int)) = false := fun n h => by
        rw [beq_eq_false_iff_ne]; intro e; exact h (UInt8.toNat_inj.1 (by omega))
      by_cases h0 : c = 0
      · have hl0 := HF.out (by rw [h0]; rfl)
        have HL := Keep.keep hl0
        have hd : ((c.toNat : Int) == 0) = true := by rw [h0]; rfl
        clear ef h0 hl0
        go_wp2_with fail
        go_ret
        exact ⟨by rw [HL.out]; rfl, rfl⟩
      · have hd0 : ((c.toNat : Int) == 0) = false := ef 0 h0
        by_cases h1 : c = 61
        · have hl0 := HF.out (by rw [h1]; rfl)
          have HL := Keep.keep hl0
          have hd : ((c.toNat : Int) == 61) = true := by rw [h1]; rfl
          clear ef h0 h1 hl0
          go_wp2_with fail
          go_ret
          exact ⟨by rw [HL.out]; rfl, rfl⟩
        · have hd1 : ((c.toNat : Int) == 61) = false := ef 61 h1
          by_cases h2 : c = 10
          · have hl0 := HF.out (by rw [h2]; rfl)
            have HL := Keep.keep hl0
            have hd : ((c.toNat : Int) == 10) = true := by rw [h2]; rfl
            clear ef h0 h1 h2 hl0
            go_wp2_with fail
            go_ret
            exact ⟨by rw [HL.out]; rfl, rfl⟩
          · have hd2 : ((c.toNat : Int) == 10) = false := ef 10 h2
            have hno : badB.contains c = false := by
              cases h : badB.contains c
              · rfl
              · have := List.contains_iff_mem.1 h
                simp [badB] at this
                rcases this with h | h | h
                · exact (h0 h).elim
                · exact (h1 h).elim
                · exact (h2 h).elim
            have HNO := Keep.keep hno
            clear ef h0 h1 h2 hno
            go_wp2_with fail
            go_roundg g
            case measure => omega
            case rel => exact ⟨i + 1, by omega, by simp, by rw [HTS.out, HNO.out], rfl⟩
    · obtain rfl : i = l.length := by omega
      have hlp : lettersP l = decide ((l.length : Int) ≤ 255) := by
        have := HN.out
        rw [List.take_length] at this
        unfold lettersP
        rw [this]
        simp only [Bool.not_false, Bool.true_and]
        exact decide_eq_decide.2 (by omega)
      have HLP := Keep.keep hlp
      clear hlp
      go_wp2_with fail
      go_ret
      refine ⟨?_, rfl⟩
      rw [HLP.out]
      try rfl
      try (simp; rfl)
set_option maxHeartbeats 1000000 in
set_option maxRecDepth 100000 in
theorem rsize_any (k v : List UInt8) (hk : k.length ≤ 100000000) (hv : v.length ≤ 100000000) (w : World) :
    Calls Tryd.prog 17 #[recV k v] w fun e w' => e = .returned (.int .i64 ((sz k v : Nat) : Int)) ∧ Below w.heap.size w w' := by
  have hsz : (⟨k.toArray⟩ : ByteArray).size = k.length := rfl
  have hsv : (⟨v.toArray⟩ : ByteArray).size = v.length := rfl
  have HLE := Keep.keep (fun w' => let_any k (by omega) w')
  have hmk := mayK_letters k
  cases hke : k.isEmpty
  · rw [hke] at hmk
    cases hlp : lettersP k
    · rw [hlp] at hmk HLE
      have h0 : sz k v = 0 := by simp [sz, hmk]
      rw [h0]
      clear h0 hmk hlp
      go_enter Tryd.func17, Tryd.ntmps17
      go_wp2_with (go_at_call 30; ((with_reducible refine (HLE.out _).mono ?_); rintro e w1 ⟨rfl, rfl⟩))
      go_ret
      exact ⟨rfl, (Below.refl _ _).alloc (Nat.le_refl _) _⟩
    · rw [hlp] at hmk HLE
      have h0 : sz k v = szR k v + dsz (szR k v) := by simp [sz, hmk]
      rw [h0]
      have hr : szR k v ≤ 1000000000 := by unfold szR; omega
      have hrl : (k.length : Int) + (v.length : Int) + 3 = (szR k v : Nat) := by unfold szR; omega
      clear h0 hmk hlp
      generalize szR k v = r at *
      have hdf := dsz_fix r (by omega)
      have hd1 := (dsz_spec r (by omega)).1
      have hd21 := (dsz_spec r (by omega)).2.1
      have hfirst := dsz_first r (by omega)
      have HFX := Keep.keep hfirst
      have HDF := Keep.keep hdf
      clear hfirst hdf
      obtain ⟨D, hD⟩ : ∃ D, dsz r = D := ⟨_, rfl⟩
      rw [hD] at HFX HDF hd1 hd21 ⊢
      clear hD
      go_enter Tryd.func17, Tryd.ntmps17
      go_wp2_with (go_at_call 30; ((with_reducible refine (HLE.out _).mono ?_); rintro e w1 ⟨rfl, rfl⟩))
      go_loopg [4] (r + D) (fun g u4 wx => ∃ n : Nat, n + g = r + D ∧ u4 = .int .i64 (n : Int) ∧ Below w.heap.size w wx)
      case atStart => exact ⟨0, by omega, rfl, (Below.refl _ _).alloc (Nat.le_refl _) _⟩
      case round =>
        obtain ⟨n, hng, rfl, hbw⟩ := hrel
        have HBW := Keep.keep hbw
        clear hbw
        have HDG := Keep.keep (fun wx => rdig_any n (by omega) wx)
        have hdl := Lib.decDigits_length n
        have hpos := Lib.nDigits_pos n
        by_cases hn : n = r + D
        · have hL : Lib.nDigits n = D := by rw [hn]; exact HDF.out
          rw [hL] at hdl
          generalize Lib.decDigits n = t at *
          have hts : (⟨t.toArray⟩ : ByteArray).size = t.length := rfl
          have hne : ((n : Int) != (r : Int) + (D : Int)) = false := by rw [bne_eq_false_iff_eq]; omega
          have HN := Keep.keep hn
          clear hn hL
          go_wp2_with (go_at_call 28; ((with_reducible refine (HDG.out _).mono ?_); rintro e w3 ⟨rfl, hb3⟩))
          go_ret
          exact ⟨by rw [← HN.out]; rfl, HBW.out.trans (hb3.mono HBW.out.size)⟩
        · obtain ⟨g, rfl⟩ : ∃ g, gk = g + 1 := ⟨gk - 1, by omega⟩
          have hL : n ≠ r + Lib.nDigits n := by
            intro e
            rcases Nat.lt_or_ge (Lib.nDigits n) D with h | h
            · have := HFX.out (Lib.nDigits n) h hpos
              rw [← e] at this
              omega
            · omega
          obtain ⟨L, hLL⟩ : ∃ L, Lib.nDigits n = L := ⟨_, rfl⟩
          rw [hLL] at hdl hL
          generalize Lib.decDigits n = t at *
          have hL20 : L ≤ 20 := by rw [← hLL]; exact Lib.nDigits_le20 n (by omega)
          have hts : (⟨t.toArray⟩ : ByteArray).size = t.length := rfl
          have hne : ((n : Int) != (r : Int) + (L : Int)) = true := by rw [bne_iff_ne]; omega
          clear hL hLL hn hpos
          go_wp2_with (go_at_call 28; ((with_reducible refine (HDG.out _).mono ?_); rintro e w3 ⟨rfl, hb3⟩))
          go_roundg g
          case measure => omega
          case rel => exact ⟨n + 1, by omega, by simp, HBW.out.trans (hb3.mono HBW.out.size)⟩
  · rw [hke] at hmk
    have h0 : sz k v = 0 := by simp [sz, hmk]
    rw [h0]
    clear h0 hmk
    go_enter Tryd.func17, Tryd.ntmps17
    go_wp2_with fail
    go_ret
    exact ⟨rfl, (Below.refl _ _).alloc (Nat.le_refl _) _⟩
/-- the last one's value -/
def lastP (l : List R2) (key : List UInt8) : Option (List UInt8) := (l.reverse.find? fun p => p.1 == key).map (·.2)
theorem lastP_snoc (l : List R2) (p : R2) (key : List UInt8) : lastP (l ++ [p]) key = if p.1 == key then some p.2 else lastP l key := by
  unfold lastP
  rw [List.reverse_append]
  simp only [List.reverse_cons, List.reverse_nil, List.nil_append, List.cons_append, List.find?_cons]
  cases p.1 == key <;> rfl
def lastV (o : Option (List UInt8)) : Value := .tuple #[.string ⟨(o.getD []).toArray⟩, .bool o.isSome]
set_option maxHeartbeats 1000000 in
set_option maxRecDepth 100000 in
theorem rlast_any (sv : Value) (l : List R2) (key : List UInt8) (w : World) (hl : l.length ≤ 1000000) (hr : RdV w (· < w.heap.size) 2 sv l.length (rcells l)) :
    Calls Tryd.prog 16 #[sv, .string ⟨key.toArray⟩] w fun e w' => e = .returned (lastV (lastP l key)) ∧ w = w' := by
  obtain ⟨a, cap, rfl, hcap, hmx, hsh⟩ := hr.shape
  have HR := Keep.keep hr; have HSH := Keep.keep hsh
  clear hr hsh
  go_enter Tryd.func16, Tryd.ntmps16
  go_wp2_with fail
  go_loopg [6, 7, 8] l.length (fun g u6 u7 u8 wx => ∃ (i : Nat) (gd : List UInt8) (bs : Bool), i + g = l.length ∧ u8 = .int .i64 (i : Int) ∧ u6 = .string ⟨gd.toArray⟩ ∧ u7 = .bool bs ∧ (lastP (l.take i) key).getD [] = gd ∧ (lastP (l.take i) key).isSome = bs ∧ wx = w)
  case atStart => exact ⟨0, [], false, by omega, rfl, rfl, rfl, rfl, rfl, rfl⟩
  case round =>
    obtain ⟨i, gd, bs, hig, rfl, rfl, rfl, hgd, hbs, rfl⟩ := hrel
    by_cases hi : i < l.length
    · obtain ⟨g, rfl⟩ : ∃ g, gk = g + 1 := ⟨gk - 1, by omega⟩
      obtain ⟨p, hp⟩ : ∃ p, l[i]? = some p := ⟨l[i], List.getElem?_eq_getElem hi⟩
      rcases HSH.out with ⟨rfl, hc0⟩ | ⟨b, off, rfl, hlt⟩
      · omega
      obtain ⟨hc0, hc1⟩ := HR.out.recAt hp
      have hsn : lastP (l.take (i + 1)) key = if p.1 == key then some p.2 else lastP (l.take i) key := by
        rw [List.take_add_one, hp]; exact lastP_snoc _ _ _
      have hdi : decide ((i : Int) < (l.length : Int)) = true := decide_eq_true (by omega)
      obtain ⟨k, v⟩ := p
      have HGD := Keep.keep hgd; have HBS := Keep.keep hbs
      clear hp hgd hbs
      cases hke : (k == key)
      · rw [hke] at hsn
        have HSN := Keep.keep hsn
        clear hsn
        go_wp2_with fail
        go_roundg g
        case measure => omega
        case rel => exact ⟨i + 1, gd, bs, by omega, by simp, rfl, rfl, by rw [HSN.out]; exact HGD.out, by rw [HSN.out]; exact HBS.out, rfl⟩
      · rw [hke] at hsn
        have HSN := Keep.keep hsn
        clear hsn
        go_wp2_with fail
        go_roundg g
        case measure => omega
        case rel => exact ⟨i + 1, v, true, by omega, by simp, rfl, rfl, by rw [HSN.out]; rfl, by rw [HSN.out]; rfl, rfl⟩
    · obtain rfl : i = l.length := by omega
      rw [List.take_length] at hgd hbs
      have HGD := Keep.keep hgd; have HBS := Keep.keep hbs
      clear hgd hbs
      go_wp2_with fail
      go_ret2
      exact ⟨by unfold lastV; rw [HGD.out, HBS.out]; rfl, rfl⟩
end Go.Proofs.YtlhjehcfpnjbmaaDoor
