/- PaxForm: one form. -/
import Derived.Test.YtlhjehcfpnjbmaaDoorPaxFew
import Derived.Test.YtlhjehcfpnjbmaaDoorNeqRec
import Derived.Test.YtlhjehcfpnjbmaaDoorPaxMap
import Derived.Test.YtlhjehcfpnjbmaaDoorPaxFormL
import Derived.Test.YtlhjehcfpnjbmaaDoorPaxTells
namespace Go.Proofs.YtlhjehcfpnjbmaaDoor
open Go.RowKit Go.Maps
theorem fewL_small (l : List R2) (h : mayL (fewL l) = true) : SmallL (fewL l) := by
  intro p hp
  have h1 := List.all_eq_true.1 h p hp
  refine ⟨h1, ?_⟩
  simp only [fewL, List.mem_map] at hp
  obtain ⟨q, _, rfl⟩ := hp
  simp [cutR]; omega
theorem fewL_len (l : List R2) : (fewL l).length ≤ 20 := by simp [fewL]; omega
theorem fewL_val (l : List R2) : ∀ p ∈ fewL l, p.1.length ≤ 260 ∧ p.2.length ≤ 1200 := by
  intro p hp
  simp only [fewL, List.mem_map] at hp
  obtain ⟨q, _, rfl⟩ := hp
  simp [cutR]; omega
/-- the sum of the sizes -/
def sumZ : List R2 → Nat
  | [] => 0
  | p :: l => sz p.1 p.2 + sumZ l
theorem sumZ_append (l m : List R2) : sumZ (l ++ m) = sumZ l + sumZ m := by
  induction l with
  | nil => simp [sumZ]
  | cons p l ih => simp only [List.cons_append, sumZ, ih]; omega
theorem sumZ_snoc (l : List R2) (p : R2) : sumZ (l ++ [p]) = sumZ l + sz p.1 p.2 := by rw [sumZ_append]; simp [sumZ]
theorem sz_le (p : R2) (h : p.2.length ≤ 1200) (h1 : p.1.length ≤ 260) : sz p.1 p.2 ≤ 1500 := by
  unfold sz
  split
  · have hr : szR p.1 p.2 ≤ 1463 := by unfold szR; omega
    obtain ⟨h3, _, h4, h5⟩ := dsz_spec (szR p.1 p.2) (by omega)
    have h6 : dsz (szR p.1 p.2) ≤ 4 := by
      refine Nat.le_of_not_lt fun hlt => ?_
      have := h5 4 (by omega) hlt
      omega
    omega
  · omega
theorem sz_pos (p : R2) : decide (0 < sz p.1 p.2) = mayK p.1 := by
  unfold sz
  cases h : mayK p.1
  · simp
  · simp [szR]; omega
theorem putT_sum (l : List R2) (h : SmallL l) : (putT l).length = sumZ l := by
  induction l with
  | nil => rfl
  | cons p l ih =>
    have hs : Small p := h p (by simp)
    rw [putT_cons, List.length_append, sumZ, ih (fun q hq => h q (by simp [hq]))]
    have := recT_len (k := p.1) (v := p.2) hs
    omega
theorem sumZ_le (l : List R2) (h : ∀ p ∈ l, sz p.1 p.2 ≤ 1500) : sumZ l ≤ 1500 * l.length := by
  induction l with
  | nil => simp [sumZ]
  | cons p l ih =>
    have h1 := ih (fun q hq => h q (by simp [hq]))
    have h2 := h p (by simp)
    rw [sumZ, List.length_cons]; omega
/-- where the first i records end -/
def endsF (l : List R2) : Nat → Nat → Option Nat
  | 0, x => if x = 0 then some 0 else none
  | i + 1, x => if x = sumZ (l.take (i + 1)) then some (i + 1) else endsF l i x
theorem endsF_some (l : List R2) (h : ∀ p ∈ l, 0 < sz p.1 p.2) : ∀ (i : Nat), i ≤ l.length → ∀ j, j ≤ i → endsF l i (sumZ (l.take j)) = some j := by
  have mono : ∀ i, i < l.length → sumZ (l.take i) < sumZ (l.take (i + 1)) := by
    intro i hi
    rw [List.take_add_one, List.getElem?_eq_getElem hi]
    simp only [Option.toList_some]
    rw [sumZ_snoc]
    have := h _ (List.getElem_mem hi)
    omega
  have mono2 : ∀ i, i ≤ l.length → ∀ j, j < i → sumZ (l.take j) < sumZ (l.take i) := by
    intro i
    induction i with
    | zero => intro _ j hj; omega
    | succ i ih =>
      intro hi j hj
      have h1 := mono i (by omega)
      rcases (by omega : j < i ∨ j = i) with h2 | rfl
      · have := ih (by omega) j h2; omega
      · exact h1
  intro i
  induction i with
  | zero => intro _ j hj; obtain rfl : j = 0 := by omega
            rfl
  | succ i ih =>
    intro hi j hj
    rcases (by omega : j = i + 1 ∨ j ≤ i) with rfl | hji
    · simp [endsF]
    · have := mono2 (i + 1) hi j (by omega)
      rw [endsF, if_neg (by omega)]
      exact ih (by omega) j hji
theorem endsF_none (l : List R2) : ∀ (i x : Nat), (∀ j, j ≤ i → x ≠ sumZ (l.take j)) → endsF l i x = none
  | 0, x, h => by
    have := h 0 (by omega)
    rw [endsF, if_neg (by simpa [sumZ] using this)]
  | i + 1, x, h => by
    rw [endsF, if_neg (h (i + 1) (by omega))]
    exact endsF_none l i x (fun j hj => h j (by omega))
theorem getR_take_len (b : List UInt8) : (getR b).1.length ≤ b.length := by
  rcases getR_err b with h | h | h
  · exact (getR_inv b.length b (getR b).1 (Nat.le_refl _) h).2.2.1
  · rw [h]; simp
  · rw [h]; simp
theorem Reads.part {w : World} {N : Nat → Prop} {a : Option Addr} {n cap : Nat} {l : List UInt8} (h : Reads w N (.slice a n cap) l) (k : Nat) (hk : k ≤ n) : Reads w N (.slice a k cap) (l.take k) := by
  obtain ⟨⟨a', cap', e, h1, h2, h3⟩, hc⟩ := h
  injection e with e1 e2 e3
  subst e1 e2 e3
  have hl : (l.take k).length = k := by rw [List.length_take]; omega
  refine ⟨⟨_, _, by rw [hl], by omega, h2, h3⟩, fun b off m c e j hj => ?_⟩
  injection e with e1 e2 e3
  subst e1
  rw [hl] at hj
  rw [hc b off _ _ rfl j (by omega)]
  simp [List.getD_eq_getElem?_getD, List.getElem?_take_of_lt hj]
theorem put_all (sv : Value) (l : List R2) (B : Nat) (w : World) (hl : l.length ≤ 1000000) (hr : RdV w (· < w.heap.size) 2 sv l.length (rcells l)) (hB : B ≤ w.heap.size) (hT : Pow B w)
    (hb : mayL l = true → (putT l).length ≤ 16777216) (hv : ∀ p ∈ l, p.2.length ≤ 16777216) :
    Calls Tryd.prog 9 #[sv] w fun e w' => ∃ v', e = .returned (.tuple #[v', .int .i64 (if mayL l then 0 else 1)]) ∧ Owns w' w.heap.size 5 v' (if mayL l then putT l else []) ∧ Below w.heap.size w w' := by
  cases hm : mayL l
  · refine (put_bad sv l w hl hr hm).mono ?_
    rintro e w' ⟨rfl, h⟩
    exact ⟨_, rfl, Owns.nil _ _ _, h⟩
  · refine (put_ok sv l B w hl hr hB hT hm (hb hm) hv).mono ?_
    rintro e w' ⟨v', rfl, h1, h2⟩
    exact ⟨v', rfl, h1, h2⟩
theorem mayL_snoc (l : List R2) (p : R2) : mayL (l ++ [p]) = (mayL l && mayK p.1) := by simp [mayL]
theorem Hp.pushBy {M : Nat → Prop} {w wr w' : World} {ls : List As} (h : Hp M w wr ls) {e : TypeId} {v : Value} {l : List UInt8} (ho : Owns w' wr.heap.size e v l) (hb : Below wr.heap.size wr w') : Hp M w w' (ls ++ [byA wr.heap.size e v l]) :=
  h.push _ (.of_below hb) ho (fun b hb' => ho.lt b hb')
theorem Hp.pushSl {M : Nat → Prop} {w wr w' : World} {ls : List As} (h : Hp M w wr ls) {e : TypeId} {k n : Nat} {v : Value} {vs : List Value} (ho : w'.ownsRow wr.heap.size e k v n vs) (hb : Below wr.heap.size wr w') : Hp M w w' (ls ++ [slA wr.heap.size e k v n vs]) :=
  h.push _ (.of_below hb) ho (fun b hb' => ownsV_lt ho b hb')
set_option maxHeartbeats 4000000 in
set_option maxRecDepth 100000 in
theorem form_any (sv bv : Value) (l : List R2) (any : List UInt8) (cut : Nat) (hcut : cut < 65536) (B : Nat) (w : World) (hB : B ≤ w.heap.size) (hT : Pow B w)
    (hl : l.length ≤ 9223372036854775807) (hr : RdV w (· < w.heap.size) 2 sv l.length (rcells l)) (hs : ∀ p ∈ l, p.1.length ≤ 9223372036854775807 ∧ p.2.length ≤ 9223372036854775807) (hbv : Reads w (· < w.heap.size) bv any) :
    Calls Tryd.prog 3 #[sv, bv, .int .u16 (cut : Int)] w fun e w' => e = .returned (.bool true) ∧ Below w.heap.size w w' := by
  have HF := Keep.keep (few_any sv l w hl hr hs)
  have hal := fewL_len l
  have hav := fewL_val l
  have has := fewL_small l
  generalize fewL l = a at *
  have HAV := Keep.keep hav
  have hz15 : ∀ p ∈ a, sz p.1 p.2 ≤ 1500 := fun p hp => sz_le p (hav p hp).2 (hav p hp).1
  have HZ15 := Keep.keep hz15
  have HT := Keep.keep hT; have HB := Keep.keep hB; have HBV := Keep.keep hbv
  obtain ⟨ba, bcap, rfl, hbcap, hbmx, -⟩ := hbv.shape
  have hbcap' : bcap ≤ 9223372036854775807 := by unfold maxLen at hbmx; omega
  clear hr hs hT hB hbv hav hz15 hbmx hl
  have HSZ := Keep.keep (fun (p : R2) (hp : p ∈ a) (wx : World) (h : Below w.heap.size w wx) => size_any p.1 p.2 (by have := (HAV.out p hp).2; omega) B wx (Nat.le_trans HB.out h.size) (HT.out.on (h.mono HB.out)))
  have HTL := Keep.keep (fun (wx : World) (h : Below w.heap.size w wx) => tells_any B wx (Nat.le_trans HB.out h.size) (HT.out.on (h.mono HB.out)))
  have hmm := @run_makeMap Tryd.prog
  go_enter Tryd.func3, Tryd.ntmps3
  go_wp2_with fail
  refine HF.out.mono ?_
  rintro e w1 ⟨va, vb, rfl, hH1⟩
  have H1 := Keep.keep hH1
  clear HF hH1
  obtain ⟨aa, acap, rfl, hacap, hamx, hash⟩ := (ownsV_reads (H1.out.sl 0 rfl)).shape
  have hRD1 := (ownsV_reads (H1.out.sl 0 rfl)).mono (N' := (· < w1.heap.size)) (fun b hb => hb.2.1)
  go_wp2_with fail
  have hputb : mayL a = true → (putT a).length ≤ 16777216 := fun h => by
    rw [putT_sum a (has h)]
    have := sumZ_le a HZ15.out
    omega
  refine (put_all _ a B w1 (by omega) hRD1 (Nat.le_trans HB.out H1.out.size) (HT.out.on (H1.out.below.mono HB.out)) hputb (fun p hp => by have := (HAV.out p hp).2; omega)).mono ?_
  rintro e w2 ⟨v2, rfl, ho2, hb2⟩
  have H2 := Keep.keep (H1.out.pushBy ho2 hb2)
  clear ho2 hb2 hRD1 hputb
  obtain ⟨E, hE⟩ : ∃ E : Int, (if mayL a then (0 : Int) else 1) = E := ⟨_, rfl⟩
  obtain ⟨T, hTT⟩ : ∃ T : List UInt8, (if mayL a then putT a else []) = T := ⟨_, rfl⟩
  rw [hE]
  rw [hTT] at H2
  have HE := Keep.keep hE; have HTT := Keep.keep hTT
  clear hE hTT
  go_wp2_with (with_reducible refine arm_stopIns ?_)
  refine StoppedI.out ?_
  have H3 := Keep.keep H2.out.newMap
  refine wpList_insert_own _ rfl _ _ _ 31 rfl 3 3 lawI Tryd.underlying31 _ w2.heap.size 0 _ rfl (H3.out.get 3 rfl) (by unfold maxLen; omega) _ _ _ rfl rfl (keyOf_int_mk Tryd.underlying3 (WalkArith.wf_i64 (by omega))) _ [] (plainElem_int Tryd.underlying3 (WalkArith.wf_i64 (by omega))) ?_
  intro w3 hown3 hg3
  have H4 := Keep.keep (H3.out.setMap 3 rfl hg3 hown3)
  clear hown3 hg3
  have H5 : Keep (Hp NoM w w3 [slA w.heap.size 33 2 (.slice aa a.length acap) a.length (rcells a), slA w.heap.size 48 2 vb a.length (rcells a), byA w1.heap.size 5 v2 T, mapA w2.heap.size 1 ((DataW.map []).put (.int .i64 ((0 : Nat) : Int)) (.lit (.int .i64 ((0 : Nat) : Int))))]) := ⟨H4.out⟩
  have hMp0 : Mp ((DataW.map []).put (.int .i64 ((0 : Nat) : Int)) (.lit (.int .i64 ((0 : Nat) : Int)))) (endsF a 0) := Mp.empty.put 0 0
  have HM0 := Keep.keep hMp0
  clear H3 H4 H2 hMp0
  generalize w2.heap.size = bm at *
  generalize w1.heap.size = b1 at *
  go_wp2_with fail
  go_loopg [11, 12, 14, 15, 16, 43] a.length (fun g u11 u12 _ _ _ u43 wx => ∃ (i : Nat) (D : DataW Unit), i + g = a.length ∧ u43 = .int .i64 (i : Int) ∧ u11 = .bool (mayL (a.take i)) ∧ u12 = .int .i64 ((sumZ (a.take i) : Nat) : Int) ∧ Mp D (endsF a i) ∧
    Hp NoM w wx [slA w.heap.size 33 2 (.slice aa a.length acap) a.length (rcells a), slA w.heap.size 48 2 vb a.length (rcells a), byA b1 5 v2 T, mapA bm (i + 1) D])
  case atStart => exact ⟨0, _, by omega, rfl, rfl, rfl, HM0.out, H5.out⟩
  case round =>
    obtain ⟨i, D, hig, rfl, rfl, rfl, hMp, hH⟩ := hrel
    have HH := Keep.keep hH; have HMP := Keep.keep hMp
    clear hH hMp H5 HM0
    by_cases hi : i < a.length
    · obtain ⟨g, rfl⟩ : ∃ g, gk = g + 1 := ⟨gk - 1, by omega⟩
      obtain ⟨p, hp⟩ : ∃ p, a[i]? = some p := ⟨a[i], List.getElem?_eq_getElem hi⟩
      have hrda := ownsV_reads (HH.out.sl 0 rfl)
      rcases hash with ⟨rfl, hc0⟩ | ⟨b, off, rfl, -⟩
      · omega
      obtain ⟨hc0, hc1⟩ := hrda.recAt hp
      have hpm := List.mem_of_getElem? hp
      have hsz15 := HZ15.out p hpm
      have HSP := Keep.keep (HSZ.out p hpm)
      have hts : a.take (i + 1) = a.take i ++ [p] := by rw [List.take_add_one, hp]; rfl
      have hsum : sumZ (a.take (i + 1)) = sumZ (a.take i) + sz p.1 p.2 := by rw [hts, sumZ_snoc]
      have hmy : mayL (a.take (i + 1)) = (mayL (a.take i) && mayK p.1) := by rw [hts, mayL_snoc]
      have hpos := sz_pos p
      have hsb := sumZ_le (a.take i) (fun q hq => HZ15.out q (List.mem_of_mem_take hq))
      have htl : (a.take i).length ≤ 20 := by simp; omega
      have HPUT := Keep.keep (HMP.out.put (sumZ (a.take i) + sz p.1 p.2) (i + 1))
      have HSUM := Keep.keep hsum; have HMY := Keep.keep hmy
      have hposi : decide ((0 : Int) < ((sz p.1 p.2 : Nat) : Int)) = mayK p.1 := by rw [← hpos]; exact decide_eq_decide.2 (by omega)
      have HPN := Keep.keep hpos
      obtain ⟨k, v⟩ := p
      clear hp hrda hpm hts hsum hmy hpos
      generalize sz k v = n at *
      generalize sumZ (a.take i) = S at *
      generalize mayK k = mk at *
      generalize hmt : mayL (a.take i) = mt at *
      clear hmt
      cases mt <;> cases mk
      all_goals
        go_wp2_with fail
        refine calls_at (R := fun w5 => Hp NoM w w5 [slA w.heap.size 33 2 (.slice (some ⟨b, off, none⟩) a.length acap) a.length (rcells a), slA w.heap.size 48 2 vb a.length (rcells a), byA b1 5 v2 T, mapA bm (i + 1) D]) (HH.out.alloc _) ?_
        intro w5 H6
        refine (HSP.out w5 H6.out.below).mono ?_
        rintro e w6 ⟨rfl, hb6⟩
        have H7 := Keep.keep (H6.out.call hb6)
        clear hb6
        go_wp2_with (with_reducible refine arm_stopUpd ?_)
        refine StoppedI.out ?_
        refine wpList_mapUpdate_own _ rfl _ _ _ 31 rfl 3 3 lawI Tryd.underlying31 _ bm (i + 1) _ rfl (H7.out.get 3 rfl) (by unfold maxLen; omega) _ _ _ rfl rfl (keyOf_int_mk Tryd.underlying3 (WalkArith.wf_i64 (by omega))) _ [] (plainElem_int Tryd.underlying3 (WalkArith.wf_i64 (by omega))) ?_
        intro w7 hown7 hg7
        have H8 := Keep.keep (H7.out.setMap 3 rfl hg7 hown7)
        clear hown7 hg7
        simp only [Act.put, List.setIfInBounds_toArray, List.set_cons_succ, List.set_cons_zero]
        go_wp2_with fail
        go_roundg g
        case measure => omega
        case rel =>
          have hp2 := HPUT.out
          have e1 : ((S + n : Nat) : Int) = (S : Int) + (n : Int) := by omega
          have e2 : ((i + 1 : Nat) : Int) = (i : Int) + 1 := by omega
          rw [e1, e2] at hp2
          have he : endsF a (i + 1) = fun x => if x = S + n then some (i + 1) else endsF a i x := by
            funext x; rw [endsF, HSUM.out]
          refine ⟨i + 1, _, by omega, by simp, by rw [HMY.out]; first | rfl | (rw [HPN.out]; rfl), by rw [HSUM.out, e1], by rw [he]; exact hp2, H8.out⟩
    · obtain rfl : i = a.length := by omega
      have hta : a.take a.length = a := List.take_length
      rw [hta]
      have HMP2 := Keep.keep HMP.out
      obtain ⟨a2, c2, hv2, hTc, hc2m, -⟩ := (HH.out.bs 2 rfl).reads.shape
      subst hv2
      have hc2' : c2 ≤ 9223372036854775807 := by unfold maxLen at hc2m; omega
      have hkm : min (any.length : Int) 2000 = ((min any.length 2000 : Nat) : Int) := by omega
      have hkk : min any.length 2000 ≤ any.length := by omega
      obtain ⟨an, han⟩ : ∃ an, any.take (min any.length 2000) = an := ⟨_, rfl⟩
      have hanl : an.length = min any.length 2000 := by rw [← han, List.length_take]; omega
      have HAN : Keep (∀ wx, Below w.heap.size w wx → Reads wx (· < w.heap.size) (.slice ba (min any.length 2000) bcap) an) := ⟨fun wx h => by
        have := (HBV.out.below h (fun _ h => h)).part (min any.length 2000) hkk
        rwa [han] at this⟩
      have han2 : an.length ≤ 2000 := by omega
      clear han
      generalize min any.length 2000 = kn at *
      have HANL := Keep.keep hanl
      clear hanl HMP hta
      cases hm : mayL a
      · have hE1 : E = 1 := by rw [← HE.out, hm]; rfl
        have hT0 : T = [] := by rw [← HTT.out, hm]; rfl
        subst hE1 hT0
        go_wp2_with fail
        have hgan : Calls Tryd.prog 11 #[.slice ba kn bcap] wr _ := get_any (.slice ba kn bcap) an wr ((HAN.out wr HH.out.below).mono (fun _ h => Nat.lt_of_lt_of_le h HH.out.size)) (by omega)
        refine hgan.mono ?_
        rintro e z1 ⟨s25, rfl, ho25, hbz1⟩
        have HZ1 := Keep.keep (HH.out.call hbz1)
        have HO25 := Keep.keep ho25
        clear ho25 hbz1 hgan
        rcases getR_err an with hg | hg | hg
        · obtain ⟨x, hx⟩ : ∃ x, (getR an).1 = x := ⟨_, rfl⟩
          rw [hx] at hg HO25
          have hin := getR_inv an.length an x (Nat.le_refl _) hg
          rw [hg]
          have HIN := Keep.keep hin
          have hxl : x.length ≤ 2000 := by have := hin.2.2.1; omega
          clear hin hx hg
          obtain ⟨a3, c3, hs3, -, -, -⟩ := (ownsV_reads HO25.out).shape
          subst hs3
          have hrx := (ownsV_reads HO25.out).mono (N' := (· < z1.heap.size)) (fun b hb => hb.2.1)
          have HPX := Keep.keep (put_all (.slice a3 x.length c3) x B z1 (by omega) hrx (Nat.le_trans HB.out HZ1.out.size) (HT.out.on (HZ1.out.below.mono HB.out)) (fun _ => by rw [HIN.out.2.1]; omega) (fun p hp => by have := HIN.out.2.2.2 p hp; omega))
          rw [if_pos HIN.out.1, if_pos HIN.out.1, HIN.out.2.1] at HPX
          clear hrx
          have hann : (an == an) = true := beq_self_eq_true an
          go_wp2_with (go_at_call 9; ((with_reducible refine HPX.out.mono ?_); rintro e z2 ⟨s27, rfl, ho27, hbz2⟩; have HZ2 := Keep.keep (HZ1.out.call hbz2); have hcv1 := run_string_of ho27.reads; have hcv2 := run_string_of (HAN.out z2 HZ2.out.below); have HTZ := Keep.keep (HTL.out z2 HZ2.out.below); clear ho27 hbz2))
          refine HTZ.out.mono ?_
          rintro e z3 ⟨rfl, hbz3⟩
          go_wp2_with fail
          go_ret
          exact ⟨rfl, HZ2.out.below.trans (hbz3.mono HZ2.out.size)⟩
        · rw [hg] at HO25 ⊢
          clear hg
          obtain ⟨a3, c3, hs3, -, -, -⟩ := (ownsV_reads HO25.out).shape
          subst hs3
          have HTZ := Keep.keep (HTL.out z1 HZ1.out.below)
          go_wp2_with (go_at_call 12; ((with_reducible refine HTZ.out.mono ?_); rintro e z3 ⟨rfl, hbz3⟩))
          go_ret
          exact ⟨rfl, HZ1.out.below.trans (hbz3.mono HZ1.out.size)⟩
        · rw [hg] at HO25 ⊢
          clear hg
          obtain ⟨a3, c3, hs3, -, -, -⟩ := (ownsV_reads HO25.out).shape
          subst hs3
          have HTZ := Keep.keep (HTL.out z1 HZ1.out.below)
          go_wp2_with (go_at_call 12; ((with_reducible refine HTZ.out.mono ?_); rintro e z3 ⟨rfl, hbz3⟩))
          go_ret
          exact ⟨rfl, HZ1.out.below.trans (hbz3.mono HZ1.out.size)⟩
      · have hE0 : E = 0 := by rw [← HE.out, hm]; rfl
        have hT0 : T = putT a := by rw [← HTT.out, hm]; rfl
        have HSM := Keep.keep (has hm)
        have hTs : T.length = sumZ a := by rw [hT0]; exact putT_sum a (has hm)
        have hT30 : T.length ≤ 30000 := by have := sumZ_le a HZ15.out; omega
        subst hE0
        have HT0 := Keep.keep hT0
        have hsT : sumZ a = T.length := hTs.symm
        have HST := Keep.keep hsT
        clear hT0 hTs
        have hg1 := get_any (.slice a2 T.length c2) T wr ((HH.out.bs 2 rfl).reads.mono (fun _ h => h.2.1)) (by omega)
        rw [show getR T = (a, 0) by rw [HT0.out]; exact getR_put a HSM.out] at hg1
        have HG1 := Keep.keep hg1
        clear hg1
        obtain ⟨k, hk⟩ : ∃ k, cut % (T.length + 1) = k := ⟨_, rfl⟩
        have hkT : k ≤ T.length := by have := Nat.mod_lt cut (show 0 < T.length + 1 by omega); omega
        have hmod : (cut : Int) % ((T.length : Int) + 1) = (k : Int) := by rw [← hk]; simp
        have hmod2 : (cut : Int).tmod ((T.length : Int) + 1) = (k : Int) := by rw [Int.tmod_eq_emod_of_nonneg (by omega)]; exact hmod
        have hnz : ((T.length : Int) + 1 == 0) = false := by rw [beq_eq_false_iff_ne]; omega
        clear hk
        have hpart := getR_part a k HSM.out (by rw [← HT0.out]; exact hkT)
        rw [← HT0.out] at hpart
        have HPART := Keep.keep hpart
        clear hpart
        go_wp2_with (go_at_call 11; ((with_reducible refine HG1.out.mono ?_); rintro e y1 ⟨s17, rfl, ho17, hby1⟩; have HY1 := Keep.keep (HH.out.pushSl ho17 hby1); clear ho17 hby1))
        obtain ⟨a5, c5, hs17, -, -, -⟩ := (ownsV_reads (HY1.out.sl 4 rfl)).shape
        subst hs17
        have hg2 := get_any (.slice a2 k c2) (T.take k) y1 (((HY1.out.bs 2 rfl).reads.part k hkT).mono (fun _ h => h.2.1)) (by rw [List.length_take]; omega)
        have HG2 := Keep.keep hg2
        clear hg2
        obtain ⟨b17, hb17⟩ : ∃ b17, wr.heap.size = b17 := ⟨_, rfl⟩
        rw [hb17] at HY1
        clear hb17
        rcases HPART.out with ⟨jj, hjn, hkj, hgj⟩ | ⟨hno, hgn⟩
        · have hjl : (a.take jj).length = jj := by rw [List.length_take]; omega
          have hks : k = sumZ (a.take jj) := by rw [hkj]; exact putT_sum _ (fun p hp => HSM.out p (List.mem_of_mem_take hp))
          have hpos : ∀ p ∈ a, 0 < sz p.1 p.2 := fun p hp => of_decide_eq_true (by rw [sz_pos]; exact (HSM.out p hp).may)
          have hend := endsF_some a hpos a.length (Nat.le_refl _) jj hjn
          rw [← hks] at hend
          have hhas : Maps.has D (.int .i64 (k : Int)) = true := by rw [HMP2.out.has, hend]; rfl
          have HAT := Keep.keep (HMP2.out.at_ k jj hend)
          rw [hgj, hjl] at HG2
          clear hgj hkj hks hpos hend
          go_wp2_with (first
            | (go_at_call 11; ((with_reducible refine HG2.out.mono ?_); rintro e y2 ⟨s20, rfl, ho20, hby2⟩; have HY2 := Keep.keep (HY1.out.pushSl ho20 hby2); clear ho20 hby2; obtain ⟨b20, hb20⟩ : ∃ b20, y1.heap.size = b20 := ⟨_, rfl⟩; rw [hb20] at HY2; clear hb20; obtain ⟨a6, c6, hs20, -, -, -⟩ := (ownsV_reads (HY2.out.sl 5 rfl)).shape; subst hs20))
            | (at_lookup; refine wpList_lookup_own_ok_int _ rfl _ _ 31 rfl 3 3 .i64 lawI Tryd.underlying31 Tryd.underlying3 (zeroI _) bm (a.length + 1) D rfl (HY2.out.get 3 rfl) _ _ rfl (keyOf_int_mk Tryd.underlying3 (WalkArith.wf_i64 (by omega))) ?_; intro c hat hwc; obtain rfl : c = (jj : Int) := (by have h9 := HAT.out.symm.trans hat; injection h9 with h9; injection h9 with _ h9; exact h9.symm)))
          have HY3 : Keep (Hp NoM w y2 [slA w.heap.size 33 2 (.slice aa a.length acap) a.length (rcells a), slA w.heap.size 48 2 vb a.length (rcells a), byA b1 5 (.slice a2 T.length c2) T, mapA bm (a.length + 1) D, slA b17 33 2 (.slice a5 a.length c5) a.length (rcells a), slA b20 33 2 (.slice a6 jj c6) jj (rcells (a.take jj))]) := ⟨HY2.out⟩
          clear HY2
          clear HPART HMP2 hat hwc
          go_wp2_with fail
          go_loopg [24, 146] a.length (fun g _ u146 wx => ∃ i : Nat, i + g = a.length ∧ u146 = .int .i64 (i : Int) ∧ Hp NoM w wx [slA w.heap.size 33 2 (.slice aa a.length acap) a.length (rcells a), slA w.heap.size 48 2 vb a.length (rcells a), byA b1 5 (.slice a2 T.length c2) T, mapA bm (a.length + 1) D, slA b17 33 2 (.slice a5 a.length c5) a.length (rcells a), slA b20 33 2 (.slice a6 jj c6) jj (rcells (a.take jj))])
          case atStart => exact ⟨0, by omega, rfl, HY3.out⟩
          case round =>
            obtain ⟨i, hig, rfl, hH2⟩ := hrel
            have HL := Keep.keep hH2
            clear hH2 HY3
            by_cases hi : i < a.length
            · obtain ⟨g, rfl⟩ : ∃ g, gk = g + 1 := ⟨gk - 1, by omega⟩
              obtain ⟨p, hp⟩ : ∃ p, a[i]? = some p := ⟨a[i], List.getElem?_eq_getElem hi⟩
              have hrda := ownsV_reads (HL.out.sl 0 rfl)
              have hrdb := ownsV_reads (HL.out.sl 4 rfl)
              obtain ⟨ba0, oa0, hea, -⟩ : ∃ b off, aa = some ⟨b, off, none⟩ ∧ True := by
                obtain ⟨b, off, cap, he, _, _, _⟩ := hrda.has (by omega)
                injection he with he _ _
                exact ⟨b, off, he, trivial⟩
              obtain ⟨bb0, ob0, heb, -⟩ : ∃ b off, a5 = some ⟨b, off, none⟩ ∧ True := by
                obtain ⟨b, off, cap, he, _, _, _⟩ := hrdb.has (by omega)
                injection he with he _ _
                exact ⟨b, off, he, trivial⟩
              subst hea heb
              obtain ⟨hca0, hca1⟩ := hrda.recAt hp
              obtain ⟨hcb0, hcb1⟩ := hrdb.recAt hp
              have hdi : decide ((i : Int) < (a.length : Int)) = true := decide_eq_true (by omega)
              by_cases hij : i < jj
              · have hrdl := (ownsV_reads (HL.out.sl 5 rfl)).mono (N' := fun _ => True) (fun _ _ => trivial)
                obtain ⟨bl0, ol0, hel, -⟩ : ∃ b off, a6 = some ⟨b, off, none⟩ ∧ True := by
                  obtain ⟨b, off, cap, he, _, _, _⟩ := hrdl.has (by omega)
                  injection he with he _ _
                  exact ⟨b, off, he, trivial⟩
                subst hel
                have hpl : (a.take jj)[i]? = some p := by rw [List.getElem?_take_of_lt hij, hp]
                have hrdl2 : RdV wr (fun _ => True) 2 (.slice (some ⟨bl0, ol0, none⟩) jj c6) (a.take jj).length (rcells (a.take jj)) := by rw [hjl]; exact hrdl
                obtain ⟨hcl0, hcl1⟩ := hrdl2.recAt hpl
                clear hrdl2
                have hdj : decide ((i : Int) < (jj : Int)) = true := decide_eq_true (by omega)
                obtain ⟨pk, pv⟩ := p
                have hneq := neq_rec pk pv
                clear hp hpl hrda hrdb hrdl
                go_wp2_with fail
                go_quiet (fail)
                have HL2 := Keep.keep (HL.out.drewN nq)
                go_wp2_with fail
                go_roundg g
                case measure => omega
                case rel => exact ⟨i + 1, by omega, by simp, HL2.out⟩
              · have hdj : decide ((i : Int) < (jj : Int)) = false := decide_eq_false (by omega)
                obtain ⟨pk, pv⟩ := p
                have hneq := neq_rec pk pv
                clear hp hrda hrdb
                go_wp2_with fail
                go_quiet (fail)
                have HL2 := Keep.keep (HL.out.drewN nq)
                go_wp2_with fail
                go_roundg g
                case measure => omega
                case rel => exact ⟨i + 1, by omega, by simp, HL2.out⟩
            · obtain rfl : i = a.length := by omega
              go_wp2_with fail
              have hgan : Calls Tryd.prog 11 #[.slice ba kn bcap] wr _ := get_any (.slice ba kn bcap) an wr ((HAN.out wr HL.out.below).mono (fun _ h => Nat.lt_of_lt_of_le h HL.out.size)) (by omega)
              refine hgan.mono ?_
              rintro e z1 ⟨s25, rfl, ho25, hbz1⟩
              have HZ1 := Keep.keep (HL.out.call hbz1)
              have HO25 := Keep.keep ho25
              clear ho25 hbz1 hgan
              rcases getR_err an with hg | hg | hg
              · obtain ⟨x, hx⟩ : ∃ x, (getR an).1 = x := ⟨_, rfl⟩
                rw [hx] at hg HO25
                have hin := getR_inv an.length an x (Nat.le_refl _) hg
                rw [hg]
                have HIN := Keep.keep hin
                have hxl : x.length ≤ 2000 := by have := hin.2.2.1; omega
                clear hin hx hg
                obtain ⟨a3, c3, hs3, -, -, -⟩ := (ownsV_reads HO25.out).shape
                subst hs3
                have hrx := (ownsV_reads HO25.out).mono (N' := (· < z1.heap.size)) (fun b hb => hb.2.1)
                have HPX := Keep.keep (put_all (.slice a3 x.length c3) x B z1 (by omega) hrx (Nat.le_trans HB.out HZ1.out.size) (HT.out.on (HZ1.out.below.mono HB.out)) (fun _ => by rw [HIN.out.2.1]; omega) (fun p hp => by have := HIN.out.2.2.2 p hp; omega))
                rw [if_pos HIN.out.1, if_pos HIN.out.1, HIN.out.2.1] at HPX
                clear hrx
                have hann : (an == an) = true := beq_self_eq_true an
                go_wp2_with (go_at_call 9; ((with_reducible refine HPX.out.mono ?_); rintro e z2 ⟨s27, rfl, ho27, hbz2⟩; have HZ2 := Keep.keep (HZ1.out.call hbz2); have hcv1 := run_string_of ho27.reads; have hcv2 := run_string_of (HAN.out z2 HZ2.out.below); have HTZ := Keep.keep (HTL.out z2 HZ2.out.below); clear ho27 hbz2))
                refine HTZ.out.mono ?_
                rintro e z3 ⟨rfl, hbz3⟩
                go_wp2_with fail
                go_ret
                exact ⟨rfl, HZ2.out.below.trans (hbz3.mono HZ2.out.size)⟩
              · rw [hg] at HO25 ⊢
                clear hg
                obtain ⟨a3, c3, hs3, -, -, -⟩ := (ownsV_reads HO25.out).shape
                subst hs3
                have HTZ := Keep.keep (HTL.out z1 HZ1.out.below)
                go_wp2_with (go_at_call 12; ((with_reducible refine HTZ.out.mono ?_); rintro e z3 ⟨rfl, hbz3⟩))
                go_ret
                exact ⟨rfl, HZ1.out.below.trans (hbz3.mono HZ1.out.size)⟩
              · rw [hg] at HO25 ⊢
                clear hg
                obtain ⟨a3, c3, hs3, -, -, -⟩ := (ownsV_reads HO25.out).shape
                subst hs3
                have HTZ := Keep.keep (HTL.out z1 HZ1.out.below)
                go_wp2_with (go_at_call 12; ((with_reducible refine HTZ.out.mono ?_); rintro e z3 ⟨rfl, hbz3⟩))
                go_ret
                exact ⟨rfl, HZ1.out.below.trans (hbz3.mono HZ1.out.size)⟩
        · have hjl : (a.take 0).length = 0 := rfl
          have hend := endsF_none a a.length k (fun j hj e => hno j hj (by rw [e]; exact (putT_sum _ (fun p hp => HSM.out p (List.mem_of_mem_take hp))).symm))
          have hhas : Maps.has D (.int .i64 (k : Int)) = false := by rw [HMP2.out.has, hend]; rfl
          rw [hgn] at HG2
          clear hgn hno hend
          go_wp2_with (first
            | (go_at_call 11; ((with_reducible refine HG2.out.mono ?_); rintro e y2 ⟨s20, rfl, ho20, hby2⟩; have HY2 := Keep.keep (HY1.out.pushSl ho20 hby2); clear ho20 hby2; obtain ⟨b20, hb20⟩ : ∃ b20, y1.heap.size = b20 := ⟨_, rfl⟩; rw [hb20] at HY2; clear hb20; obtain ⟨a6, c6, hs20, -, -, -⟩ := (ownsV_reads (HY2.out.sl 5 rfl)).shape; subst hs20))
            | (at_lookup; refine wpList_lookup_own_ok_int _ rfl _ _ 31 rfl 3 3 .i64 lawI Tryd.underlying31 Tryd.underlying3 (zeroI _) bm (a.length + 1) D rfl (HY2.out.get 3 rfl) _ _ rfl (keyOf_int_mk Tryd.underlying3 (WalkArith.wf_i64 (by omega))) ?_; intro c hat hwc))
          have HY3 : Keep (Hp NoM w y2 [slA w.heap.size 33 2 (.slice aa a.length acap) a.length (rcells a), slA w.heap.size 48 2 vb a.length (rcells a), byA b1 5 (.slice a2 T.length c2) T, mapA bm (a.length + 1) D, slA b17 33 2 (.slice a5 a.length c5) a.length (rcells a), slA b20 33 2 (.slice a6 0 c6) 0 (rcells [])]) := ⟨HY2.out⟩
          clear HY2
          clear HPART HMP2 hat hwc hhas
          go_wp2_with fail
          go_loopg [24, 146] a.length (fun g _ u146 wx => ∃ i : Nat, i + g = a.length ∧ u146 = .int .i64 (i : Int) ∧ Hp NoM w wx [slA w.heap.size 33 2 (.slice aa a.length acap) a.length (rcells a), slA w.heap.size 48 2 vb a.length (rcells a), byA b1 5 (.slice a2 T.length c2) T, mapA bm (a.length + 1) D, slA b17 33 2 (.slice a5 a.length c5) a.length (rcells a), slA b20 33 2 (.slice a6 0 c6) 0 (rcells [])])
          case atStart => exact ⟨0, by omega, rfl, HY3.out⟩
          case round =>
            obtain ⟨i, hig, rfl, hH2⟩ := hrel
            have HL := Keep.keep hH2
            clear hH2 HY3
            by_cases hi : i < a.length
            · obtain ⟨g, rfl⟩ : ∃ g, gk = g + 1 := ⟨gk - 1, by omega⟩
              obtain ⟨p, hp⟩ : ∃ p, a[i]? = some p := ⟨a[i], List.getElem?_eq_getElem hi⟩
              have hrda := ownsV_reads (HL.out.sl 0 rfl)
              have hrdb := ownsV_reads (HL.out.sl 4 rfl)
              obtain ⟨ba0, oa0, hea, -⟩ : ∃ b off, aa = some ⟨b, off, none⟩ ∧ True := by
                obtain ⟨b, off, cap, he, _, _, _⟩ := hrda.has (by omega)
                injection he with he _ _
                exact ⟨b, off, he, trivial⟩
              obtain ⟨bb0, ob0, heb, -⟩ : ∃ b off, a5 = some ⟨b, off, none⟩ ∧ True := by
                obtain ⟨b, off, cap, he, _, _, _⟩ := hrdb.has (by omega)
                injection he with he _ _
                exact ⟨b, off, he, trivial⟩
              subst hea heb
              obtain ⟨hca0, hca1⟩ := hrda.recAt hp
              obtain ⟨hcb0, hcb1⟩ := hrdb.recAt hp
              have hdi : decide ((i : Int) < (a.length : Int)) = true := decide_eq_true (by omega)
              have hdj : decide ((i : Int) < 0) = false := decide_eq_false (by omega)
              obtain ⟨pk, pv⟩ := p
              have hneq := neq_rec pk pv
              clear hp hrda hrdb
              go_wp2_with fail
              go_quiet (fail)
              have HL2 := Keep.keep (HL.out.drewN nq)
              go_wp2_with fail
              go_roundg g
              case measure => omega
              case rel => exact ⟨i + 1, by omega, by simp, HL2.out⟩
            · obtain rfl : i = a.length := by omega
              go_wp2_with fail
              have hgan : Calls Tryd.prog 11 #[.slice ba kn bcap] wr _ := get_any (.slice ba kn bcap) an wr ((HAN.out wr HL.out.below).mono (fun _ h => Nat.lt_of_lt_of_le h HL.out.size)) (by omega)
              refine hgan.mono ?_
              rintro e z1 ⟨s25, rfl, ho25, hbz1⟩
              have HZ1 := Keep.keep (HL.out.call hbz1)
              have HO25 := Keep.keep ho25
              clear ho25 hbz1 hgan
              rcases getR_err an with hg | hg | hg
              · obtain ⟨x, hx⟩ : ∃ x, (getR an).1 = x := ⟨_, rfl⟩
                rw [hx] at hg HO25
                have hin := getR_inv an.length an x (Nat.le_refl _) hg
                rw [hg]
                have HIN := Keep.keep hin
                have hxl : x.length ≤ 2000 := by have := hin.2.2.1; omega
                clear hin hx hg
                obtain ⟨a3, c3, hs3, -, -, -⟩ := (ownsV_reads HO25.out).shape
                subst hs3
                have hrx := (ownsV_reads HO25.out).mono (N' := (· < z1.heap.size)) (fun b hb => hb.2.1)
                have HPX := Keep.keep (put_all (.slice a3 x.length c3) x B z1 (by omega) hrx (Nat.le_trans HB.out HZ1.out.size) (HT.out.on (HZ1.out.below.mono HB.out)) (fun _ => by rw [HIN.out.2.1]; omega) (fun p hp => by have := HIN.out.2.2.2 p hp; omega))
                rw [if_pos HIN.out.1, if_pos HIN.out.1, HIN.out.2.1] at HPX
                clear hrx
                have hann : (an == an) = true := beq_self_eq_true an
                go_wp2_with (go_at_call 9; ((with_reducible refine HPX.out.mono ?_); rintro e z2 ⟨s27, rfl, ho27, hbz2⟩; have HZ2 := Keep.keep (HZ1.out.call hbz2); have hcv1 := run_string_of ho27.reads; have hcv2 := run_string_of (HAN.out z2 HZ2.out.below); have HTZ := Keep.keep (HTL.out z2 HZ2.out.below); clear ho27 hbz2))
                refine HTZ.out.mono ?_
                rintro e z3 ⟨rfl, hbz3⟩
                go_wp2_with fail
                go_ret
                exact ⟨rfl, HZ2.out.below.trans (hbz3.mono HZ2.out.size)⟩
              · rw [hg] at HO25 ⊢
                clear hg
                obtain ⟨a3, c3, hs3, -, -, -⟩ := (ownsV_reads HO25.out).shape
                subst hs3
                have HTZ := Keep.keep (HTL.out z1 HZ1.out.below)
                go_wp2_with (go_at_call 12; ((with_reducible refine HTZ.out.mono ?_); rintro e z3 ⟨rfl, hbz3⟩))
                go_ret
                exact ⟨rfl, HZ1.out.below.trans (hbz3.mono HZ1.out.size)⟩
              · rw [hg] at HO25 ⊢
                clear hg
                obtain ⟨a3, c3, hs3, -, -, -⟩ := (ownsV_reads HO25.out).shape
                subst hs3
                have HTZ := Keep.keep (HTL.out z1 HZ1.out.below)
                go_wp2_with (go_at_call 12; ((with_reducible refine HTZ.out.mono ?_); rintro e z3 ⟨rfl, hbz3⟩))
                go_ret
                exact ⟨rfl, HZ1.out.below.trans (hbz3.mono HZ1.out.size)⟩
end Go.Proofs.YtlhjehcfpnjbmaaDoor
