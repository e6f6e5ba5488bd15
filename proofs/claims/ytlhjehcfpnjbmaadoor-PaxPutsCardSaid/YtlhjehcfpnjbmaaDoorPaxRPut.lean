/- portolanref10.Put. -/
import Derived.Test.YtlhjehcfpnjbmaaDoorPaxRef
import Derived.Test.YtlhjehcfpnjbmaaDoorPaxPutB
import Derived.Test.YtlhjehcfpnjbmaaDoorQCls
import Derived.Deep.MidRow
namespace Go.Proofs.YtlhjehcfpnjbmaaDoor
open Go.RowKit
theorem run_catOp {P : Program} {ρ : Operand → Value} {d : Option Tmp} {x y : Operand} {T t1 t : TypeId} {pos : String} {af : Array Edge} {g : Option (Nat × Bool)} {w : World} (l m : List UInt8)
    (hx : ρ x = .string ⟨l.toArray⟩) (hy : ρ y = .string ⟨m.toArray⟩) (h : l.length + m.length ≤ 4611686018427387904) :
    (execOp ρ (⟨d, .binOp .add T x y t1, t, pos, af, g⟩ : Oper)).run P w = .ok (.value (.string ⟨(l ++ m).toArray⟩)) w := by
  have hc := run_cat (P := P) l m h w
  simp [go_sem, execOp, hx, hy, hc]
section
variable {P : Program} {ops : Array Oper} {rest : List Oper} {a : Act} {C : World → Prop} {Q : Act → Prop} {tp : TypeId} {dst : Option Tmp} {pos : String} {after : Array Edge} {g : Option (Nat × Bool)}
/-- ARM: a struct of two cells is read -/
theorem cls_loadTwo {b o : Nat} {ty : TypeId} {u v : Value} {d : TypeDesc} {x : Operand} (hwt : Region.wanted (⟨dst, .load ty x, tp, pos, after, g⟩ : Oper) (yielded ops a.tmps) = true)
    (hc : ∀ w, C w → w.cell? ⟨b, o, none⟩ = some u ∧ w.cell? ⟨b, o + 1, none⟩ = some v) (hu : P.underlying ty = some d) (hd : d.isRow = true) (hi : (P.info? ty).map (·.size) = some 2) (hx : a.eval x = .pointer (some ⟨b, o, none⟩))
    (h : wpQuiet P ops C Q rest (a.put dst (.agg #[u, v]))) : wpQuiet P ops C Q (⟨dst, .load ty x, tp, pos, after, g⟩ :: rest) a := by
  refine cls_op hwt (fun w hw => ?_) h
  have hl := run_loadAt_mid (P := P) w b o ty [u, v] d (fun j z hj => by
    match j, hj with
    | 0, hj => injection hj with hj; subst hj; exact (hc w hw).1
    | 1, hj => injection hj with hj; subst hj; exact (hc w hw).2
    | (j + 2), hj => simp at hj) hu hd hi
  unfold execOp
  simp only [hx, Sem.run_bind, Sem.run_pure, Result.andThen_ok, hl]
/-- ARM: one plain cell is read -/
theorem cls_loadOne {b o : Nat} {ty : TypeId} {u : Value} {x : Operand} (hwt : Region.wanted (⟨dst, .load ty x, tp, pos, after, g⟩ : Oper) (yielded ops a.tmps) = true)
    (hc : ∀ w, C w → w.cell? ⟨b, o, none⟩ = some u) (hd : ∀ w, (isAgg ty).run P w = .ok false w) (hx : a.eval x = .pointer (some ⟨b, o, none⟩))
    (h : wpQuiet P ops C Q rest (a.put dst u)) : wpQuiet P ops C Q (⟨dst, .load ty x, tp, pos, after, g⟩ :: rest) a :=
  cls_op hwt (fun w hw => run_loadCell hd (hc w hw) hx) h
end
set_option maxHeartbeats 2000000 in
set_option maxRecDepth 100000 in
theorem rput_ok (sv : Value) (l : List R2) (w : World) (hl : l.length ≤ 1000000) (hr : RdV w (· < w.heap.size) 2 sv l.length (rcells l))
    (hm : mayL l = true) (hb : (putT l).length ≤ 16777216) (hv : ∀ p ∈ l, p.1.length ≤ 1000000 ∧ p.2.length ≤ 16777216) :
    Calls Tryd.prog 14 #[sv] w fun e w' => ∃ v', e = .returned (.tuple #[v', .int .i64 0]) ∧ Owns w' w.heap.size 5 v' (putT l) ∧ Below w.heap.size w w' := by
  obtain ⟨a, cap, rfl, hcap, hmx, hsh⟩ := hr.shape
  have HR := Keep.keep hr; have HSH := Keep.keep hsh; have HM := Keep.keep hm; have HV := Keep.keep hv; have HLN := Keep.keep hb
  clear hr hsh hm hb hv
  go_enter Tryd.func14, Tryd.ntmps14
  go_wp2_with fail
  go_loopg [5] l.length (fun g u5 wx => ∃ i : Nat, i + g = l.length ∧ u5 = .int .i64 (i : Int) ∧ Below w.heap.size w wx)
  case atStart => exact ⟨0, by omega, rfl, Below.refl _ _⟩
  case round =>
    obtain ⟨i, hig, rfl, hH⟩ := hrel
    have HB := Keep.keep hH
    clear hH
    by_cases hi : i < l.length
    · obtain ⟨g, rfl⟩ : ∃ g, gk = g + 1 := ⟨gk - 1, by omega⟩
      obtain ⟨p, hp⟩ : ∃ p, l[i]? = some p := ⟨l[i], List.getElem?_eq_getElem hi⟩
      rcases HSH.out with ⟨rfl, hc0⟩ | ⟨b, off, rfl, hlt⟩
      · omega
      obtain ⟨hc0, hc1⟩ := (HR.out.below HB.out (fun _ h => h)).recAt hp
      have hdi : decide ((i : Int) < (l.length : Int)) = true := decide_eq_true (by omega)
      have hpm := List.mem_of_getElem? hp
      have hmk : mayK p.1 = true := (List.all_eq_true.1 HM.out) p hpm
      have hpv := HV.out p hpm
      have HSZ := Keep.keep (fun wx => rsize_any p.1 p.2 (by omega) (by omega) wx)
      have hz : 0 < sz p.1 p.2 := of_decide_eq_true (by
        unfold sz
        rw [hmk]
        simp [szR]; omega)
      obtain ⟨k, v⟩ := p
      clear hp hpm hmk hpv
      have hz0 : (((sz k v : Nat) : Int) == 0) = false := by rw [beq_eq_false_iff_ne]; intro e; have : 0 < sz k v := hz; omega
      generalize sz k v = n at *
      go_wp2_with (go_at_call 17; ((with_reducible refine (HSZ.out _).mono ?_); rintro e w1 ⟨rfl, hb1⟩))
      go_roundg g
      case measure => omega
      case rel => exact ⟨i + 1, by omega, by simp, HB.out.trans (hb1.mono HB.out.size)⟩
    · obtain rfl : i = l.length := by omega
      have hdi : decide ((l.length : Int) < (l.length : Int)) = false := decide_eq_false (by omega)
      go_wp2_with fail
      have HH0 : Keep (Hp NoM w wr [byA w.heap.size 5 (.slice none 0 0) (putT (l.take 0))]) := ⟨((Hp.begin NoM w).call HB.out).nilB _ _⟩
      clear HB
      go_loopg [4, 6] l.length (fun g v4 u6 wx => ∃ i : Nat, i + g = l.length ∧ u6 = .int .i64 (i : Int) ∧ Hp NoM w wx [byA w.heap.size 5 v4 (putT (l.take i))])
      case atStart => exact ⟨0, by omega, rfl, HH0.out⟩
      case round =>
        obtain ⟨i, hig, rfl, hH⟩ := hrel
        have HH := Keep.keep hH
        clear hH HH0
        by_cases hi : i < l.length
        · obtain ⟨g, rfl⟩ : ∃ g, gk = g + 1 := ⟨gk - 1, by omega⟩
          obtain ⟨p, hp⟩ : ∃ p, l[i]? = some p := ⟨l[i], List.getElem?_eq_getElem hi⟩
          rcases HSH.out with ⟨rfl, hc0⟩ | ⟨b, off, rfl, hlt⟩
          · omega
          have HC0 := Keep.keep (fun (wx : World) (hb : Below wr.heap.size wr wx) => ((HR.out.below (HH.out.below.trans (hb.mono HH.out.size)) (fun _ h => h)).recAt hp))
          have hdi : decide ((i : Int) < (l.length : Int)) = true := decide_eq_true (by omega)
          have hpm := List.mem_of_getElem? hp
          have hmk : mayK p.1 = true := (List.all_eq_true.1 HM.out) p hpm
          have hpv := HV.out p hpm
          have htk : putT (l.take (i + 1)) = putT (l.take i) ++ recT p.1 p.2 := by
            rw [List.take_add_one, hp, putT_append]; simp [putT]
          obtain ⟨k, v⟩ := p
          have hsz1 : szR k v ≤ 1000000000000000000 := by
            have : k.length ≤ 1000000 ∧ v.length ≤ 16777216 := hpv
            unfold szR; omega
          have hrl := recT_length k v hmk hsz1
          have hle := putT_take_le l (i + 1)
          have hmx2 := HLN.out
          rw [htk, List.length_append, hrl] at hle
          have HTK := Keep.keep htk
          have HRD : Keep (recT k v = Lib.decDigits (sz k v) ++ 32 :: (k ++ 61 :: (v ++ [10]))) := ⟨rfl⟩
          have HRL := Keep.keep hrl
          have hszle : sz k v ≤ 16777216 := by omega
          have HSZ := Keep.keep (fun (wx : World) (_ : Below wr.heap.size wr wx) => rsize_any k v (by have : k.length ≤ 1000000 ∧ v.length ≤ 16777216 := hpv; omega) (by have : k.length ≤ 1000000 ∧ v.length ≤ 16777216 := hpv; omega) wx)
          have HDG := Keep.keep (fun (wx : World) (_ : Below wr.heap.size wr wx) => rdig_any (sz k v) (by omega) wx)
          have hkl : k.length ≤ 1000000 ∧ v.length ≤ 16777216 := hpv
          clear hmk hsz1 hrl htk hp hpm hpv
          generalize hbs : putT (l.take i) = bs at *
          clear hbs
          obtain ⟨⟨a4, c4, rfl, -, -, -⟩, -⟩ := (HH.out.bs 0 rfl).reads
          have hdl := Lib.decDigits_length (sz k v)
          have hT0 : bs.length + ((Lib.decDigits (sz k v)).length + k.length + v.length + 3) ≤ 16777216 := by
            have h1 := HRL.out
            rw [HRD.out] at h1
            simp at h1
            omega
          have hwz : IntKind.u64.wrap ((sz k v : Nat) : Int) = ((sz k v : Nat) : Int) := IntWalk.u64_in _ (by omega)
          generalize hds : Lib.decDigits (sz k v) = ds at *
          clear hds
          generalize sz k v = n at *
          have HT0 := Keep.keep hT0
          have HKL := Keep.keep hkl
          have HCA : Keep (∀ wx, Below wr.heap.size wr wx → wx.cell? ⟨b, off + i * 2, none⟩ = some (.string ⟨k.toArray⟩)) := ⟨fun wx h => (HC0.out wx h).1⟩
          have HCB : Keep (∀ wx, Below wr.heap.size wr wx → wx.cell? ⟨b, off + i * 2 + 1, none⟩ = some (.string ⟨v.toArray⟩)) := ⟨fun wx h => (HC0.out wx h).2⟩
          clear hle hmx2 hdl hT0 hkl
          go_wp2_with fail
          refine wp_region_cls_tail (fun w' => Below wr.heap.size wr w') 23 (by kernel_rfl) (by kernel_rfl) (Below.refl _ _).drew ?_
          simp only [List.take_succ_cons, List.take_zero, List.drop_succ_cons, List.drop_zero]
          repeat (first
            | ((with_reducible refine cls_call (f := 17) ?_ (Go.Proofs.enters_of Tryd.func17 (by kernel_rfl) rfl) ?_ (fun w1 hw1 => (HSZ.out w1 hw1).mono (fun e w2 he => ⟨he.1, hw1.trans (he.2.mono hw1.size)⟩)) ?_); (focus rfl); (focus (first | exact Array.map_empty | (simp only [List.map_toArray, List.map_cons, List.map_nil]; rfl))); simp only [Act.put, List.setIfInBounds_toArray, List.set_cons_succ, List.set_cons_zero])
            | ((with_reducible refine cls_call (f := 28) ?_ (Go.Proofs.enters_of Tryd.func28 (by kernel_rfl) rfl) ?_ (fun w1 hw1 => (HDG.out w1 hw1).mono (fun e w2 he => ⟨he.1, hw1.trans (he.2.mono hw1.size)⟩)) ?_); (focus rfl); (focus (first | exact Array.map_empty | (simp only [List.map_toArray, List.map_cons, List.map_nil]; rfl))); simp only [Act.put, List.setIfInBounds_toArray, List.set_cons_succ, List.set_cons_zero])
            | ((with_reducible refine cls_loadTwo ?_ (fun w1 hw1 => ⟨HCA.out w1 hw1, HCB.out w1 hw1⟩) Tryd.underlying48 rfl (by kernel_rfl) ?_ ?_); (focus rfl); (focus rfl); simp only [Act.put, List.setIfInBounds_toArray, List.set_cons_succ, List.set_cons_zero])
            | ((with_reducible refine cls_loadOne ?_ HCA.out (run_isAgg_plain Tryd.underlying9 rfl) ?_ ?_); (focus rfl); (focus rfl); simp only [Act.put, List.setIfInBounds_toArray, List.set_cons_succ, List.set_cons_zero])
            | ((with_reducible refine cls_loadOne ?_ HCB.out (run_isAgg_plain Tryd.underlying9 rfl) ?_ ?_); (focus rfl); (focus rfl); simp only [Act.put, List.setIfInBounds_toArray, List.set_cons_succ, List.set_cons_zero])
            | ((with_reducible refine cls_op ?_ (fun _ _ => run_catOp ds [32] ?_ ?_ (by have := HT0.out; simp; omega)) ?_); (focus rfl); (focus rfl); (focus rfl); simp only [Act.put, List.setIfInBounds_toArray, List.set_cons_succ, List.set_cons_zero])
            | ((with_reducible refine cls_op ?_ (fun _ _ => run_catOp (ds ++ [32]) k ?_ ?_ (by have := HT0.out; simp; omega)) ?_); (focus rfl); (focus rfl); (focus rfl); simp only [Act.put, List.setIfInBounds_toArray, List.set_cons_succ, List.set_cons_zero])
            | ((with_reducible refine cls_op ?_ (fun _ _ => run_catOp (ds ++ [32] ++ k) [61] ?_ ?_ (by have := HT0.out; simp; omega)) ?_); (focus rfl); (focus rfl); (focus rfl); simp only [Act.put, List.setIfInBounds_toArray, List.set_cons_succ, List.set_cons_zero])
            | ((with_reducible refine cls_op ?_ (fun _ _ => run_catOp (ds ++ [32] ++ k ++ [61]) v ?_ ?_ (by have := HT0.out; simp; omega)) ?_); (focus rfl); (focus rfl); (focus rfl); simp only [Act.put, List.setIfInBounds_toArray, List.set_cons_succ, List.set_cons_zero])
            | ((with_reducible refine cls_op ?_ (fun _ _ => run_catOp (ds ++ [32] ++ k ++ [61] ++ v) [10] ?_ ?_ (by have := HT0.out; simp; omega)) ?_); (focus rfl); (focus rfl); (focus rfl); simp only [Act.put, List.setIfInBounds_toArray, List.set_cons_succ, List.set_cons_zero])
            | (first | go_big_quiet_step (fail) | (go_big_quiet_want; go_big_quiet_op; (refine ⟨_, fun _ _ => rfl, ?_⟩); go_big_quiet_on)))
          (refine wpQuiet_nil ?_); intro w6 hw6
          have H6 := Keep.keep (HH.out.call hw6)
          clear hw6
          go_wp2_with (with_reducible refine arm_stop ?_)
          refine Stopped.out ?_
          refine arm_appendS slB' Tryd.underlying9 (H6.out.bs 0 rfl) (m := ds ++ [32] ++ k ++ [61] ++ v ++ [10]) (by have := HT0.out; simp; omega) H6.out.size rfl rfl ?_
          intro v7 w7 ho7 hg7 hb7
          have H7 := Keep.keep (H6.out.growB 0 rfl hg7 ho7 hb7)
          clear ho7 hg7 hb7
          simp only [Act.put, List.setIfInBounds_toArray, List.set_cons_succ, List.set_cons_zero]
          have hle2 : bs.length + (ds ++ [32] ++ k ++ [61] ++ v ++ [10]).length ≤ 16777216 := by have := HT0.out; simp; omega
          obtain ⟨⟨a7, c7, hv7, -, -, -⟩, -⟩ := (H7.out.bs 0 rfl).reads
          rw [List.length_append] at hv7
          subst hv7
          have hgt : decide ((16777216 : Int) < ((bs.length + (ds ++ [32] ++ k ++ [61] ++ v ++ [10]).length : Nat) : Int)) = false := decide_eq_false (by omega)
          generalize hLL : bs.length + (ds ++ [32] ++ k ++ [61] ++ v ++ [10]).length = LL at *
          go_wp2_with fail
          go_roundg g
          case measure => omega
          case rel =>
            refine ⟨i + 1, by omega, by simp, ?_⟩
            have h8 := H7.out
            rw [HTK.out, HRD.out]
            have e : bs ++ (ds ++ [32] ++ k ++ [61] ++ v ++ [10]) = bs ++ (ds ++ 32 :: (k ++ 61 :: (v ++ [10]))) := by simp
            rw [← e]
            exact h8
        · obtain rfl : i = l.length := by omega
          have hbs := HH.out.bs 0 rfl
          rw [List.take_length] at hbs
          have HBS := Keep.keep hbs
          clear hbs
          go_wp2_with fail
          go_ret2
          exact ⟨_, rfl, HBS.out, HH.out.below⟩
set_option maxHeartbeats 1000000 in
set_option maxRecDepth 100000 in
theorem rput_bad (sv : Value) (l : List R2) (w : World) (hl : l.length ≤ 1000000) (hr : RdV w (· < w.heap.size) 2 sv l.length (rcells l))
    (hm : mayL l = false) (hv : ∀ p ∈ l, p.1.length ≤ 1000000 ∧ p.2.length ≤ 16777216) :
    Calls Tryd.prog 14 #[sv] w fun e w' => e = .returned (.tuple #[.slice none 0 0, .int .i64 1]) ∧ Below w.heap.size w w' := by
  obtain ⟨a, cap, rfl, hcap, hmx, hsh⟩ := hr.shape
  have HR := Keep.keep hr; have HSH := Keep.keep hsh; have HM := Keep.keep hm; have HV := Keep.keep hv
  clear hr hsh hm hv
  go_enter Tryd.func14, Tryd.ntmps14
  go_wp2_with fail
  go_loopg [5] l.length (fun g u5 wx => ∃ i : Nat, i + g = l.length ∧ u5 = .int .i64 (i : Int) ∧ mayL (l.take i) = true ∧ Below w.heap.size w wx)
  case atStart => exact ⟨0, by omega, rfl, rfl, Below.refl _ _⟩
  case round =>
    obtain ⟨i, hig, rfl, hmi, hH⟩ := hrel
    have HB := Keep.keep hH
    have HMI := Keep.keep hmi
    clear hH hmi
    by_cases hi : i < l.length
    · obtain ⟨g, rfl⟩ : ∃ g, gk = g + 1 := ⟨gk - 1, by omega⟩
      obtain ⟨p, hp⟩ : ∃ p, l[i]? = some p := ⟨l[i], List.getElem?_eq_getElem hi⟩
      rcases HSH.out with ⟨rfl, hc0⟩ | ⟨b, off, rfl, hlt⟩
      · omega
      obtain ⟨hc0, hc1⟩ := (HR.out.below HB.out (fun _ h => h)).recAt hp
      have hdi : decide ((i : Int) < (l.length : Int)) = true := decide_eq_true (by omega)
      have hpv := HV.out p (List.mem_of_getElem? hp)
      have HSZ := Keep.keep (fun wx => rsize_any p.1 p.2 (by omega) (by omega) wx)
      have hz : decide (0 < sz p.1 p.2) = mayK p.1 := by
        unfold sz
        cases h : mayK p.1
        · simp
        · simp [szR]; omega
      have hms : mayL (l.take (i + 1)) = (mayL (l.take i) && mayK p.1) := by rw [List.take_add_one, hp]; simp [mayL]
      have HMS := Keep.keep hms
      obtain ⟨k, v⟩ := p
      clear hp hpv hms
      cases hmk : mayK k
      · have hmk' : mayK (k, v).1 = false := hmk
        rw [hmk'] at hz
        have hz0 : sz k v = 0 := by have := of_decide_eq_false hz; exact Nat.eq_zero_of_not_pos this
        rw [show sz (k, v).1 (k, v).2 = 0 from hz0] at HSZ
        clear hz hz0 hmk hmk'
        go_wp2_with (go_at_call 17; ((with_reducible refine (HSZ.out _).mono ?_); rintro e w1 ⟨rfl, hb1⟩))
        go_ret2
        exact ⟨rfl, HB.out.trans (hb1.mono HB.out.size)⟩
      · have hmk' : mayK (k, v).1 = true := hmk
        rw [hmk'] at hz HMS
        have hz1 : 0 < sz k v := of_decide_eq_true hz
        have hz0 : (((sz k v : Nat) : Int) == 0) = false := by rw [beq_eq_false_iff_ne]; omega
        clear hz hmk hmk'
        generalize sz k v = n at *
        go_wp2_with (go_at_call 17; ((with_reducible refine (HSZ.out _).mono ?_); rintro e w1 ⟨rfl, hb1⟩))
        go_roundg g
        case measure => omega
        case rel => exact ⟨i + 1, by omega, by simp, by rw [HMS.out, HMI.out]; rfl, HB.out.trans (hb1.mono HB.out.size)⟩
    · exfalso
      have h1 := HMI.out
      rw [List.take_of_length_le (by omega), HM.out] at h1
      exact Bool.false_ne_true h1
theorem rput_all (sv : Value) (l : List R2) (w : World) (hl : l.length ≤ 1000000) (hr : RdV w (· < w.heap.size) 2 sv l.length (rcells l))
    (hb : mayL l = true → (putT l).length ≤ 16777216) (hv : ∀ p ∈ l, p.1.length ≤ 1000000 ∧ p.2.length ≤ 16777216) :
    Calls Tryd.prog 14 #[sv] w fun e w' => ∃ v', e = .returned (.tuple #[v', .int .i64 (if mayL l then 0 else 1)]) ∧ Owns w' w.heap.size 5 v' (if mayL l then putT l else []) ∧ Below w.heap.size w w' := by
  cases hm : mayL l
  · refine (rput_bad sv l w hl hr hm hv).mono ?_
    rintro e w' ⟨rfl, h⟩
    exact ⟨_, rfl, Owns.nil _ _ _, h⟩
  · refine (rput_ok sv l w hl hr hm (hb hm) hv).mono ?_
    rintro e w' ⟨v', rfl, h1, h2⟩
    exact ⟨v', rfl, h1, h2⟩
end Go.Proofs.YtlhjehcfpnjbmaaDoor
